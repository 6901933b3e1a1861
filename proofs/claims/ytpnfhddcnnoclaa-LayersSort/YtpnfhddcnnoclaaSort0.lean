import Derived.ArgAppend
import Derived.Below
import Derived.BigQuiet
import Derived.Deep.AppendLies
import Derived.Deep.CutBlock
import Derived.Deep.DeepCutAuto
import Derived.Deep.Draws
import Derived.Deep.LoopGhost
import Derived.Deep.OwnRows
import Derived.Deep.QuietTactic
import Derived.Deep.RegionHeld3
import Derived.Deep.WholeRow
import Derived.IntWalk
import Derived.KernelRfl
import Derived.Laws.BitsLemmas
import Derived.Laws.BytesArg
import Derived.Laws.EntriesVeiled
import Derived.Laws.IdiomCopy
import Derived.Laws.MakeOwn
import Derived.Laws.OwnMore
import Derived.Laws.Rows
import Derived.Laws.Slices
import Derived.Lib.AppendStr
import Derived.Lib.ConvBytes
import Derived.Lib.Hide
import Derived.Lib.SliceRun
import Derived.Maps.AppendAt
import Derived.OrdersHeld
import Derived.OwnWalk
import Derived.RowKit
import Derived.RowKit3
import Derived.StillTailTactics
import Derived.Tactics
import Derived.Test.YtpnfhddcnnoclaaProg
import Derived.WalkKit
import Derived.WideLaws
import Derived.Test.YtpnfhddcnnoclaaWWords
import Derived.Test.YtpnfhddcnnoclaaWLast
import Derived.Test.YtpnfhddcnnoclaaWTab
import Derived.Test.YtpnfhddcnnoclaaWFour
import Derived.Test.YtpnfhddcnnoclaaWQPut
import Derived.Test.YtpnfhddcnnoclaaWApart
import Derived.Test.YtpnfhddcnnoclaaWArr
import Derived.Test.YtpnfhddcnnoclaaWZeros
import Derived.Test.YtpnfhddcnnoclaaWFoot
import Derived.Test.YtpnfhddcnnoclaaWKept
import Derived.Test.YtpnfhddcnnoclaaWShare
import Derived.Test.YtpnfhddcnnoclaaWN
import Derived.Test.YtpnfhddcnnoclaaWFootNe
import Derived.Test.YtpnfhddcnnoclaaWAt
import Derived.Test.YtpnfhddcnnoclaaWEqStruct
import Derived.Test.YtpnfhddcnnoclaaWRepsOne
import Derived.Test.YtpnfhddcnnoclaaWInv
import Derived.Test.YtpnfhddcnnoclaaWInvWords
import Derived.Test.YtpnfhddcnnoclaaWGuard
import Derived.Test.YtpnfhddcnnoclaaWNEv
import Derived.Test.YtpnfhddcnnoclaaWMore
import Derived.Test.YtpnfhddcnnoclaaWSized
namespace Go.Proofs.Ytpnfhddcnnoclaa.Px
open Go.RowKit Go.Proofs.YtpnfhddcnnoclaaW.PrintWords Go.Proofs.YtpnfhddcnnoclaaW.PrintLast Go.Proofs.YtpnfhddcnnoclaaW.PrintMore
attribute [local go_sem] max2_int min2_int max_two min_two max_three min_three max_four min_four
set_option linter.unusedVariables false
set_option linter.unusedSimpArgs false
theorem Qa:type_of% @blk_drewN:=@blk_drewN
theorem Qb:type_of% @blk_drew:=@blk_drew
theorem Qc:type_of% @blk_alloc:=@blk_alloc
theorem Qd:type_of% @below_alloc:=@below_alloc
theorem Qe:type_of% @pw_below_drewN:=@pw_below_drewN
theorem Qf:type_of% @below_drew1:=@below_drew1
theorem Qg:type_of% @below_set:=@below_set
theorem Qh:type_of% @Aside0.mk:=@Aside0.mk
theorem Qi:type_of% @blk_cell:=@blk_cell
theorem Qj:type_of% @blk_frozen:=@blk_frozen
theorem Qk:type_of% @World.block_lt_of_cell?:=@World.block_lt_of_cell?
theorem Qq:type_of% @blk_below:=@blk_below
theorem Qr:type_of% @below_step:=@below_step
theorem Qs:type_of% @below_size:=@below_size
theorem Qt:type_of% @Kd.C_below:=@Kd.C_below
theorem Qv:type_of% @Kd.R_alloc:=@Kd.R_alloc
theorem Qw:type_of% @Kd.R_drewN:=@Kd.R_drewN
theorem Qx:type_of% @Kd.R_drew:=@Kd.R_drew
def errW:Option Int→Value
 | none=>.nilIface
 | some c=>.iface 0 (.int .i64 c)
theorem errW_none:errW none=.nilIface:=rfl
theorem errW_some (c:Int):errW (some c)=.iface 0 (.int .i64 c):=rfl
theorem info3:(Try.prog.info? 3).map (fun i=>(i.zero,i.size,i.bytes))=some (some (.int .i64 0),1,8):=by kernel_rfl
theorem info4:(Try.prog.info? 4).map (fun i=>(i.zero,i.size,i.bytes))=some (some (.bool false),1,1):=by kernel_rfl
theorem info25:(Try.prog.info? 25).map (fun i=>(i.zero,i.size,i.bytes))=some (some (.slice none 0 0),1,24):=by kernel_rfl
theorem info57:(Try.prog.info? 57).map (fun i=>(i.zero,i.size,i.bytes))=some (some (.agg #[(.int .i64 0),(.int .i64 0),(.slice none 0 0),(.int .i64 0),(.int .i64 0),(.int .i64 0)]),6,64):=by kernel_rfl
def rd_L1 (xs:List (List Int)) (i:Int):(List Int):=xs.getD i.toNat ([]:List Int)
theorem at_L1 {w:World} {A:Option Addr} {n:Nat} {xs:List (List Int)} (h:Kd.C (Kd.slice 3 (Kd.int .i64)) w A n xs) (i:Int) (h0:0≤i) (h1:i < n):∃ ad A0 c0,A=some ad∧w.cell? (ad.add i.toNat)=some (.slice A0 (rd_L1 xs i).length c0)∧(rd_L1 xs i).length≤c0∧(Kd.int .i64).C w A0 (rd_L1 xs i).length (rd_L1 xs i):=by
 obtain ⟨ad,c,e,_,hK,hc0⟩:=Kd.C_get h ([]:List Int) i h0 h1
 have hc:∀ j u,c[j]?=some u→w.cell? (ad.add (i.toNat * 1 + j))=some u:=hc0
 obtain ⟨A0,c0,rfl,l0,g0⟩:=hK
 exact ⟨ad,A0,c0,e,by have hq:=hc 0 _ rfl;rwa [Nat.mul_one,Nat.add_zero] at hq,l0,g0⟩
structure S57 where
 f0:Int
 f1:Int
 f2:(List Int)
 f3:Int
 f4:Int
 f5:Int
def z57:S57:=⟨(0:Int),(0:Int),([]:List Int),(0:Int),(0:Int),(0:Int)⟩
def k57:Kd S57:=Kd.iso (Kd.pair (Kd.int .i64) (Kd.pair (Kd.int .i64) (Kd.pair (Kd.slice 3 (Kd.int .i64)) (Kd.pair (Kd.int .i64) (Kd.pair (Kd.int .i64) (Kd.int .i64)))))) (fun x:S57=>(x.f0,x.f1,x.f2,x.f3,x.f4,x.f5))
theorem k57_open {w:World} {x:S57} {cs:List Value} (h:k57.K w x cs):∃ A2 c2,cs=[.int .i64 x.f0,.int .i64 x.f1,.slice A2 x.f2.length c2,.int .i64 x.f3,.int .i64 x.f4,.int .i64 x.f5]∧x.f2.length≤c2∧(Kd.int .i64).C w A2 x.f2.length x.f2:=by
 obtain ⟨_,_,rfl,rfl,⟨_,_,rfl,rfl,⟨_,_,rfl,⟨A2,c2,rfl,l2,g2⟩,⟨_,_,rfl,rfl,⟨_,_,rfl,rfl,rfl⟩⟩⟩⟩⟩:=h
 exact ⟨A2,c2,rfl,l2,g2⟩
theorem k57_mk (w:World) (x:S57) {A2:Option Addr} {c2:Nat} (l2:x.f2.length≤c2) (g2:(Kd.int .i64).C w A2 x.f2.length x.f2):k57.K w x [.int .i64 x.f0,.int .i64 x.f1,.slice A2 x.f2.length c2,.int .i64 x.f3,.int .i64 x.f4,.int .i64 x.f5]:=⟨[.int .i64 x.f0],[.int .i64 x.f1,.slice A2 x.f2.length c2,.int .i64 x.f3,.int .i64 x.f4,.int .i64 x.f5],rfl,rfl,⟨[.int .i64 x.f1],[.slice A2 x.f2.length c2,.int .i64 x.f3,.int .i64 x.f4,.int .i64 x.f5],rfl,rfl,⟨[.slice A2 x.f2.length c2],[.int .i64 x.f3,.int .i64 x.f4,.int .i64 x.f5],rfl,⟨A2,c2,rfl,l2,g2⟩,⟨[.int .i64 x.f3],[.int .i64 x.f4,.int .i64 x.f5],rfl,rfl,⟨[.int .i64 x.f4],[.int .i64 x.f5],rfl,rfl,rfl⟩⟩⟩⟩⟩
theorem k57_mkM (w:World) (base:Nat) (ok:Nat→Prop) (x:S57) {v2:Value} (g2:(Kd.int .i64).R 3 w base ok v2 x.f2):k57.M w base ok x [.int .i64 x.f0,.int .i64 x.f1,v2,.int .i64 x.f3,.int .i64 x.f4,.int .i64 x.f5]:=⟨[.int .i64 x.f0],[.int .i64 x.f1,v2,.int .i64 x.f3,.int .i64 x.f4,.int .i64 x.f5],rfl,rfl,⟨[.int .i64 x.f1],[v2,.int .i64 x.f3,.int .i64 x.f4,.int .i64 x.f5],rfl,rfl,⟨[v2],[.int .i64 x.f3,.int .i64 x.f4,.int .i64 x.f5],rfl,⟨v2,rfl,g2⟩,⟨[.int .i64 x.f3],[.int .i64 x.f4,.int .i64 x.f5],rfl,rfl,⟨[.int .i64 x.f4],[.int .i64 x.f5],rfl,rfl,rfl⟩⟩⟩⟩⟩
theorem k57_openF {W:World} {ok:Nat→Prop} {x:S57} {cs:List Value} (h:Kd.FK k57 W ok x cs):∃ A2 c2,cs=[.int .i64 x.f0,.int .i64 x.f1,.slice A2 x.f2.length c2,.int .i64 x.f3,.int .i64 x.f4,.int .i64 x.f5]∧x.f2.length≤c2∧Kd.F (Kd.int .i64) W ok A2 x.f2.length x.f2:=by
 obtain ⟨A2,c2,rfl,l2,_⟩:=k57_open (Kd.FK_now h)
 exact ⟨A2,c2,rfl,l2,(fun W' hW=>by obtain ⟨A2_,c2_,he,l2_,g2_⟩:=k57_open (h W' hW);injection (Option.some.inj (show some (Value.slice A2 x.f2.length c2)=some (Value.slice A2_ x.f2.length c2_) from congrArg (fun l=>l[2]?) he)) with ha_ _ _;rw [ha_];exact g2_)⟩
theorem k57_mkF (W:World) (ok:Nat→Prop) (x:S57) {A2:Option Addr} {c2:Nat} (l2:x.f2.length≤c2) (g2:Kd.F (Kd.int .i64) W ok A2 x.f2.length x.f2):Kd.FK k57 W ok x [.int .i64 x.f0,.int .i64 x.f1,.slice A2 x.f2.length c2,.int .i64 x.f3,.int .i64 x.f4,.int .i64 x.f5]:=fun W2 hW=>k57_mk W2 x l2 (g2 W2 hW)
def rd_T57 (xs:List S57) (i:Int):S57:=xs.getD i.toNat z57
theorem at_T57 {w:World} {A:Option Addr} {n:Nat} {xs:List S57} (h:Kd.C k57 w A n xs) (i:Int) (h0:0≤i) (h1:i < n):∃ ad A2 c2,A=some ad∧w.cell? (ad.add (i.toNat * 6))=some (.int .i64 (rd_T57 xs i).f0)∧w.cell? ⟨(ad.add (i.toNat * 6)).block,(ad.add (i.toNat * 6)).off + 1,none⟩=some (.int .i64 (rd_T57 xs i).f1)∧w.cell? ⟨(ad.add (i.toNat * 6)).block,(ad.add (i.toNat * 6)).off + 2,none⟩=some (.slice A2 (rd_T57 xs i).f2.length c2)∧w.cell? ⟨(ad.add (i.toNat * 6)).block,(ad.add (i.toNat * 6)).off + 3,none⟩=some (.int .i64 (rd_T57 xs i).f3)∧w.cell? ⟨(ad.add (i.toNat * 6)).block,(ad.add (i.toNat * 6)).off + 4,none⟩=some (.int .i64 (rd_T57 xs i).f4)∧w.cell? ⟨(ad.add (i.toNat * 6)).block,(ad.add (i.toNat * 6)).off + 5,none⟩=some (.int .i64 (rd_T57 xs i).f5)∧(rd_T57 xs i).f2.length≤c2∧(Kd.int .i64).C w A2 (rd_T57 xs i).f2.length (rd_T57 xs i).f2:=by
 obtain ⟨ad,c,e,_,hK,hc0⟩:=Kd.C_get h z57 i h0 h1
 have hc:∀ j u,c[j]?=some u→w.cell? (ad.add (i.toNat * 6 + j))=some u:=hc0
 obtain ⟨A2,c2,rfl,l2,g2⟩:=k57_open hK
 exact ⟨ad,A2,c2,e,hc 0 _ rfl,by rw [← add_field _ _ 1 (by omega)];exact hc 1 _ rfl,by rw [← add_field _ _ 2 (by omega)];exact hc 2 _ rfl,by rw [← add_field _ _ 3 (by omega)];exact hc 3 _ rfl,by rw [← add_field _ _ 4 (by omega)];exact hc 4 _ rfl,by rw [← add_field _ _ 5 (by omega)];exact hc 5 _ rfl,l2,g2⟩
def slices_Index_int_int.l0:Nat→List Int→Int→Int→Int→Option (Int)
 | 0,_,_,_,_=>none
 | k + 1,x0,x1,x7,x8=>if x8 < x7 then (if 0≤x8 then (if x8 < (x0.length:Int) then (if x1=(rd x0 x8) then (some x8) else (slices_Index_int_int.l0 k x0 x1 x7 (wrap64 (x8 + 1)))) else (none)) else (none)) else (some (-1))
def slices_Index_int_int.f (k:Nat) (l0:List Int) (a1:Int):Option (Int):=slices_Index_int_int.l0 k l0 a1 (l0.length:Int) 0
set_option maxHeartbeats 8000000 in
set_option maxRecDepth 100000 in
theorem slices_Index_int_int.calls (k:Nat) (A0:Option Addr) (c0:Nat) (l0:List Int) (a1:Int) (r:Int) (w:World) (hr0:Kd.C (Kd.int .i64) w A0 l0.length l0) (hc0:l0.length≤c0) (h:slices_Index_int_int.f k l0 a1=some r) :
  Calls Try.prog 66 #[.slice A0 l0.length c0,.int .i64 a1] w fun e w'=>e=.returned (.int .i64 r)∧Drawn0 w w':=by
 have HR0:=Qh hr0;have HC0:=Qh hc0;clear hr0 hc0;have H:(slices_Index_int_int.l0 k l0 a1 (l0.length:Int) 0)=some r:=h;clear h;have H':=Qh H;clear H;go_enter Try.func66,Try.ntmps66
 go_wp2
 go_loopg [8] k (fun kq v8 w'=>∃ (x8_1:Int),v8=.int .i64 x8_1∧Aside0 (slices_Index_int_int.l0 kq l0 a1 (l0.length:Int) x8_1=some r)∧Aside0 (kq≤k)∧Drawn0 w w')
 case atStart=>exact ⟨(0),(by first | rfl | (simp;done) | (simp [*];done)),H',⟨Nat.le_refl _⟩,by repeat (first | exact Drawn0.refl _ | apply Drawn0.step)⟩
 case round =>
  clear H';(try clear p2);obtain ⟨x8_1,rfl,HA,HK1,⟨m1,rfl⟩⟩:=hrel
  cases gk with
  | zero=>exact absurd HA.out (by simp [slices_Index_int_int.l0])
  | succ k1 =>
   have H:=HA.out;clear HA;simp only [slices_Index_int_int.l0] at H;by_cases c3:x8_1 < (l0.length:Int)
   ·rw [if_pos c3] at H
    have c3b0:decide (x8_1 < (l0.length:Int))=true:=decide_eq_true c3;clear c3;by_cases c4:0≤x8_1
    ·rw [if_pos c4] at H
     have c4b0:decide (0≤x8_1)=true:=decide_eq_true c4;clear c4;by_cases c5:x8_1 < (l0.length:Int)
     ·rw [if_pos c5] at H
      have c5b0:decide (x8_1 < (l0.length:Int))=true:=decide_eq_true c5;clear c5;by_cases c6:a1=(rd l0 x8_1)
      ·rw [if_pos c6] at H
       have c6b0:(a1 == (rd l0 x8_1))=true:=beq_iff_eq.mpr c6;have c6b1:(a1 != (rd l0 x8_1))=false:=bne_eq_false_iff_eq.mpr c6;clear c6;obtain rfl:=Option.some.inj H;have b':0≤(x8_1:Int):=of_decide_eq_true (by first | (with_reducible assumption) | assumption);have a':x8_1 < (l0.length:Int):=of_decide_eq_true (by first | (with_reducible assumption) | assumption);obtain ⟨e',c',d'⟩:=Kd.at_int HR0.out x8_1 b' a'
       cases c'
       replace b':=eq_true b';replace a':=eq_true a';go_wp2
       go_ret
       exact ⟨by first | rfl | (simp;done) | (simp [*];done),by repeat (first | exact Drawn0.refl _ | apply Drawn0.step)⟩
      ·rw [if_neg c6] at H
       have c6b0:(a1 == (rd l0 x8_1))=false:=beq_eq_false_iff_ne.mpr c6;have c6b1:(a1 != (rd l0 x8_1))=true:=bne_iff_ne.mpr c6;have H':=Qh H;clear H;have b':0≤(x8_1:Int):=of_decide_eq_true (by first | (with_reducible assumption) | assumption);have a':x8_1 < (l0.length:Int):=of_decide_eq_true (by first | (with_reducible assumption) | assumption);obtain ⟨e',c',d'⟩:=Kd.at_int HR0.out x8_1 b' a'
       cases c'
       replace b':=eq_true b';replace a':=eq_true a';go_wp2
       go_roundg k1
       case measure=>have:=HK1.out;omega
       case rel=>exact ⟨(wrap64 (x8_1 + 1)),(by first | rfl | (simp;done) | (simp [*];done)),H',⟨by have:=HK1.out;omega⟩,by repeat (first | exact Drawn0.refl _ | apply Drawn0.step)⟩
     ·rw [if_neg c5] at H
      exact absurd H (by simp)
    ·rw [if_neg c4] at H
     exact absurd H (by simp)
   ·rw [if_neg c3] at H
    have c3b0:decide (x8_1 < (l0.length:Int))=false:=decide_eq_false c3;clear c3;obtain rfl:=Option.some.inj H;go_wp2
    go_ret
    exact ⟨by first | rfl | (simp;done) | (simp [*];done),by repeat (first | exact Drawn0.refl _ | apply Drawn0.step)⟩
def slices_Contains_int_int.f (k:Nat) (l0:List Int) (a1:Int):Option (Bool):=(slices_Index_int_int.f k l0 a1).bind fun t30601=>(some (decide (t30601 ≥ 0)))
set_option maxHeartbeats 8000000 in
set_option maxRecDepth 100000 in
theorem slices_Contains_int_int.calls (k:Nat) (A0:Option Addr) (c0:Nat) (l0:List Int) (a1:Int) (r:Bool) (w:World) (hr0:Kd.C (Kd.int .i64) w A0 l0.length l0) (hc0:l0.length≤c0) (h:slices_Contains_int_int.f k l0 a1=some r) :
  Calls Try.prog 61 #[.slice A0 l0.length c0,.int .i64 a1] w fun e w'=>e=.returned (.bool r)∧Drawn0 w w':=by
 have HR0:=Qh hr0;have HC0:=Qh hc0;clear hr0 hc0;have H:((slices_Index_int_int.f k l0 a1).bind fun a'=>(some (decide (a' ≥ 0))))=some r:=h;clear h;replace H:=Option.bind_eq_some_iff.mp H;obtain ⟨a',A30,H⟩:=H;replace H:(some (decide (a' ≥ 0)))=some r:=H
 have A3:=Qh A30;clear A30;obtain rfl:=Option.some.inj H;go_enter Try.func61,Try.ntmps61
 go_wp2_with (first | ((with_reducible refine gate_callee (f:=66) rfl ?_);refine goesL_ (some 7) rfl rfl Try.func66 (by kernel_rfl) rfl #[.slice A0 l0.length c0,.int .i64 a1] rfl (by (try simp only [List.map_toArray,List.map_cons,List.map_nil]);first | done | rfl | (simp only [List.length_drop,List.length_take];rfl)) ?_;(with_reducible refine (slices_Index_int_int.calls k _ _ l0 a1 a' _ ?side1 ?side2 A3.out).mono ?_);(case side1=>repeat (first | exact HR0.out | (with_reducible refine Kd.C_alloc ?_ _) | (with_reducible refine Kd.C_drewN ?_ _) | (with_reducible refine Kd.C_drew ?_)));(case side2=>exact HC0.out);rintro e w' ⟨rfl,⟨nd,rfl⟩⟩;refine ⟨_,rfl,?_⟩))
 go_ret
 exact ⟨by first | rfl | (simp;done) | (simp [*];done),by repeat (first | exact Drawn0.refl _ | apply Drawn0.step)⟩
section
variable {P:Program} {ops:Array Oper} {rest:List Oper} {o:Oper} {a:Act} {Q:Exit→Act→World→Prop}
theorem h_value {W:World} {v:Value} (hgd:o.guard=none) (hrun:(execOp a.eval o).run P W=.ok (.value v) W) (h:wpList P ops Q rest (a.put o.dst v) W):wpList P ops Q (o :: rest) a W:=Kd.event_run hgd hrun h
end
theorem bcell {W w1:World} (hb:Below W.heap.size W w1):(∀ b o,b < W.heap.size→w1.cell? ⟨b,o,none⟩=W.cell? ⟨b,o,none⟩)∧(∀ b o,b < W.heap.size→w1.frozen? ⟨b,o,none⟩=W.frozen? ⟨b,o,none⟩) :=
 ⟨fun b o h=>hb.cell (p:=⟨b,o,none⟩) h,fun b o h=>hb.frozen (p:=⟨b,o,none⟩) h⟩
section
variable {P:Program} {ops:Array Oper} {rest:List Oper} {a:Act} {Q:Exit→Act→World→Prop}
end
theorem h_row {w:World} {g:Nat} {t base n:Nat} {k:IntKind} {xs:List Int} {ok:Nat→Prop} (h:w.heap[g]?=some (.cells (nums k xs).toArray t (0,0))) (hb:base≤g) (hn:xs.length=n) (hm:n≤9223372036854775807) (hok:ok g) :
  Kd.R (Kd.int k) t w base ok (.slice (some ⟨g,0,none⟩) n n) xs:=by
 subst hn
 refine Kd.R_of_own (h1:=fun _=>rfl) ⟨by simp [encs],.inr ⟨g,xs.length,_,rfl,hb,h,Nat.le_refl _,hm,by simp [nums],by simp only [nums,encs,Nat.mul_one];exact List.take_of_length_le (by simp)⟩⟩ ?_
 intro q hq
 obtain rfl:q=g:=by simpa [Value.ownBlock] using hq.symm
 exact hok
theorem h_lt {w:World} {g t base n c:Nat} {k:IntKind} {xs:List Int} {ok:Nat→Prop} (h:Kd.R (Kd.int k) t w base ok (.slice (some ⟨g,0,none⟩) n c) xs):g < w.heap.size :=
 own_lt (Kd.own_of_R (h1:=fun _=>rfl) h) g rfl
theorem h_len {w:World} {t base n c:Nat} {A:Option Addr} {k:IntKind} {xs:List Int} {ok:Nat→Prop} (h:Kd.R (Kd.int k) t w base ok (.slice A n c) xs):xs.length=n:=by
 obtain ⟨_,_,e⟩:=Kd.R_slice h
 injection e with _ e _
 exact e.symm
def gate_rows:List (List UInt8 × Int × Int × Int) :=
  [([],0,0,0),([105,100],1,0,1),([120],1,0,2),([121],1,0,3),([122],1,0,4),([115],1,0,6),([115,100,103],1,0,5),([115,120],1,0,8),([115,120,100,103],1,0,7),([115,121],1,0,10),([115,121,100,103],1,0,9),
   ([99,120],2,1,11),([99,121],2,1,12),([99,122],2,0,13),([115,119,97,112],2,0,14),([105,115,119,97,112],2,0,16),([105,115,119,97,112,100,103],2,0,15),([104,104],2,0,17),([99,99,120],3,2,18),([99,99,122],3,0,19),([99,115,119,97,112],3,1,20)]
def gate_row (r:List UInt8 × Int × Int × Int):List Value:=[.string ⟨r.1.toArray⟩,.int .i64 r.2.1,.int .i64 r.2.2.1,.int .i64 r.2.2.2]
def gate_tbl:Array Value:=(gate_rows.flatMap gate_row).toArray
set_option maxHeartbeats 4000000 in
set_option maxRecDepth 100000 in
theorem gate_table_calls (w:World):Calls Try.prog 71 #[] w fun e w'=>e=.returned (.agg gate_tbl)∧Below w.heap.size w w':=by
 have hu94:=Try.underlying94
 have hst:=fun W:World=>run_storeCells_new (P:=Try.prog) W 96 Try.zeroCells96 gate_tbl (by kernel_rfl) (by kernel_rfl) (by kernel_rfl)
 go_enter Try.func71,Try.ntmps71
 go_wp2_with (first | ((with_reducible refine gate_dst (N:=1) rfl ?_);refine h_value (v:=.agg (gate_row (gate_rows.getD 1 default)).toArray) ?hg ?hr ?_;(case hg=>rfl);(case hr=>kernel_rfl)) | ((with_reducible refine gate_dst (N:=2) rfl ?_);refine h_value (v:=.agg (gate_row (gate_rows.getD 2 default)).toArray) ?hg ?hr ?_;(case hg=>rfl);(case hr=>kernel_rfl)) | ((with_reducible refine gate_dst (N:=3) rfl ?_);refine h_value (v:=.agg (gate_row (gate_rows.getD 3 default)).toArray) ?hg ?hr ?_;(case hg=>rfl);(case hr=>kernel_rfl)) | ((with_reducible refine gate_dst (N:=4) rfl ?_);refine h_value (v:=.agg (gate_row (gate_rows.getD 4 default)).toArray) ?hg ?hr ?_;(case hg=>rfl);(case hr=>kernel_rfl)) | ((with_reducible refine gate_dst (N:=5) rfl ?_);refine h_value (v:=.agg (gate_row (gate_rows.getD 5 default)).toArray) ?hg ?hr ?_;(case hg=>rfl);(case hr=>kernel_rfl)) | ((with_reducible refine gate_dst (N:=6) rfl ?_);refine h_value (v:=.agg (gate_row (gate_rows.getD 6 default)).toArray) ?hg ?hr ?_;(case hg=>rfl);(case hr=>kernel_rfl)) | ((with_reducible refine gate_dst (N:=7) rfl ?_);refine h_value (v:=.agg (gate_row (gate_rows.getD 7 default)).toArray) ?hg ?hr ?_;(case hg=>rfl);(case hr=>kernel_rfl)) | ((with_reducible refine gate_dst (N:=8) rfl ?_);refine h_value (v:=.agg (gate_row (gate_rows.getD 8 default)).toArray) ?hg ?hr ?_;(case hg=>rfl);(case hr=>kernel_rfl)) | ((with_reducible refine gate_dst (N:=9) rfl ?_);refine h_value (v:=.agg (gate_row (gate_rows.getD 9 default)).toArray) ?hg ?hr ?_;(case hg=>rfl);(case hr=>kernel_rfl)) | ((with_reducible refine gate_dst (N:=10) rfl ?_);refine h_value (v:=.agg (gate_row (gate_rows.getD 10 default)).toArray) ?hg ?hr ?_;(case hg=>rfl);(case hr=>kernel_rfl)) | ((with_reducible refine gate_dst (N:=11) rfl ?_);refine h_value (v:=.agg (gate_row (gate_rows.getD 11 default)).toArray) ?hg ?hr ?_;(case hg=>rfl);(case hr=>kernel_rfl)) | ((with_reducible refine gate_dst (N:=12) rfl ?_);refine h_value (v:=.agg (gate_row (gate_rows.getD 12 default)).toArray) ?hg ?hr ?_;(case hg=>rfl);(case hr=>kernel_rfl)) | ((with_reducible refine gate_dst (N:=13) rfl ?_);refine h_value (v:=.agg (gate_row (gate_rows.getD 13 default)).toArray) ?hg ?hr ?_;(case hg=>rfl);(case hr=>kernel_rfl)) | ((with_reducible refine gate_dst (N:=14) rfl ?_);refine h_value (v:=.agg (gate_row (gate_rows.getD 14 default)).toArray) ?hg ?hr ?_;(case hg=>rfl);(case hr=>kernel_rfl)) | ((with_reducible refine gate_dst (N:=15) rfl ?_);refine h_value (v:=.agg (gate_row (gate_rows.getD 15 default)).toArray) ?hg ?hr ?_;(case hg=>rfl);(case hr=>kernel_rfl)) | ((with_reducible refine gate_dst (N:=16) rfl ?_);refine h_value (v:=.agg (gate_row (gate_rows.getD 16 default)).toArray) ?hg ?hr ?_;(case hg=>rfl);(case hr=>kernel_rfl)) | ((with_reducible refine gate_dst (N:=17) rfl ?_);refine h_value (v:=.agg (gate_row (gate_rows.getD 17 default)).toArray) ?hg ?hr ?_;(case hg=>rfl);(case hr=>kernel_rfl)) | ((with_reducible refine gate_dst (N:=18) rfl ?_);refine h_value (v:=.agg (gate_row (gate_rows.getD 18 default)).toArray) ?hg ?hr ?_;(case hg=>rfl);(case hr=>kernel_rfl)) | ((with_reducible refine gate_dst (N:=19) rfl ?_);refine h_value (v:=.agg (gate_row (gate_rows.getD 19 default)).toArray) ?hg ?hr ?_;(case hg=>rfl);(case hr=>kernel_rfl)) | ((with_reducible refine gate_dst (N:=20) rfl ?_);refine h_value (v:=.agg (gate_row (gate_rows.getD 20 default)).toArray) ?hg ?hr ?_;(case hg=>rfl);(case hr=>kernel_rfl)) | ((with_reducible refine gate_dst (N:=21) rfl ?_);refine h_value (v:=.agg gate_tbl) ?hg ?hr ?_;(case hg=>rfl);(case hr=>kernel_rfl)))
 refine bodyPost_ret (results_cell_row rfl _ _ w.heap.size 96 gate_tbl (0,0) _ rfl (blk_new w _) Try.underlying96 rfl (by kernel_rfl)) rfl ?_
 exact ⟨rfl,(Below.refl _ _).alloc (Nat.le_refl _) _⟩
def gate_Arity.f (a0:Int):Option Int:=some (if a0 < 1∨20 < a0 then 0 else if a0≤10 then 1 else if a0≤17 then 2 else 3)
theorem gate_index (k:Int) (h0:1≤k) (h1:k≤20) (W:World):(Instr.index 96 (.agg gate_tbl) (.int .i64 k)).run Try.prog W=.ok (.agg (gate_row (gate_rows.getD k.toNat default)).toArray) W:=by
 obtain rfl | rfl | rfl | rfl | rfl | rfl | rfl | rfl | rfl | rfl | rfl | rfl | rfl | rfl | rfl | rfl | rfl | rfl | rfl | rfl:k=1∨k=2∨k=3∨k=4∨k=5∨k=6∨k=7∨k=8∨k=9∨k=10∨k=11∨k=12∨k=13∨k=14∨k=15∨k=16∨k=17∨k=18∨k=19∨k=20:=by omega
 all_goals kernel_rfl
set_option maxHeartbeats 1000000 in
set_option maxRecDepth 100000 in
theorem gate_of_calls (k:Int) (w:World):Calls Try.prog 70 #[.int .i64 k] w fun e w'=>e=.returned (.agg (gate_row (if 1≤k∧k≤20 then gate_rows.getD k.toNat default else ([],0,0,0))).toArray)∧Below w.heap.size w w':=by
 have hu94:=Try.underlying94
 by_cases h:1≤k∧k≤20
 ·rw [if_pos h]
  obtain ⟨h0,h1⟩:=h
  have hi:=gate_index k h0 h1
  show Calls _ _ _ _ fun e w'=>e=.returned (.agg #[.string ⟨(gate_rows.getD k.toNat default).1.toArray⟩,.int .i64 (gate_rows.getD k.toNat default).2.1,.int .i64 (gate_rows.getD k.toNat default).2.2.1,.int .i64 (gate_rows.getD k.toNat default).2.2.2])∧_
  replace hi:∀ W,(Instr.index 96 (.agg gate_tbl) (.int .i64 k)).run Try.prog W=.ok (.agg #[.string ⟨(gate_rows.getD k.toNat default).1.toArray⟩,.int .i64 (gate_rows.getD k.toNat default).2.1,.int .i64 (gate_rows.getD k.toNat default).2.2.1,.int .i64 (gate_rows.getD k.toNat default).2.2.2]) W:=hi
  generalize (⟨(gate_rows.getD k.toNat default).1.toArray⟩:ByteArray)=s at *
  generalize (gate_rows.getD k.toNat default).2.1=x at *
  generalize (gate_rows.getD k.toNat default).2.2.1=y at *
  generalize (gate_rows.getD k.toNat default).2.2.2=z at *
  have t1:decide (k < 1)=false:=decide_eq_false (by omega)
  have t2:decide (20 < k)=false:=decide_eq_false (by omega)
  go_enter Try.func70,Try.ntmps70
  go_wp2_with (first | (go_at_call 71;refine (gate_table_calls _).mono ?_;rintro e w' ⟨rfl,hb⟩;obtain ⟨hc,hf⟩:=bcell hb;have hs:=hb.size;have HB:=Lib.hid hb;clear hb))
  have hb1:Below w.heap.size w w':=below_then ((Below.refl _ _).alloc (Nat.le_refl _) _) (by simp) HB.out
  refine bodyPost_ret (results_cell_row rfl _ _ w.heap.size 94 #[.string s,.int .i64 x,.int .i64 y,.int .i64 z] (0,0) _ rfl (blk_set (blk_set (blk_set (blk_set (blk_below (blk_new w _) HB.out) 0 _) 1 _) 2 _) 3 _) Try.underlying94 rfl (by kernel_rfl)) rfl ?_
  exact ⟨rfl,below_set (below_set (below_set (below_set hb1 (Nat.le_refl _)) (Nat.le_refl _)) (Nat.le_refl _)) (Nat.le_refl _)⟩
 ·rw [if_neg h]
  show Calls _ _ _ _ fun e w'=>e=.returned (.agg #[.string ⟨#[]⟩,.int .i64 0,.int .i64 0,.int .i64 0])∧_
  by_cases t1:k < 1
  ·have c1:decide (k < 1)=true:=decide_eq_true t1
   go_enter Try.func70,Try.ntmps70
   go_wp2
   refine bodyPost_ret (results_cell_row rfl _ _ w.heap.size 94 #[.string ⟨#[]⟩,.int .i64 0,.int .i64 0,.int .i64 0] (0,0) _ rfl (blk_new w _) Try.underlying94 rfl (by kernel_rfl)) rfl ?_
   exact ⟨rfl,(Below.refl _ _).alloc (Nat.le_refl _) _⟩
  ·have c1:decide (k < 1)=false:=decide_eq_false t1
   have c2:decide (20 < k)=true:=decide_eq_true (by omega)
   go_enter Try.func70,Try.ntmps70
   go_wp2
   refine bodyPost_ret (results_cell_row rfl _ _ w.heap.size 94 #[.string ⟨#[]⟩,.int .i64 0,.int .i64 0,.int .i64 0] (0,0) _ rfl (blk_new w _) Try.underlying94 rfl (by kernel_rfl)) rfl ?_
   exact ⟨rfl,(Below.refl _ _).alloc (Nat.le_refl _) _⟩
set_option maxHeartbeats 1000000 in
set_option maxRecDepth 100000 in
theorem gate_Arity.calls (a0:Int) (r:Int) (w:World) (h:gate_Arity.f a0=some r) :
  Calls Try.prog 65 #[.int .i64 a0] w fun e w'=>e=.returned (.int .i64 r)∧Below w.heap.size w w':=by
 have hr:(if 1≤a0∧a0≤20 then gate_rows.getD a0.toNat default else ([],0,0,0)).2.1=r:=by
  have:=Option.some.inj h
  subst this;by_cases hk:1≤a0∧a0≤20
  ·obtain ⟨h0,h1⟩:=hk
   obtain rfl | rfl | rfl | rfl | rfl | rfl | rfl | rfl | rfl | rfl | rfl | rfl | rfl | rfl | rfl | rfl | rfl | rfl | rfl | rfl:a0=1∨a0=2∨a0=3∨a0=4∨a0=5∨a0=6∨a0=7∨a0=8∨a0=9∨a0=10∨a0=11∨a0=12∨a0=13∨a0=14∨a0=15∨a0=16∨a0=17∨a0=18∨a0=19∨a0=20:=by omega
   all_goals decide
  ·rw [if_neg hk,if_pos (by omega)]
 have hc:=gate_of_calls a0;generalize (if 1≤a0∧a0≤20 then gate_rows.getD a0.toNat default else ([],0,0,0))=q at *
 obtain ⟨s,x,y,z⟩:=q;simp only at hr
 subst hr;replace hc:∀ w,Calls Try.prog 70 #[.int .i64 a0] w fun e w'=>e=.returned (.agg #[.string ⟨s.toArray⟩,.int .i64 x,.int .i64 y,.int .i64 z])∧Below w.heap.size w w':=hc
 have HC:=Lib.hid hc;clear hc h;have hfl:∀ w,(Instr.field 94 (.agg #[.string ⟨s.toArray⟩,.int .i64 x,.int .i64 y,.int .i64 z]) 1).run Try.prog w=.ok (.int .i64 x) w:=fun w=>by kernel_rfl
 go_enter Try.func65,Try.ntmps65
 go_wp2_with (go_at_call 70;refine (HC.out _).mono ?_;rintro e w' ⟨rfl,hb⟩;have HB:=Lib.hid hb;clear hb)
 go_ret
 exact ⟨rfl,HB.out⟩
def gate_Check.l0:Nat→List Int→Int→List Int→Int→Int→Option (Int)
 | 0,_,_,_,_,_=>none
 | k + 1,x1,x2,x17,x18,x19=>if x19 < x18 then (if 0≤x19 then (if x19 < (x17.length:Int) then (if (rd x17 x19) < 0 then (some 61) else (if (rd x17 x19) ≥ x2 then (some 61) else (if x19≤(x1.length:Int) then ((slices_Contains_int_int.f k (x1.take (x19:Int).toNat) (rd x17 x19)).bind fun t30105=>(if t30105=true then (some 61) else (gate_Check.l0 k x1 x2 x17 x18 (wrap64 (x19 + 1))))) else (none)))) else (none)) else (none)) else (some 0)
def gate_Check.f (k:Nat) (a0:Int) (l1:List Int) (a2:Int):Option (Int):=(gate_Arity.f a0).bind fun t30101=>(if t30101=0 then (some 60) else ((gate_Arity.f a0).bind fun t30102=>(if (l1.length:Int)=t30102 then (gate_Check.l0 k l1 a2 l1 (l1.length:Int) 0) else (some 61))))
set_option maxHeartbeats 8000000 in
set_option maxRecDepth 100000 in
theorem gate_Check.calls (k:Nat) (a0:Int) (A1:Option Addr) (c1:Nat) (l1:List Int) (a2:Int) (r:Int) (w:World) (hr1:Kd.C (Kd.int .i64) w A1 l1.length l1) (hc1:l1.length≤c1) (h:gate_Check.f k a0 l1 a2=some r) :
  Calls Try.prog 60 #[.int .i64 a0,.slice A1 l1.length c1,.int .i64 a2] w fun e w'=>e=.returned (.int .i64 r)∧Below w.heap.size w w':=by
 have HR1:=Qh hr1;have HC1:=Qh hc1;clear hr1 hc1;have HB:=Qh (Below.refl w.heap.size w);have H:((gate_Arity.f a0).bind fun e'=>(if e'=0 then (some 60) else ((gate_Arity.f a0).bind fun d'=>(if (l1.length:Int)=d' then (gate_Check.l0 k l1 a2 l1 (l1.length:Int) 0) else (some 61)))))=some r:=h;clear h;replace H:=Option.bind_eq_some_iff.mp H;obtain ⟨e',A40,H⟩:=H;replace H:(if e'=0 then (some 60) else ((gate_Arity.f a0).bind fun d'=>(if (l1.length:Int)=d' then (gate_Check.l0 k l1 a2 l1 (l1.length:Int) 0) else (some 61))))=some r:=H
 have A4:=Qh A40;clear A40;by_cases c5:e'=0
 ·rw [if_pos c5] at H
  have c5b0:(e' == 0)=true:=beq_iff_eq.mpr c5;have c5b1:(e' != 0)=false:=bne_eq_false_iff_eq.mpr c5;clear c5;obtain rfl:=Option.some.inj H;go_enter Try.func60,Try.ntmps60
  go_wp2_with (first | ((with_reducible refine gate_callee (f:=65) rfl ?_);refine goesL_ (some 10) rfl rfl Try.func65 (by kernel_rfl) rfl #[.int .i64 a0] rfl (by (try simp only [List.map_toArray,List.map_cons,List.map_nil]);first | done | rfl | (simp only [List.length_drop,List.length_take];rfl)) ?_;(with_reducible refine (gate_Arity.calls a0 e' _ A4.out).mono ?_);rintro e w6 ⟨rfl,hb⟩;refine ⟨_,rfl,?_⟩;have n0_:=Qh (Qr (by repeat (first | (with_reducible first | exact HB.out | apply Qd | apply Qe | apply Qf) | exact HB.out)) hb);clear HB;have HB:=n0_;clear n0_;(try clear hb);(try clear hb2);(try clear hk);(try clear hi)))
  go_ret
  exact ⟨by first | rfl | (simp [errW_none,errW_some]<;>rfl) | (simp [*,errW_none,errW_some]<;>rfl),by repeat (first | (with_reducible first | exact HB.out | apply Qd | apply Qe | apply Qf) | exact HB.out)⟩
 ·rw [if_neg c5] at H
  have c5b0:(e' == 0)=false:=beq_eq_false_iff_ne.mpr c5;have c5b1:(e' != 0)=true:=bne_iff_ne.mpr c5;replace H:=Option.bind_eq_some_iff.mp H;obtain ⟨d',A70,H⟩:=H;replace H:(if (l1.length:Int)=d' then (gate_Check.l0 k l1 a2 l1 (l1.length:Int) 0) else (some 61))=some r:=H
  have A7:=Qh A70;clear A70;by_cases c8:(l1.length:Int)=d'
  ·rw [if_pos c8] at H
   have c8b0:((l1.length:Int) == d')=true:=beq_iff_eq.mpr c8;have c8b1:((l1.length:Int) != d')=false:=bne_eq_false_iff_eq.mpr c8;clear c8;have H':=Qh H;clear H;go_enter Try.func60,Try.ntmps60
   go_wp2_with (first | ((with_reducible refine gate_callee (f:=65) rfl ?_);refine goesL_ (some 10) rfl rfl Try.func65 (by kernel_rfl) rfl #[.int .i64 a0] rfl (by (try simp only [List.map_toArray,List.map_cons,List.map_nil]);first | done | rfl | (simp only [List.length_drop,List.length_take];rfl)) ?_;(with_reducible refine (gate_Arity.calls a0 e' _ A4.out).mono ?_);rintro e w9 ⟨rfl,hb⟩;refine ⟨_,rfl,?_⟩;have n0_:=Qh (Qr (by repeat (first | (with_reducible first | exact HB.out | apply Qd | apply Qe | apply Qf) | exact HB.out)) hb);clear HB;have HB:=n0_;clear n0_;(try clear hb);(try clear hb2);(try clear hk);(try clear hi)) | ((with_reducible refine gate_callee (f:=65) rfl ?_);refine goesL_ (some 15) rfl rfl Try.func65 (by kernel_rfl) rfl #[.int .i64 a0] rfl (by (try simp only [List.map_toArray,List.map_cons,List.map_nil]);first | done | rfl | (simp only [List.length_drop,List.length_take];rfl)) ?_;(with_reducible refine (gate_Arity.calls a0 d' _ A7.out).mono ?_);rintro e w10 ⟨rfl,hb⟩;refine ⟨_,rfl,?_⟩;have n0_:=Qh (Qr (by repeat (first | (with_reducible first | exact HB.out | apply Qd | apply Qe | apply Qf) | exact HB.out)) hb);clear HB;have HB:=n0_;clear n0_;(try clear hb);(try clear hb2);(try clear hk);(try clear hi)))
   go_loopg [19] k (fun kq v19 w'=>∃ (x19_1:Int),v19=.int .i64 x19_1∧Aside0 (gate_Check.l0 kq l1 a2 l1 (l1.length:Int) x19_1=some r)∧Aside0 (kq≤k)∧Aside0 (Below w.heap.size w w'))
   case atStart=>exact ⟨(0),(by first | rfl | (simp;done) | (simp [*];done)),H',⟨Nat.le_refl _⟩,⟨by repeat (first | (with_reducible first | exact HB.out | apply Qd | apply Qe | apply Qf) | exact HB.out)⟩⟩
   case round =>
    clear H';(try clear c1);(try clear p2);(try clear c5);(try clear c5b0);(try clear c5b1);(try clear c6);(try clear c8);(try clear c8b0);(try clear c8b1);obtain ⟨x19_1,rfl,HA,HK1,HB⟩:=hrel
    cases gk with
    | zero=>exact absurd HA.out (by simp [gate_Check.l0])
    | succ k1 =>
     have H:=HA.out;clear HA;simp only [gate_Check.l0] at H;by_cases c11:x19_1 < (l1.length:Int)
     ·rw [if_pos c11] at H
      have c11b0:decide (x19_1 < (l1.length:Int))=true:=decide_eq_true c11;clear c11;by_cases c12:0≤x19_1
      ·rw [if_pos c12] at H
       have c12b0:decide (0≤x19_1)=true:=decide_eq_true c12;clear c12;by_cases c13:x19_1 < (l1.length:Int)
       ·rw [if_pos c13] at H
        have c13b0:decide (x19_1 < (l1.length:Int))=true:=decide_eq_true c13;clear c13;by_cases c14:(rd l1 x19_1) < 0
        ·rw [if_pos c14] at H
         have c14b0:decide ((rd l1 x19_1) < 0)=true:=decide_eq_true c14;clear c14;obtain rfl:=Option.some.inj H;have c':0≤(x19_1:Int):=of_decide_eq_true (by first | (with_reducible assumption) | assumption);have b':x19_1 < (l1.length:Int):=of_decide_eq_true (by first | (with_reducible assumption) | assumption);obtain ⟨f',g',a'⟩:=Kd.at_int HR1.out x19_1 c' b'
         cases g'
         replace a':=(HB.out.cell (Qk w _ a')).trans a';replace c':=eq_true c';replace b':=eq_true b';go_wp2
         go_ret
         exact ⟨by first | rfl | (simp [errW_none,errW_some]<;>rfl) | (simp [*,errW_none,errW_some]<;>rfl),by repeat (first | (with_reducible first | exact HB.out | apply Qd | apply Qe | apply Qf) | exact HB.out)⟩
        ·rw [if_neg c14] at H
         have c14b0:decide ((rd l1 x19_1) < 0)=false:=decide_eq_false c14;clear c14;by_cases c15:(rd l1 x19_1) ≥ a2
         ·rw [if_pos c15] at H
          have c15b0:decide (a2≤(rd l1 x19_1))=true:=decide_eq_true c15;clear c15;obtain rfl:=Option.some.inj H;have c':0≤(x19_1:Int):=of_decide_eq_true (by first | (with_reducible assumption) | assumption);have b':x19_1 < (l1.length:Int):=of_decide_eq_true (by first | (with_reducible assumption) | assumption);obtain ⟨f',g',a'⟩:=Kd.at_int HR1.out x19_1 c' b'
          cases g'
          replace a':=(HB.out.cell (Qk w _ a')).trans a';replace c':=eq_true c';replace b':=eq_true b';go_wp2
          go_ret
          exact ⟨by first | rfl | (simp [errW_none,errW_some]<;>rfl) | (simp [*,errW_none,errW_some]<;>rfl),by repeat (first | (with_reducible first | exact HB.out | apply Qd | apply Qe | apply Qf) | exact HB.out)⟩
         ·rw [if_neg c15] at H
          have c15b0:decide (a2≤(rd l1 x19_1))=false:=decide_eq_false c15;clear c15;have c16b0:=eq_true (of_decide_eq_true (by first | (with_reducible assumption) | assumption):0≤x19_1);by_cases c17:x19_1≤(l1.length:Int)
          ·rw [if_pos c17] at H
           have c17b0:=eq_true c17;have c17b1:decide (x19_1≤(l1.length:Int))=true:=decide_eq_true c17;clear c17;replace H:=Option.bind_eq_some_iff.mp H;obtain ⟨j',m',H⟩:=H;replace H:(if j'=true then (some 61) else (gate_Check.l0 k1 l1 a2 l1 (l1.length:Int) (wrap64 (x19_1 + 1))))=some r:=H
           have A18:=Qh m';clear m';by_cases c19:j'=true
           ·subst c19
            have H1:(some 61)=some r:=by rw [if_pos rfl] at H;exact H
            clear H;have H:=H1;clear H1;obtain rfl:=Option.some.inj H;have c':0≤(x19_1:Int):=of_decide_eq_true (by first | (with_reducible assumption) | assumption);have b':x19_1 < (l1.length:Int):=of_decide_eq_true (by first | (with_reducible assumption) | assumption);obtain ⟨f',g',a'⟩:=Kd.at_int HR1.out x19_1 c' b'
            cases g'
            replace a':=(HB.out.cell (Qk w _ a')).trans a';replace c':=eq_true c';replace b':=eq_true b';obtain ⟨o',l',_,hsz20,_⟩:=info_parts info3;obtain ⟨hcut20,hA20,hC20⟩:=print_take_of (P:=Try.prog) (Value.int .i64) 0 25 3 .i64 Try.underlying25 l' hsz20 (some f') c1 l1 x19_1 (of_decide_eq_true (by first | (with_reducible assumption) | assumption)) (of_decide_eq_true (by first | (with_reducible assumption) | assumption)) HC1.out;have h':=Qh (Kd.C_of_reads (h1:=fun _=>rfl) (hA20 _ (Kd.reads_of_C HR1.out)));have i':=Qh hC20;clear hA20 hC20 l' hsz20;go_wp2_with (first | (go_at_call 61;(refine calls_of_args (args':=#[.slice (some f') (l1.take (x19_1:Int).toNat).length c1,.int .i64 (rd l1 x19_1)]) ?cargs ?_);(case cargs=>(have hz_:x19_1≤(l1.length:Int):=(by first | exact of_decide_eq_true (by assumption) | exact Int.le_of_lt (of_decide_eq_true (by assumption)));have hy_:min (x19_1:Int).toNat l1.length=(x19_1:Int).toNat:=(by omega);simp only [List.length_take,hy_]));(with_reducible refine (slices_Contains_int_int.calls k1 _ _ (l1.take (x19_1:Int).toNat) (rd l1 x19_1) true _ ?side1 ?side2 A18.out).mono ?_);(case side1=>repeat (first | exact (Qt h'.out HB.out) | (with_reducible refine Kd.C_alloc ?_ _) | (with_reducible refine Kd.C_drewN ?_ _) | (with_reducible refine Kd.C_drew ?_)));(case side2=>exact i'.out);rintro e w' ⟨rfl,⟨nd,rfl⟩⟩))
            go_ret
            exact ⟨by first | rfl | (simp [errW_none,errW_some]<;>rfl) | (simp [*,errW_none,errW_some]<;>rfl),by repeat (first | (with_reducible first | exact HB.out | apply Qd | apply Qe | apply Qf) | exact HB.out)⟩
           ·replace c19:=Bool.eq_false_iff.mpr c19
            subst c19;have H1:(gate_Check.l0 k1 l1 a2 l1 (l1.length:Int) (wrap64 (x19_1 + 1)))=some r:=by rw [if_neg (show ¬ (false=true) by decide)] at H;exact H
            clear H;have H:=H1;clear H1;have H':=Qh H;clear H;have c':0≤(x19_1:Int):=of_decide_eq_true (by first | (with_reducible assumption) | assumption);have b':x19_1 < (l1.length:Int):=of_decide_eq_true (by first | (with_reducible assumption) | assumption);obtain ⟨f',g',a'⟩:=Kd.at_int HR1.out x19_1 c' b'
            cases g'
            replace a':=(HB.out.cell (Qk w _ a')).trans a';replace c':=eq_true c';replace b':=eq_true b';obtain ⟨n',k',_,hsz21,_⟩:=info_parts info3;obtain ⟨hcut21,hA21,hC21⟩:=print_take_of (P:=Try.prog) (Value.int .i64) 0 25 3 .i64 Try.underlying25 k' hsz21 (some f') c1 l1 x19_1 (of_decide_eq_true (by first | (with_reducible assumption) | assumption)) (of_decide_eq_true (by first | (with_reducible assumption) | assumption)) HC1.out;have h':=Qh (Kd.C_of_reads (h1:=fun _=>rfl) (hA21 _ (Kd.reads_of_C HR1.out)));have i':=Qh hC21;clear hA21 hC21 k' hsz21;go_wp2_with (first | (go_at_call 61;(refine calls_of_args (args':=#[.slice (some f') (l1.take (x19_1:Int).toNat).length c1,.int .i64 (rd l1 x19_1)]) ?cargs ?_);(case cargs=>(have hz_:x19_1≤(l1.length:Int):=(by first | exact of_decide_eq_true (by assumption) | exact Int.le_of_lt (of_decide_eq_true (by assumption)));have hy_:min (x19_1:Int).toNat l1.length=(x19_1:Int).toNat:=(by omega);simp only [List.length_take,hy_]));(with_reducible refine (slices_Contains_int_int.calls k1 _ _ (l1.take (x19_1:Int).toNat) (rd l1 x19_1) false _ ?side1 ?side2 A18.out).mono ?_);(case side1=>repeat (first | exact (Qt h'.out HB.out) | (with_reducible refine Kd.C_alloc ?_ _) | (with_reducible refine Kd.C_drewN ?_ _) | (with_reducible refine Kd.C_drew ?_)));(case side2=>exact i'.out);rintro e w' ⟨rfl,⟨nd,rfl⟩⟩))
            go_roundg k1
            case measure=>have:=HK1.out;omega
            case rel=>exact ⟨(wrap64 (x19_1 + 1)),(by first | rfl | (simp;done) | (simp [*];done)),H',⟨by have:=HK1.out;omega⟩,⟨by repeat (first | (with_reducible first | exact HB.out | apply Qd | apply Qe | apply Qf) | exact HB.out)⟩⟩
          ·rw [if_neg c17] at H
           exact absurd H (by simp)
       ·rw [if_neg c13] at H
        exact absurd H (by simp)
      ·rw [if_neg c12] at H
       exact absurd H (by simp)
     ·rw [if_neg c11] at H
      have c11b0:decide (x19_1 < (l1.length:Int))=false:=decide_eq_false c11;clear c11;obtain rfl:=Option.some.inj H;go_wp2
      go_ret
      exact ⟨by first | rfl | (simp [errW_none,errW_some]<;>rfl) | (simp [*,errW_none,errW_some]<;>rfl),by repeat (first | (with_reducible first | exact HB.out | apply Qd | apply Qe | apply Qf) | exact HB.out)⟩
  ·rw [if_neg c8] at H
   have c8b0:((l1.length:Int) == d')=false:=beq_eq_false_iff_ne.mpr c8;have c8b1:((l1.length:Int) != d')=true:=bne_iff_ne.mpr c8;obtain rfl:=Option.some.inj H;go_enter Try.func60,Try.ntmps60
   go_wp2_with (first | ((with_reducible refine gate_callee (f:=65) rfl ?_);refine goesL_ (some 10) rfl rfl Try.func65 (by kernel_rfl) rfl #[.int .i64 a0] rfl (by (try simp only [List.map_toArray,List.map_cons,List.map_nil]);first | done | rfl | (simp only [List.length_drop,List.length_take];rfl)) ?_;(with_reducible refine (gate_Arity.calls a0 e' _ A4.out).mono ?_);rintro e w22 ⟨rfl,hb⟩;refine ⟨_,rfl,?_⟩;have n0_:=Qh (Qr (by repeat (first | (with_reducible first | exact HB.out | apply Qd | apply Qe | apply Qf) | exact HB.out)) hb);clear HB;have HB:=n0_;clear n0_;(try clear hb);(try clear hb2);(try clear hk);(try clear hi)) | ((with_reducible refine gate_callee (f:=65) rfl ?_);refine goesL_ (some 15) rfl rfl Try.func65 (by kernel_rfl) rfl #[.int .i64 a0] rfl (by (try simp only [List.map_toArray,List.map_cons,List.map_nil]);first | done | rfl | (simp only [List.length_drop,List.length_take];rfl)) ?_;(with_reducible refine (gate_Arity.calls a0 d' _ A7.out).mono ?_);rintro e w23 ⟨rfl,hb⟩;refine ⟨_,rfl,?_⟩;have n0_:=Qh (Qr (by repeat (first | (with_reducible first | exact HB.out | apply Qd | apply Qe | apply Qf) | exact HB.out)) hb);clear HB;have HB:=n0_;clear n0_;(try clear hb);(try clear hb2);(try clear hk);(try clear hi)))
   go_ret
   exact ⟨by first | rfl | (simp [errW_none,errW_some]<;>rfl) | (simp [*,errW_none,errW_some]<;>rfl),by repeat (first | (with_reducible first | exact HB.out | apply Qd | apply Qe | apply Qf) | exact HB.out)⟩
def may_loop (k:Nat) (n:Int) (xs:List Int):Nat→Int→Option Bool
 | 0,_=>some true
 | r + 1,i=>if rd xs i < 0 then some false else if rd xs i ≥ n then some false else (slices_Contains_int_int.f k (xs.take i.toNat) (rd xs i)).bind fun b=>if b=true then some false else may_loop k n xs r (i + 1)
def may_tail (f0:Int) (xs:List Int) (f3 m:Int):Bool:=if f0=2 then (decide ((xs.length:Int)=1) && (decide (f3 ≥ 0) && decide (f3 < m))) else if f0=3 then (decide ((xs.length:Int)=1) && decide (f3=0)) else if f0=4 then decide (f3=0) else false
def may_gate (g f3 f4 f5 m:Int):Bool:=decide (g=0) && (decide (f3=0) && ((decide (f4=-1) && decide (f5=0)) || (decide (f4 ≥ 0) && (decide (f4 < m) && (decide (f5=0) || decide (f5=1))))))
def circuit_may.f (k:Nat) (a0_0:Int) (a0_1:Int) (l0_2:List Int) (a0_3:Int) (a0_4:Int) (a0_5:Int) (a1:Int) (a2:Int):Option Bool :=
 if a0_0=1 then (gate_Check.f k a0_1 l0_2 a1).bind fun g=>some (may_gate g a0_3 a0_4 a0_5 a2)
 else if a0_1≠0∨a0_4≠-1∨a0_5≠0∨(l0_2.length:Int)=0 then some false else (may_loop k a1 l0_2 l0_2.length 0).bind fun b=>if b=true then some (may_tail a0_0 l0_2 a0_3 a2) else some false
section
variable {f0 f3 m:Int} {xs:List Int}
theorem mt1 (v1:(f0 == 2)=true) (v2:((xs.length:Int) == 1)=false):may_tail f0 xs f3 m=false:=by unfold may_tail;grind
theorem mt2 (v1:(f0 == 2)=true) (v2:((xs.length:Int) == 1)=true) (v3:decide (f3 ≥ 0)=false):may_tail f0 xs f3 m=false:=by unfold may_tail;grind
theorem mt3 (v1:(f0 == 2)=true) (v2:((xs.length:Int) == 1)=true) (v3:decide (f3 ≥ 0)=true):may_tail f0 xs f3 m=decide (f3 < m):=by unfold may_tail;grind
theorem mt4 (v1:(f0 == 2)=false) (v2:(f0 == 3)=true) (v3:((xs.length:Int) == 1)=false):may_tail f0 xs f3 m=false:=by unfold may_tail;grind
theorem mt5 (v1:(f0 == 2)=false) (v2:(f0 == 3)=true) (v3:((xs.length:Int) == 1)=true):may_tail f0 xs f3 m=(f3 == 0):=by unfold may_tail;grind
theorem mt6 (v1:(f0 == 2)=false) (v2:(f0 == 3)=false) (v3:(f0 == 4)=true):may_tail f0 xs f3 m=(f3 == 0):=by unfold may_tail;grind
theorem mt7 (v1:(f0 == 2)=false) (v2:(f0 == 3)=false) (v3:(f0 == 4)=false):may_tail f0 xs f3 m=false:=by unfold may_tail;grind
end
set_option maxHeartbeats 8000000 in
set_option maxRecDepth 100000 in
theorem circuit_may.calls (k:Nat) (a0_0:Int) (a0_1:Int) (A0_2:Option Addr) (c0_2:Nat) (l0_2:List Int) (a0_3:Int) (a0_4:Int) (a0_5:Int) (a1:Int) (a2:Int) (r:Bool) (w:World) (hr0_2:Kd.C (Kd.int .i64) w A0_2 l0_2.length l0_2) (hc0_2:l0_2.length≤c0_2) (h:circuit_may.f k a0_0 a0_1 l0_2 a0_3 a0_4 a0_5 a1 a2=some r) :
    Calls Try.prog 55 #[.agg #[.int .i64 a0_0,.int .i64 a0_1,.slice A0_2 l0_2.length c0_2,.int .i64 a0_3,.int .i64 a0_4,.int .i64 a0_5],.int .i64 a1,.int .i64 a2] w fun e w'=>e=.returned (.bool r)∧Below w.heap.size w w':=by
  have hu57:=Try.underlying57;have HL:=Qh hr0_2.2.1;have HR:=Qh hr0_2;have HC:=Qh hc0_2;have HB:=Qh (Below.refl w.heap.size w);clear hr0_2 hc0_2;unfold circuit_may.f at h
  by_cases c0:a0_0=1
  · rw [if_pos c0] at h
    obtain ⟨g,AG0,H⟩:=Option.bind_eq_some_iff.mp h;have AG:=Qh AG0;clear h AG0;obtain rfl:=Option.some.inj H;clear H;have b0:(a0_0 == 1)=true:=beq_iff_eq.mpr c0;have hcs:((a0_4 == -1)=true∧(a0_5 == 0)=true∧decide (a0_4 ≥ 0)=false)∨((a0_4 == -1)=true∧(a0_5 == 0)=false∧decide (a0_4 ≥ 0)=false)∨((a0_4 == -1)=false∧decide (a0_4 ≥ 0)=false)∨((a0_4 == -1)=false∧decide (a0_4 ≥ 0)=true∧decide (a0_4 < a2)=false)∨((a0_4 == -1)=false∧decide (a0_4 ≥ 0)=true∧decide (a0_4 < a2)=true∧(a0_5 == 0)=true)∨((a0_4 == -1)=false∧decide (a0_4 ≥ 0)=true∧decide (a0_4 < a2)=true∧(a0_5 == 0)=false∧(a0_5 == 1)=true)∨((a0_4 == -1)=false∧decide (a0_4 ≥ 0)=true∧decide (a0_4 < a2)=true∧(a0_5 == 0)=false∧(a0_5 == 1)=false):=by
      simp only [beq_iff_eq,decide_eq_true_eq,decide_eq_false_iff_not,beq_eq_false_iff_ne]
      omega
    have hg:(g == 0)=false∨((g == 0)=true∧(a0_3 == 0)=false)∨((g == 0)=true∧(a0_3 == 0)=true):=by
      simp only [beq_iff_eq,beq_eq_false_iff_ne]
      omega
    clear c0;rcases hcs with ⟨t1,t2,t3⟩ | ⟨t1,t2,t3⟩ | ⟨t1,t2⟩ | ⟨t1,t2,t3⟩ | ⟨t1,t2,t3,t4⟩ | ⟨t1,t2,t3,t4,t5⟩ | ⟨t1,t2,t3,t4,t5⟩<;>rcases hg with g1 | ⟨g1,g2⟩ | ⟨g1,g2⟩ <;>
      (go_enter Try.func55,Try.ntmps55
       go_wp2_with (first | (go_at_call 60;refine (gate_Check.calls k a0_1 A0_2 c0_2 l0_2 a1 g _ (Kd.C_alloc HR.out _) HC.out AG.out).mono ?_;rintro e w9 ⟨rfl,hb⟩;have HB9:=Qh (Qr (Qd HB.out _) hb);have BK:=Qh (Qq (blk_new w (.cells #[.int .i64 a0_0,.int .i64 a0_1,.slice A0_2 l0_2.length c0_2,.int .i64 a0_3,.int .i64 a0_4,.int .i64 a0_5] 57)) hb);clear hb;have y3:=(Qi BK.out 3).trans (rfl:_=some (Value.int .i64 a0_3))))
       go_ret
       refine ⟨?_,HB9.out⟩
       unfold may_gate
       simp only [beq_iff_eq,beq_eq_false_iff_ne,decide_eq_true_eq,decide_eq_false_iff_not] at *
       simp [*])
  · rw [if_neg c0] at h
    have b0:(a0_0 == 1)=false:=beq_eq_false_iff_ne.mpr c0;by_cases c1:a0_1≠0∨a0_4≠-1∨a0_5≠0∨(l0_2.length:Int)=0
    · rw [if_pos c1] at h
      obtain rfl:=Option.some.inj h;have hcs:((a0_1 != 0)=true)∨((a0_1 != 0)=false∧(a0_4 != -1)=true)∨((a0_1 != 0)=false∧(a0_4 != -1)=false∧(a0_5 != 0)=true)∨((a0_1 != 0)=false∧(a0_4 != -1)=false∧(a0_5 != 0)=false∧((l0_2.length:Int) == 0)=true):=by
        simp only [bne_iff_ne,bne_eq_false_iff_eq,beq_iff_eq]
        omega
      clear c0 c1 h;rcases hcs with t1 | ⟨t1,t2⟩ | ⟨t1,t2,t3⟩ | ⟨t1,t2,t3,t4⟩ <;>
        (go_enter Try.func55,Try.ntmps55
         go_wp2
         go_ret
         exact ⟨rfl,Qd HB.out _⟩)
    · rw [if_neg c1] at h
      obtain ⟨b,AB0,H⟩:=Option.bind_eq_some_iff.mp h;have t1:(a0_1 != 0)=false:=bne_eq_false_iff_eq.mpr (by omega);have t2:(a0_4 != -1)=false:=bne_eq_false_iff_eq.mpr (by omega);have t3:(a0_5 != 0)=false:=bne_eq_false_iff_eq.mpr (by omega);have t4:((l0_2.length:Int) == 0)=false:=beq_eq_false_iff_ne.mpr (by omega);obtain ⟨ad,eA,_⟩:=Kd.at_int HR.out 0 (by omega) (by omega);subst eA;have AB:=Qh AB0;have HH:=Qh H;clear c0 c1 h AB0 H;go_enter Try.func55,Try.ntmps55
      go_wp2_with (first | ((with_reducible refine gate_dst (N:=3) rfl ?_);refine box_event ?hg (N:=3) ?hd (cs:=#[.int .i64 a0_0,.int .i64 a0_1,.slice (some ad) l0_2.length c0_2,.int .i64 a0_3,.int .i64 a0_4,.int .i64 a0_5]) (t:=57) ?hr ?_;(case hd=>rfl);(case hg=>rfl);(case hr=>first | (go_simp;done) | (go_simp;rfl));intro gb hg w1 BK1 hb;have HB1:=Qh (Qr HB.out hb);replace BK1:=Qh BK1;clear HB;have HB:=HB1;clear HB1 hb hg;have z0:=(Qi BK1.out 0).trans (rfl:_=some (Value.int .i64 a0_0));have z1:=(Qi BK1.out 1).trans (rfl:_=some (Value.int .i64 a0_1));have z2:=(Qi BK1.out 2).trans (rfl:_=some (Value.slice (some ad) l0_2.length c0_2));have z3:=(Qi BK1.out 3).trans (rfl:_=some (Value.int .i64 a0_3));have z4:=(Qi BK1.out 4).trans (rfl:_=some (Value.int .i64 a0_4));have z5:=(Qi BK1.out 5).trans (rfl:_=some (Value.int .i64 a0_5))))
      clear z0 z1 z2 z3 z4 z5;go_loopg [81] (l0_2.length) (fun kq v81 w'=>∃ (i:Nat),v81=.int .i64 (i:Int)∧Aside0 (i + kq=l0_2.length)∧Aside0 (may_loop k a1 l0_2 kq (i:Int)=some b)∧Aside0 (w'.heap[gb]?=some (.cells #[.int .i64 a0_0,.int .i64 a0_1,.slice (some ad) l0_2.length c0_2,.int .i64 a0_3,.int .i64 a0_4,.int .i64 a0_5] 57 (0,0)))∧Aside0 (Below w.heap.size w w'))
      case atStart=>exact ⟨0,rfl,⟨by omega⟩,AB,BK1,HB⟩
      case round =>
        clear BK1 HB AB;obtain ⟨i,rfl,HX,AL,BK1,HB⟩:=hrel;have z0:=(Qi BK1.out 0).trans (rfl:_=some (Value.int .i64 a0_0));have z2:=(Qi BK1.out 2).trans (rfl:_=some (Value.slice (some ad) l0_2.length c0_2));have z3:=(Qi BK1.out 3).trans (rfl:_=some (Value.int .i64 a0_3));by_cases c1:i < l0_2.length
        · obtain ⟨g,rfl⟩:∃ g,gk=g + 1:=⟨gk - 1,by have:=HX.out;omega⟩
          have u1:decide ((i:Int) < (l0_2.length:Int))=true:=decide_eq_true (by omega);have u1':decide (i < l0_2.length)=true:=decide_eq_true c1;have AL':=AL.out;unfold may_loop at AL'
          obtain ⟨ad2,e2,y1⟩:=Kd.at_int (Qt HR.out HB.out) (i:Int) (by omega) (by omega)
          cases e2;have y1':=y1;rw [Int.toNat_natCast] at y1'
          have hw:wrap64 ((i:Int) + 1)=(i:Int) + 1:=by unfold wrap64;have:=HL.out;omega
          have hi0:decide ((i:Int)≤(l0_2.length:Int))=true:=decide_eq_true (by omega);have C1:=Qh c1;have C1':(i < l0_2.length)=True:=eq_true c1;have C1'':((i:Int) < (l0_2.length:Int))=True:=eq_true (by omega)
          by_cases c2:rd l0_2 i < 0
          · rw [if_pos c2] at AL'
            obtain rfl:=Option.some.inj AL';rw [if_neg (by decide)] at HH
            obtain rfl:=Option.some.inj HH.out;have u2:decide (rd l0_2 i < 0)=true:=decide_eq_true c2;clear c1 c2 AL AL';go_wp2
            go_ret
            exact ⟨rfl,HB.out⟩
          · rw [if_neg c2] at AL'
            have u2:decide (rd l0_2 i < 0)=false:=decide_eq_false c2;by_cases c3:rd l0_2 i ≥ a1
            · rw [if_pos c3] at AL'
              obtain rfl:=Option.some.inj AL';rw [if_neg (by decide)] at HH
              obtain rfl:=Option.some.inj HH.out;have u3:decide (rd l0_2 i ≥ a1)=true:=decide_eq_true c3;clear c1 c2 c3 AL AL';go_wp2
              go_ret
              exact ⟨rfl,HB.out⟩
            · rw [if_neg c3] at AL'
              have u3:decide (rd l0_2 i ≥ a1)=false:=decide_eq_false c3;obtain ⟨bb,AC0,AN⟩:=Option.bind_eq_some_iff.mp AL';have AC:=Qh AC0;obtain ⟨i0,hi1,_,hsz,_⟩:=info_parts info3;obtain ⟨hcut,hA,hCt⟩:=print_take_of (P:=Try.prog) (Value.int .i64) 0 25 3 .i64 Try.underlying25 hi1 hsz (some ad) c0_2 l0_2 (i:Int) (by omega) (by omega) HC.out;have HRt:=Qh (Kd.C_of_reads (h1:=fun _=>rfl) (hA _ (Kd.reads_of_C HR.out)));have HCt:=Qh hCt;clear c1 c2 c3 AL AL' AC0 hA hCt hi1 hsz;by_cases cb:bb=true
              · subst cb
                rw [if_pos rfl] at AN
                obtain rfl:=Option.some.inj AN;rw [if_neg (by decide)] at HH
                obtain rfl:=Option.some.inj HH.out;clear AN;go_wp2_with (first | (go_at_call 61;(refine calls_of_args (args':=#[.slice (some ad) (l0_2.take (i:Int).toNat).length c0_2,.int .i64 (rd l0_2 i)]) ?cargs ?_);(case cargs=>(have hy_:(l0_2.take (i:Int).toNat).length=i:=(by have:=C1.out;rw [List.length_take,Int.toNat_natCast];omega);have hy2_:min i l0_2.length=i:=(by have:=C1.out;omega);first | rfl | (simp only [hy_];done) | (simp [hy_,hy2_];done) | trace_state));refine (slices_Contains_int_int.calls k (some ad) c0_2 (l0_2.take (i:Int).toNat) (rd l0_2 i) true _ (Qt HRt.out HB.out) HCt.out AC.out).mono ?_;rintro e w9 ⟨rfl,hd⟩;have HB9:=Qh (Qr HB.out hd.below);clear hd))
                go_ret
                exact ⟨rfl,HB9.out⟩
              · replace cb:=Bool.eq_false_iff.mpr cb
                subst cb;rw [if_neg (by decide)] at AN
                have AN':=Qh (show may_loop k a1 l0_2 g ((i + 1:Nat):Int)=some b from AN);clear AN;go_wp2_with (first | (go_at_call 61;(refine calls_of_args (args':=#[.slice (some ad) (l0_2.take (i:Int).toNat).length c0_2,.int .i64 (rd l0_2 i)]) ?cargs ?_);(case cargs=>(have hy_:(l0_2.take (i:Int).toNat).length=i:=(by have:=C1.out;rw [List.length_take,Int.toNat_natCast];omega);have hy2_:min i l0_2.length=i:=(by have:=C1.out;omega);first | rfl | (simp only [hy_];done) | (simp [hy_,hy2_];done) | trace_state));refine (slices_Contains_int_int.calls k (some ad) c0_2 (l0_2.take (i:Int).toNat) (rd l0_2 i) false _ (Qt HRt.out HB.out) HCt.out AC.out).mono ?_;rintro e w9 ⟨rfl,hd⟩;have HB9:=Qh (Qr HB.out hd.below);have BK9:=Qh (Qq BK1.out hd.below);clear hd))
                go_roundg g
                case measure=>omega
                case rel=>exact ⟨i + 1,by go_num,⟨by have:=HX.out;omega⟩,AN',BK9,HB9⟩
        · have u1:decide ((i:Int) < (l0_2.length:Int))=false:=decide_eq_false (by omega)
          have u1':decide (i < l0_2.length)=false:=decide_eq_false c1;obtain rfl:gk=0:=by have:=HX.out;omega
          have AL':=AL.out;unfold may_loop at AL'
          obtain rfl:=Option.some.inj AL';rw [if_pos rfl] at HH
          obtain rfl:=Option.some.inj HH.out;have hts:((a0_0 == 2)=true∧((l0_2.length:Int) == 1)=false)∨((a0_0 == 2)=true∧((l0_2.length:Int) == 1)=true∧decide (a0_3 ≥ 0)=false)∨((a0_0 == 2)=true∧((l0_2.length:Int) == 1)=true∧decide (a0_3 ≥ 0)=true)∨((a0_0 == 2)=false∧(a0_0 == 3)=true∧((l0_2.length:Int) == 1)=false)∨((a0_0 == 2)=false∧(a0_0 == 3)=true∧((l0_2.length:Int) == 1)=true)∨((a0_0 == 2)=false∧(a0_0 == 3)=false∧(a0_0 == 4)=true)∨((a0_0 == 2)=false∧(a0_0 == 3)=false∧(a0_0 == 4)=false):=by
            simp only [beq_iff_eq,decide_eq_true_eq,decide_eq_false_iff_not,beq_eq_false_iff_ne]
            omega
          clear c1 HH AL AL';rcases hts with ⟨v1,v2⟩ | ⟨v1,v2,v3⟩ | ⟨v1,v2,v3⟩ | ⟨v1,v2,v3⟩ | ⟨v1,v2,v3⟩ | ⟨v1,v2,v3⟩ | ⟨v1,v2,v3⟩ <;>
            (go_wp2
             go_ret
             refine ⟨?_,HB.out⟩
             refine congrArg (fun b=>Ending.returned (Value.bool b)) ?_
             first | exact (mt1 v1 v2).symm | exact (mt2 v1 v2 v3).symm | exact (mt3 v1 v2 v3).symm | exact (mt4 v1 v2 v3).symm | exact (mt5 v1 v2 v3).symm | exact (mt6 v1 v2 v3).symm | exact (mt7 v1 v2 v3).symm)
mutual
def circuit_Check.j0:Nat→Bool→Int→Int→List (S57)→Option (Int × Int)
 | 0,_,_,_,_=>none
 | k + 1,x29,x21102000,x21102001,x21102002=>if x29=true then (some ((-1),80)) else (circuit_Check.l0 k x21102002 (x21102002.length:Int) 0 x21102000 x21102001 x21102002)
def circuit_Check.l0:Nat→List (S57)→Int→Int→Int→Int→List (S57)→Option (Int × Int)
 | 0,_,_,_,_,_,_=>none
 | k + 1,x31,x32,x33,x21102000,x21102001,x21102002=>if x33 < x32 then (if 0≤x33 then (if x33 < (x31.length:Int) then ((circuit_may.f k ((rd_T57 x31 x33).f0) ((rd_T57 x31 x33).f1) ((rd_T57 x31 x33).f2) ((rd_T57 x31 x33).f3) ((rd_T57 x31 x33).f4) ((rd_T57 x31 x33).f5) x21102000 x21102001).bind fun t21104=>(if t21104=true then (circuit_Check.l0 k x31 x32 (wrap64 (x33 + 1)) x21102000 x21102001 x21102002) else (some (x33,80)))) else (none)) else (none)) else (some (0,0))
end
def circuit_Check.f (k:Nat) (a0_0:Int) (a0_1:Int) (l0_2:List (S57)):Option (Int × Int):=if a0_0 < 0 then (circuit_Check.j0 k true a0_0 a0_1 l0_2) else (if a0_0 > 64 then (circuit_Check.j0 k true a0_0 a0_1 l0_2) else (if a0_1 < 0 then (circuit_Check.j0 k true a0_0 a0_1 l0_2) else (if a0_1 > 64 then (circuit_Check.j0 k true a0_0 a0_1 l0_2) else (circuit_Check.j0 k (decide ((l0_2.length:Int) > 4096)) a0_0 a0_1 l0_2))))
set_option maxHeartbeats 8000000 in
set_option maxRecDepth 100000 in
theorem circuit_Check.calls (k:Nat) (a0_0:Int) (a0_1:Int) (A0_2:Option Addr) (c0_2:Nat) (l0_2:List (S57)) (r1:Int) (r2:Int) (w:World) (hr0_2:Kd.C k57 w A0_2 l0_2.length l0_2) (hc0_2:l0_2.length≤c0_2) (h:circuit_Check.f k a0_0 a0_1 l0_2=some (r1,r2)) :
  Calls Try.prog 42 #[.agg #[.int .i64 a0_0,.int .i64 a0_1,.slice A0_2 l0_2.length c0_2]] w fun e w'=>e=.returned (.tuple #[.int .i64 r1,.int .i64 r2])∧Below w.heap.size w w':=by
 have hu24:=Try.underlying24;have hu57:=Try.underlying57;have HR0_2:=Qh hr0_2;have HC0_2:=Qh hc0_2;clear hr0_2 hc0_2;have HB:=Qh (Below.refl w.heap.size w);have H:(if a0_0 < 0 then (circuit_Check.j0 k true a0_0 a0_1 l0_2) else (if a0_0 > 64 then (circuit_Check.j0 k true a0_0 a0_1 l0_2) else (if a0_1 < 0 then (circuit_Check.j0 k true a0_0 a0_1 l0_2) else (if a0_1 > 64 then (circuit_Check.j0 k true a0_0 a0_1 l0_2) else (circuit_Check.j0 k (decide ((l0_2.length:Int) > 4096)) a0_0 a0_1 l0_2)))))=some (r1,r2):=h;clear h;have HC2:=Qh H;clear H;go_enter Try.func42,Try.ntmps42
 go_upto_region 1 with (first | ((with_reducible refine gate_dst (N:=1) rfl ?_);(try (refine gate_guard (by rfl) ?_;dsimp only));refine box_event ?hg (N:=1) ?hd (cs:=#[.int .i64 a0_0,.int .i64 a0_1,.slice A0_2 l0_2.length c0_2]) (t:=24) ?hr ?_;(case hd=>rfl);(case hg=>rfl);(case hr=>first | (go_simp;done) | (go_simp;rfl));intro b' hg w3 hbox hb;have n0_:=Qh (Qr (by repeat (first | (with_reducible first | exact HB.out | apply Qd | apply Qe | apply Qf) | exact HB.out)) hb);have n1_:=Qh (hbox);have n2_:=Qh ((by rw [hg];exact (Qs (by repeat (first | (with_reducible first | exact HB.out | apply Qd | apply Qe | apply Qf) | exact HB.out))):w.heap.size≤b'));have n3_:=Qh ((by rw [hg];exact (Qs (by repeat (first | (with_reducible first | exact HB.out | apply Qd | apply Qe | apply Qf) | exact HB.out))):w.heap.size≤b'));clear HB;have HB:=n0_;have a':=n1_;have cw':=n2_;have f':=n3_;clear n0_ n1_ n2_ n3_;clear hb hbox hg))
 (try simp only [Act.put,List.setIfInBounds_toArray,List.set_cons_zero,List.set_cons_succ])
 go_cut [29] (fun v29 wc=>∃ (kq:Nat) (x29_1:Bool),v29=.bool x29_1∧Aside0 (circuit_Check.j0 kq x29_1 a0_0 a0_1 l0_2=some (r1,r2))∧Aside0 (kq≤k)∧Aside0 (wc.heap[b']?=some (.cells #[.int .i64 a0_0,.int .i64 a0_1,(.slice A0_2 l0_2.length c0_2)] 24 (0,0)))∧Aside0 (Below w.heap.size w wc))
 case first =>
  have H:=HC2.out;clear HC2;by_cases c4:a0_0 < 0
  ·rw [if_pos c4] at H
   have c4b0:decide (a0_0 < 0)=true:=decide_eq_true c4;clear c4;(first | rw [c4b0] | (simp only [i64_w,i32_w];rw [c4b0]) | skip)
   have H':=Qh H;clear H;have bd':w3.cell? ⟨b',0,none⟩=some (.int .i64 a0_0):=(Qi a'.out 0).trans rfl;have bc':w3.cell? ⟨b',1,none⟩=some (.int .i64 a0_1):=(Qi a'.out 1).trans rfl;have bb':w3.cell? ⟨b',2,none⟩=some (.slice A0_2 l0_2.length c0_2):=(Qi a'.out 2).trans rfl;have au':=Qj a'.out 0;have at':=Qj a'.out 1;have as':=Qj a'.out 2;go_wp2
   go_meet
   case rel=>exact ⟨_,(true),(by first | rfl | (simp;done) | (simp [*];done)),H',⟨by first | omega | exact Nat.le_refl _⟩,⟨by (with_reducible repeat (first | refine Qa ?_ _ | refine Qb ?_ | refine Qc ?_ _));exact a'.out⟩,⟨by repeat (first | (with_reducible first | exact HB.out | apply Qd | apply Qe | apply Qf | refine Qg ?_ f'.out) | exact HB.out)⟩⟩
  ·rw [if_neg c4] at H
   have c4b0:decide (a0_0 < 0)=false:=decide_eq_false c4;clear c4;(first | rw [c4b0] | (simp only [i64_w,i32_w];rw [c4b0]) | skip)
   by_cases c6:a0_0 > 64
   ·rw [if_pos c6] at H
    have c6b0:decide (64 < a0_0)=true:=decide_eq_true c6;clear c6;have H':=Qh H;clear H;have ba':w3.cell? ⟨b',0,none⟩=some (.int .i64 a0_0):=(Qi a'.out 0).trans rfl;have az':w3.cell? ⟨b',1,none⟩=some (.int .i64 a0_1):=(Qi a'.out 1).trans rfl;have ay':w3.cell? ⟨b',2,none⟩=some (.slice A0_2 l0_2.length c0_2):=(Qi a'.out 2).trans rfl;have ar':=Qj a'.out 0;have aq':=Qj a'.out 1;have ap':=Qj a'.out 2;go_wp2
    go_meet
    case rel=>exact ⟨_,(true),(by first | rfl | (simp;done) | (simp [*];done)),H',⟨by first | omega | exact Nat.le_refl _⟩,⟨by (with_reducible repeat (first | refine Qa ?_ _ | refine Qb ?_ | refine Qc ?_ _));exact a'.out⟩,⟨by repeat (first | (with_reducible first | exact HB.out | apply Qd | apply Qe | apply Qf | refine Qg ?_ f'.out) | exact HB.out)⟩⟩
   ·rw [if_neg c6] at H
    have c6b0:decide (64 < a0_0)=false:=decide_eq_false c6;clear c6;by_cases c8:a0_1 < 0
    ·rw [if_pos c8] at H
     have c8b0:decide (a0_1 < 0)=true:=decide_eq_true c8;clear c8;have H':=Qh H;clear H;have ax':w3.cell? ⟨b',0,none⟩=some (.int .i64 a0_0):=(Qi a'.out 0).trans rfl;have aw':w3.cell? ⟨b',1,none⟩=some (.int .i64 a0_1):=(Qi a'.out 1).trans rfl;have av':w3.cell? ⟨b',2,none⟩=some (.slice A0_2 l0_2.length c0_2):=(Qi a'.out 2).trans rfl;have ao':=Qj a'.out 0;have an':=Qj a'.out 1;have am':=Qj a'.out 2;go_wp2
     go_meet
     case rel=>exact ⟨_,(true),(by first | rfl | (simp;done) | (simp [*];done)),H',⟨by first | omega | exact Nat.le_refl _⟩,⟨by (with_reducible repeat (first | refine Qa ?_ _ | refine Qb ?_ | refine Qc ?_ _));exact a'.out⟩,⟨by repeat (first | (with_reducible first | exact HB.out | apply Qd | apply Qe | apply Qf | refine Qg ?_ f'.out) | exact HB.out)⟩⟩
    ·rw [if_neg c8] at H
     have c8b0:decide (a0_1 < 0)=false:=decide_eq_false c8;clear c8;by_cases c10:a0_1 > 64
     ·rw [if_pos c10] at H
      have c10b0:decide (64 < a0_1)=true:=decide_eq_true c10;clear c10;have H':=Qh H;clear H;have ak':w3.cell? ⟨b',0,none⟩=some (.int .i64 a0_0):=(Qi a'.out 0).trans rfl;have aj':w3.cell? ⟨b',1,none⟩=some (.int .i64 a0_1):=(Qi a'.out 1).trans rfl;have ai':w3.cell? ⟨b',2,none⟩=some (.slice A0_2 l0_2.length c0_2):=(Qi a'.out 2).trans rfl;have ae':=Qj a'.out 0;have ad':=Qj a'.out 1;have ac':=Qj a'.out 2;go_wp2
      go_meet
      case rel=>exact ⟨_,(true),(by first | rfl | (simp;done) | (simp [*];done)),H',⟨by first | omega | exact Nat.le_refl _⟩,⟨by (with_reducible repeat (first | refine Qa ?_ _ | refine Qb ?_ | refine Qc ?_ _));exact a'.out⟩,⟨by repeat (first | (with_reducible first | exact HB.out | apply Qd | apply Qe | apply Qf | refine Qg ?_ f'.out) | exact HB.out)⟩⟩
     ·rw [if_neg c10] at H
      have c10b0:decide (64 < a0_1)=false:=decide_eq_false c10;clear c10;have H':=Qh H;clear H;have ah':w3.cell? ⟨b',0,none⟩=some (.int .i64 a0_0):=(Qi a'.out 0).trans rfl;have ag':w3.cell? ⟨b',1,none⟩=some (.int .i64 a0_1):=(Qi a'.out 1).trans rfl;have af':w3.cell? ⟨b',2,none⟩=some (.slice A0_2 l0_2.length c0_2):=(Qi a'.out 2).trans rfl;have ab':=Qj a'.out 0;have aa':=Qj a'.out 1;have z':=Qj a'.out 2;go_wp2
      go_meet
      case rel=>exact ⟨_,(decide ((l0_2.length:Int) > 4096)),(by first | rfl | (simp;done) | (simp [*];done)),H',⟨by first | omega | exact Nat.le_refl _⟩,⟨by (with_reducible repeat (first | refine Qa ?_ _ | refine Qb ?_ | refine Qc ?_ _));exact a'.out⟩,⟨by repeat (first | (with_reducible first | exact HB.out | apply Qd | apply Qe | apply Qf | refine Qg ?_ f'.out) | exact HB.out)⟩⟩
 case rest =>
  clear HC2;(try clear c1);(try clear p2);(try clear c4);(try clear c4b0);(try clear c6);(try clear c6b0);(try clear c8);(try clear c8b0);(try clear c10);(try clear c10b0);(try clear ak');(try clear aj');(try clear ai');(try clear ah');(try clear ag');(try clear af');(try clear bd');(try clear bc');(try clear bb');(try clear ba');(try clear az');(try clear ay');(try clear ax');(try clear aw');(try clear av');(try clear ae');(try clear ad');(try clear ac');(try clear ab');(try clear aa');(try clear z');(try clear au');(try clear at');(try clear as');(try clear ar');(try clear aq');(try clear ap');(try clear ao');(try clear an');(try clear am');obtain ⟨kq,x29_1,rfl,HA,HJ1,a',HB⟩:=hcut
  cases kq with
  | zero=>exact absurd HA.out (by simp [circuit_Check.j0])
  | succ kj1 =>
   have H:=HA.out;clear HA;simp only [circuit_Check.j0] at H;by_cases c13:x29_1=true
   ·subst c13
    have H1:(some ((-1),80))=some (r1,r2):=by rw [if_pos rfl] at H;exact H
    clear H;have H:=H1;clear H1;simp only [Option.some.injEq,Prod.mk.injEq] at H;obtain ⟨rfl,rfl⟩:=H;go_wp2
    go_ret2
    exact ⟨by first | rfl | (simp [errW_none,errW_some]<;>rfl) | (simp [*,errW_none,errW_some]<;>rfl),by repeat (first | (with_reducible first | exact HB.out | apply Qd | apply Qe | apply Qf | refine Qg ?_ f'.out) | exact HB.out)⟩
   ·replace c13:=Bool.eq_false_iff.mpr c13
    subst c13;have H1:(circuit_Check.l0 kj1 l0_2 (l0_2.length:Int) 0 a0_0 a0_1 l0_2)=some (r1,r2):=by rw [if_neg (show ¬ (false=true) by decide)] at H;exact H
    clear H;have H:=H1;clear H1;have H':=Qh H;clear H;have bj':wc.cell? ⟨b',0,none⟩=some (.int .i64 a0_0):=(Qi a'.out 0).trans rfl;have bi':wc.cell? ⟨b',1,none⟩=some (.int .i64 a0_1):=(Qi a'.out 1).trans rfl;have bh':wc.cell? ⟨b',2,none⟩=some (.slice A0_2 l0_2.length c0_2):=(Qi a'.out 2).trans rfl;have bg':=Qj a'.out 0;have bf':=Qj a'.out 1;have be':=Qj a'.out 2;go_wp2
    go_loopg [33] kj1 (fun kq v33 w'=>∃ (x33_2:Int),v33=.int .i64 x33_2∧Aside0 (circuit_Check.l0 kq l0_2 (l0_2.length:Int) x33_2 a0_0 a0_1 l0_2=some (r1,r2))∧Aside0 (kq≤kj1)∧Aside0 (w'.heap[b']?=some (.cells #[.int .i64 a0_0,.int .i64 a0_1,(.slice A0_2 l0_2.length c0_2)] 24 (0,0)))∧Aside0 (Below w.heap.size w w'))
    case atStart=>exact ⟨(0),(by first | rfl | (simp;done) | (simp [*];done)),H',⟨Nat.le_refl _⟩,⟨by (with_reducible repeat (first | refine Qa ?_ _ | refine Qb ?_ | refine Qc ?_ _));exact a'.out⟩,⟨by repeat (first | (with_reducible first | exact HB.out | apply Qd | apply Qe | apply Qf | refine Qg ?_ f'.out) | exact HB.out)⟩⟩
    case round =>
     clear H';(try clear c1);(try clear p2);(try clear c4);(try clear c4b0);(try clear c6);(try clear c6b0);(try clear c8);(try clear c8b0);(try clear c10);(try clear c10b0);(try clear c13);(try clear ak');(try clear aj');(try clear ai');(try clear ah');(try clear ag');(try clear af');(try clear bj');(try clear bi');(try clear bh');(try clear bd');(try clear bc');(try clear bb');(try clear ba');(try clear az');(try clear ay');(try clear ax');(try clear aw');(try clear av');(try clear ae');(try clear ad');(try clear ac');(try clear ab');(try clear aa');(try clear z');(try clear bg');(try clear bf');(try clear be');(try clear au');(try clear at');(try clear as');(try clear ar');(try clear aq');(try clear ap');(try clear ao');(try clear an');(try clear am');(try clear p2);obtain ⟨x33_2,rfl,HA,HK2,a',HB⟩:=hrel
     cases gk with
     | zero=>exact absurd HA.out (by simp [circuit_Check.l0])
     | succ k2 =>
      have H:=HA.out;clear HA;simp only [circuit_Check.l0] at H;by_cases c15:x33_2 < (l0_2.length:Int)
      ·rw [if_pos c15] at H
       have c15b0:decide (x33_2 < (l0_2.length:Int))=true:=decide_eq_true c15;clear c15;by_cases c16:0≤x33_2
       ·rw [if_pos c16] at H
        have c16b0:decide (0≤x33_2)=true:=decide_eq_true c16;clear c16;by_cases c17:x33_2 < (l0_2.length:Int)
        ·rw [if_pos c17] at H
         have c17b0:decide (x33_2 < (l0_2.length:Int))=true:=decide_eq_true c17;clear c17;replace H:=Option.bind_eq_some_iff.mp H;obtain ⟨al',bl',H⟩:=H;replace H:(if al'=true then (circuit_Check.l0 k2 l0_2 (l0_2.length:Int) (wrap64 (x33_2 + 1)) a0_0 a0_1 l0_2) else (some (x33_2,80)))=some (r1,r2):=H
         have A18:=Qh bl';clear bl';by_cases c19:al'=true
         ·subst c19
          have H1:(circuit_Check.l0 k2 l0_2 (l0_2.length:Int) (wrap64 (x33_2 + 1)) a0_0 a0_1 l0_2)=some (r1,r2):=by rw [if_pos rfl] at H;exact H
          clear H;have H:=H1;clear H1;have H':=Qh H;clear H;have u':0≤(x33_2:Int):=of_decide_eq_true (by first | (with_reducible assumption) | assumption);have t':x33_2 < (l0_2.length:Int):=of_decide_eq_true (by first | (with_reducible assumption) | assumption);obtain ⟨i',h',g',y',o',n',m',l',k',j',q',r'⟩:=at_T57 HR0_2.out x33_2 u' t'
          cases y'
          replace o':=(HB.out.cell (Qk w _ o')).trans o';replace n':=(HB.out.cell (Qk w _ n')).trans n';replace m':=(HB.out.cell (Qk w _ m')).trans m';replace l':=(HB.out.cell (Qk w _ l')).trans l';replace k':=(HB.out.cell (Qk w _ k')).trans k';replace j':=(HB.out.cell (Qk w _ j')).trans j';have v':=Qh r';have x':=Qh q';clear r' q';replace u':=eq_true u';replace t':=eq_true t';go_wp2_with (first | ((with_reducible refine gate_dst (N:=5) rfl ?_);(try (refine gate_guard (by rfl) ?_;dsimp only));refine box_event ?hg (N:=5) ?hd (cs:=#[.int .i64 0,.int .i64 0,.slice none 0 0,.int .i64 0,.int .i64 0,.int .i64 0]) (t:=57) ?hr ?_;(case hd=>rfl);(case hg=>rfl);(case hr=>first | (go_simp;done) | (go_simp;rfl));intro e' hg w20 hbox hb;have n0_:=Qh (Qq (g:=b') (o:=.cells #[.int .i64 a0_0,.int .i64 a0_1,.slice (some i') l0_2.length c0_2] 24 (0,0)) (by (with_reducible repeat (first | refine Qa ?_ _ | refine Qb ?_ | refine Qc ?_ _));exact a'.out) hb);have n1_:=Qh (Qr (by repeat (first | (with_reducible first | exact HB.out | apply Qd | apply Qe | apply Qf | refine Qg ?_ f'.out) | exact HB.out)) hb);have n2_:=Qh (hbox);have n3_:=Qh ((by rw [hg];exact (Qs (by repeat (first | (with_reducible first | exact HB.out | apply Qd | apply Qe | apply Qf | refine Qg ?_ f'.out) | exact HB.out))):w.heap.size≤e'));have n4_:=Qh ((by rw [hg];exact (Qs (by repeat (first | (with_reducible first | exact HB.out | apply Qd | apply Qe | apply Qf | refine Qg ?_ f'.out) | exact HB.out))):w.heap.size≤e'));have n5_:=Qh ((by rw [hg];exact Nat.ne_of_lt (blk_lt (g:=b') (o:=.cells #[.int .i64 a0_0,.int .i64 a0_1,.slice (some i') l0_2.length c0_2] 24 (0,0)) (by (with_reducible repeat (first | refine Qa ?_ _ | refine Qb ?_ | refine Qc ?_ _));exact a'.out)):b'≠e'));have n6_:=Qh ((by rw [hg];exact Nat.ne_of_gt (blk_lt (g:=b') (o:=.cells #[.int .i64 a0_0,.int .i64 a0_1,.slice (some i') l0_2.length c0_2] 24 (0,0)) (by (with_reducible repeat (first | refine Qa ?_ _ | refine Qb ?_ | refine Qc ?_ _));exact a'.out)):e'≠b'));clear a';clear HB;have a':=n0_;have HB:=n1_;have c':=n2_;have bk':=n3_;have p':=n4_;have d':=n5_;have s':=n6_;clear n0_ n1_ n2_ n3_ n4_ n5_ n6_;clear hb hbox hg;have da':=s'.out;have cy':=d'.out;have cv':w20.cell? ⟨e',0,none⟩=some (.int .i64 0):=(Qi c'.out 0).trans rfl;have cu':w20.cell? ⟨e',1,none⟩=some (.int .i64 0):=(Qi c'.out 1).trans rfl;have ct':w20.cell? ⟨e',2,none⟩=some (.slice none 0 0):=(Qi c'.out 2).trans rfl;have cs':w20.cell? ⟨e',3,none⟩=some (.int .i64 0):=(Qi c'.out 3).trans rfl;have cr':w20.cell? ⟨e',4,none⟩=some (.int .i64 0):=(Qi c'.out 4).trans rfl;have cq':w20.cell? ⟨e',5,none⟩=some (.int .i64 0):=(Qi c'.out 5).trans rfl;have cd':=Qj c'.out 0;have cc':=Qj c'.out 1;have cb':=Qj c'.out 2;have ca':=Qj c'.out 3;have bz':=Qj c'.out 4;have by':=Qj c'.out 5;have cp':w20.cell? ⟨b',0,none⟩=some (.int .i64 a0_0):=(Qi a'.out 0).trans rfl;have co':w20.cell? ⟨b',1,none⟩=some (.int .i64 a0_1):=(Qi a'.out 1).trans rfl;have cn':w20.cell? ⟨b',2,none⟩=some (.slice (some i') l0_2.length c0_2):=(Qi a'.out 2).trans rfl;have bx':=Qj a'.out 0;have bw':=Qj a'.out 1;have bv':=Qj a'.out 2) | ((with_reducible refine gate_callee (f:=55) rfl ?_);refine goesL_ (some 43) rfl rfl Try.func55 (by kernel_rfl) rfl #[.agg #[.int .i64 ((rd_T57 l0_2 x33_2).f0),.int .i64 ((rd_T57 l0_2 x33_2).f1),.slice h' ((rd_T57 l0_2 x33_2).f2).length g',.int .i64 ((rd_T57 l0_2 x33_2).f3),.int .i64 ((rd_T57 l0_2 x33_2).f4),.int .i64 ((rd_T57 l0_2 x33_2).f5)],.int .i64 a0_0,.int .i64 a0_1] rfl (by (try simp only [List.map_toArray,List.map_cons,List.map_nil]);first | done | rfl | (simp only [List.length_drop,List.length_take];rfl)) ?_;(with_reducible refine (circuit_may.calls k2 ((rd_T57 l0_2 x33_2).f0) ((rd_T57 l0_2 x33_2).f1) _ _ ((rd_T57 l0_2 x33_2).f2) ((rd_T57 l0_2 x33_2).f3) ((rd_T57 l0_2 x33_2).f4) ((rd_T57 l0_2 x33_2).f5) a0_0 a0_1 true _ ?side1 ?side2 A18.out).mono ?_);(case side1=>exact Qt v'.out (by repeat (first | (with_reducible first | exact HB.out | apply Qd | apply Qe | apply Qf | refine Qg ?_ f'.out | refine Qg ?_ p'.out) | exact HB.out)));(case side2=>exact x'.out);rintro e w24 ⟨rfl,hb⟩;refine ⟨_,rfl,?_⟩;have n0_:=Qh (Qq (g:=b') (o:=.cells #[.int .i64 a0_0,.int .i64 a0_1,.slice (some i') l0_2.length c0_2] 24 (0,0)) (by (with_reducible repeat (first | refine Qa ?_ _ | refine Qb ?_ | refine Qc ?_ _));refine blk_far ?_ d'.out _;(with_reducible repeat (first | refine Qa ?_ _ | refine Qb ?_ | refine Qc ?_ _));refine blk_far ?_ d'.out _;(with_reducible repeat (first | refine Qa ?_ _ | refine Qb ?_ | refine Qc ?_ _));refine blk_far ?_ d'.out _;(with_reducible repeat (first | refine Qa ?_ _ | refine Qb ?_ | refine Qc ?_ _));refine blk_far ?_ d'.out _;(with_reducible repeat (first | refine Qa ?_ _ | refine Qb ?_ | refine Qc ?_ _));refine blk_far ?_ d'.out _;(with_reducible repeat (first | refine Qa ?_ _ | refine Qb ?_ | refine Qc ?_ _));refine blk_far ?_ d'.out _;(with_reducible repeat (first | refine Qa ?_ _ | refine Qb ?_ | refine Qc ?_ _));exact a'.out) hb);have n1_:=Qh (Qq (g:=e') (o:=.cells #[.int .i64 ((rd_T57 l0_2 x33_2).f0),.int .i64 ((rd_T57 l0_2 x33_2).f1),.slice h' ((rd_T57 l0_2 x33_2).f2).length g',.int .i64 ((rd_T57 l0_2 x33_2).f3),.int .i64 ((rd_T57 l0_2 x33_2).f4),.int .i64 ((rd_T57 l0_2 x33_2).f5)] 57 (0,0)) (by (with_reducible repeat (first | refine Qa ?_ _ | refine Qb ?_ | refine Qc ?_ _));refine blk_put (cs:=#[.int .i64 ((rd_T57 l0_2 x33_2).f0),.int .i64 ((rd_T57 l0_2 x33_2).f1),.slice h' ((rd_T57 l0_2 x33_2).f2).length g',.int .i64 ((rd_T57 l0_2 x33_2).f3),.int .i64 ((rd_T57 l0_2 x33_2).f4),.int .i64 0]) ?_ 5 _ rfl;(with_reducible repeat (first | refine Qa ?_ _ | refine Qb ?_ | refine Qc ?_ _));refine blk_put (cs:=#[.int .i64 ((rd_T57 l0_2 x33_2).f0),.int .i64 ((rd_T57 l0_2 x33_2).f1),.slice h' ((rd_T57 l0_2 x33_2).f2).length g',.int .i64 ((rd_T57 l0_2 x33_2).f3),.int .i64 0,.int .i64 0]) ?_ 4 _ rfl;(with_reducible repeat (first | refine Qa ?_ _ | refine Qb ?_ | refine Qc ?_ _));refine blk_put (cs:=#[.int .i64 ((rd_T57 l0_2 x33_2).f0),.int .i64 ((rd_T57 l0_2 x33_2).f1),.slice h' ((rd_T57 l0_2 x33_2).f2).length g',.int .i64 0,.int .i64 0,.int .i64 0]) ?_ 3 _ rfl;(with_reducible repeat (first | refine Qa ?_ _ | refine Qb ?_ | refine Qc ?_ _));refine blk_put (cs:=#[.int .i64 ((rd_T57 l0_2 x33_2).f0),.int .i64 ((rd_T57 l0_2 x33_2).f1),.slice none 0 0,.int .i64 0,.int .i64 0,.int .i64 0]) ?_ 2 _ rfl;(with_reducible repeat (first | refine Qa ?_ _ | refine Qb ?_ | refine Qc ?_ _));refine blk_put (cs:=#[.int .i64 ((rd_T57 l0_2 x33_2).f0),.int .i64 0,.slice none 0 0,.int .i64 0,.int .i64 0,.int .i64 0]) ?_ 1 _ rfl;(with_reducible repeat (first | refine Qa ?_ _ | refine Qb ?_ | refine Qc ?_ _));refine blk_put (cs:=#[.int .i64 0,.int .i64 0,.slice none 0 0,.int .i64 0,.int .i64 0,.int .i64 0]) ?_ 0 _ rfl;(with_reducible repeat (first | refine Qa ?_ _ | refine Qb ?_ | refine Qc ?_ _));exact c'.out) hb);have n2_:=Qh (Qr (by repeat (first | (with_reducible first | exact HB.out | apply Qd | apply Qe | apply Qf | refine Qg ?_ f'.out | refine Qg ?_ p'.out) | exact HB.out)) hb);clear a';clear c';clear HB;have a':=n0_;have c':=n1_;have HB:=n2_;clear n0_ n1_ n2_;(try clear hb);(try clear hb2);(try clear hk);(try clear hi)))
          go_roundg k2
          case measure=>have:=HJ1.out;have:=HK2.out;omega
          case rel=>exact ⟨(wrap64 (x33_2 + 1)),(by first | rfl | (simp;done) | (simp [*];done)),H',⟨by have:=HJ1.out;have:=HK2.out;omega⟩,⟨by (with_reducible repeat (first | refine Qa ?_ _ | refine Qb ?_ | refine Qc ?_ _));exact a'.out⟩,⟨by repeat (first | (with_reducible first | exact HB.out | apply Qd | apply Qe | apply Qf | refine Qg ?_ f'.out | refine Qg ?_ p'.out) | exact HB.out)⟩⟩
         ·replace c19:=Bool.eq_false_iff.mpr c19
          subst c19;have H1:(some (x33_2,80))=some (r1,r2):=by rw [if_neg (show ¬ (false=true) by decide)] at H;exact H
          clear H;have H:=H1;clear H1;simp only [Option.some.injEq,Prod.mk.injEq] at H;obtain ⟨rfl,rfl⟩:=H;have u':0≤(x33_2:Int):=of_decide_eq_true (by first | (with_reducible assumption) | assumption);have t':x33_2 < (l0_2.length:Int):=of_decide_eq_true (by first | (with_reducible assumption) | assumption);obtain ⟨i',h',g',y',o',n',m',l',k',j',q',r'⟩:=at_T57 HR0_2.out x33_2 u' t'
          cases y'
          replace o':=(HB.out.cell (Qk w _ o')).trans o';replace n':=(HB.out.cell (Qk w _ n')).trans n';replace m':=(HB.out.cell (Qk w _ m')).trans m';replace l':=(HB.out.cell (Qk w _ l')).trans l';replace k':=(HB.out.cell (Qk w _ k')).trans k';replace j':=(HB.out.cell (Qk w _ j')).trans j';have v':=Qh r';have x':=Qh q';clear r' q';replace u':=eq_true u';replace t':=eq_true t';go_wp2_with (first | ((with_reducible refine gate_dst (N:=5) rfl ?_);(try (refine gate_guard (by rfl) ?_;dsimp only));refine box_event ?hg (N:=5) ?hd (cs:=#[.int .i64 0,.int .i64 0,.slice none 0 0,.int .i64 0,.int .i64 0,.int .i64 0]) (t:=57) ?hr ?_;(case hd=>rfl);(case hg=>rfl);(case hr=>first | (go_simp;done) | (go_simp;rfl));intro e' hg w25 hbox hb;have n0_:=Qh (Qq (g:=b') (o:=.cells #[.int .i64 a0_0,.int .i64 a0_1,.slice (some i') l0_2.length c0_2] 24 (0,0)) (by (with_reducible repeat (first | refine Qa ?_ _ | refine Qb ?_ | refine Qc ?_ _));exact a'.out) hb);have n1_:=Qh (Qr (by repeat (first | (with_reducible first | exact HB.out | apply Qd | apply Qe | apply Qf | refine Qg ?_ f'.out) | exact HB.out)) hb);have n2_:=Qh (hbox);have n3_:=Qh ((by rw [hg];exact (Qs (by repeat (first | (with_reducible first | exact HB.out | apply Qd | apply Qe | apply Qf | refine Qg ?_ f'.out) | exact HB.out))):w.heap.size≤e'));have n4_:=Qh ((by rw [hg];exact (Qs (by repeat (first | (with_reducible first | exact HB.out | apply Qd | apply Qe | apply Qf | refine Qg ?_ f'.out) | exact HB.out))):w.heap.size≤e'));have n5_:=Qh ((by rw [hg];exact Nat.ne_of_lt (blk_lt (g:=b') (o:=.cells #[.int .i64 a0_0,.int .i64 a0_1,.slice (some i') l0_2.length c0_2] 24 (0,0)) (by (with_reducible repeat (first | refine Qa ?_ _ | refine Qb ?_ | refine Qc ?_ _));exact a'.out)):b'≠e'));have n6_:=Qh ((by rw [hg];exact Nat.ne_of_gt (blk_lt (g:=b') (o:=.cells #[.int .i64 a0_0,.int .i64 a0_1,.slice (some i') l0_2.length c0_2] 24 (0,0)) (by (with_reducible repeat (first | refine Qa ?_ _ | refine Qb ?_ | refine Qc ?_ _));exact a'.out)):e'≠b'));clear a';clear HB;have a':=n0_;have HB:=n1_;have c':=n2_;have bk':=n3_;have p':=n4_;have d':=n5_;have s':=n6_;clear n0_ n1_ n2_ n3_ n4_ n5_ n6_;clear hb hbox hg;have cz':=s'.out;have cx':=d'.out;have cm':w25.cell? ⟨e',0,none⟩=some (.int .i64 0):=(Qi c'.out 0).trans rfl;have cl':w25.cell? ⟨e',1,none⟩=some (.int .i64 0):=(Qi c'.out 1).trans rfl;have ck':w25.cell? ⟨e',2,none⟩=some (.slice none 0 0):=(Qi c'.out 2).trans rfl;have cj':w25.cell? ⟨e',3,none⟩=some (.int .i64 0):=(Qi c'.out 3).trans rfl;have ci':w25.cell? ⟨e',4,none⟩=some (.int .i64 0):=(Qi c'.out 4).trans rfl;have ch':w25.cell? ⟨e',5,none⟩=some (.int .i64 0):=(Qi c'.out 5).trans rfl;have bu':=Qj c'.out 0;have bt':=Qj c'.out 1;have bs':=Qj c'.out 2;have br':=Qj c'.out 3;have bq':=Qj c'.out 4;have bp':=Qj c'.out 5;have cg':w25.cell? ⟨b',0,none⟩=some (.int .i64 a0_0):=(Qi a'.out 0).trans rfl;have cf':w25.cell? ⟨b',1,none⟩=some (.int .i64 a0_1):=(Qi a'.out 1).trans rfl;have ce':w25.cell? ⟨b',2,none⟩=some (.slice (some i') l0_2.length c0_2):=(Qi a'.out 2).trans rfl;have bo':=Qj a'.out 0;have bn':=Qj a'.out 1;have bm':=Qj a'.out 2) | ((with_reducible refine gate_callee (f:=55) rfl ?_);refine goesL_ (some 43) rfl rfl Try.func55 (by kernel_rfl) rfl #[.agg #[.int .i64 ((rd_T57 l0_2 x33_2).f0),.int .i64 ((rd_T57 l0_2 x33_2).f1),.slice h' ((rd_T57 l0_2 x33_2).f2).length g',.int .i64 ((rd_T57 l0_2 x33_2).f3),.int .i64 ((rd_T57 l0_2 x33_2).f4),.int .i64 ((rd_T57 l0_2 x33_2).f5)],.int .i64 a0_0,.int .i64 a0_1] rfl (by (try simp only [List.map_toArray,List.map_cons,List.map_nil]);first | done | rfl | (simp only [List.length_drop,List.length_take];rfl)) ?_;(with_reducible refine (circuit_may.calls k2 ((rd_T57 l0_2 x33_2).f0) ((rd_T57 l0_2 x33_2).f1) _ _ ((rd_T57 l0_2 x33_2).f2) ((rd_T57 l0_2 x33_2).f3) ((rd_T57 l0_2 x33_2).f4) ((rd_T57 l0_2 x33_2).f5) a0_0 a0_1 false _ ?side1 ?side2 A18.out).mono ?_);(case side1=>exact Qt v'.out (by repeat (first | (with_reducible first | exact HB.out | apply Qd | apply Qe | apply Qf | refine Qg ?_ f'.out | refine Qg ?_ p'.out) | exact HB.out)));(case side2=>exact x'.out);rintro e w29 ⟨rfl,hb⟩;refine ⟨_,rfl,?_⟩;have n0_:=Qh (Qq (g:=b') (o:=.cells #[.int .i64 a0_0,.int .i64 a0_1,.slice (some i') l0_2.length c0_2] 24 (0,0)) (by (with_reducible repeat (first | refine Qa ?_ _ | refine Qb ?_ | refine Qc ?_ _));refine blk_far ?_ d'.out _;(with_reducible repeat (first | refine Qa ?_ _ | refine Qb ?_ | refine Qc ?_ _));refine blk_far ?_ d'.out _;(with_reducible repeat (first | refine Qa ?_ _ | refine Qb ?_ | refine Qc ?_ _));refine blk_far ?_ d'.out _;(with_reducible repeat (first | refine Qa ?_ _ | refine Qb ?_ | refine Qc ?_ _));refine blk_far ?_ d'.out _;(with_reducible repeat (first | refine Qa ?_ _ | refine Qb ?_ | refine Qc ?_ _));refine blk_far ?_ d'.out _;(with_reducible repeat (first | refine Qa ?_ _ | refine Qb ?_ | refine Qc ?_ _));refine blk_far ?_ d'.out _;(with_reducible repeat (first | refine Qa ?_ _ | refine Qb ?_ | refine Qc ?_ _));exact a'.out) hb);have n1_:=Qh (Qq (g:=e') (o:=.cells #[.int .i64 ((rd_T57 l0_2 x33_2).f0),.int .i64 ((rd_T57 l0_2 x33_2).f1),.slice h' ((rd_T57 l0_2 x33_2).f2).length g',.int .i64 ((rd_T57 l0_2 x33_2).f3),.int .i64 ((rd_T57 l0_2 x33_2).f4),.int .i64 ((rd_T57 l0_2 x33_2).f5)] 57 (0,0)) (by (with_reducible repeat (first | refine Qa ?_ _ | refine Qb ?_ | refine Qc ?_ _));refine blk_put (cs:=#[.int .i64 ((rd_T57 l0_2 x33_2).f0),.int .i64 ((rd_T57 l0_2 x33_2).f1),.slice h' ((rd_T57 l0_2 x33_2).f2).length g',.int .i64 ((rd_T57 l0_2 x33_2).f3),.int .i64 ((rd_T57 l0_2 x33_2).f4),.int .i64 0]) ?_ 5 _ rfl;(with_reducible repeat (first | refine Qa ?_ _ | refine Qb ?_ | refine Qc ?_ _));refine blk_put (cs:=#[.int .i64 ((rd_T57 l0_2 x33_2).f0),.int .i64 ((rd_T57 l0_2 x33_2).f1),.slice h' ((rd_T57 l0_2 x33_2).f2).length g',.int .i64 ((rd_T57 l0_2 x33_2).f3),.int .i64 0,.int .i64 0]) ?_ 4 _ rfl;(with_reducible repeat (first | refine Qa ?_ _ | refine Qb ?_ | refine Qc ?_ _));refine blk_put (cs:=#[.int .i64 ((rd_T57 l0_2 x33_2).f0),.int .i64 ((rd_T57 l0_2 x33_2).f1),.slice h' ((rd_T57 l0_2 x33_2).f2).length g',.int .i64 0,.int .i64 0,.int .i64 0]) ?_ 3 _ rfl;(with_reducible repeat (first | refine Qa ?_ _ | refine Qb ?_ | refine Qc ?_ _));refine blk_put (cs:=#[.int .i64 ((rd_T57 l0_2 x33_2).f0),.int .i64 ((rd_T57 l0_2 x33_2).f1),.slice none 0 0,.int .i64 0,.int .i64 0,.int .i64 0]) ?_ 2 _ rfl;(with_reducible repeat (first | refine Qa ?_ _ | refine Qb ?_ | refine Qc ?_ _));refine blk_put (cs:=#[.int .i64 ((rd_T57 l0_2 x33_2).f0),.int .i64 0,.slice none 0 0,.int .i64 0,.int .i64 0,.int .i64 0]) ?_ 1 _ rfl;(with_reducible repeat (first | refine Qa ?_ _ | refine Qb ?_ | refine Qc ?_ _));refine blk_put (cs:=#[.int .i64 0,.int .i64 0,.slice none 0 0,.int .i64 0,.int .i64 0,.int .i64 0]) ?_ 0 _ rfl;(with_reducible repeat (first | refine Qa ?_ _ | refine Qb ?_ | refine Qc ?_ _));exact c'.out) hb);have n2_:=Qh (Qr (by repeat (first | (with_reducible first | exact HB.out | apply Qd | apply Qe | apply Qf | refine Qg ?_ f'.out | refine Qg ?_ p'.out) | exact HB.out)) hb);clear a';clear c';clear HB;have a':=n0_;have c':=n1_;have HB:=n2_;clear n0_ n1_ n2_;(try clear hb);(try clear hb2);(try clear hk);(try clear hi)))
          go_ret2
          exact ⟨by first | rfl | (simp [errW_none,errW_some]<;>rfl) | (simp [*,errW_none,errW_some]<;>rfl),by repeat (first | (with_reducible first | exact HB.out | apply Qd | apply Qe | apply Qf | refine Qg ?_ f'.out | refine Qg ?_ p'.out) | exact HB.out)⟩
        ·rw [if_neg c17] at H
         exact absurd H (by simp)
       ·rw [if_neg c16] at H
        exact absurd H (by simp)
      ·rw [if_neg c15] at H
       have c15b0:decide (x33_2 < (l0_2.length:Int))=false:=decide_eq_false c15;clear c15;simp only [Option.some.injEq,Prod.mk.injEq] at H;obtain ⟨rfl,rfl⟩:=H;go_wp2
       go_ret2
       exact ⟨by first | rfl | (simp [errW_none,errW_some]<;>rfl) | (simp [*,errW_none,errW_some]<;>rfl),by repeat (first | (with_reducible first | exact HB.out | apply Qd | apply Qe | apply Qf | refine Qg ?_ f'.out) | exact HB.out)⟩
def layers_checked.f (k:Nat) (a0_0:Int) (a0_1:Int) (l0_2:List (S57)):Option (Int):=(circuit_Check.f k a0_0 a0_1 l0_2).bind fun bt13102=>(if bt13102.2=0 then (some 0) else (some 80))
set_option maxHeartbeats 8000000 in
set_option maxRecDepth 100000 in
theorem layers_checked.calls (k:Nat) (a0_0:Int) (a0_1:Int) (A0_2:Option Addr) (c0_2:Nat) (l0_2:List (S57)) (r:Int) (w:World) (hr0_2:Kd.C k57 w A0_2 l0_2.length l0_2) (hc0_2:l0_2.length≤c0_2) (h:layers_checked.f k a0_0 a0_1 l0_2=some r) :
  Calls Try.prog 26 #[.agg #[.int .i64 a0_0,.int .i64 a0_1,.slice A0_2 l0_2.length c0_2]] w fun e w'=>e=.returned (.int .i64 r)∧Below w.heap.size w w':=by
 have hu24:=Try.underlying24;have HR0_2:=Qh hr0_2;have HC0_2:=Qh hc0_2;clear hr0_2 hc0_2;have HB:=Qh (Below.refl w.heap.size w);have H:((circuit_Check.f k a0_0 a0_1 l0_2).bind fun f'=>(if f'.2=0 then (some 0) else (some 80)))=some r:=h;clear h;replace H:=Option.bind_eq_some_iff.mp H;obtain ⟨⟨e',c'⟩,A20,H⟩:=H;replace H:(if c'=0 then (some 0) else (some 80))=some r:=H
 have A2:=Qh A20;clear A20;by_cases c3:c'=0
 ·rw [if_pos c3] at H
  have c3b0:(c' == 0)=true:=beq_iff_eq.mpr c3;have c3b1:(c' != 0)=false:=bne_eq_false_iff_eq.mpr c3;clear c3;obtain rfl:=Option.some.inj H;go_enter Try.func26,Try.ntmps26
  go_wp2_with (first | ((with_reducible refine gate_dst (N:=1) rfl ?_);refine box_event ?hg (N:=1) ?hd (cs:=#[.int .i64 a0_0,.int .i64 a0_1,.slice A0_2 l0_2.length c0_2]) (t:=24) ?hr ?_;(case hd=>rfl);(case hg=>rfl);(case hr=>first | (go_simp;done) | (go_simp;rfl));intro b' hg w4 hbox hb;have n0_:=Qh (Qr (by repeat (first | (with_reducible first | exact HB.out | apply Qd | apply Qe | apply Qf) | exact HB.out)) hb);have n1_:=Qh (hbox);have n2_:=Qh ((by rw [hg];exact (Qs (by repeat (first | (with_reducible first | exact HB.out | apply Qd | apply Qe | apply Qf) | exact HB.out))):w.heap.size≤b'));have n3_:=Qh ((by rw [hg];exact (Qs (by repeat (first | (with_reducible first | exact HB.out | apply Qd | apply Qe | apply Qf) | exact HB.out))):w.heap.size≤b'));clear HB;have HB:=n0_;have a':=n1_;have g':=n2_;have d':=n3_;clear n0_ n1_ n2_ n3_;clear hb hbox hg;have s':w4.cell? ⟨b',0,none⟩=some (.int .i64 a0_0):=(Qi a'.out 0).trans rfl;have r':w4.cell? ⟨b',1,none⟩=some (.int .i64 a0_1):=(Qi a'.out 1).trans rfl;have q':w4.cell? ⟨b',2,none⟩=some (.slice A0_2 l0_2.length c0_2):=(Qi a'.out 2).trans rfl;have m':=Qj a'.out 0;have l':=Qj a'.out 1;have k':=Qj a'.out 2) | ((with_reducible refine gate_callee (f:=42) rfl ?_);refine goesL_ (some 7) rfl rfl Try.func42 (by kernel_rfl) rfl #[.agg #[.int .i64 a0_0,.int .i64 a0_1,.slice A0_2 l0_2.length c0_2]] rfl (by (try simp only [List.map_toArray,List.map_cons,List.map_nil]);first | done | rfl | (simp only [List.length_drop,List.length_take];rfl)) ?_;(with_reducible refine (circuit_Check.calls k a0_0 a0_1 _ _ l0_2 e' c' _ ?side1 ?side2 A2.out).mono ?_);(case side1=>repeat (first | exact (Qt HR0_2.out HB.out) | (with_reducible refine Kd.C_alloc ?_ _) | (with_reducible refine Kd.C_drewN ?_ _) | (with_reducible refine Kd.C_drew ?_)));(case side2=>exact HC0_2.out);rintro e w6 ⟨rfl,hb⟩;refine ⟨_,rfl,?_⟩;have n0_:=Qh (Qq (g:=b') (o:=.cells #[.int .i64 a0_0,.int .i64 a0_1,.slice A0_2 l0_2.length c0_2] 24 (0,0)) (by (with_reducible repeat (first | refine Qa ?_ _ | refine Qb ?_ | refine Qc ?_ _));exact a'.out) hb);have n1_:=Qh (Qr (by repeat (first | (with_reducible first | exact HB.out | apply Qd | apply Qe | apply Qf | refine Qg ?_ d'.out) | exact HB.out)) hb);clear a';clear HB;have a':=n0_;have HB:=n1_;clear n0_ n1_;(try clear hb);(try clear hb2);(try clear hk);(try clear hi)))
  go_ret
  exact ⟨by first | rfl | (simp [errW_none,errW_some]<;>rfl) | (simp [*,errW_none,errW_some]<;>rfl),by repeat (first | (with_reducible first | exact HB.out | apply Qd | apply Qe | apply Qf | refine Qg ?_ d'.out) | exact HB.out)⟩
 ·rw [if_neg c3] at H
  have c3b0:(c' == 0)=false:=beq_eq_false_iff_ne.mpr c3;have c3b1:(c' != 0)=true:=bne_iff_ne.mpr c3;obtain rfl:=Option.some.inj H;go_enter Try.func26,Try.ntmps26
  go_wp2_with (first | ((with_reducible refine gate_dst (N:=1) rfl ?_);refine box_event ?hg (N:=1) ?hd (cs:=#[.int .i64 a0_0,.int .i64 a0_1,.slice A0_2 l0_2.length c0_2]) (t:=24) ?hr ?_;(case hd=>rfl);(case hg=>rfl);(case hr=>first | (go_simp;done) | (go_simp;rfl));intro b' hg w7 hbox hb;have n0_:=Qh (Qr (by repeat (first | (with_reducible first | exact HB.out | apply Qd | apply Qe | apply Qf) | exact HB.out)) hb);have n1_:=Qh (hbox);have n2_:=Qh ((by rw [hg];exact (Qs (by repeat (first | (with_reducible first | exact HB.out | apply Qd | apply Qe | apply Qf) | exact HB.out))):w.heap.size≤b'));have n3_:=Qh ((by rw [hg];exact (Qs (by repeat (first | (with_reducible first | exact HB.out | apply Qd | apply Qe | apply Qf) | exact HB.out))):w.heap.size≤b'));clear HB;have HB:=n0_;have a':=n1_;have g':=n2_;have d':=n3_;clear n0_ n1_ n2_ n3_;clear hb hbox hg;have p':w7.cell? ⟨b',0,none⟩=some (.int .i64 a0_0):=(Qi a'.out 0).trans rfl;have o':w7.cell? ⟨b',1,none⟩=some (.int .i64 a0_1):=(Qi a'.out 1).trans rfl;have n':w7.cell? ⟨b',2,none⟩=some (.slice A0_2 l0_2.length c0_2):=(Qi a'.out 2).trans rfl;have j':=Qj a'.out 0;have i':=Qj a'.out 1;have h':=Qj a'.out 2) | ((with_reducible refine gate_callee (f:=42) rfl ?_);refine goesL_ (some 7) rfl rfl Try.func42 (by kernel_rfl) rfl #[.agg #[.int .i64 a0_0,.int .i64 a0_1,.slice A0_2 l0_2.length c0_2]] rfl (by (try simp only [List.map_toArray,List.map_cons,List.map_nil]);first | done | rfl | (simp only [List.length_drop,List.length_take];rfl)) ?_;(with_reducible refine (circuit_Check.calls k a0_0 a0_1 _ _ l0_2 e' c' _ ?side1 ?side2 A2.out).mono ?_);(case side1=>repeat (first | exact (Qt HR0_2.out HB.out) | (with_reducible refine Kd.C_alloc ?_ _) | (with_reducible refine Kd.C_drewN ?_ _) | (with_reducible refine Kd.C_drew ?_)));(case side2=>exact HC0_2.out);rintro e w9 ⟨rfl,hb⟩;refine ⟨_,rfl,?_⟩;have n0_:=Qh (Qq (g:=b') (o:=.cells #[.int .i64 a0_0,.int .i64 a0_1,.slice A0_2 l0_2.length c0_2] 24 (0,0)) (by (with_reducible repeat (first | refine Qa ?_ _ | refine Qb ?_ | refine Qc ?_ _));exact a'.out) hb);have n1_:=Qh (Qr (by repeat (first | (with_reducible first | exact HB.out | apply Qd | apply Qe | apply Qf | refine Qg ?_ d'.out) | exact HB.out)) hb);clear a';clear HB;have a':=n0_;have HB:=n1_;clear n0_ n1_;(try clear hb);(try clear hb2);(try clear hk);(try clear hi)))
  go_ret
  exact ⟨by first | rfl | (simp [errW_none,errW_some]<;>rfl) | (simp [*,errW_none,errW_some]<;>rfl),by repeat (first | (with_reducible first | exact HB.out | apply Qd | apply Qe | apply Qf | refine Qg ?_ d'.out) | exact HB.out)⟩
def slices_Clone_int_int.f (l0:List Int):Option (List Int):=if l0.length < 17592186044416 then some l0 else none
set_option maxHeartbeats 1000000 in
set_option maxRecDepth 100000 in
theorem slices_Clone_int_int.calls (A0:Option Addr) (c0:Nat) (l0:List Int) (r:List Int) (w:World) (hr0:Kd.C (Kd.int .i64) w A0 l0.length l0) (hc0:l0.length≤c0) (h:slices_Clone_int_int.f l0=some r) :
  Calls Try.prog 46 #[.slice A0 l0.length c0] w fun e w'=>∃ v0_:Value,e=.returned v0_∧Kd.R (Kd.int .i64) 3 w' w.heap.size (fun _=>True) v0_ r∧Below w.heap.size w w':=by
 unfold slices_Clone_int_int.f at h
 by_cases hlt:l0.length < 17592186044416
 ·rw [if_pos hlt] at h
  obtain rfl:=Option.some.inj h;have hq:∀ W,(binOp .eql 25 (.slice A0 l0.length c0) (.slice none 0 0)).run Try.prog W=.ok (.bool A0.isNone) W:=fun W=>Lib.run_eql_slice_nil (P:=Try.prog) W 25 3 A0 l0.length c0 0 0 Try.underlying25
  have HR:=Lib.hid hr0;have HC:=Lib.hid hc0;have HB:=Lib.hid (Below.refl w.heap.size w);have HL:=Lib.hid hlt;clear hr0 hc0 hlt h
  cases A0 with
  | none =>
   have hl:l0=[]:=by
    cases l0 with
    | nil=>rfl
    | cons x l =>
     obtain ⟨ad,c,e,_⟩:=Kd.C_get HR.out (0:Int) 0 (by omega) (by simp);exact absurd e (by simp)
   subst hl;have hq:∀ W,(binOp .eql 25 (.slice none 0 c0) (.slice none 0 0)).run Try.prog W=.ok (.bool true) W:=fun W=>Lib.run_eql_slice_nil (P:=Try.prog) W 25 3 none 0 c0 0 0 Try.underlying25
   go_enter Try.func46,Try.ntmps46
   go_wp2
   go_ret
   exact ⟨_,rfl,Kd.R_nil _ _ _ _ _,Below.refl _ _⟩
  | some ad =>
   go_enter Try.func46,Try.ntmps46
   go_wp2_with (first | ((with_reducible refine gate_dst (N:=5) rfl ?_);refine Kd.R_lit (Kd.int .i64) _ 3 ?hg (N:=5) ?hd (xs:=([]:List Int)) (inner:=[]) (ok:=fun _=>True) (okp:=fun _=>True) ?hr ?hp (fun _ hk=>hk) trivial (Below.refl _ _) (Nat.le_refl _) (by simp) ?_;(case hd=>rfl);(case hg=>rfl);(case hr=>first | (go_simp;done) | (go_simp;rfl));(case hp=>exact (Reps.none _ _));intro v1 w1 ho hb hg_ hnew_;have HO:=Lib.hid ho;have HB1:=Lib.hid (below_then HB.out (Nat.le_refl _) hb);clear hg_ hnew_ ho hb) | ((with_reducible refine gate_builtin (b:=.append) (xs:=#[.tmp 5,.tmp 6]) rfl ?_);at_builtin;refine Kd.R_append_rows (Kd.int .i64) (w0:=w) w.heap.size rfl (.tmp 5) (.tmp 6) 25 3 (.int .i64 0) 8 rfl Try.underlying25 info3 rfl (by decide) (by omega) v1 ([]:List Int) l0 _ _ _ (fun _=>True) (fun _=>False) rfl rfl ?aO ?aR (fun _ _ h=>h) (fun _ h=>h.elim) ?aF ?aB ?aS ?aL ?_;(case aR=>exact Qt HR.out HB1.out);(case aB=>exact HB1.out);(case aF=>exact (fun _ _=>trivial));(case aO=>exact HO.out);(case aS=>exact HB1.out.size);(case aL=>have:=HL.out;simp;omega);intro v2 w2 ho hb hg hat;have HO2:=Lib.hid ho;have HB2:=Lib.hid hb;clear ho hb hg hat))
   go_ret
   exact ⟨_,rfl,HO2.out,HB2.out⟩
 ·rw [if_neg hlt] at h
  exact absurd h (by simp)
def layers_wires.f (a0_0:Int) (a0_1:Int) (l0_2:List Int) (a0_3:Int) (a0_4:Int) (a0_5:Int):Option (List Int):=(slices_Clone_int_int.f l0_2).bind fun t15602=>(if a0_0=2 then (if t15602.length < 17592186044416 then ((some (t15602 ++ [wrap64 (64 + a0_3)]:List Int)).bind fun y15605=>(if a0_4 ≥ 0 then (if y15605.length < 17592186044416 then (some (y15605 ++ [wrap64 (64 + a0_4)])) else (none)) else (some y15605))) else (none)) else (if a0_4 ≥ 0 then (if t15602.length < 17592186044416 then (some (t15602 ++ [wrap64 (64 + a0_4)])) else (none)) else (some t15602)))
set_option maxHeartbeats 8000000 in
set_option maxRecDepth 100000 in
theorem layers_wires.calls (a0_0:Int) (a0_1:Int) (A0_2:Option Addr) (c0_2:Nat) (l0_2:List Int) (a0_3:Int) (a0_4:Int) (a0_5:Int) (r:List Int) (w:World) (hr0_2:Kd.C (Kd.int .i64) w A0_2 l0_2.length l0_2) (hc0_2:l0_2.length≤c0_2) (h:layers_wires.f a0_0 a0_1 l0_2 a0_3 a0_4 a0_5=some r) :
  Calls Try.prog 31 #[.agg #[.int .i64 a0_0,.int .i64 a0_1,.slice A0_2 l0_2.length c0_2,.int .i64 a0_3,.int .i64 a0_4,.int .i64 a0_5]] w fun e w'=>∃ v0_:Value,e=.returned (v0_)∧Kd.R (Kd.int .i64) 3 w' w.heap.size (fun _=>True) v0_ r∧Below w.heap.size w w':=by
 have hu57:=Try.underlying57;have HR0_2:=Qh hr0_2;have HC0_2:=Qh hc0_2;clear hr0_2 hc0_2;have HB:=Qh (Below.refl w.heap.size w);have H:((slices_Clone_int_int.f l0_2).bind fun d'=>(if a0_0=2 then (if d'.length < 17592186044416 then ((some (d' ++ [wrap64 (64 + a0_3)]:List Int)).bind fun f'=>(if a0_4 ≥ 0 then (if f'.length < 17592186044416 then (some (f' ++ [wrap64 (64 + a0_4)])) else (none)) else (some f'))) else (none)) else (if a0_4 ≥ 0 then (if d'.length < 17592186044416 then (some (d' ++ [wrap64 (64 + a0_4)])) else (none)) else (some d'))))=some r:=h;clear h;replace H:=Option.bind_eq_some_iff.mp H;obtain ⟨d',A20,H⟩:=H;replace H:(if a0_0=2 then (if d'.length < 17592186044416 then ((some (d' ++ [wrap64 (64 + a0_3)]:List Int)).bind fun f'=>(if a0_4 ≥ 0 then (if f'.length < 17592186044416 then (some (f' ++ [wrap64 (64 + a0_4)])) else (none)) else (some f'))) else (none)) else (if a0_4 ≥ 0 then (if d'.length < 17592186044416 then (some (d' ++ [wrap64 (64 + a0_4)])) else (none)) else (some d')))=some r:=H
 have A2:=Qh A20;clear A20;by_cases c3:a0_0=2
 ·rw [if_pos c3] at H
  have c3b0:(a0_0 == 2)=true:=beq_iff_eq.mpr c3;have c3b1:(a0_0 != 2)=false:=bne_eq_false_iff_eq.mpr c3;clear c3;by_cases c4:d'.length < 17592186044416
  ·rw [if_pos c4] at H
   have u':=Qh c4;clear c4;obtain ⟨f',j'⟩:∃ y_:List Int,y_=(d' ++ [wrap64 (64 + a0_3)]):=⟨_,rfl⟩;replace H:(if a0_4 ≥ 0 then (if f'.length < 17592186044416 then (some (f' ++ [wrap64 (64 + a0_4)])) else (none)) else (some f'))=some r:=by first | (rw [j'];with_reducible exact H) | (have H2_:=(Option.bind_some _ _).symm.trans H;rw [j'];with_reducible exact H2_) | (have H2_:=(Option.bind_some _ _).symm.trans H;with_reducible exact H2_) | with_reducible exact H | (rw [j'];exact H) | exact H
   have m':=Qh j';clear j';by_cases c5:a0_4 ≥ 0
   ·rw [if_pos c5] at H
    have c5b0:decide (0≤a0_4)=true:=decide_eq_true c5;clear c5;by_cases c6:f'.length < 17592186044416
    ·rw [if_pos c6] at H
     have x':=Qh c6;clear c6;obtain ⟨t',i'⟩:∃ y_:List Int,y_=(f' ++ [wrap64 (64 + a0_4)]):=⟨_,rfl⟩;replace H:(some t')=some r:=by first | (rw [i'];with_reducible exact H) | (have H2_:=(Option.bind_some _ _).symm.trans H;rw [i'];with_reducible exact H2_) | (have H2_:=(Option.bind_some _ _).symm.trans H;with_reducible exact H2_) | with_reducible exact H | (rw [i'];exact H) | exact H
     have p':=Qh i';clear i';obtain rfl:=Option.some.inj H;go_enter Try.func31,Try.ntmps31
     go_wp2_with (first | ((with_reducible refine gate_dst (N:=1) rfl ?_);refine box_event ?hg (N:=1) ?hd (cs:=#[.int .i64 a0_0,.int .i64 a0_1,.slice A0_2 l0_2.length c0_2,.int .i64 a0_3,.int .i64 a0_4,.int .i64 a0_5]) (t:=57) ?hr ?_;(case hd=>rfl);(case hg=>rfl);(case hr=>first | (go_simp;done) | (go_simp;rfl));intro b' hg w7 hbox hb;have n0_:=Qh (Qr (by repeat (first | (with_reducible first | exact HB.out | apply Qd | apply Qe | apply Qf) | exact HB.out)) hb);have n1_:=Qh (hbox);have n2_:=Qh ((by rw [hg];exact (Qs (by repeat (first | (with_reducible first | exact HB.out | apply Qd | apply Qe | apply Qf) | exact HB.out))):w.heap.size≤b'));have n3_:=Qh ((by rw [hg];exact (Qs (by repeat (first | (with_reducible first | exact HB.out | apply Qd | apply Qe | apply Qf) | exact HB.out))):w.heap.size≤b'));clear HB;have HB:=n0_;have a':=n1_;have l':=n2_;have c':=n3_;clear n0_ n1_ n2_ n3_;clear hb hbox hg;have ep':w7.cell? ⟨b',0,none⟩=some (.int .i64 a0_0):=(Qi a'.out 0).trans rfl;have eo':w7.cell? ⟨b',1,none⟩=some (.int .i64 a0_1):=(Qi a'.out 1).trans rfl;have en':w7.cell? ⟨b',2,none⟩=some (.slice A0_2 l0_2.length c0_2):=(Qi a'.out 2).trans rfl;have em':w7.cell? ⟨b',3,none⟩=some (.int .i64 a0_3):=(Qi a'.out 3).trans rfl;have el':w7.cell? ⟨b',4,none⟩=some (.int .i64 a0_4):=(Qi a'.out 4).trans rfl;have ek':w7.cell? ⟨b',5,none⟩=some (.int .i64 a0_5):=(Qi a'.out 5).trans rfl;have ej':=Qj a'.out 0;have ei':=Qj a'.out 1;have eh':=Qj a'.out 2;have eg':=Qj a'.out 3;have ef':=Qj a'.out 4;have ee':=Qj a'.out 5) | ((with_reducible refine gate_callee (f:=46) rfl ?_);refine goesL_ (some 6) rfl rfl Try.func46 (by kernel_rfl) rfl #[.slice A0_2 l0_2.length c0_2] rfl (by (try simp only [List.map_toArray,List.map_cons,List.map_nil]);first | done | rfl | (simp only [List.length_drop,List.length_take];rfl)) ?_;(with_reducible refine (slices_Clone_int_int.calls _ _ l0_2 d' _ ?side1 ?side2 A2.out).mono ?_);(case side1=>repeat (first | exact (Qt HR0_2.out HB.out) | (with_reducible refine Kd.C_alloc ?_ _) | (with_reducible refine Kd.C_drewN ?_ _) | (with_reducible refine Kd.C_drew ?_)));(case side2=>exact HC0_2.out);rintro e w9 ⟨g',rfl,ho0,hb⟩;refine ⟨_,rfl,?_⟩;have n0_:=Qh (Kd.R_lower ho0 (Qs (by repeat (first | (with_reducible first | exact HB.out | apply Qd | apply Qe | apply Qf | refine Qg ?_ c'.out) | exact HB.out))));have n1_:=Qh (Qq (g:=b') (o:=.cells #[.int .i64 a0_0,.int .i64 a0_1,.slice A0_2 l0_2.length c0_2,.int .i64 a0_3,.int .i64 a0_4,.int .i64 a0_5] 57 (0,0)) (by (with_reducible repeat (first | refine Qa ?_ _ | refine Qb ?_ | refine Qc ?_ _));exact a'.out) hb);have n2_:=Qh (Qr (by repeat (first | (with_reducible first | exact HB.out | apply Qd | apply Qe | apply Qf | refine Qg ?_ c'.out) | exact HB.out)) hb);clear a';clear HB;have e':=n0_;have a':=n1_;have HB:=n2_;clear n0_ n1_ n2_;(try clear hb);(try clear hb2);(try clear hk);(try clear hi);(try clear ho0);have eb':w9.cell? ⟨b',0,none⟩=some (.int .i64 a0_0):=(Qi a'.out 0).trans rfl;have ea':w9.cell? ⟨b',1,none⟩=some (.int .i64 a0_1):=(Qi a'.out 1).trans rfl;have dz':w9.cell? ⟨b',2,none⟩=some (.slice A0_2 l0_2.length c0_2):=(Qi a'.out 2).trans rfl;have dy':w9.cell? ⟨b',3,none⟩=some (.int .i64 a0_3):=(Qi a'.out 3).trans rfl;have dx':w9.cell? ⟨b',4,none⟩=some (.int .i64 a0_4):=(Qi a'.out 4).trans rfl;have dw':w9.cell? ⟨b',5,none⟩=some (.int .i64 a0_5):=(Qi a'.out 5).trans rfl;have bz':=Qj a'.out 0;have by':=Qj a'.out 1;have bx':=Qj a'.out 2;have bw':=Qj a'.out 3;have bv':=Qj a'.out 4;have bu':=Qj a'.out 5) | ((with_reducible refine gate_builtin (b:=.append) (xs:=#[.tmp 10,.tmp 14]) rfl ?_);at_builtin;refine Kd.R_append (Kd.int .i64) (w0:=w) w.heap.size rfl (.tmp 10) (.tmp 14) 25 3 (.int .i64 0) 8 rfl Try.underlying25 info3 rfl (by decide) (by omega) g' d' (wrap64 (64 + a0_3)) [.int .i64 (wrap64 (64 + a0_3))] (fun _=>True) (fun _=>False) rfl rfl ?aP (fun _ hk=>hk.elim) ?aF ?aO ?aB ?aS ?aL ?_;(case aP=>exact rfl);(case aB=>exact (by repeat (first | (with_reducible first | exact HB.out | apply Qd | apply Qe | apply Qf | refine Qg ?_ c'.out) | exact HB.out)));(case aF=>exact (fun _ _=>trivial));(case aO=>exact (by (with_reducible repeat (first | apply Qv | apply Qw | apply Qx));exact e'.out));(case aS=>exact (Qs (by repeat (first | (with_reducible first | exact HB.out | apply Qd | apply Qe | apply Qf | refine Qg ?_ c'.out) | exact HB.out))));(case aL=>have:=u'.out;omega);intro n' w11 ho hb hg hat;rw [← m'.out] at ho;have n0_:=Qh (blk_grown (g:=b') (o:=.cells #[.int .i64 a0_0,.int .i64 a0_1,.slice A0_2 l0_2.length c0_2,.int .i64 a0_3,.int .i64 a0_4,.int .i64 a0_5] 57 (0,0)) (by (with_reducible repeat (first | refine Qa ?_ _ | refine Qb ?_ | refine Qc ?_ _));exact a'.out) hg (Kd.R_ne e'.out a'.out (by decide)));have n1_:=Qh (hb);have n2_:=Qh (ho);clear a';clear HB;clear e';have a':=n0_;have HB:=n1_;have k':=n2_;clear n0_ n1_ n2_;clear ho hb hg hat;have dv':w11.cell? ⟨b',0,none⟩=some (.int .i64 a0_0):=(Qi a'.out 0).trans rfl;have du':w11.cell? ⟨b',1,none⟩=some (.int .i64 a0_1):=(Qi a'.out 1).trans rfl;have dt':w11.cell? ⟨b',2,none⟩=some (.slice A0_2 l0_2.length c0_2):=(Qi a'.out 2).trans rfl;have ds':w11.cell? ⟨b',3,none⟩=some (.int .i64 a0_3):=(Qi a'.out 3).trans rfl;have dr':w11.cell? ⟨b',4,none⟩=some (.int .i64 a0_4):=(Qi a'.out 4).trans rfl;have dq':w11.cell? ⟨b',5,none⟩=some (.int .i64 a0_5):=(Qi a'.out 5).trans rfl;have bt':=Qj a'.out 0;have bs':=Qj a'.out 1;have br':=Qj a'.out 2;have bq':=Qj a'.out 3;have bp':=Qj a'.out 4;have bo':=Qj a'.out 5) | ((with_reducible refine gate_builtin (b:=.append) (xs:=#[.tmp 19,.tmp 23]) rfl ?_);at_builtin;refine Kd.R_append (Kd.int .i64) (w0:=w) w.heap.size rfl (.tmp 19) (.tmp 23) 25 3 (.int .i64 0) 8 rfl Try.underlying25 info3 rfl (by decide) (by omega) n' f' (wrap64 (64 + a0_4)) [.int .i64 (wrap64 (64 + a0_4))] (fun _=>True) (fun _=>False) rfl rfl ?aP (fun _ hk=>hk.elim) ?aF ?aO ?aB ?aS ?aL ?_;(case aP=>exact rfl);(case aB=>exact (by repeat (first | (with_reducible first | exact HB.out | apply Qd | apply Qe | apply Qf | refine Qg ?_ c'.out) | exact HB.out)));(case aF=>exact (fun _ _=>trivial));(case aO=>exact (by (with_reducible repeat (first | apply Qv | apply Qw | apply Qx));exact k'.out));(case aS=>exact (Qs (by repeat (first | (with_reducible first | exact HB.out | apply Qd | apply Qe | apply Qf | refine Qg ?_ c'.out) | exact HB.out))));(case aL=>have:=x'.out;omega);intro ed' w13 ho hb hg hat;rw [← p'.out] at ho;have n0_:=Qh (blk_grown (g:=b') (o:=.cells #[.int .i64 a0_0,.int .i64 a0_1,.slice A0_2 l0_2.length c0_2,.int .i64 a0_3,.int .i64 a0_4,.int .i64 a0_5] 57 (0,0)) (by (with_reducible repeat (first | refine Qa ?_ _ | refine Qb ?_ | refine Qc ?_ _));exact a'.out) hg (Kd.R_ne k'.out a'.out (by decide)));have n1_:=Qh (hb);have n2_:=Qh (ho);clear a';clear HB;clear k';have a':=n0_;have HB:=n1_;have r':=n2_;clear n0_ n1_ n2_;clear ho hb hg hat))
     go_ret
     exact ⟨_,by first | rfl | (simp [errW_none,errW_some]<;>rfl) | (simp [*,errW_none,errW_some]<;>rfl),by (with_reducible repeat (first | apply Qv | apply Qw | apply Qx));exact r'.out,by repeat (first | (with_reducible first | exact HB.out | apply Qd | apply Qe | apply Qf | refine Qg ?_ c'.out) | exact HB.out)⟩
    ·rw [if_neg c6] at H
     exact absurd H (by simp)
   ·rw [if_neg c5] at H
    have c5b0:decide (0≤a0_4)=false:=decide_eq_false c5;clear c5;obtain rfl:=Option.some.inj H;go_enter Try.func31,Try.ntmps31
    go_wp2_with (first | ((with_reducible refine gate_dst (N:=1) rfl ?_);refine box_event ?hg (N:=1) ?hd (cs:=#[.int .i64 a0_0,.int .i64 a0_1,.slice A0_2 l0_2.length c0_2,.int .i64 a0_3,.int .i64 a0_4,.int .i64 a0_5]) (t:=57) ?hr ?_;(case hd=>rfl);(case hg=>rfl);(case hr=>first | (go_simp;done) | (go_simp;rfl));intro b' hg w14 hbox hb;have n0_:=Qh (Qr (by repeat (first | (with_reducible first | exact HB.out | apply Qd | apply Qe | apply Qf) | exact HB.out)) hb);have n1_:=Qh (hbox);have n2_:=Qh ((by rw [hg];exact (Qs (by repeat (first | (with_reducible first | exact HB.out | apply Qd | apply Qe | apply Qf) | exact HB.out))):w.heap.size≤b'));have n3_:=Qh ((by rw [hg];exact (Qs (by repeat (first | (with_reducible first | exact HB.out | apply Qd | apply Qe | apply Qf) | exact HB.out))):w.heap.size≤b'));clear HB;have HB:=n0_;have a':=n1_;have l':=n2_;have c':=n3_;clear n0_ n1_ n2_ n3_;clear hb hbox hg;have dp':w14.cell? ⟨b',0,none⟩=some (.int .i64 a0_0):=(Qi a'.out 0).trans rfl;have do':w14.cell? ⟨b',1,none⟩=some (.int .i64 a0_1):=(Qi a'.out 1).trans rfl;have dn':w14.cell? ⟨b',2,none⟩=some (.slice A0_2 l0_2.length c0_2):=(Qi a'.out 2).trans rfl;have dm':w14.cell? ⟨b',3,none⟩=some (.int .i64 a0_3):=(Qi a'.out 3).trans rfl;have dl':w14.cell? ⟨b',4,none⟩=some (.int .i64 a0_4):=(Qi a'.out 4).trans rfl;have dk':w14.cell? ⟨b',5,none⟩=some (.int .i64 a0_5):=(Qi a'.out 5).trans rfl;have bn':=Qj a'.out 0;have bm':=Qj a'.out 1;have bl':=Qj a'.out 2;have bk':=Qj a'.out 3;have bj':=Qj a'.out 4;have bi':=Qj a'.out 5) | ((with_reducible refine gate_callee (f:=46) rfl ?_);refine goesL_ (some 6) rfl rfl Try.func46 (by kernel_rfl) rfl #[.slice A0_2 l0_2.length c0_2] rfl (by (try simp only [List.map_toArray,List.map_cons,List.map_nil]);first | done | rfl | (simp only [List.length_drop,List.length_take];rfl)) ?_;(with_reducible refine (slices_Clone_int_int.calls _ _ l0_2 d' _ ?side1 ?side2 A2.out).mono ?_);(case side1=>repeat (first | exact (Qt HR0_2.out HB.out) | (with_reducible refine Kd.C_alloc ?_ _) | (with_reducible refine Kd.C_drewN ?_ _) | (with_reducible refine Kd.C_drew ?_)));(case side2=>exact HC0_2.out);rintro e w16 ⟨g',rfl,ho0,hb⟩;refine ⟨_,rfl,?_⟩;have n0_:=Qh (Kd.R_lower ho0 (Qs (by repeat (first | (with_reducible first | exact HB.out | apply Qd | apply Qe | apply Qf | refine Qg ?_ c'.out) | exact HB.out))));have n1_:=Qh (Qq (g:=b') (o:=.cells #[.int .i64 a0_0,.int .i64 a0_1,.slice A0_2 l0_2.length c0_2,.int .i64 a0_3,.int .i64 a0_4,.int .i64 a0_5] 57 (0,0)) (by (with_reducible repeat (first | refine Qa ?_ _ | refine Qb ?_ | refine Qc ?_ _));exact a'.out) hb);have n2_:=Qh (Qr (by repeat (first | (with_reducible first | exact HB.out | apply Qd | apply Qe | apply Qf | refine Qg ?_ c'.out) | exact HB.out)) hb);clear a';clear HB;have e':=n0_;have a':=n1_;have HB:=n2_;clear n0_ n1_ n2_;(try clear hb);(try clear hb2);(try clear hk);(try clear hi);(try clear ho0);have dj':w16.cell? ⟨b',0,none⟩=some (.int .i64 a0_0):=(Qi a'.out 0).trans rfl;have di':w16.cell? ⟨b',1,none⟩=some (.int .i64 a0_1):=(Qi a'.out 1).trans rfl;have dh':w16.cell? ⟨b',2,none⟩=some (.slice A0_2 l0_2.length c0_2):=(Qi a'.out 2).trans rfl;have dg':w16.cell? ⟨b',3,none⟩=some (.int .i64 a0_3):=(Qi a'.out 3).trans rfl;have df':w16.cell? ⟨b',4,none⟩=some (.int .i64 a0_4):=(Qi a'.out 4).trans rfl;have de':w16.cell? ⟨b',5,none⟩=some (.int .i64 a0_5):=(Qi a'.out 5).trans rfl;have bh':=Qj a'.out 0;have bg':=Qj a'.out 1;have bf':=Qj a'.out 2;have be':=Qj a'.out 3;have bd':=Qj a'.out 4;have bc':=Qj a'.out 5) | ((with_reducible refine gate_builtin (b:=.append) (xs:=#[.tmp 10,.tmp 14]) rfl ?_);at_builtin;refine Kd.R_append (Kd.int .i64) (w0:=w) w.heap.size rfl (.tmp 10) (.tmp 14) 25 3 (.int .i64 0) 8 rfl Try.underlying25 info3 rfl (by decide) (by omega) g' d' (wrap64 (64 + a0_3)) [.int .i64 (wrap64 (64 + a0_3))] (fun _=>True) (fun _=>False) rfl rfl ?aP (fun _ hk=>hk.elim) ?aF ?aO ?aB ?aS ?aL ?_;(case aP=>exact rfl);(case aB=>exact (by repeat (first | (with_reducible first | exact HB.out | apply Qd | apply Qe | apply Qf | refine Qg ?_ c'.out) | exact HB.out)));(case aF=>exact (fun _ _=>trivial));(case aO=>exact (by (with_reducible repeat (first | apply Qv | apply Qw | apply Qx));exact e'.out));(case aS=>exact (Qs (by repeat (first | (with_reducible first | exact HB.out | apply Qd | apply Qe | apply Qf | refine Qg ?_ c'.out) | exact HB.out))));(case aL=>have:=u'.out;omega);intro n' w18 ho hb hg hat;rw [← m'.out] at ho;have n0_:=Qh (blk_grown (g:=b') (o:=.cells #[.int .i64 a0_0,.int .i64 a0_1,.slice A0_2 l0_2.length c0_2,.int .i64 a0_3,.int .i64 a0_4,.int .i64 a0_5] 57 (0,0)) (by (with_reducible repeat (first | refine Qa ?_ _ | refine Qb ?_ | refine Qc ?_ _));exact a'.out) hg (Kd.R_ne e'.out a'.out (by decide)));have n1_:=Qh (hb);have n2_:=Qh (ho);clear a';clear HB;clear e';have a':=n0_;have HB:=n1_;have k':=n2_;clear n0_ n1_ n2_;clear ho hb hg hat;have dd':w18.cell? ⟨b',0,none⟩=some (.int .i64 a0_0):=(Qi a'.out 0).trans rfl;have dc':w18.cell? ⟨b',1,none⟩=some (.int .i64 a0_1):=(Qi a'.out 1).trans rfl;have db':w18.cell? ⟨b',2,none⟩=some (.slice A0_2 l0_2.length c0_2):=(Qi a'.out 2).trans rfl;have da':w18.cell? ⟨b',3,none⟩=some (.int .i64 a0_3):=(Qi a'.out 3).trans rfl;have cz':w18.cell? ⟨b',4,none⟩=some (.int .i64 a0_4):=(Qi a'.out 4).trans rfl;have cy':w18.cell? ⟨b',5,none⟩=some (.int .i64 a0_5):=(Qi a'.out 5).trans rfl;have bb':=Qj a'.out 0;have ba':=Qj a'.out 1;have az':=Qj a'.out 2;have ay':=Qj a'.out 3;have ax':=Qj a'.out 4;have aw':=Qj a'.out 5))
    go_ret
    exact ⟨_,by first | rfl | (simp [errW_none,errW_some]<;>rfl) | (simp [*,errW_none,errW_some]<;>rfl),by (with_reducible repeat (first | apply Qv | apply Qw | apply Qx));exact k'.out,by repeat (first | (with_reducible first | exact HB.out | apply Qd | apply Qe | apply Qf | refine Qg ?_ c'.out) | exact HB.out)⟩
  ·rw [if_neg c4] at H
   exact absurd H (by simp)
 ·rw [if_neg c3] at H
  have c3b0:(a0_0 == 2)=false:=beq_eq_false_iff_ne.mpr c3;have c3b1:(a0_0 != 2)=true:=bne_iff_ne.mpr c3;by_cases c20:a0_4 ≥ 0
  ·rw [if_pos c20] at H
   have c20b0:decide (0≤a0_4)=true:=decide_eq_true c20;clear c20;by_cases c21:d'.length < 17592186044416
   ·rw [if_pos c21] at H
    have v':=Qh c21;clear c21;obtain ⟨s',h'⟩:∃ y_:List Int,y_=(d' ++ [wrap64 (64 + a0_4)]):=⟨_,rfl⟩;replace H:(some s')=some r:=by first | (rw [h'];with_reducible exact H) | (have H2_:=(Option.bind_some _ _).symm.trans H;rw [h'];with_reducible exact H2_) | (have H2_:=(Option.bind_some _ _).symm.trans H;with_reducible exact H2_) | with_reducible exact H | (rw [h'];exact H) | exact H
    have o':=Qh h';clear h';obtain rfl:=Option.some.inj H;go_enter Try.func31,Try.ntmps31
    go_wp2_with (first | ((with_reducible refine gate_dst (N:=1) rfl ?_);refine box_event ?hg (N:=1) ?hd (cs:=#[.int .i64 a0_0,.int .i64 a0_1,.slice A0_2 l0_2.length c0_2,.int .i64 a0_3,.int .i64 a0_4,.int .i64 a0_5]) (t:=57) ?hr ?_;(case hd=>rfl);(case hg=>rfl);(case hr=>first | (go_simp;done) | (go_simp;rfl));intro b' hg w22 hbox hb;have n0_:=Qh (Qr (by repeat (first | (with_reducible first | exact HB.out | apply Qd | apply Qe | apply Qf) | exact HB.out)) hb);have n1_:=Qh (hbox);have n2_:=Qh ((by rw [hg];exact (Qs (by repeat (first | (with_reducible first | exact HB.out | apply Qd | apply Qe | apply Qf) | exact HB.out))):w.heap.size≤b'));have n3_:=Qh ((by rw [hg];exact (Qs (by repeat (first | (with_reducible first | exact HB.out | apply Qd | apply Qe | apply Qf) | exact HB.out))):w.heap.size≤b'));clear HB;have HB:=n0_;have a':=n1_;have l':=n2_;have c':=n3_;clear n0_ n1_ n2_ n3_;clear hb hbox hg;have cx':w22.cell? ⟨b',0,none⟩=some (.int .i64 a0_0):=(Qi a'.out 0).trans rfl;have cw':w22.cell? ⟨b',1,none⟩=some (.int .i64 a0_1):=(Qi a'.out 1).trans rfl;have cv':w22.cell? ⟨b',2,none⟩=some (.slice A0_2 l0_2.length c0_2):=(Qi a'.out 2).trans rfl;have cu':w22.cell? ⟨b',3,none⟩=some (.int .i64 a0_3):=(Qi a'.out 3).trans rfl;have ct':w22.cell? ⟨b',4,none⟩=some (.int .i64 a0_4):=(Qi a'.out 4).trans rfl;have cs':w22.cell? ⟨b',5,none⟩=some (.int .i64 a0_5):=(Qi a'.out 5).trans rfl;have av':=Qj a'.out 0;have au':=Qj a'.out 1;have at':=Qj a'.out 2;have as':=Qj a'.out 3;have ar':=Qj a'.out 4;have aq':=Qj a'.out 5) | ((with_reducible refine gate_callee (f:=46) rfl ?_);refine goesL_ (some 6) rfl rfl Try.func46 (by kernel_rfl) rfl #[.slice A0_2 l0_2.length c0_2] rfl (by (try simp only [List.map_toArray,List.map_cons,List.map_nil]);first | done | rfl | (simp only [List.length_drop,List.length_take];rfl)) ?_;(with_reducible refine (slices_Clone_int_int.calls _ _ l0_2 d' _ ?side1 ?side2 A2.out).mono ?_);(case side1=>repeat (first | exact (Qt HR0_2.out HB.out) | (with_reducible refine Kd.C_alloc ?_ _) | (with_reducible refine Kd.C_drewN ?_ _) | (with_reducible refine Kd.C_drew ?_)));(case side2=>exact HC0_2.out);rintro e w24 ⟨g',rfl,ho0,hb⟩;refine ⟨_,rfl,?_⟩;have n0_:=Qh (Kd.R_lower ho0 (Qs (by repeat (first | (with_reducible first | exact HB.out | apply Qd | apply Qe | apply Qf | refine Qg ?_ c'.out) | exact HB.out))));have n1_:=Qh (Qq (g:=b') (o:=.cells #[.int .i64 a0_0,.int .i64 a0_1,.slice A0_2 l0_2.length c0_2,.int .i64 a0_3,.int .i64 a0_4,.int .i64 a0_5] 57 (0,0)) (by (with_reducible repeat (first | refine Qa ?_ _ | refine Qb ?_ | refine Qc ?_ _));exact a'.out) hb);have n2_:=Qh (Qr (by repeat (first | (with_reducible first | exact HB.out | apply Qd | apply Qe | apply Qf | refine Qg ?_ c'.out) | exact HB.out)) hb);clear a';clear HB;have e':=n0_;have a':=n1_;have HB:=n2_;clear n0_ n1_ n2_;(try clear hb);(try clear hb2);(try clear hk);(try clear hi);(try clear ho0);have cr':w24.cell? ⟨b',0,none⟩=some (.int .i64 a0_0):=(Qi a'.out 0).trans rfl;have cq':w24.cell? ⟨b',1,none⟩=some (.int .i64 a0_1):=(Qi a'.out 1).trans rfl;have cp':w24.cell? ⟨b',2,none⟩=some (.slice A0_2 l0_2.length c0_2):=(Qi a'.out 2).trans rfl;have co':w24.cell? ⟨b',3,none⟩=some (.int .i64 a0_3):=(Qi a'.out 3).trans rfl;have cn':w24.cell? ⟨b',4,none⟩=some (.int .i64 a0_4):=(Qi a'.out 4).trans rfl;have cm':w24.cell? ⟨b',5,none⟩=some (.int .i64 a0_5):=(Qi a'.out 5).trans rfl;have ap':=Qj a'.out 0;have ao':=Qj a'.out 1;have an':=Qj a'.out 2;have am':=Qj a'.out 3;have al':=Qj a'.out 4;have ak':=Qj a'.out 5) | ((with_reducible refine gate_builtin (b:=.append) (xs:=#[.tmp 19,.tmp 23]) rfl ?_);at_builtin;refine Kd.R_append (Kd.int .i64) (w0:=w) w.heap.size rfl (.tmp 19) (.tmp 23) 25 3 (.int .i64 0) 8 rfl Try.underlying25 info3 rfl (by decide) (by omega) g' d' (wrap64 (64 + a0_4)) [.int .i64 (wrap64 (64 + a0_4))] (fun _=>True) (fun _=>False) rfl rfl ?aP (fun _ hk=>hk.elim) ?aF ?aO ?aB ?aS ?aL ?_;(case aP=>exact rfl);(case aB=>exact (by repeat (first | (with_reducible first | exact HB.out | apply Qd | apply Qe | apply Qf | refine Qg ?_ c'.out) | exact HB.out)));(case aF=>exact (fun _ _=>trivial));(case aO=>exact (by (with_reducible repeat (first | apply Qv | apply Qw | apply Qx));exact e'.out));(case aS=>exact (Qs (by repeat (first | (with_reducible first | exact HB.out | apply Qd | apply Qe | apply Qf | refine Qg ?_ c'.out) | exact HB.out))));(case aL=>have:=v'.out;omega);intro ec' w26 ho hb hg hat;rw [← o'.out] at ho;have n0_:=Qh (blk_grown (g:=b') (o:=.cells #[.int .i64 a0_0,.int .i64 a0_1,.slice A0_2 l0_2.length c0_2,.int .i64 a0_3,.int .i64 a0_4,.int .i64 a0_5] 57 (0,0)) (by (with_reducible repeat (first | refine Qa ?_ _ | refine Qb ?_ | refine Qc ?_ _));exact a'.out) hg (Kd.R_ne e'.out a'.out (by decide)));have n1_:=Qh (hb);have n2_:=Qh (ho);clear a';clear HB;clear e';have a':=n0_;have HB:=n1_;have q':=n2_;clear n0_ n1_ n2_;clear ho hb hg hat))
    go_ret
    exact ⟨_,by first | rfl | (simp [errW_none,errW_some]<;>rfl) | (simp [*,errW_none,errW_some]<;>rfl),by (with_reducible repeat (first | apply Qv | apply Qw | apply Qx));exact q'.out,by repeat (first | (with_reducible first | exact HB.out | apply Qd | apply Qe | apply Qf | refine Qg ?_ c'.out) | exact HB.out)⟩
   ·rw [if_neg c21] at H
    exact absurd H (by simp)
  ·rw [if_neg c20] at H
   have c20b0:decide (0≤a0_4)=false:=decide_eq_false c20;clear c20;obtain rfl:=Option.some.inj H;go_enter Try.func31,Try.ntmps31
   go_wp2_with (first | ((with_reducible refine gate_dst (N:=1) rfl ?_);refine box_event ?hg (N:=1) ?hd (cs:=#[.int .i64 a0_0,.int .i64 a0_1,.slice A0_2 l0_2.length c0_2,.int .i64 a0_3,.int .i64 a0_4,.int .i64 a0_5]) (t:=57) ?hr ?_;(case hd=>rfl);(case hg=>rfl);(case hr=>first | (go_simp;done) | (go_simp;rfl));intro b' hg w27 hbox hb;have n0_:=Qh (Qr (by repeat (first | (with_reducible first | exact HB.out | apply Qd | apply Qe | apply Qf) | exact HB.out)) hb);have n1_:=Qh (hbox);have n2_:=Qh ((by rw [hg];exact (Qs (by repeat (first | (with_reducible first | exact HB.out | apply Qd | apply Qe | apply Qf) | exact HB.out))):w.heap.size≤b'));have n3_:=Qh ((by rw [hg];exact (Qs (by repeat (first | (with_reducible first | exact HB.out | apply Qd | apply Qe | apply Qf) | exact HB.out))):w.heap.size≤b'));clear HB;have HB:=n0_;have a':=n1_;have l':=n2_;have c':=n3_;clear n0_ n1_ n2_ n3_;clear hb hbox hg;have cl':w27.cell? ⟨b',0,none⟩=some (.int .i64 a0_0):=(Qi a'.out 0).trans rfl;have ck':w27.cell? ⟨b',1,none⟩=some (.int .i64 a0_1):=(Qi a'.out 1).trans rfl;have cj':w27.cell? ⟨b',2,none⟩=some (.slice A0_2 l0_2.length c0_2):=(Qi a'.out 2).trans rfl;have ci':w27.cell? ⟨b',3,none⟩=some (.int .i64 a0_3):=(Qi a'.out 3).trans rfl;have ch':w27.cell? ⟨b',4,none⟩=some (.int .i64 a0_4):=(Qi a'.out 4).trans rfl;have cg':w27.cell? ⟨b',5,none⟩=some (.int .i64 a0_5):=(Qi a'.out 5).trans rfl;have aj':=Qj a'.out 0;have ai':=Qj a'.out 1;have ah':=Qj a'.out 2;have ag':=Qj a'.out 3;have af':=Qj a'.out 4;have ae':=Qj a'.out 5) | ((with_reducible refine gate_callee (f:=46) rfl ?_);refine goesL_ (some 6) rfl rfl Try.func46 (by kernel_rfl) rfl #[.slice A0_2 l0_2.length c0_2] rfl (by (try simp only [List.map_toArray,List.map_cons,List.map_nil]);first | done | rfl | (simp only [List.length_drop,List.length_take];rfl)) ?_;(with_reducible refine (slices_Clone_int_int.calls _ _ l0_2 d' _ ?side1 ?side2 A2.out).mono ?_);(case side1=>repeat (first | exact (Qt HR0_2.out HB.out) | (with_reducible refine Kd.C_alloc ?_ _) | (with_reducible refine Kd.C_drewN ?_ _) | (with_reducible refine Kd.C_drew ?_)));(case side2=>exact HC0_2.out);rintro e w29 ⟨g',rfl,ho0,hb⟩;refine ⟨_,rfl,?_⟩;have n0_:=Qh (Kd.R_lower ho0 (Qs (by repeat (first | (with_reducible first | exact HB.out | apply Qd | apply Qe | apply Qf | refine Qg ?_ c'.out) | exact HB.out))));have n1_:=Qh (Qq (g:=b') (o:=.cells #[.int .i64 a0_0,.int .i64 a0_1,.slice A0_2 l0_2.length c0_2,.int .i64 a0_3,.int .i64 a0_4,.int .i64 a0_5] 57 (0,0)) (by (with_reducible repeat (first | refine Qa ?_ _ | refine Qb ?_ | refine Qc ?_ _));exact a'.out) hb);have n2_:=Qh (Qr (by repeat (first | (with_reducible first | exact HB.out | apply Qd | apply Qe | apply Qf | refine Qg ?_ c'.out) | exact HB.out)) hb);clear a';clear HB;have e':=n0_;have a':=n1_;have HB:=n2_;clear n0_ n1_ n2_;(try clear hb);(try clear hb2);(try clear hk);(try clear hi);(try clear ho0);have cf':w29.cell? ⟨b',0,none⟩=some (.int .i64 a0_0):=(Qi a'.out 0).trans rfl;have ce':w29.cell? ⟨b',1,none⟩=some (.int .i64 a0_1):=(Qi a'.out 1).trans rfl;have cd':w29.cell? ⟨b',2,none⟩=some (.slice A0_2 l0_2.length c0_2):=(Qi a'.out 2).trans rfl;have cc':w29.cell? ⟨b',3,none⟩=some (.int .i64 a0_3):=(Qi a'.out 3).trans rfl;have cb':w29.cell? ⟨b',4,none⟩=some (.int .i64 a0_4):=(Qi a'.out 4).trans rfl;have ca':w29.cell? ⟨b',5,none⟩=some (.int .i64 a0_5):=(Qi a'.out 5).trans rfl;have ad':=Qj a'.out 0;have ac':=Qj a'.out 1;have ab':=Qj a'.out 2;have aa':=Qj a'.out 3;have z':=Qj a'.out 4;have y':=Qj a'.out 5))
   go_ret
   exact ⟨_,by first | rfl | (simp [errW_none,errW_some]<;>rfl) | (simp [*,errW_none,errW_some]<;>rfl),by (with_reducible repeat (first | apply Qv | apply Qw | apply Qx));exact e'.out,by repeat (first | (with_reducible first | exact HB.out | apply Qd | apply Qe | apply Qf | refine Qg ?_ c'.out) | exact HB.out)⟩
def wire_max (last:List Int):Int→List Int→Option Int
 | m,[]=>some m
 | m,w :: ws=>if 0≤w∧w < 128 then wire_max last (mx m (rd last w)) ws else none
def wire_set (m:Int):List Int→List Int→Option (List Int)
 | last,[]=>some last
 | last,w :: ws=>if 0≤w∧w < 128 then wire_set m (last.set w.toNat m) ws else none
def early_m (o:S57) (m:Int):Int:=if o.f0=4 then m else wrap64 (m + 1)
def early_go:List Int→List Int→List S57→Option (List Int)
 | _,out,[]=>some out
 | last,out,o :: os=>(layers_wires.f o.f0 o.f1 o.f2 o.f3 o.f4 o.f5).bind fun ws=>(wire_max last 0 ws).bind fun m=>(wire_set (early_m o m) last ws).bind fun last' =>
  if out.length < 17592186044416 then early_go last' (out ++ [early_m o m]) os else none
def layers_early.f (a0_0:Int) (a0_1:Int) (l0_2:List S57):Option (List Int):=early_go (List.replicate 128 0) [] l0_2
theorem h_drop57 {l:List S57} {x:Int} (h0:0≤x) (h:x < l.length):l.drop x.toNat=rd_T57 l x :: l.drop (x + 1).toNat:=by
 have h1:x.toNat < l.length:=by omega
 rw [List.drop_eq_getElem_cons h1,show (x + 1).toNat=x.toNat + 1 by omega]
 unfold rd_T57
 rw [List.getD_eq_getElem?_getD,List.getElem?_eq_getElem h1]
 rfl
theorem h_drop {l:List Int} {x:Int} (h0:0≤x) (h:x < l.length):l.drop x.toNat=rd l x :: l.drop (x + 1).toNat:=by
 have h1:x.toNat < l.length:=by omega
 rw [List.drop_eq_getElem_cons h1,show (x + 1).toNat=x.toNat + 1 by omega]
 unfold rd
 rw [List.getD_eq_getElem?_getD,List.getElem?_eq_getElem h1]
 rfl
theorem h_end {α:Type} {l:List α} {x:Int} (h:¬ x < l.length):l.drop x.toNat=[]:=List.drop_of_length_le (by omega)
theorem h_w1 {x:Int} {n:Nat} (h0:0≤x) (h:x < n) (hn:n≤9223372036854775807):wrap64 (x + 1)=x + 1:=by unfold wrap64;omega
set_option maxHeartbeats 8000000 in
set_option maxRecDepth 100000 in
theorem layers_early.calls (a0_0:Int) (a0_1:Int) (A0_2:Option Addr) (c0_2:Nat) (l0_2:List (S57)) (r:List Int) (w:World) (hr0_2:Kd.C k57 w A0_2 l0_2.length l0_2) (hc0_2:l0_2.length≤c0_2) (h:layers_early.f a0_0 a0_1 l0_2=some r) :
  Calls Try.prog 27 #[.agg #[.int .i64 a0_0,.int .i64 a0_1,.slice A0_2 l0_2.length c0_2]] w fun e w'=>∃ v0_:Value,e=.returned v0_∧Kd.R (Kd.int .i64) 3 w' w.heap.size (fun _=>True) v0_ r∧Below w.heap.size w w':=by
 have hu24:=Try.underlying24;have hu57:=Try.underlying57;have HM:=Qh hr0_2.2.1;have HR:=Qh hr0_2;have HC:=Qh hc0_2;have HB:=Qh (Below.refl w.heap.size w);have H':=Qh (show early_go (List.replicate 128 0) [] l0_2=some r from h);clear hr0_2 hc0_2 h;go_enter Try.func27,Try.ntmps27
 go_wp2_with (first
  | ((with_reducible refine gate_dst (N:=1) rfl ?_);refine box_event ?hg (N:=1) ?hd (cs:=#[.int .i64 a0_0,.int .i64 a0_1,.slice A0_2 l0_2.length c0_2]) (t:=24) ?hr ?_;(case hd=>rfl);(case hg=>rfl);(case hr=>first | (go_simp;done) | (go_simp;rfl));intro gb1 hg w1 BK1 hb;have G1:=Qh (show w.heap.size≤gb1 by rw [hg];exact Nat.le_refl _);have HB1:=Qh (Qr HB.out hb);replace BK1:=Qh BK1;clear HB;have HB:=HB1;clear HB1 hb hg)
  | ((with_reducible refine gate_dst (N:=3) rfl ?_);refine box_event ?hg (N:=3) ?hd (cs:=Try.zeroCells63) (t:=63) ?hr ?_;(case hd=>rfl);(case hg=>rfl);(case hr=>first | (go_simp;done) | (go_simp;rfl));intro gb3 hg w3 BK3 hb;have G3:=Qh (show w.heap.size≤gb3 by rw [hg];exact HB.out.size);have N13:=Qh (show gb1≠gb3 by rw [hg];exact Nat.ne_of_lt (blk_lt BK1.out));have HB1:=Qh (Qr HB.out hb);have BK1':=Qh (Qq BK1.out hb);have HA:=Qh (h_row (k:=.i64) (xs:=List.replicate 128 (0:Int)) (n:=128) (ok:=fun k=>k=gb3) (base:=w.heap.size) (t:=63) (by rw [BK3];kernel_rfl) G3.out (by simp) (by decide) rfl);clear HB BK1 BK3;have HB:=HB1;have BK1:=BK1';clear HB1 BK1' hb hg;have hcz:w3.cell? ⟨gb1,2,none⟩=some (.slice A0_2 l0_2.length c0_2):=(Qi BK1.out 2).trans rfl;have hfz:=Qj BK1.out 2))
 go_loopg [4,15] l0_2.length (fun kq v4 v15 w'=>∃ (out last:List Int) (x:Int),v15=.int .i64 x∧Aside0 (0≤x∧x + kq=l0_2.length)∧Aside0 (early_go last out (l0_2.drop x.toNat)=some r)∧Aside0 (Kd.R (Kd.int .i64) 3 w' w.heap.size (fun k=>k≠gb3) v4 out)∧Aside0 (Kd.R (Kd.int .i64) 63 w' w.heap.size (fun k=>k=gb3) (.slice (some ⟨gb3,0,none⟩) 128 128) last)∧Aside0 (w'.heap[gb1]?=some (.cells #[.int .i64 a0_0,.int .i64 a0_1,.slice A0_2 l0_2.length c0_2] 24 (0,0)))∧Aside0 (Below w.heap.size w w'))
 case atStart=>exact ⟨[],List.replicate 128 0,0,rfl,⟨by omega,by omega⟩,H',⟨Kd.R_nil _ _ _ _ _⟩,HA,BK1,HB⟩
 case round =>
  clear H' HA BK1 HB hcz hfz;obtain ⟨out,last,x,rfl,HX,H',HO,HA,BK1,HB⟩:=hrel;obtain ⟨gk0,egk⟩:∃ g,g=gk:=⟨_,rfl⟩;subst egk;by_cases c1:x < l0_2.length
  ·have t1:decide (x < (l0_2.length:Int))=true:=decide_eq_true c1
   have x0:0≤x:=HX.out.1;have H:=H'.out;rw [h_drop57 x0 c1] at H;unfold early_go at H
   obtain ⟨ws,A1_,H_⟩:=Option.bind_eq_some_iff.mp H;obtain ⟨m,A2_0,H1⟩:=Option.bind_eq_some_iff.mp H_;obtain ⟨last',A3_,H2⟩:=Option.bind_eq_some_iff.mp H1;by_cases c2:out.length < 17592186044416
   ·rw [if_pos c2] at H2
    obtain ⟨ad,A2_,c2_,e_,hx0,hx1,hx2,hx3,hx4,hx5,hl,hi⟩:=at_T57 HR.out x x0 c1
    cases e_;replace hx0:=(HB.out.cell (Qk w _ hx0)).trans hx0;replace hx1:=(HB.out.cell (Qk w _ hx1)).trans hx1;replace hx2:=(HB.out.cell (Qk w _ hx2)).trans hx2;replace hx3:=(HB.out.cell (Qk w _ hx3)).trans hx3;replace hx4:=(HB.out.cell (Qk w _ hx4)).trans hx4;replace hx5:=(HB.out.cell (Qk w _ hx5)).trans hx5;have A1:=Qh A1_;have A2:=Qh A2_0;have A3:=Qh A3_;have H':=Qh H2;have HL:=Qh c2;have HI:=Qh hi;have HI2:=Qh hl;clear H H_ H1 H2 c2 hi hl;have q1:=eq_true c1;have q0:=eq_true x0;clear c1 x0;generalize hf0:(rd_T57 l0_2 x).f0=f0 at *
    generalize hf1:(rd_T57 l0_2 x).f1=f1 at *
    generalize hf2:(rd_T57 l0_2 x).f2=f2 at *
    generalize hf3:(rd_T57 l0_2 x).f3=f3 at *
    generalize hf4:(rd_T57 l0_2 x).f4=f4 at *
    generalize hf5:(rd_T57 l0_2 x).f5=f5 at *
    have HF0:=Qh hf0;clear hf0 hf1 hf2 hf3 hf4 hf5;clear A1_ A2_0 A3_;go_wp2_with (first
     | (go_at_call 31;refine (layers_wires.calls f0 f1 A2_ c2_ f2 f3 f4 f5 ws _ ?s1 ?s2 A1.out).mono ?_;(case s1=>exact Qt HI.out (Qd HB.out _));(case s2=>exact HI2.out);rintro e w2 ⟨vw,rfl,ho,hb⟩;have GS:=Qh (HB.out.size);have HW:=Qh (Kd.R_lower ho (by simp;exact Nat.le_succ_of_le HB.out.size));have HWok:=Qh (Kd.R_base ho);have HO':=Qh (Kd.R_below (Qv HO.out _) hb);have HA':=Qh (Kd.R_below (Qv HA.out _) hb);have BK1':=Qh (Qq (Qc BK1.out _) hb);have BK6:=Qh (Qq (blk_new wr _) hb);have HB':=Qh (Qr (Qd HB.out _) hb);have N36:=Qh (show gb3 < wr.heap.size from h_lt HA.out);clear ho hb HO HA BK1 HB;have HO:=HO';have HA:=HA';have BK1:=BK1';have HB:=HB';clear HO' HA' BK1' HB';obtain ⟨Aw,cw,ew⟩:=Kd.R_slice HW.out;subst ew))
    have h':last.length=128:=by
     obtain ⟨_,_,e⟩:=Kd.R_slice HA.out;injection e with _ e _
     exact e.symm
    have a':=Qh h';have HWM:=Qh ((Kd.R_reads' HW.out).2.2).2.1;clear h';go_loop [7,22] (fun v7 v22=>∃ (m1 y:Int),v7=.int .i64 m1∧v22=.int .i64 y∧Aside0 (0≤y∧y≤ws.length)∧Aside0 (wire_max last m1 (ws.drop y.toNat)=some m)) (fun _ i=>ws.length - (intOf i).toNat)
    case atStart=>exact ⟨0,0,rfl,rfl,⟨by omega,by omega⟩,A2⟩
    case round =>
     clear A2;obtain ⟨m1,y,rfl,rfl,HY,A2⟩:=hrel;by_cases c3:y < ws.length
     ·have t2:decide (y < (ws.length:Int))=true:=decide_eq_true c3
      have y0:0≤y:=HY.out.1;have H:=A2.out;rw [h_drop y0 c3] at H;unfold wire_max at H
      by_cases c4:0≤rd ws y∧rd ws y < 128
      ·rw [if_pos c4] at H
       obtain ⟨ad2,e2,g2⟩:=Kd.at_int (Kd.R_reads' HW.out).2.2 y y0 c3
       cases e2;obtain ⟨g3,f3_⟩:=Kd.R_celln 0 HA.out (rd ws y) c4.1 (by have:=a'.out;omega);obtain ⟨j,hj⟩:∃ j,mx m1 (rd last (rd ws y))=j:=⟨_,rfl⟩;have hj_:(if m1 < rd last (rd ws y) then rd last (rd ws y) else m1)=j:=hj;rw [hj] at H;have A2':=Qh H;have HW1:=Qh (h_w1 y0 c3 HWM.out);have C3:=Qh c3;have q2:=eq_true y0;have q3:=eq_true c3;have q4:=eq_true c4.1;have q5:=eq_true c4.2;clear H A2 hj y0 c3 c4;replace g3:w2.cell? ⟨gb3,(rd ws y).toNat,none⟩=some (.int .i64 (rd last (rd ws y))):=g3
       go_wp2
       refine ⟨⟨j,y + 1,rfl,by rw [HW1.out],⟨by have:=of_eq_true q2;omega,by have:=C3.out;omega⟩,A2'⟩,?_⟩
       have:=of_eq_true q2
       have:=C3.out
       rw [HW1.out]
       simp [intOf]
       omega
      ·rw [if_neg c4] at H
       exact absurd H (by simp)
     ·have H:=A2.out
      rw [h_end c3] at H;obtain rfl:m1=m:=Option.some.inj H;have t2:decide (y < (ws.length:Int))=false:=decide_eq_false c3;clear H A2 c3;have g':w2.cell? ⟨wr.heap.size,0,none⟩=some (.int .i64 f0):=(Qi BK6.out 0).trans rfl;have f':w2.cell? ⟨wr.heap.size,1,none⟩=some (.int .i64 f1):=(Qi BK6.out 1).trans rfl;have e':w2.cell? ⟨wr.heap.size,2,none⟩=some (.slice A2_ f2.length c2_):=(Qi BK6.out 2).trans rfl;have d':w2.cell? ⟨wr.heap.size,3,none⟩=some (.int .i64 f3):=(Qi BK6.out 3).trans rfl;have c':w2.cell? ⟨wr.heap.size,4,none⟩=some (.int .i64 f4):=(Qi BK6.out 4).trans rfl;have b':w2.cell? ⟨wr.heap.size,5,none⟩=some (.int .i64 f5):=(Qi BK6.out 5).trans rfl;obtain ⟨mm,hmm⟩:∃ mm,early_m (rd_T57 l0_2 x) m1=mm:=⟨_,rfl⟩;rw [hmm] at A3 H'
      have HMM:=Qh hmm;clear hmm;have key:(f0=4∧m1=mm)∨(f0≠4∧wrap64 (m1 + 1)=mm):=by
       rw [← HMM.out]
       unfold early_m
       rw [HF0.out]
       by_cases c5:f0=4
       ·exact .inl ⟨c5,by rw [if_pos c5]⟩
       ·exact .inr ⟨c5,by rw [if_neg c5]⟩
      rcases key with ⟨c5,e3⟩ | ⟨c5,e3⟩
      ·have t3:(f0 != 4)=false:=bne_eq_false_iff_eq.mpr c5
       obtain rfl:mm=m1:=e3.symm;clear c5;go_wp2_with (first
        | (go_at_call 31;refine (layers_wires.calls f0 f1 A2_ c2_ f2 f3 f4 f5 ws _ ?s1 ?s2 A1.out).mono ?_;(case s1=>exact Qt HI.out HB.out);(case s2=>exact HI2.out);rintro e w4 ⟨vv,rfl,ho,hb⟩;have N34:=Qh (h_lt HA.out);have HVok:=Kd.R_base ho;have HV:=Qh (show Kd.R (Kd.int .i64) 3 w4 w.heap.size (fun k=>k≠gb3) vv ws from ⟨fun k hk e=>by have h1:=HVok k hk;have h2:=N34.out;omega,(Kd.R_lower ho HB.out.size).2⟩);have HO':=Qh (Kd.R_below HO.out hb);have HA':=Qh (Kd.R_below HA.out hb);have BK1':=Qh (Qq BK1.out hb);have HB':=Qh (Qr HB.out hb);clear ho hb HO HA BK1 HB HW HWok BK6 HVok;have HO:=HO';have HA:=HA';have BK1:=BK1';have HB:=HB';clear HO' HA' BK1' HB' g' f' e' d' c' b';obtain ⟨Av,cv,ev⟩:=Kd.R_slice HV.out;subst ev))
       go_loopg [40] ws.length (fun kq v40 w'=>∃ (last2:List Int) (y2:Int),v40=.int .i64 y2∧Aside0 (0≤y2∧y2 + kq=ws.length)∧Aside0 (wire_set mm last2 (ws.drop y2.toNat)=some last')∧Aside0 (Kd.R (Kd.int .i64) 3 w' w.heap.size (fun k=>k≠gb3) u4 out)∧Aside0 (Kd.R (Kd.int .i64) 63 w' w.heap.size (fun k=>k=gb3) (.slice (some ⟨gb3,0,none⟩) 128 128) last2)∧Aside0 (Kd.R (Kd.int .i64) 3 w' w.heap.size (fun k=>k≠gb3) (.slice Av ws.length cv) ws)∧Aside0 (w'.heap[gb1]?=some (.cells #[.int .i64 a0_0,.int .i64 a0_1,.slice (some ad) l0_2.length c0_2] 24 (0,0)))∧Aside0 (Below w.heap.size w w'))
       case atStart=>exact ⟨last,0,rfl,⟨by omega,by omega⟩,A3,HO,HA,HV,BK1,HB⟩
       case round =>
        clear A3 HO HA HV BK1 HB;obtain ⟨last2,y2,rfl,HY2,A3,HO,HA,HV,BK1,HB⟩:=hrel;have a':=Qh (h_len HA.out);by_cases c6:y2 < ws.length
        ·have t4:decide (y2 < (ws.length:Int))=true:=decide_eq_true c6
         have y0:0≤y2:=HY2.out.1;have H:=A3.out;rw [h_drop y0 c6] at H;unfold wire_set at H
         by_cases c4:0≤rd ws y2∧rd ws y2 < 128
         ·rw [if_pos c4] at H
          obtain ⟨ad2,e2,g2⟩:=Kd.at_int (Kd.R_reads' HV.out).2.2 y2 y0 c6
          cases e2;obtain ⟨g3,f3_⟩:=Kd.R_celln 0 HA.out (rd ws y2) c4.1 (by have:=a'.out;omega);have HP:=Kd.R_putg HA.out (rd ws y2) mm;have A3':=Qh H;have HW1:=Qh (h_w1 y0 c6 HWM.out);have C3:=Qh c6;have HP1:=Qh HP.1;have HP2:=Qh HP.2;have q2:=eq_true y0;have q3:=eq_true c6;have q4:=eq_true c4.1;have q5:=eq_true c4.2;clear H A3 y0 c6 c4 HP;go_wp2
          go_roundg (gk - 1)
          case measure=>have:=HY2.out;have:=C3.out;omega
          case rel=>exact ⟨last2.set (rd ws y2).toNat mm,y2 + 1,by rw [HW1.out],⟨by have:=HY2.out;omega,by have:=HY2.out;have:=C3.out;omega⟩,A3',⟨Kd.R_grown HO.out HP2.out (fun k hk e=>hk (by injection e))⟩,HP1,⟨Kd.R_grown HV.out HP2.out (fun k hk e=>hk (by injection e))⟩,⟨blk_far BK1.out N13.out _⟩,⟨Qg HB.out G3.out⟩⟩
         ·rw [if_neg c4] at H
          exact absurd H (by simp)
        ·have H:=A3.out
         rw [h_end c6] at H;obtain rfl:last2=last':=Option.some.inj H;have t4:decide (y2 < (ws.length:Int))=false:=decide_eq_false c6;have N3:=Qh (h_lt HA.out);have X1:=Qh (of_eq_true q1);have X0:=Qh (of_eq_true q0);clear H A3 c6;go_wp2_with (first
          | ((with_reducible refine gate_builtin (b:=.append) (xs:=#[.tmp 48,.tmp 50]) rfl ?_);at_builtin;refine Kd.R_append (Kd.int .i64) (w0:=w) w.heap.size rfl (.tmp 48) (.tmp 50) 25 3 (.int .i64 0) 8 rfl Try.underlying25 info3 rfl (by decide) (by omega) u4 out mm [.int .i64 mm] (fun k=>k≠gb3) (fun _=>False) rfl rfl ?aP (fun _ hk=>hk.elim) ?aF ?aO ?aB ?aS ?aL ?_;(case aP=>exact rfl);(case aB=>exact HB.out);(case aF=>exact fun k hk e=>by have:=N3.out;omega);(case aO=>exact HO.out);(case aS=>exact HB.out.size);(case aL=>have:=HL.out;omega);intro v9 w9 ho hb hg hat;have HO':=Qh ho;have HB':=Qh hb;have HA':=Qh (Kd.R_grown HA.out hg (fun k hk e=>HO.out.1 k e.symm hk));have BK1':=Qh (blk_grown BK1.out hg (Kd.R_ne HO.out BK1.out (by decide)));clear ho hb hg hat HO HA HB BK1;have HO:=HO';have HB:=HB';have HA:=HA';have BK1:=BK1';clear HO' HB' HA' BK1'))
         go_roundg (gk0 - 1)
         case measure=>have:=HX.out;have:=X1.out;omega
         case rel=>exact ⟨out ++ [mm],last2,x + 1,by rw [h_w1 X0.out X1.out HM.out],⟨by have:=HX.out;omega,by have:=HX.out;have:=X1.out;omega⟩,H',HO,HA,BK1,HB⟩
      ·have t3:(f0 != 4)=true:=bne_iff_ne.mpr c5
       clear c5;go_wp2_with (first
        | (go_at_call 31;refine (layers_wires.calls f0 f1 A2_ c2_ f2 f3 f4 f5 ws _ ?s1 ?s2 A1.out).mono ?_;(case s1=>exact Qt HI.out HB.out);(case s2=>exact HI2.out);rintro e w4 ⟨vv,rfl,ho,hb⟩;have N34:=Qh (h_lt HA.out);have HVok:=Kd.R_base ho;have HV:=Qh (show Kd.R (Kd.int .i64) 3 w4 w.heap.size (fun k=>k≠gb3) vv ws from ⟨fun k hk e=>by have h1:=HVok k hk;have h2:=N34.out;omega,(Kd.R_lower ho HB.out.size).2⟩);have HO':=Qh (Kd.R_below HO.out hb);have HA':=Qh (Kd.R_below HA.out hb);have BK1':=Qh (Qq BK1.out hb);have HB':=Qh (Qr HB.out hb);clear ho hb HO HA BK1 HB HW HWok BK6 HVok;have HO:=HO';have HA:=HA';have BK1:=BK1';have HB:=HB';clear HO' HA' BK1' HB' g' f' e' d' c' b';obtain ⟨Av,cv,ev⟩:=Kd.R_slice HV.out;subst ev))
       go_loopg [40] ws.length (fun kq v40 w'=>∃ (last2:List Int) (y2:Int),v40=.int .i64 y2∧Aside0 (0≤y2∧y2 + kq=ws.length)∧Aside0 (wire_set mm last2 (ws.drop y2.toNat)=some last')∧Aside0 (Kd.R (Kd.int .i64) 3 w' w.heap.size (fun k=>k≠gb3) u4 out)∧Aside0 (Kd.R (Kd.int .i64) 63 w' w.heap.size (fun k=>k=gb3) (.slice (some ⟨gb3,0,none⟩) 128 128) last2)∧Aside0 (Kd.R (Kd.int .i64) 3 w' w.heap.size (fun k=>k≠gb3) (.slice Av ws.length cv) ws)∧Aside0 (w'.heap[gb1]?=some (.cells #[.int .i64 a0_0,.int .i64 a0_1,.slice (some ad) l0_2.length c0_2] 24 (0,0)))∧Aside0 (Below w.heap.size w w'))
       case atStart=>exact ⟨last,0,rfl,⟨by omega,by omega⟩,A3,HO,HA,HV,BK1,HB⟩
       case round =>
        clear A3 HO HA HV BK1 HB;obtain ⟨last2,y2,rfl,HY2,A3,HO,HA,HV,BK1,HB⟩:=hrel;have a':=Qh (h_len HA.out);by_cases c6:y2 < ws.length
        ·have t4:decide (y2 < (ws.length:Int))=true:=decide_eq_true c6
         have y0:0≤y2:=HY2.out.1;have H:=A3.out;rw [h_drop y0 c6] at H;unfold wire_set at H
         by_cases c4:0≤rd ws y2∧rd ws y2 < 128
         ·rw [if_pos c4] at H
          obtain ⟨ad2,e2,g2⟩:=Kd.at_int (Kd.R_reads' HV.out).2.2 y2 y0 c6
          cases e2;obtain ⟨g3,f3_⟩:=Kd.R_celln 0 HA.out (rd ws y2) c4.1 (by have:=a'.out;omega);have HP:=Kd.R_putg HA.out (rd ws y2) mm;have A3':=Qh H;have HW1:=Qh (h_w1 y0 c6 HWM.out);have C3:=Qh c6;have HP1:=Qh HP.1;have HP2:=Qh HP.2;have q2:=eq_true y0;have q3:=eq_true c6;have q4:=eq_true c4.1;have q5:=eq_true c4.2;clear H A3 y0 c6 c4 HP;go_wp2
          go_roundg (gk - 1)
          case measure=>have:=HY2.out;have:=C3.out;omega
          case rel=>exact ⟨last2.set (rd ws y2).toNat mm,y2 + 1,by rw [HW1.out],⟨by have:=HY2.out;omega,by have:=HY2.out;have:=C3.out;omega⟩,A3',⟨Kd.R_grown HO.out HP2.out (fun k hk e=>hk (by injection e))⟩,HP1,⟨Kd.R_grown HV.out HP2.out (fun k hk e=>hk (by injection e))⟩,⟨blk_far BK1.out N13.out _⟩,⟨Qg HB.out G3.out⟩⟩
         ·rw [if_neg c4] at H
          exact absurd H (by simp)
        ·have H:=A3.out
         rw [h_end c6] at H;obtain rfl:last2=last':=Option.some.inj H;have t4:decide (y2 < (ws.length:Int))=false:=decide_eq_false c6;have N3:=Qh (h_lt HA.out);have X1:=Qh (of_eq_true q1);have X0:=Qh (of_eq_true q0);clear H A3 c6;go_wp2_with (first
          | ((with_reducible refine gate_builtin (b:=.append) (xs:=#[.tmp 48,.tmp 50]) rfl ?_);at_builtin;refine Kd.R_append (Kd.int .i64) (w0:=w) w.heap.size rfl (.tmp 48) (.tmp 50) 25 3 (.int .i64 0) 8 rfl Try.underlying25 info3 rfl (by decide) (by omega) u4 out mm [.int .i64 mm] (fun k=>k≠gb3) (fun _=>False) rfl rfl ?aP (fun _ hk=>hk.elim) ?aF ?aO ?aB ?aS ?aL ?_;(case aP=>exact rfl);(case aB=>exact HB.out);(case aF=>exact fun k hk e=>by have:=N3.out;omega);(case aO=>exact HO.out);(case aS=>exact HB.out.size);(case aL=>have:=HL.out;omega);intro v9 w9 ho hb hg hat;have HO':=Qh ho;have HB':=Qh hb;have HA':=Qh (Kd.R_grown HA.out hg (fun k hk e=>HO.out.1 k e.symm hk));have BK1':=Qh (blk_grown BK1.out hg (Kd.R_ne HO.out BK1.out (by decide)));clear ho hb hg hat HO HA HB BK1;have HO:=HO';have HB:=HB';have HA:=HA';have BK1:=BK1';clear HO' HB' HA' BK1'))
         go_roundg (gk0 - 1)
         case measure=>have:=HX.out;have:=X1.out;omega
         case rel=>exact ⟨out ++ [mm],last2,x + 1,by rw [h_w1 X0.out X1.out HM.out],⟨by have:=HX.out;omega,by have:=HX.out;have:=X1.out;omega⟩,H',HO,HA,BK1,HB⟩
   ·rw [if_neg c2] at H2
    exact absurd H2 (by simp)
  ·have H:=H'.out
   rw [h_end c1] at H;obtain rfl:out=r:=Option.some.inj H;have t1:decide (x < (l0_2.length:Int))=false:=decide_eq_false c1;clear H H' c1;obtain ⟨Ao,co,eo⟩:=Kd.R_slice HO.out;subst eo;go_wp2
   go_ret
   exact ⟨_,rfl,Kd.R_mono HO.out (fun _ _=>trivial),HB.out⟩
def layers_Early.f (k:Nat) (a0_0:Int) (a0_1:Int) (l0_2:List (S57)):Option (List Int × Int):=(layers_checked.f k a0_0 a0_1 l0_2).bind fun t3102=>(if t3102=0 then ((layers_early.f a0_0 a0_1 l0_2).bind fun t3103=>(some (t3103,0))) else (some (([]:List Int),t3102)))
set_option maxHeartbeats 8000000 in
set_option maxRecDepth 100000 in
theorem layers_Early.calls (k:Nat) (a0_0:Int) (a0_1:Int) (A0_2:Option Addr) (c0_2:Nat) (l0_2:List (S57)) (r1:List Int) (r2:Int) (w:World) (hr0_2:Kd.C k57 w A0_2 l0_2.length l0_2) (hc0_2:l0_2.length≤c0_2) (h:layers_Early.f k a0_0 a0_1 l0_2=some (r1,r2)) :
  Calls Try.prog 6 #[.agg #[.int .i64 a0_0,.int .i64 a0_1,.slice A0_2 l0_2.length c0_2]] w fun e w'=>∃ v0_:Value,e=.returned (.tuple #[v0_,.int .i64 r2])∧Kd.R (Kd.int .i64) 3 w' w.heap.size (fun _=>True) v0_ r1∧Below w.heap.size w w':=by
 have hu24:=Try.underlying24;have HR0_2:=Qh hr0_2;have HC0_2:=Qh hc0_2;clear hr0_2 hc0_2;have HB:=Qh (Below.refl w.heap.size w);have H:((layers_checked.f k a0_0 a0_1 l0_2).bind fun c'=>(if c'=0 then ((layers_early.f a0_0 a0_1 l0_2).bind fun e'=>(some (e',0))) else (some (([]:List Int),c'))))=some (r1,r2):=h;clear h;replace H:=Option.bind_eq_some_iff.mp H;obtain ⟨c',A20,H⟩:=H;replace H:(if c'=0 then ((layers_early.f a0_0 a0_1 l0_2).bind fun e'=>(some (e',0))) else (some (([]:List Int),c')))=some (r1,r2):=H
 have A2:=Qh A20;clear A20;by_cases c3:c'=0
 ·rw [if_pos c3] at H
  have c3b0:(c' == 0)=true:=beq_iff_eq.mpr c3;have c3b1:(c' != 0)=false:=bne_eq_false_iff_eq.mpr c3;clear c3;replace H:=Option.bind_eq_some_iff.mp H;obtain ⟨e',A40,H⟩:=H;replace H:(some (e',0))=some (r1,r2):=H
  have A4:=Qh A40;clear A40;simp only [Option.some.injEq,Prod.mk.injEq] at H;obtain ⟨rfl,rfl⟩:=H;go_enter Try.func6,Try.ntmps6
  go_wp2_with (first | ((with_reducible refine gate_dst (N:=1) rfl ?_);refine box_event ?hg (N:=1) ?hd (cs:=#[.int .i64 a0_0,.int .i64 a0_1,.slice A0_2 l0_2.length c0_2]) (t:=24) ?hr ?_;(case hd=>rfl);(case hg=>rfl);(case hr=>first | (go_simp;done) | (go_simp;rfl));intro b' hg w5 hbox hb;have n0_:=Qh (Qr (by repeat (first | (with_reducible first | exact HB.out | apply Qd | apply Qe | apply Qf) | exact HB.out)) hb);have n1_:=Qh (hbox);have n2_:=Qh ((by rw [hg];exact (Qs (by repeat (first | (with_reducible first | exact HB.out | apply Qd | apply Qe | apply Qf) | exact HB.out))):w.heap.size≤b'));have n3_:=Qh ((by rw [hg];exact (Qs (by repeat (first | (with_reducible first | exact HB.out | apply Qd | apply Qe | apply Qf) | exact HB.out))):w.heap.size≤b'));clear HB;have HB:=n0_;have a':=n1_;have g':=n2_;have d':=n3_;clear n0_ n1_ n2_ n3_;clear hb hbox hg;have z':w5.cell? ⟨b',0,none⟩=some (.int .i64 a0_0):=(Qi a'.out 0).trans rfl;have y':w5.cell? ⟨b',1,none⟩=some (.int .i64 a0_1):=(Qi a'.out 1).trans rfl;have x':w5.cell? ⟨b',2,none⟩=some (.slice A0_2 l0_2.length c0_2):=(Qi a'.out 2).trans rfl;have s':=Qj a'.out 0;have r':=Qj a'.out 1;have q':=Qj a'.out 2) | ((with_reducible refine gate_callee (f:=26) rfl ?_);refine goesL_ (some 6) rfl rfl Try.func26 (by kernel_rfl) rfl #[.agg #[.int .i64 a0_0,.int .i64 a0_1,.slice A0_2 l0_2.length c0_2]] rfl (by (try simp only [List.map_toArray,List.map_cons,List.map_nil]);first | done | rfl | (simp only [List.length_drop,List.length_take];rfl)) ?_;(with_reducible refine (layers_checked.calls k a0_0 a0_1 _ _ l0_2 c' _ ?side1 ?side2 A2.out).mono ?_);(case side1=>repeat (first | exact (Qt HR0_2.out HB.out) | (with_reducible refine Kd.C_alloc ?_ _) | (with_reducible refine Kd.C_drewN ?_ _) | (with_reducible refine Kd.C_drew ?_)));(case side2=>exact HC0_2.out);rintro e w7 ⟨rfl,hb⟩;refine ⟨_,rfl,?_⟩;have n0_:=Qh (Qq (g:=b') (o:=.cells #[.int .i64 a0_0,.int .i64 a0_1,.slice A0_2 l0_2.length c0_2] 24 (0,0)) (by (with_reducible repeat (first | refine Qa ?_ _ | refine Qb ?_ | refine Qc ?_ _));exact a'.out) hb);have n1_:=Qh (Qr (by repeat (first | (with_reducible first | exact HB.out | apply Qd | apply Qe | apply Qf | refine Qg ?_ d'.out) | exact HB.out)) hb);clear a';clear HB;have a':=n0_;have HB:=n1_;clear n0_ n1_;(try clear hb);(try clear hb2);(try clear hk);(try clear hi);have v':w7.cell? ⟨b',0,none⟩=some (.int .i64 a0_0):=(Qi a'.out 0).trans rfl;have u':w7.cell? ⟨b',1,none⟩=some (.int .i64 a0_1):=(Qi a'.out 1).trans rfl;have t':w7.cell? ⟨b',2,none⟩=some (.slice A0_2 l0_2.length c0_2):=(Qi a'.out 2).trans rfl;have p':=Qj a'.out 0;have o':=Qj a'.out 1;have n':=Qj a'.out 2) | ((with_reducible refine gate_callee (f:=27) rfl ?_);refine goesL_ (some 11) rfl rfl Try.func27 (by kernel_rfl) rfl #[.agg #[.int .i64 a0_0,.int .i64 a0_1,.slice A0_2 l0_2.length c0_2]] rfl (by (try simp only [List.map_toArray,List.map_cons,List.map_nil]);first | done | rfl | (simp only [List.length_drop,List.length_take];rfl)) ?_;(with_reducible refine (layers_early.calls a0_0 a0_1 _ _ l0_2 e' _ ?side1 ?side2 A4.out).mono ?_);(case side1=>repeat (first | exact (Qt HR0_2.out HB.out) | (with_reducible refine Kd.C_alloc ?_ _) | (with_reducible refine Kd.C_drewN ?_ _) | (with_reducible refine Kd.C_drew ?_)));(case side2=>exact HC0_2.out);rintro e w9 ⟨aa',rfl,ho0,hb⟩;refine ⟨_,rfl,?_⟩;have n0_:=Qh (Kd.R_lower ho0 (Qs (by repeat (first | (with_reducible first | exact HB.out | apply Qd | apply Qe | apply Qf | refine Qg ?_ d'.out) | exact HB.out))));have n1_:=Qh (Qq (g:=b') (o:=.cells #[.int .i64 a0_0,.int .i64 a0_1,.slice A0_2 l0_2.length c0_2] 24 (0,0)) (by (with_reducible repeat (first | refine Qa ?_ _ | refine Qb ?_ | refine Qc ?_ _));exact a'.out) hb);have n2_:=Qh (Qr (by repeat (first | (with_reducible first | exact HB.out | apply Qd | apply Qe | apply Qf | refine Qg ?_ d'.out) | exact HB.out)) hb);clear a';clear HB;have f':=n0_;have a':=n1_;have HB:=n2_;clear n0_ n1_ n2_;(try clear hb);(try clear hb2);(try clear hk);(try clear hi);(try clear ho0)))
  go_ret2
  exact ⟨_,by first | rfl | (simp [errW_none,errW_some]<;>rfl) | (simp [*,errW_none,errW_some]<;>rfl),by (with_reducible repeat (first | apply Qv | apply Qw | apply Qx));exact f'.out,by repeat (first | (with_reducible first | exact HB.out | apply Qd | apply Qe | apply Qf | refine Qg ?_ d'.out) | exact HB.out)⟩
 ·rw [if_neg c3] at H
  have c3b0:(c' == 0)=false:=beq_eq_false_iff_ne.mpr c3;have c3b1:(c' != 0)=true:=bne_iff_ne.mpr c3;simp only [Option.some.injEq,Prod.mk.injEq] at H;obtain ⟨rfl,rfl⟩:=H;go_enter Try.func6,Try.ntmps6
  go_wp2_with (first | ((with_reducible refine gate_dst (N:=1) rfl ?_);refine box_event ?hg (N:=1) ?hd (cs:=#[.int .i64 a0_0,.int .i64 a0_1,.slice A0_2 l0_2.length c0_2]) (t:=24) ?hr ?_;(case hd=>rfl);(case hg=>rfl);(case hr=>first | (go_simp;done) | (go_simp;rfl));intro b' hg w10 hbox hb;have n0_:=Qh (Qr (by repeat (first | (with_reducible first | exact HB.out | apply Qd | apply Qe | apply Qf) | exact HB.out)) hb);have n1_:=Qh (hbox);have n2_:=Qh ((by rw [hg];exact (Qs (by repeat (first | (with_reducible first | exact HB.out | apply Qd | apply Qe | apply Qf) | exact HB.out))):w.heap.size≤b'));have n3_:=Qh ((by rw [hg];exact (Qs (by repeat (first | (with_reducible first | exact HB.out | apply Qd | apply Qe | apply Qf) | exact HB.out))):w.heap.size≤b'));clear HB;have HB:=n0_;have a':=n1_;have g':=n2_;have d':=n3_;clear n0_ n1_ n2_ n3_;clear hb hbox hg;have m':w10.cell? ⟨b',0,none⟩=some (.int .i64 a0_0):=(Qi a'.out 0).trans rfl;have l':w10.cell? ⟨b',1,none⟩=some (.int .i64 a0_1):=(Qi a'.out 1).trans rfl;have k':w10.cell? ⟨b',2,none⟩=some (.slice A0_2 l0_2.length c0_2):=(Qi a'.out 2).trans rfl;have j':=Qj a'.out 0;have i':=Qj a'.out 1;have h':=Qj a'.out 2) | ((with_reducible refine gate_callee (f:=26) rfl ?_);refine goesL_ (some 6) rfl rfl Try.func26 (by kernel_rfl) rfl #[.agg #[.int .i64 a0_0,.int .i64 a0_1,.slice A0_2 l0_2.length c0_2]] rfl (by (try simp only [List.map_toArray,List.map_cons,List.map_nil]);first | done | rfl | (simp only [List.length_drop,List.length_take];rfl)) ?_;(with_reducible refine (layers_checked.calls k a0_0 a0_1 _ _ l0_2 c' _ ?side1 ?side2 A2.out).mono ?_);(case side1=>repeat (first | exact (Qt HR0_2.out HB.out) | (with_reducible refine Kd.C_alloc ?_ _) | (with_reducible refine Kd.C_drewN ?_ _) | (with_reducible refine Kd.C_drew ?_)));(case side2=>exact HC0_2.out);rintro e w12 ⟨rfl,hb⟩;refine ⟨_,rfl,?_⟩;have n0_:=Qh (Qq (g:=b') (o:=.cells #[.int .i64 a0_0,.int .i64 a0_1,.slice A0_2 l0_2.length c0_2] 24 (0,0)) (by (with_reducible repeat (first | refine Qa ?_ _ | refine Qb ?_ | refine Qc ?_ _));exact a'.out) hb);have n1_:=Qh (Qr (by repeat (first | (with_reducible first | exact HB.out | apply Qd | apply Qe | apply Qf | refine Qg ?_ d'.out) | exact HB.out)) hb);clear a';clear HB;have a':=n0_;have HB:=n1_;clear n0_ n1_;(try clear hb);(try clear hb2);(try clear hk);(try clear hi)))
  go_ret2
  exact ⟨_,by first | rfl | (simp [errW_none,errW_some]<;>rfl) | (simp [*,errW_none,errW_some]<;>rfl),by first | exact Kd.R_nil _ _ _ _ _ | exact Kd.N_nil _ _ _ _ _ | exact Kd.V_nil _ _ _ _ _ | exact Kd.Q_nil _ _ _ _ _ | exact Kd.S_nil _ _ _ _ _,by repeat (first | (with_reducible first | exact HB.out | apply Qd | apply Qe | apply Qf | refine Qg ?_ d'.out) | exact HB.out)⟩
def phasorlaw19_ints.l0:Nat→List Int→List Int→Int→Option (Bool)
 | 0,_,_,_=>none
 | k + 1,x0,x1,x5=>if x5 < (x0.length:Int) then (if 0≤x5 then (if x5 < (x1.length:Int) then (if (rd x0 x5)=(rd x1 x5) then (phasorlaw19_ints.l0 k x0 x1 (wrap64 (x5 + 1))) else (some false)) else (none)) else (none)) else (some true)
def phasorlaw19_ints.f (k:Nat) (l0:List Int) (l1:List Int):Option (Bool):=if (l0.length:Int)=(l1.length:Int) then (phasorlaw19_ints.l0 k l0 l1 0) else (some false)
set_option maxHeartbeats 8000000 in
set_option maxRecDepth 100000 in
theorem phasorlaw19_ints.calls (k:Nat) (A0:Option Addr) (c0:Nat) (l0:List Int) (A1:Option Addr) (c1:Nat) (l1:List Int) (r:Bool) (w:World) (hr0:Kd.C (Kd.int .i64) w A0 l0.length l0) (hc0:l0.length≤c0) (hr1:Kd.C (Kd.int .i64) w A1 l1.length l1) (hc1:l1.length≤c1) (h:phasorlaw19_ints.f k l0 l1=some r) :
  Calls Try.prog 17 #[.slice A0 l0.length c0,.slice A1 l1.length c1] w fun e w'=>e=.returned (.bool r)∧Drawn0 w w':=by
 have HR0:=Qh hr0;have HC0:=Qh hc0;clear hr0 hc0;have HR1:=Qh hr1;have HC1:=Qh hc1;clear hr1 hc1;have H:(if (l0.length:Int)=(l1.length:Int) then (phasorlaw19_ints.l0 k l0 l1 0) else (some false))=some r:=h;clear h;by_cases c3:(l0.length:Int)=(l1.length:Int)
 ·rw [if_pos c3] at H
  have c3b0:((l0.length:Int) == (l1.length:Int))=true:=beq_iff_eq.mpr c3;have c3b1:((l0.length:Int) != (l1.length:Int))=false:=bne_eq_false_iff_eq.mpr c3;have c3b2:(l0.length == l1.length)=true:=by first | simpa using c3 | (simp at c3 ⊢;omega)
  clear c3;have H':=Qh H;clear H;go_enter Try.func17,Try.ntmps17
  go_wp2
  repeat (go_quiet (fail);try go_wp2)
  go_loopg [5] k (fun kq v5 w'=>∃ (x5_1:Int),v5=.int .i64 x5_1∧Aside0 (phasorlaw19_ints.l0 kq l0 l1 x5_1=some r)∧Aside0 (kq≤k)∧Drawn0 w w')
  case atStart=>exact ⟨(0),(by first | rfl | (simp;done) | (simp [*];done)),H',⟨Nat.le_refl _⟩,by repeat (first | exact Drawn0.refl _ | apply Drawn0.step)⟩
  case round =>
   clear H';(try clear c1);(try clear p2);(try clear c3);(try clear c3b0);(try clear c3b1);(try clear c3b2);obtain ⟨x5_1,rfl,HA,HK1,⟨m1,rfl⟩⟩:=hrel
   cases gk with
   | zero=>exact absurd HA.out (by simp [phasorlaw19_ints.l0])
   | succ k1 =>
    have H:=HA.out;clear HA;simp only [phasorlaw19_ints.l0] at H;by_cases c4:x5_1 < (l0.length:Int)
    ·rw [if_pos c4] at H
     have c4b0:decide (x5_1 < (l0.length:Int))=true:=decide_eq_true c4;clear c4;by_cases c5:0≤x5_1
     ·rw [if_pos c5] at H
      have c5b0:decide (0≤x5_1)=true:=decide_eq_true c5;clear c5;by_cases c6:x5_1 < (l1.length:Int)
      ·rw [if_pos c6] at H
       have c6b0:decide (x5_1 < (l1.length:Int))=true:=decide_eq_true c6;clear c6;by_cases c7:(rd l0 x5_1)=(rd l1 x5_1)
       ·rw [if_pos c7] at H
        have c7b0:((rd l0 x5_1) == (rd l1 x5_1))=true:=beq_iff_eq.mpr c7;have c7b1:((rd l0 x5_1) != (rd l1 x5_1))=false:=bne_eq_false_iff_eq.mpr c7;clear c7;have H':=Qh H;clear H;have d':0≤(x5_1:Int):=of_decide_eq_true (by first | (with_reducible assumption) | assumption);have b':x5_1 < (l0.length:Int):=of_decide_eq_true (by first | (with_reducible assumption) | assumption);obtain ⟨j',f',h'⟩:=Kd.at_int HR0.out x5_1 d' b'
        cases f'
        replace d':=eq_true d';replace b':=eq_true b';have c':0≤(x5_1:Int):=of_decide_eq_true (by first | (with_reducible assumption) | assumption);have a':x5_1 < (l1.length:Int):=of_decide_eq_true (by first | (with_reducible assumption) | assumption);obtain ⟨i',e',g'⟩:=Kd.at_int HR1.out x5_1 c' a'
        cases e';replace c':=eq_true c';replace a':=eq_true a';go_wp2
        repeat (go_quiet (fail);try go_wp2)
        go_roundg k1
        case measure=>have:=HK1.out;omega
        case rel=>exact ⟨(wrap64 (x5_1 + 1)),(by first | rfl | (simp;done) | (simp [*];done)),H',⟨by have:=HK1.out;omega⟩,by repeat (first | exact Drawn0.refl _ | apply Drawn0.step)⟩
       ·rw [if_neg c7] at H
        have c7b0:((rd l0 x5_1) == (rd l1 x5_1))=false:=beq_eq_false_iff_ne.mpr c7;have c7b1:((rd l0 x5_1) != (rd l1 x5_1))=true:=bne_iff_ne.mpr c7;obtain rfl:=Option.some.inj H;have d':0≤(x5_1:Int):=of_decide_eq_true (by first | (with_reducible assumption) | assumption);have b':x5_1 < (l0.length:Int):=of_decide_eq_true (by first | (with_reducible assumption) | assumption);obtain ⟨j',f',h'⟩:=Kd.at_int HR0.out x5_1 d' b'
        cases f'
        replace d':=eq_true d';replace b':=eq_true b';have c':0≤(x5_1:Int):=of_decide_eq_true (by first | (with_reducible assumption) | assumption);have a':x5_1 < (l1.length:Int):=of_decide_eq_true (by first | (with_reducible assumption) | assumption);obtain ⟨i',e',g'⟩:=Kd.at_int HR1.out x5_1 c' a'
        cases e';replace c':=eq_true c';replace a':=eq_true a';go_wp2
        repeat (go_quiet (fail);try go_wp2)
        go_ret
        exact ⟨by first | rfl | (simp;done) | (simp [*];done),by repeat (first | exact Drawn0.refl _ | apply Drawn0.step)⟩
      ·rw [if_neg c6] at H
       exact absurd H (by simp)
     ·rw [if_neg c5] at H
      exact absurd H (by simp)
    ·rw [if_neg c4] at H
     have c4b0:decide (x5_1 < (l0.length:Int))=false:=decide_eq_false c4;clear c4;obtain rfl:=Option.some.inj H;go_wp2
     repeat (go_quiet (fail);try go_wp2)
     go_ret
     exact ⟨by first | rfl | (simp;done) | (simp [*];done),by repeat (first | exact Drawn0.refl _ | apply Drawn0.step)⟩
 ·rw [if_neg c3] at H
  have c3b0:((l0.length:Int) == (l1.length:Int))=false:=beq_eq_false_iff_ne.mpr c3;have c3b1:((l0.length:Int) != (l1.length:Int))=true:=bne_iff_ne.mpr c3;have c3b2:(l0.length == l1.length)=false:=by first | simpa using c3 | (simp at c3 ⊢;omega)
  obtain rfl:=Option.some.inj H;go_enter Try.func17,Try.ntmps17
  go_wp2
  repeat (go_quiet (fail);try go_wp2)
  go_ret
  exact ⟨by first | rfl | (simp;done) | (simp [*];done),by repeat (first | exact Drawn0.refl _ | apply Drawn0.step)⟩
end Go.Proofs.Ytpnfhddcnnoclaa.Px
