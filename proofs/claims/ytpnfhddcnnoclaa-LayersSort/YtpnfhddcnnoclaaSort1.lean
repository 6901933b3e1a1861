import Derived.Test.YtpnfhddcnnoclaaSort0
namespace Go.Proofs.Ytpnfhddcnnoclaa.Px
open Go.RowKit Go.Proofs.YtpnfhddcnnoclaaW.PrintWords Go.Proofs.YtpnfhddcnnoclaaW.PrintLast Go.Proofs.YtpnfhddcnnoclaaW.PrintMore
attribute [local go_sem] max2_int min2_int max_two min_two max_three min_three max_four min_four
set_option linter.unusedVariables false
set_option linter.unusedSimpArgs false
def slices_Max_int_int.l0:Nat→List Int→Int→Int→Option (Int)
 | 0,_,_,_=>none
 | k + 1,x0,x3,x4=>if x4 < (x0.length:Int) then (if 0≤x4 then (slices_Max_int_int.l0 k x0 (mx x3 (rd x0 x4)) (wrap64 (x4 + 1))) else (none)) else (some x3)
def slices_Max_int_int.f (k:Nat) (l0:List Int):Option (Int):=if (l0.length:Int) < 1 then (none) else (if 0 < (l0.length:Int) then (slices_Max_int_int.l0 k l0 (rd l0 0) 1) else (none))
set_option maxHeartbeats 8000000 in
set_option maxRecDepth 100000 in
theorem slices_Max_int_int.calls (k:Nat) (A0:Option Addr) (c0:Nat) (l0:List Int) (r:Int) (w:World) (hr0:Kd.C (Kd.int .i64) w A0 l0.length l0) (hc0:l0.length≤c0) (h:slices_Max_int_int.f k l0=some r) :
  Calls Try.prog 34 #[.slice A0 l0.length c0] w fun e w'=>e=.returned (.int .i64 r)∧Below w.heap.size w w':=by
 have HR0:=Qh hr0;have HC0:=Qh hc0;clear hr0 hc0;have HB:=Qh (Below.refl w.heap.size w);have H:(if (l0.length:Int) < 1 then (none) else (if 0 < (l0.length:Int) then (slices_Max_int_int.l0 k l0 (rd l0 0) 1) else (none)))=some r:=h;clear h;by_cases c2:(l0.length:Int) < 1
 ·rw [if_pos c2] at H
  exact absurd H (by simp)
 ·rw [if_neg c2] at H
  have c2b0:decide ((l0.length:Int) < 1)=false:=decide_eq_false c2;have c2b1:decide (l0.length < 1)=false:=decide_eq_false (by omega);clear c2;by_cases c3:0 < (l0.length:Int)
  ·rw [if_pos c3] at H
   have c3b0:decide (0 < (l0.length:Int))=true:=decide_eq_true c3;have c3b1:decide (0 < l0.length)=true:=decide_eq_true (by omega);clear c3;have H':=Qh H;clear H;have d':0≤(0:Int):=(by omega);have c':0 < (l0.length:Int):=of_decide_eq_true (by first | (with_reducible assumption) | assumption);obtain ⟨h',j',b'⟩:=Kd.at_int HR0.out 0 d' c'
   cases j'
   have k':(0 < l0.length)=True:=eq_true (by omega);(try rw [show ((0:Int)).toNat=0 from rfl] at b')
   (try rw [Addr.add_zero'] at b')
   replace d':=eq_true d';replace c':=eq_true c';go_enter Try.func34,Try.ntmps34
   go_wp2
   go_loopg [3,4] k (fun kq v3 v4 w'=>∃ (x3_1:Int) (x4_1:Int),v3=.int .i64 x3_1∧v4=.int .i64 x4_1∧Aside0 (slices_Max_int_int.l0 kq l0 x3_1 x4_1=some r)∧Aside0 (kq≤k)∧Aside0 (Below w.heap.size w w'))
   case atStart=>exact ⟨(rd l0 0),(1),(by first | rfl | (simp;done) | (simp [*];done)),(by first | rfl | (simp;done) | (simp [*];done)),H',⟨Nat.le_refl _⟩,⟨by repeat (first | (with_reducible first | exact HB.out | apply Qd | apply Qe | apply Qf) | exact HB.out)⟩⟩
   case round =>
    clear H';(try clear p1);(try clear q1);(try clear hx1);(try clear qi1);(try clear c2);(try clear c2b0);(try clear c2b1);(try clear p2);(try clear c3);(try clear c3b0);(try clear c3b1);(try clear b');(try clear d');(try clear c');obtain ⟨x3_1,x4_1,rfl,rfl,HA,HK1,HB⟩:=hrel
    cases gk with
    | zero=>exact absurd HA.out (by simp [slices_Max_int_int.l0])
    | succ k1 =>
     have H:=HA.out;clear HA;simp only [slices_Max_int_int.l0] at H;by_cases c4:x4_1 < (l0.length:Int)
     ·rw [if_pos c4] at H
      have c4b0:decide (x4_1 < (l0.length:Int))=true:=decide_eq_true c4;clear c4;by_cases c5:0≤x4_1
      ·rw [if_pos c5] at H
       have c5b0:decide (0≤x4_1)=true:=decide_eq_true c5;clear c5;obtain ⟨ji6,hji6⟩:∃ j_:Int,(mx x3_1 (rd l0 x4_1))=j_:=⟨_,rfl⟩;replace H:(slices_Max_int_int.l0 k1 l0 ji6 (wrap64 (x4_1 + 1)))=some r:=by first | (rw [hji6] at H;exact H) | (simp only [hji6] at H ⊢;exact H)
       have hji6_:(if x3_1 < (rd l0 x4_1) then (rd l0 x4_1) else x3_1)=ji6:=hji6;have H':=Qh H;clear H;have f':0≤(x4_1:Int):=of_decide_eq_true (by first | (with_reducible assumption) | assumption);have e':x4_1 < (l0.length:Int):=of_decide_eq_true (by first | (with_reducible assumption) | assumption);obtain ⟨g',i',a'⟩:=Kd.at_int HR0.out x4_1 f' e';obtain rfl:h'=g':=(by injection i');replace a':=(HB.out.cell (Qk w _ a')).trans a';replace f':=eq_true f';replace e':=eq_true e';go_wp2
       go_roundg k1
       case measure=>have:=HK1.out;omega
       case rel=>exact ⟨(ji6),(wrap64 (x4_1 + 1)),(by first | rfl | (simp;done) | (simp only [← hji6]<;>(first | rfl | simp)) | (simp [*];done)),(by first | rfl | (simp;done) | (simp [*];done)),H',⟨by have:=HK1.out;omega⟩,⟨by repeat (first | (with_reducible first | exact HB.out | apply Qd | apply Qe | apply Qf) | exact HB.out)⟩⟩
      ·rw [if_neg c5] at H
       exact absurd H (by simp)
     ·rw [if_neg c4] at H
      have c4b0:decide (x4_1 < (l0.length:Int))=false:=decide_eq_false c4;clear c4;obtain rfl:=Option.some.inj H;go_wp2
      go_ret
      exact ⟨by first | rfl | (simp [errW_none,errW_some]<;>rfl) | (simp [*,errW_none,errW_some]<;>rfl),by repeat (first | (with_reducible first | exact HB.out | apply Qd | apply Qe | apply Qf) | exact HB.out)⟩
  ·rw [if_neg c3] at H
   exact absurd H (by simp)
def layers_Depth.f (k:Nat) (a0_0:Int) (a0_1:Int) (l0_2:List (S57)):Option (Int × Int):=(layers_Early.f k a0_0 a0_1 l0_2).bind fun bt7602=>(if bt7602.2=0 then (if (bt7602.1.length:Int)=0 then (some (0,bt7602.2)) else ((slices_Max_int_int.f k bt7602.1).bind fun t7606=>(some (t7606,0)))) else (some (0,bt7602.2)))
set_option maxHeartbeats 8000000 in
set_option maxRecDepth 100000 in
theorem layers_Depth.calls (k:Nat) (a0_0:Int) (a0_1:Int) (A0_2:Option Addr) (c0_2:Nat) (l0_2:List (S57)) (r1:Int) (r2:Int) (w:World) (hr0_2:Kd.C k57 w A0_2 l0_2.length l0_2) (hc0_2:l0_2.length≤c0_2) (h:layers_Depth.f k a0_0 a0_1 l0_2=some (r1,r2)) :
  Calls Try.prog 15 #[.agg #[.int .i64 a0_0,.int .i64 a0_1,.slice A0_2 l0_2.length c0_2]] w fun e w'=>e=.returned (.tuple #[.int .i64 r1,.int .i64 r2])∧Below w.heap.size w w':=by
 have hu24:=Try.underlying24;have HR0_2:=Qh hr0_2;have HC0_2:=Qh hc0_2;clear hr0_2 hc0_2;have HB:=Qh (Below.refl w.heap.size w);have H:((layers_Early.f k a0_0 a0_1 l0_2).bind fun g'=>(if g'.2=0 then (if (g'.1.length:Int)=0 then (some (0,g'.2)) else ((slices_Max_int_int.f k g'.1).bind fun h'=>(some (h',0)))) else (some (0,g'.2))))=some (r1,r2):=h;clear h;replace H:=Option.bind_eq_some_iff.mp H;obtain ⟨⟨d',e'⟩,A20,H⟩:=H;replace H:(if e'=0 then (if (d'.length:Int)=0 then (some (0,e')) else ((slices_Max_int_int.f k d').bind fun h'=>(some (h',0)))) else (some (0,e')))=some (r1,r2):=H
 have A2:=Qh A20;clear A20;by_cases c3:e'=0
 ·rw [if_pos c3] at H
  have c3b0:(e' == 0)=true:=beq_iff_eq.mpr c3;have c3b1:(e' != 0)=false:=bne_eq_false_iff_eq.mpr c3;clear c3;by_cases c4:(d'.length:Int)=0
  ·rw [if_pos c4] at H
   have c4b0:((d'.length:Int) == 0)=true:=beq_iff_eq.mpr c4;have c4b1:((d'.length:Int) != 0)=false:=bne_eq_false_iff_eq.mpr c4;clear c4;simp only [Option.some.injEq,Prod.mk.injEq] at H;obtain ⟨rfl,rfl⟩:=H;go_enter Try.func15,Try.ntmps15
   go_wp2_with (first | ((with_reducible refine gate_dst (N:=1) rfl ?_);(try (refine gate_guard (by rfl) ?_;dsimp only));refine box_event ?hg (N:=1) ?hd (cs:=#[.int .i64 a0_0,.int .i64 a0_1,.slice A0_2 l0_2.length c0_2]) (t:=24) ?hr ?_;(case hd=>rfl);(case hg=>rfl);(case hr=>first | (go_simp;done) | (go_simp;rfl));intro b' hg w5 hbox hb;have n0_:=Qh (Qr (by repeat (first | (with_reducible first | exact HB.out | apply Qd | apply Qe | apply Qf) | exact HB.out)) hb);have n1_:=Qh (hbox);have n2_:=Qh ((by rw [hg];exact (Qs (by repeat (first | (with_reducible first | exact HB.out | apply Qd | apply Qe | apply Qf) | exact HB.out))):w.heap.size≤b'));have n3_:=Qh ((by rw [hg];exact (Qs (by repeat (first | (with_reducible first | exact HB.out | apply Qd | apply Qe | apply Qf) | exact HB.out))):w.heap.size≤b'));clear HB;have HB:=n0_;have a':=n1_;have i':=n2_;have c':=n3_;clear n0_ n1_ n2_ n3_;clear hb hbox hg;have ac':w5.cell? ⟨b',0,none⟩=some (.int .i64 a0_0):=(Qi a'.out 0).trans rfl;have ab':w5.cell? ⟨b',1,none⟩=some (.int .i64 a0_1):=(Qi a'.out 1).trans rfl;have aa':w5.cell? ⟨b',2,none⟩=some (.slice A0_2 l0_2.length c0_2):=(Qi a'.out 2).trans rfl;have z':=Qj a'.out 0;have y':=Qj a'.out 1;have x':=Qj a'.out 2) | ((with_reducible refine gate_callee (f:=6) rfl ?_);refine goesL_ (some 8) rfl rfl Try.func6 (by kernel_rfl) rfl #[.agg #[.int .i64 a0_0,.int .i64 a0_1,.slice A0_2 l0_2.length c0_2]] rfl (by (try simp only [List.map_toArray,List.map_cons,List.map_nil]);first | done | rfl | (simp only [List.length_drop,List.length_take];rfl)) ?_;(with_reducible refine (layers_Early.calls k a0_0 a0_1 _ _ l0_2 d' e' _ ?side1 ?side2 A2.out).mono ?_);(case side1=>repeat (first | exact (Qt HR0_2.out HB.out) | (with_reducible refine Kd.C_alloc ?_ _) | (with_reducible refine Kd.C_drewN ?_ _) | (with_reducible refine Kd.C_drew ?_)));(case side2=>exact HC0_2.out);rintro e w7 ⟨j',rfl,ho0,hb⟩;refine ⟨_,rfl,?_⟩;have n0_:=Qh (Kd.R_lower ho0 (Qs (by repeat (first | (with_reducible first | exact HB.out | apply Qd | apply Qe | apply Qf | refine Qg ?_ c'.out) | exact HB.out))));have n1_:=Qh (Qq (g:=b') (o:=.cells #[.int .i64 a0_0,.int .i64 a0_1,.slice A0_2 l0_2.length c0_2] 24 (0,0)) (by (with_reducible repeat (first | refine Qa ?_ _ | refine Qb ?_ | refine Qc ?_ _));exact a'.out) hb);have n2_:=Qh (Qr (by repeat (first | (with_reducible first | exact HB.out | apply Qd | apply Qe | apply Qf | refine Qg ?_ c'.out) | exact HB.out)) hb);clear a';clear HB;have f':=n0_;have a':=n1_;have HB:=n2_;clear n0_ n1_ n2_;(try clear hb);(try clear hb2);(try clear hk);(try clear hi);(try clear ho0);obtain ⟨Ao8,co8,eo8⟩:=Kd.R_slice f'.out;subst eo8))
   go_ret2
   exact ⟨by first | rfl | (simp [errW_none,errW_some]<;>rfl) | (simp [*,errW_none,errW_some]<;>rfl),by repeat (first | (with_reducible first | exact HB.out | apply Qd | apply Qe | apply Qf | refine Qg ?_ c'.out) | exact HB.out)⟩
  ·rw [if_neg c4] at H
   have c4b0:((d'.length:Int) == 0)=false:=beq_eq_false_iff_ne.mpr c4;have c4b1:((d'.length:Int) != 0)=true:=bne_iff_ne.mpr c4;have c4b2:¬ (d'=[]):=fun h_=>c4 (by rw [h_];rfl)
   replace H:=Option.bind_eq_some_iff.mp H;obtain ⟨h',A90,H⟩:=H;replace H:(some (h',0))=some (r1,r2):=H
   have A9:=Qh A90;clear A90;simp only [Option.some.injEq,Prod.mk.injEq] at H;obtain ⟨rfl,rfl⟩:=H;go_enter Try.func15,Try.ntmps15
   go_wp2_with (first | ((with_reducible refine gate_dst (N:=1) rfl ?_);(try (refine gate_guard (by rfl) ?_;dsimp only));refine box_event ?hg (N:=1) ?hd (cs:=#[.int .i64 a0_0,.int .i64 a0_1,.slice A0_2 l0_2.length c0_2]) (t:=24) ?hr ?_;(case hd=>rfl);(case hg=>rfl);(case hr=>first | (go_simp;done) | (go_simp;rfl));intro b' hg w10 hbox hb;have n0_:=Qh (Qr (by repeat (first | (with_reducible first | exact HB.out | apply Qd | apply Qe | apply Qf) | exact HB.out)) hb);have n1_:=Qh (hbox);have n2_:=Qh ((by rw [hg];exact (Qs (by repeat (first | (with_reducible first | exact HB.out | apply Qd | apply Qe | apply Qf) | exact HB.out))):w.heap.size≤b'));have n3_:=Qh ((by rw [hg];exact (Qs (by repeat (first | (with_reducible first | exact HB.out | apply Qd | apply Qe | apply Qf) | exact HB.out))):w.heap.size≤b'));clear HB;have HB:=n0_;have a':=n1_;have i':=n2_;have c':=n3_;clear n0_ n1_ n2_ n3_;clear hb hbox hg;have v':w10.cell? ⟨b',0,none⟩=some (.int .i64 a0_0):=(Qi a'.out 0).trans rfl;have u':w10.cell? ⟨b',1,none⟩=some (.int .i64 a0_1):=(Qi a'.out 1).trans rfl;have t':w10.cell? ⟨b',2,none⟩=some (.slice A0_2 l0_2.length c0_2):=(Qi a'.out 2).trans rfl;have p':=Qj a'.out 0;have o':=Qj a'.out 1;have n':=Qj a'.out 2) | ((with_reducible refine gate_callee (f:=6) rfl ?_);refine goesL_ (some 8) rfl rfl Try.func6 (by kernel_rfl) rfl #[.agg #[.int .i64 a0_0,.int .i64 a0_1,.slice A0_2 l0_2.length c0_2]] rfl (by (try simp only [List.map_toArray,List.map_cons,List.map_nil]);first | done | rfl | (simp only [List.length_drop,List.length_take];rfl)) ?_;(with_reducible refine (layers_Early.calls k a0_0 a0_1 _ _ l0_2 d' e' _ ?side1 ?side2 A2.out).mono ?_);(case side1=>repeat (first | exact (Qt HR0_2.out HB.out) | (with_reducible refine Kd.C_alloc ?_ _) | (with_reducible refine Kd.C_drewN ?_ _) | (with_reducible refine Kd.C_drew ?_)));(case side2=>exact HC0_2.out);rintro e w12 ⟨j',rfl,ho0,hb⟩;refine ⟨_,rfl,?_⟩;have n0_:=Qh (Kd.R_lower ho0 (Qs (by repeat (first | (with_reducible first | exact HB.out | apply Qd | apply Qe | apply Qf | refine Qg ?_ c'.out) | exact HB.out))));have n1_:=Qh (Qq (g:=b') (o:=.cells #[.int .i64 a0_0,.int .i64 a0_1,.slice A0_2 l0_2.length c0_2] 24 (0,0)) (by (with_reducible repeat (first | refine Qa ?_ _ | refine Qb ?_ | refine Qc ?_ _));exact a'.out) hb);have n2_:=Qh (Qr (by repeat (first | (with_reducible first | exact HB.out | apply Qd | apply Qe | apply Qf | refine Qg ?_ c'.out) | exact HB.out)) hb);clear a';clear HB;have f':=n0_;have a':=n1_;have HB:=n2_;clear n0_ n1_ n2_;(try clear hb);(try clear hb2);(try clear hk);(try clear hi);(try clear ho0);obtain ⟨Ao13,co13,eo13⟩:=Kd.R_slice f'.out;subst eo13) | ((with_reducible refine gate_callee (f:=34) rfl ?_);refine goesL_ (some 20) rfl rfl Try.func34 (by kernel_rfl) rfl #[.slice Ao13 d'.length co13] rfl (by (try simp only [List.map_toArray,List.map_cons,List.map_nil]);first | done | rfl | (simp only [List.length_drop,List.length_take];rfl)) ?_;(with_reducible refine (slices_Max_int_int.calls k _ _ d' h' _ ?side1 ?side2 A9.out).mono ?_);(case side1=>repeat (first | exact (Kd.R_reads' f'.out).2.2 | (with_reducible refine Kd.C_alloc ?_ _) | (with_reducible refine Kd.C_drewN ?_ _) | (with_reducible refine Kd.C_drew ?_)));(case side2=>exact (Kd.R_reads' f'.out).2.1);rintro e w14 ⟨rfl,hb⟩;refine ⟨_,rfl,?_⟩;have n0_:=Qh (Kd.R_below (by (with_reducible repeat (first | apply Qv | apply Qw | apply Qx));exact f'.out) hb);have n1_:=Qh (Qq (g:=b') (o:=.cells #[.int .i64 a0_0,.int .i64 a0_1,.slice A0_2 l0_2.length c0_2] 24 (0,0)) (by (with_reducible repeat (first | refine Qa ?_ _ | refine Qb ?_ | refine Qc ?_ _));exact a'.out) hb);have n2_:=Qh (Qr (by repeat (first | (with_reducible first | exact HB.out | apply Qd | apply Qe | apply Qf | refine Qg ?_ c'.out) | exact HB.out)) hb);clear f';clear a';clear HB;have f':=n0_;have a':=n1_;have HB:=n2_;clear n0_ n1_ n2_;(try clear hb);(try clear hb2);(try clear hk);(try clear hi)))
   go_ret2
   exact ⟨by first | rfl | (simp [errW_none,errW_some]<;>rfl) | (simp [*,errW_none,errW_some]<;>rfl),by repeat (first | (with_reducible first | exact HB.out | apply Qd | apply Qe | apply Qf | refine Qg ?_ c'.out) | exact HB.out)⟩
 ·rw [if_neg c3] at H
  have c3b0:(e' == 0)=false:=beq_eq_false_iff_ne.mpr c3;have c3b1:(e' != 0)=true:=bne_iff_ne.mpr c3;simp only [Option.some.injEq,Prod.mk.injEq] at H;obtain ⟨rfl,rfl⟩:=H;go_enter Try.func15,Try.ntmps15
  go_wp2_with (first | ((with_reducible refine gate_dst (N:=1) rfl ?_);(try (refine gate_guard (by rfl) ?_;dsimp only));refine box_event ?hg (N:=1) ?hd (cs:=#[.int .i64 a0_0,.int .i64 a0_1,.slice A0_2 l0_2.length c0_2]) (t:=24) ?hr ?_;(case hd=>rfl);(case hg=>rfl);(case hr=>first | (go_simp;done) | (go_simp;rfl));intro b' hg w15 hbox hb;have n0_:=Qh (Qr (by repeat (first | (with_reducible first | exact HB.out | apply Qd | apply Qe | apply Qf) | exact HB.out)) hb);have n1_:=Qh (hbox);have n2_:=Qh ((by rw [hg];exact (Qs (by repeat (first | (with_reducible first | exact HB.out | apply Qd | apply Qe | apply Qf) | exact HB.out))):w.heap.size≤b'));have n3_:=Qh ((by rw [hg];exact (Qs (by repeat (first | (with_reducible first | exact HB.out | apply Qd | apply Qe | apply Qf) | exact HB.out))):w.heap.size≤b'));clear HB;have HB:=n0_;have a':=n1_;have i':=n2_;have c':=n3_;clear n0_ n1_ n2_ n3_;clear hb hbox hg;have s':w15.cell? ⟨b',0,none⟩=some (.int .i64 a0_0):=(Qi a'.out 0).trans rfl;have r':w15.cell? ⟨b',1,none⟩=some (.int .i64 a0_1):=(Qi a'.out 1).trans rfl;have q':w15.cell? ⟨b',2,none⟩=some (.slice A0_2 l0_2.length c0_2):=(Qi a'.out 2).trans rfl;have m':=Qj a'.out 0;have l':=Qj a'.out 1;have k':=Qj a'.out 2) | ((with_reducible refine gate_callee (f:=6) rfl ?_);refine goesL_ (some 8) rfl rfl Try.func6 (by kernel_rfl) rfl #[.agg #[.int .i64 a0_0,.int .i64 a0_1,.slice A0_2 l0_2.length c0_2]] rfl (by (try simp only [List.map_toArray,List.map_cons,List.map_nil]);first | done | rfl | (simp only [List.length_drop,List.length_take];rfl)) ?_;(with_reducible refine (layers_Early.calls k a0_0 a0_1 _ _ l0_2 d' e' _ ?side1 ?side2 A2.out).mono ?_);(case side1=>repeat (first | exact (Qt HR0_2.out HB.out) | (with_reducible refine Kd.C_alloc ?_ _) | (with_reducible refine Kd.C_drewN ?_ _) | (with_reducible refine Kd.C_drew ?_)));(case side2=>exact HC0_2.out);rintro e w17 ⟨j',rfl,ho0,hb⟩;refine ⟨_,rfl,?_⟩;have n0_:=Qh (Kd.R_lower ho0 (Qs (by repeat (first | (with_reducible first | exact HB.out | apply Qd | apply Qe | apply Qf | refine Qg ?_ c'.out) | exact HB.out))));have n1_:=Qh (Qq (g:=b') (o:=.cells #[.int .i64 a0_0,.int .i64 a0_1,.slice A0_2 l0_2.length c0_2] 24 (0,0)) (by (with_reducible repeat (first | refine Qa ?_ _ | refine Qb ?_ | refine Qc ?_ _));exact a'.out) hb);have n2_:=Qh (Qr (by repeat (first | (with_reducible first | exact HB.out | apply Qd | apply Qe | apply Qf | refine Qg ?_ c'.out) | exact HB.out)) hb);clear a';clear HB;have f':=n0_;have a':=n1_;have HB:=n2_;clear n0_ n1_ n2_;(try clear hb);(try clear hb2);(try clear hk);(try clear hi);(try clear ho0)))
  go_ret2
  exact ⟨by first | rfl | (simp [errW_none,errW_some]<;>rfl) | (simp [*,errW_none,errW_some]<;>rfl),by repeat (first | (with_reducible first | exact HB.out | apply Qd | apply Qe | apply Qf | refine Qg ?_ c'.out) | exact HB.out)⟩
def wire_min (last:List Int):Int→List Int→Option Int
 | m,[]=>some m
 | m,w :: ws=>if 0≤w∧w < 128 then wire_min last (mn m (rd last w)) ws else none
def late_m (o:S57) (m:Int):Int:=if o.f0=4 then m else wrap64 (m - 1)
def late_go (d:Int) (l:List S57):Nat→List Int→List Int→Option (List Int)
 | 0,_,out=>some out
 | i + 1,free,out=>(layers_wires.f (rd_T57 l i).f0 (rd_T57 l i).f1 (rd_T57 l i).f2 (rd_T57 l i).f3 (rd_T57 l i).f4 (rd_T57 l i).f5).bind fun ws=>(wire_min free d ws).bind fun m =>
  (wire_set (late_m (rd_T57 l i) m) free ws).bind fun free'=>late_go d l i free' (out.set i m)
def layers_Late.f (k:Nat) (a0_0:Int) (a0_1:Int) (l0_2:List S57):Option (List Int × Int) :=
 (layers_Depth.f k a0_0 a0_1 l0_2).bind fun b=>if b.2=0 then (if l0_2.length < 17592186044416 then (late_go b.1 l0_2 l0_2.length (List.replicate 128 b.1) (List.replicate l0_2.length 0)).bind fun r=>some (r,0) else none) else some ([],b.2)
theorem h_fill (d:Int) (x:Nat) (h:x < 128):(List.replicate x d ++ List.replicate (128 - x) (0:Int)).set x d=List.replicate (x + 1) d ++ List.replicate (128 - (x + 1)) 0:=by
 rw [List.set_append_right _ _ (by simp)]
 obtain ⟨m,hm⟩:∃ m,128 - x=m + 1:=⟨127 - x,by omega⟩
 rw [hm,List.replicate_succ,List.length_replicate,Nat.sub_self,List.set_cons_zero,List.replicate_succ' (n:=x),List.append_assoc,show 128 - (x + 1)=m by omega]
 rfl
set_option maxHeartbeats 8000000 in
set_option maxRecDepth 100000 in
theorem layers_Late.calls (k:Nat) (a0_0:Int) (a0_1:Int) (A0_2:Option Addr) (c0_2:Nat) (l0_2:List (S57)) (r1:List Int) (r2:Int) (w:World) (hr0_2:Kd.C k57 w A0_2 l0_2.length l0_2) (hc0_2:l0_2.length≤c0_2) (h:layers_Late.f k a0_0 a0_1 l0_2=some (r1,r2)) :
  Calls Try.prog 9 #[.agg #[.int .i64 a0_0,.int .i64 a0_1,.slice A0_2 l0_2.length c0_2]] w fun e w'=>∃ v0_:Value,e=.returned (.tuple #[v0_,.int .i64 r2])∧Kd.R (Kd.int .i64) 3 w' w.heap.size (fun _=>True) v0_ r1∧Below w.heap.size w w':=by
 have hu24:=Try.underlying24;have hu57:=Try.underlying57;have HM:=Qh hr0_2.2.1;have HR:=Qh hr0_2;have HC:=Qh hc0_2;have HB:=Qh (Below.refl w.heap.size w);unfold layers_Late.f at h
 obtain ⟨⟨d,e0⟩,AD0,H1⟩:=Option.bind_eq_some_iff.mp h;have AD:=Qh AD0;clear hr0_2 hc0_2 h AD0;by_cases c0:e0=0
 ·subst c0
  rw [if_pos rfl] at H1
  by_cases cL:l0_2.length < 17592186044416
  ·rw [if_pos cL] at H1
   obtain ⟨r,H2,H3⟩:=Option.bind_eq_some_iff.mp H1;simp only [Option.some.injEq,Prod.mk.injEq] at H3
   obtain ⟨rfl,rfl⟩:=H3;have H':=Qh H2;have HL:=Qh cL;clear H1 H2 cL;go_enter Try.func9,Try.ntmps9
   go_wp2_with (first | ((with_reducible refine gate_dst (N:=1) rfl ?_);refine box_event ?hg (N:=1) ?hd (cs:=#[.int .i64 a0_0,.int .i64 a0_1,.slice A0_2 l0_2.length c0_2]) (t:=24) ?hr ?_;(case hd=>rfl);(case hg=>rfl);(case hr=>first | (go_simp;done) | (go_simp;rfl));intro gb1 hg w1 BK1 hb;have G1:=Qh (show w.heap.size≤gb1 by rw [hg];exact Nat.le_refl _);have HB1:=Qh (Qr HB.out hb);replace BK1:=Qh BK1;clear HB;have HB:=HB1;clear HB1 hb hg;have hz0:w1.cell? ⟨gb1,0,none⟩=some (.int .i64 a0_0):=(Qi BK1.out 0).trans rfl;have hz1:w1.cell? ⟨gb1,1,none⟩=some (.int .i64 a0_1):=(Qi BK1.out 1).trans rfl;have hz2:w1.cell? ⟨gb1,2,none⟩=some (.slice A0_2 l0_2.length c0_2):=(Qi BK1.out 2).trans rfl) | (go_at_call 15;refine (layers_Depth.calls k a0_0 a0_1 A0_2 c0_2 l0_2 d _ _ ?s1 ?s2 AD.out).mono ?_;(case s1=>exact Qt HR.out HB.out);(case s2=>exact HC.out);rintro e w2 ⟨rfl,hb⟩;have HB1:=Qh (Qr HB.out hb);have BK1':=Qh (Qq BK1.out hb);clear HB BK1 hz0 hz1 hz2 hb;have HB:=HB1;have BK1:=BK1';clear HB1 BK1';have hz2:w2.cell? ⟨gb1,2,none⟩=some (.slice A0_2 l0_2.length c0_2):=(Qi BK1.out 2).trans rfl) | ((with_reducible refine gate_dst (N:=27) rfl ?_);refine Kd.R_make (Kd.int .i64) _ 3 rfl (N:=27) rfl 25 _ _ rfl (l0_2.length:Int) rfl rfl Try.underlying25 (.int .i64 0) 8 info3 rfl (by decide) (by omega) 0 (ok:=fun _=>True) (okp:=fun _=>True) rfl (fun _ hk=>hk) trivial (by omega) (by have:=HL.out;omega) (Below.refl _ _) (Nat.le_refl _) ?_;intro vo w3 ho hb hg_ hnew_;have HO:=Qh (Kd.R_lower ho HB.out.size);have HOok:=Qh (Kd.R_base ho);have HB1:=Qh (Qr HB.out hb);have BK1':=Qh (Qq BK1.out hb);clear HB BK1 hz2 hb ho hg_ hnew_;have HB:=HB1;have BK1:=BK1';clear HB1 BK1') | ((with_reducible refine gate_dst (N:=7) rfl ?_);refine box_event ?hg (N:=7) ?hd (cs:=Try.zeroCells63) (t:=63) ?hr ?_;(case hd=>rfl);(case hg=>rfl);(case hr=>first | (go_simp;done) | (go_simp;rfl));intro gb3 hg w4 BK3 hb;have G3:=Qh (show w.heap.size≤gb3 by rw [hg];exact HB.out.size);have N13:=Qh (show gb1≠gb3 by rw [hg];exact Nat.ne_of_lt (blk_lt BK1.out));have HB1:=Qh (Qr HB.out hb);have BK1':=Qh (Qq BK1.out hb);have HA:=Qh (h_row (k:=.i64) (xs:=List.replicate 128 (0:Int)) (n:=128) (ok:=fun k=>k=gb3) (base:=w.heap.size) (t:=63) (by rw [BK3];kernel_rfl) G3.out (by simp) (by decide) rfl);have HO':=Qh (show Kd.R (Kd.int .i64) 3 w4 w.heap.size (fun k=>k≠gb3) vo (List.replicate (l0_2.length:Int).toNat 0) from ⟨fun k hk e=>by have h1:=own_lt (Kd.own_of_R (h1:=fun _=>rfl) HO.out) k hk;omega,(Kd.R_below HO.out hb).2⟩);clear HO HOok HB BK1 BK3;have HB:=HB1;have BK1:=BK1';have HO:=HO';clear HB1 BK1' HO' hb hg))
   go_loopg [28] 128 (fun kq v28 w'=>∃ (x:Int),v28=.int .i64 x∧Aside0 (0≤x∧x + kq=128)∧Aside0 (Kd.R (Kd.int .i64) 3 w' w.heap.size (fun k=>k≠gb3) vo (List.replicate (l0_2.length:Int).toNat 0))∧Aside0 (Kd.R (Kd.int .i64) 63 w' w.heap.size (fun k=>k=gb3) (.slice (some ⟨gb3,0,none⟩) 128 128) (List.replicate x.toNat d ++ List.replicate (128 - x.toNat) 0))∧Aside0 (w'.heap[gb1]?=some (.cells #[.int .i64 a0_0,.int .i64 a0_1,.slice A0_2 l0_2.length c0_2] 24 (0,0)))∧Aside0 (Below w.heap.size w w'))
   case atStart=>exact ⟨0,rfl,⟨by omega,by omega⟩,HO,HA,BK1,HB⟩
   case round =>
    clear HO HA BK1 HB;obtain ⟨x,rfl,HX,HO,HA,BK1,HB⟩:=hrel;by_cases c1:x < 128
    ·have t1:decide (x < 128)=true:=decide_eq_true c1
     have HP:=Kd.R_putg HA.out x d;have HP1:=Qh HP.1;have HP2:=Qh HP.2;have hcc:=Kd.R_celln 0 HA.out x HX.out.1 (by simp;omega);obtain ⟨g3,f3_⟩:=hcc;have C1:=Qh c1;have q0:=eq_true HX.out.1;have q1:=eq_true c1;clear c1 HP;go_wp2
     go_roundg (gk - 1)
     case measure=>have:=HX.out;have:=C1.out;omega
     case rel=>exact ⟨x + 1,by have:=HX.out;have:=C1.out;rw [show wrap64 (x + 1)=x + 1 by unfold wrap64;omega],⟨by have:=HX.out;omega,by have:=HX.out;have:=C1.out;omega⟩,⟨Kd.R_grown HO.out HP2.out (fun k hk e=>hk (by injection e))⟩,⟨by have e1:=h_fill d x.toNat (by have:=HX.out;have:=C1.out;omega);have e2:=HP1.out;rw [e1] at e2;rw [show (x + 1).toNat=x.toNat + 1 by have:=HX.out;omega];exact e2⟩,⟨blk_far BK1.out N13.out _⟩,⟨Qg HB.out G3.out⟩⟩
    ·have t1:decide (x < 128)=false:=decide_eq_false c1
     obtain rfl:x=128:=by have:=HX.out;omega
     have HA':Aside0 (Kd.R (Kd.int .i64) 63 wr w.heap.size (fun k=>k=gb3) (.slice (some ⟨gb3,0,none⟩) 128 128) (List.replicate 128 d)):=⟨by have:=HA.out;simpa using this⟩;have hcz:wr.cell? ⟨gb1,2,none⟩=some (.slice A0_2 l0_2.length c0_2):=(Qi BK1.out 2).trans rfl;clear HA c1 HX;have n1:wrap64 ((l0_2.length:Int) - 1)=(l0_2.length:Int) - 1:=by have:=HM.out;unfold wrap64;omega
     have HN1:=Qh n1;clear n1;go_wp2
     go_loopg [9] l0_2.length (fun kq v9 w'=>∃ (free out:List Int) (x:Int),v9=.int .i64 x∧Aside0 (x + 1=kq∧kq≤l0_2.length∧out.length=l0_2.length)∧Aside0 (late_go d l0_2 kq free out=some r)∧Aside0 (Kd.R (Kd.int .i64) 3 w' w.heap.size (fun k=>k≠gb3) vo out)∧Aside0 (Kd.R (Kd.int .i64) 63 w' w.heap.size (fun k=>k=gb3) (.slice (some ⟨gb3,0,none⟩) 128 128) free)∧Aside0 (w'.heap[gb1]?=some (.cells #[.int .i64 a0_0,.int .i64 a0_1,.slice A0_2 l0_2.length c0_2] 24 (0,0)))∧Aside0 (Below w.heap.size w w'))
     case atStart=>exact ⟨_,_,_,by rw [HN1.out],⟨by omega,Nat.le_refl _,by simp⟩,H',HO,HA',BK1,HB⟩
     case round =>
      clear H' HA' HO BK1 HB hcz;obtain ⟨free,out,x,rfl,HX,H',HO,HA,BK1,HB⟩:=hrel;obtain ⟨gk0,egk⟩:∃ g,g=gk:=⟨_,rfl⟩;subst egk;by_cases c1:0≤x
      ·have t1:decide (0≤x)=true:=decide_eq_true c1
       obtain ⟨i,rfl⟩:∃ i,gk0=i + 1:=⟨gk0 - 1,by have:=HX.out;omega⟩;have ei:x.toNat=i:=by have:=HX.out;omega
       have eix:(i:Int)=x:=by omega
       have c1l:x < l0_2.length:=by have:=HX.out;omega
       have H:=H'.out;unfold late_go at H
       rw [eix] at H;obtain ⟨ws,A1_,H_⟩:=Option.bind_eq_some_iff.mp H;obtain ⟨m,A2_0,H1⟩:=Option.bind_eq_some_iff.mp H_;obtain ⟨free',A3_,H2⟩:=Option.bind_eq_some_iff.mp H1;obtain ⟨ad,A2_,c2_,e_,hx0,hx1,hx2,hx3,hx4,hx5,hl,hi⟩:=at_T57 HR.out x c1 c1l
       cases e_;replace hx0:=(HB.out.cell (Qk w _ hx0)).trans hx0;replace hx1:=(HB.out.cell (Qk w _ hx1)).trans hx1;replace hx2:=(HB.out.cell (Qk w _ hx2)).trans hx2;replace hx3:=(HB.out.cell (Qk w _ hx3)).trans hx3;replace hx4:=(HB.out.cell (Qk w _ hx4)).trans hx4;replace hx5:=(HB.out.cell (Qk w _ hx5)).trans hx5;have A1:=Qh A1_;have A2:=Qh A2_0;have A3:=Qh A3_;have H':=Qh H2;have HI:=Qh hi;have HI2:=Qh hl;have EI:=Qh ei;have hcz:wr.cell? ⟨gb1,2,none⟩=some (.slice (some ad) l0_2.length c0_2):=(Qi BK1.out 2).trans rfl;obtain ⟨go,co,eo,gbo,glo,clo,HGo⟩:=Kd.R_form HO.out (by have:=HX.out;omega);subst eo;have NG:=Qh (show go≠gb3 from HO.out.1 go rfl);have GO:=Qh gbo;have NGW:=Qh (h_lt HO.out);have HOL:=Qh HX.out.2.2;have q0:=eq_true c1;have q1:=eq_true c1l;clear H H_ H1 H2 hi hl A1_ A2_0 A3_ c1 c1l ei eix gbo glo clo HGo;generalize hf0:(rd_T57 l0_2 x).f0=f0 at *
       generalize hf1:(rd_T57 l0_2 x).f1=f1 at *
       generalize hf2:(rd_T57 l0_2 x).f2=f2 at *
       generalize hf3:(rd_T57 l0_2 x).f3=f3 at *
       generalize hf4:(rd_T57 l0_2 x).f4=f4 at *
       generalize hf5:(rd_T57 l0_2 x).f5=f5 at *
       have HF0:=Qh hf0;clear hf0 hf1 hf2 hf3 hf4 hf5;go_wp2_with (first | (go_at_call 31;refine (layers_wires.calls f0 f1 A2_ c2_ f2 f3 f4 f5 ws _ ?s1 ?s2 A1.out).mono ?_;(case s1=>exact Qt HI.out (Qd HB.out _));(case s2=>exact HI2.out);rintro e w5 ⟨vw,rfl,ho,hb⟩;have HW:=Qh (Kd.R_lower ho (by simp;exact Nat.le_succ_of_le HB.out.size));have HO':=Qh (Kd.R_below (Qv HO.out _) hb);have HA':=Qh (Kd.R_below (Qv HA.out _) hb);have BK1':=Qh (Qq (Qc BK1.out _) hb);have BK6:=Qh (Qq (blk_new wr _) hb);have HB':=Qh (Qr (Qd HB.out _) hb);clear ho hb HO HA BK1 HB;have HO:=HO';have HA:=HA';have BK1:=BK1';have HB:=HB';clear HO' HA' BK1' HB';obtain ⟨Aw,cw,ew⟩:=Kd.R_slice HW.out;subst ew))
       have a':=Qh (h_len HA.out);have HWM:=Qh ((Kd.R_reads' HW.out).2.2).2.1;go_loop [11,52] (fun v7 v22=>∃ (m1 y:Int),v7=.int .i64 m1∧v22=.int .i64 y∧Aside0 (0≤y∧y≤ws.length)∧Aside0 (wire_min free m1 (ws.drop y.toNat)=some m)) (fun _ i=>ws.length - (intOf i).toNat)
       case atStart=>exact ⟨d,0,rfl,rfl,⟨by omega,by omega⟩,A2⟩
       case round =>
        clear A2;obtain ⟨m1,y,rfl,rfl,HY,A2⟩:=hrel;by_cases c3:y < ws.length
        ·have t2:decide (y < (ws.length:Int))=true:=decide_eq_true c3
         have y0:0≤y:=HY.out.1;have H:=A2.out;rw [h_drop y0 c3] at H;unfold wire_min at H
         by_cases c4:0≤rd ws y∧rd ws y < 128
         ·rw [if_pos c4] at H
          obtain ⟨ad2,e2,g2⟩:=Kd.at_int (Kd.R_reads' HW.out).2.2 y y0 c3
          cases e2;obtain ⟨g3,f3_⟩:=Kd.R_celln 0 HA.out (rd ws y) c4.1 (by have:=a'.out;omega);obtain ⟨j,hj⟩:∃ j,mn m1 (rd free (rd ws y))=j:=⟨_,rfl⟩;have hj_:(if rd free (rd ws y) < m1 then rd free (rd ws y) else m1)=j:=hj;rw [hj] at H;have A2':=Qh H;have HW1:=Qh (h_w1 y0 c3 HWM.out);have C3:=Qh c3;have q2:=eq_true y0;have q3:=eq_true c3;have q4:=eq_true c4.1;have q5:=eq_true c4.2;clear H A2 hj y0 c3 c4;replace g3:w5.cell? ⟨gb3,(rd ws y).toNat,none⟩=some (.int .i64 (rd free (rd ws y))):=g3
          go_wp2
          refine ⟨⟨j,y + 1,rfl,by rw [HW1.out],⟨by have:=of_eq_true q2;omega,by have:=C3.out;omega⟩,A2'⟩,?_⟩
          have:=of_eq_true q2
          have:=C3.out
          rw [HW1.out]
          simp [intOf]
          omega
         ·rw [if_neg c4] at H
          exact absurd H (by simp)
        ·have H:=A2.out
         rw [h_end c3] at H;obtain rfl:m1=m:=Option.some.inj H;have t2:decide (y < (ws.length:Int))=false:=decide_eq_false c3;clear H A2 c3;have g':w5.cell? ⟨wr.heap.size,0,none⟩=some (.int .i64 f0):=(Qi BK6.out 0).trans rfl;have f':w5.cell? ⟨wr.heap.size,1,none⟩=some (.int .i64 f1):=(Qi BK6.out 1).trans rfl;have e':w5.cell? ⟨wr.heap.size,2,none⟩=some (.slice A2_ f2.length c2_):=(Qi BK6.out 2).trans rfl;have d':w5.cell? ⟨wr.heap.size,3,none⟩=some (.int .i64 f3):=(Qi BK6.out 3).trans rfl;have c':w5.cell? ⟨wr.heap.size,4,none⟩=some (.int .i64 f4):=(Qi BK6.out 4).trans rfl;have b':w5.cell? ⟨wr.heap.size,5,none⟩=some (.int .i64 f5):=(Qi BK6.out 5).trans rfl;obtain ⟨mm,hmm⟩:∃ mm,late_m (rd_T57 l0_2 x) m1=mm:=⟨_,rfl⟩;rw [hmm] at A3
         have HMM:=Qh hmm;clear hmm;have key:(f0=4∧m1=mm)∨(f0≠4∧wrap64 (m1 - 1)=mm):=by
          rw [← HMM.out]
          unfold late_m
          rw [HF0.out]
          by_cases c5:f0=4
          ·exact .inl ⟨c5,by rw [if_pos c5]⟩
          ·exact .inr ⟨c5,by rw [if_neg c5]⟩
         have HP:=Kd.R_putg HO.out x m1;have HP1:=Qh HP.1;have HP2:=Qh HP.2;obtain ⟨go3,gof3⟩:=Kd.R_celln 0 HO.out x (of_eq_true q0) (by have:=HOL.out;have:=of_eq_true q1;omega);clear HP;have HKEY:=Qh key;have qol:(x < (out.length:Int))=True:=eq_true (by have:=HOL.out;have:=of_eq_true q1;omega);have hne1:go≠wr.heap.size:=Nat.ne_of_lt NGW.out;have hne2:wr.heap.size≠go:=Nat.ne_of_gt NGW.out;rcases key with ⟨c5,e3⟩ | ⟨c5,e3⟩
         ·have t3:(f0 != 4)=false:=bne_eq_false_iff_eq.mpr c5
          obtain rfl:mm=m1:=e3.symm;clear c5;go_wp2_with (first | (go_at_call 31;refine (layers_wires.calls f0 f1 A2_ c2_ f2 f3 f4 f5 ws _ ?s1 ?s2 A1.out).mono ?_;(case s1=>exact Qt HI.out (Qg HB.out GO.out));(case s2=>exact HI2.out);rintro e w6 ⟨vv,rfl,ho,hb⟩;have HA5:=Kd.R_grown HA.out HP2.out (fun k hk e=>NG.out (by cases e;exact hk));have N34:=h_lt HA5;have N35:=h_lt HP1.out;have HVok:=Kd.R_base ho;have HV:=Qh (show Kd.R (Kd.int .i64) 3 w6 w.heap.size (fun k=>k≠gb3∧k≠go) vv ws from ⟨fun k hk=>by have h1:=HVok k hk;exact ⟨by omega,by omega⟩,(Kd.R_lower ho (Qg HB.out GO.out).size).2⟩);have HO6:=Qh (Kd.R_below HP1.out hb);have HA6:=Qh (Kd.R_below HA5 hb);have BK6':=Qh (Qq (blk_grown BK1.out HP2.out (fun e=>Kd.R_ne HO.out BK1.out (by decide) e)) hb);have HB6:=Qh (Qr (Qg HB.out GO.out) hb);clear ho hb HA5 N34 N35 HVok HO HA BK1 HB HP1 HP2 hcz g' f' e' d' c' b';obtain ⟨Av,cv,ev⟩:=Kd.R_slice HV.out;subst ev))
          go_loopg [74] ws.length (fun kq v40 w'=>∃ (last2:List Int) (y2:Int),v40=.int .i64 y2∧Aside0 (0≤y2∧y2 + kq=ws.length)∧Aside0 (wire_set mm last2 (ws.drop y2.toNat)=some free')∧Aside0 (Kd.R (Kd.int .i64) 3 w' w.heap.size (fun k=>k≠gb3) (.slice (some ⟨go,0,none⟩) out.length co) (out.set x.toNat mm))∧Aside0 (Kd.R (Kd.int .i64) 63 w' w.heap.size (fun k=>k=gb3) (.slice (some ⟨gb3,0,none⟩) 128 128) last2)∧Aside0 (Kd.R (Kd.int .i64) 3 w' w.heap.size (fun k=>k≠gb3∧k≠go) (.slice Av ws.length cv) ws)∧Aside0 (w'.heap[gb1]?=some (.cells #[.int .i64 a0_0,.int .i64 a0_1,.slice (some ad) l0_2.length c0_2] 24 (0,0)))∧Aside0 (Below w.heap.size w w'))
          case atStart=>exact ⟨free,0,rfl,⟨by omega,by omega⟩,A3,HO6,HA6,HV,BK6',HB6⟩
          case round =>
           clear A3 HO6 HA6 HV BK6' HB6;obtain ⟨last2,y2,rfl,HY2,A3,HO,HA,HV,BK1,HB⟩:=hrel;have a':=Qh (h_len HA.out);by_cases c6:y2 < ws.length
           ·have t4:decide (y2 < (ws.length:Int))=true:=decide_eq_true c6
            have y0:0≤y2:=HY2.out.1;have H:=A3.out;rw [h_drop y0 c6] at H;unfold wire_set at H
            by_cases c4:0≤rd ws y2∧rd ws y2 < 128
            ·rw [if_pos c4] at H
             obtain ⟨ad2,e2,g2⟩:=Kd.at_int (Kd.R_reads' HV.out).2.2 y2 y0 c6
             cases e2;obtain ⟨g3,f3_⟩:=Kd.R_celln 0 HA.out (rd ws y2) c4.1 (by have:=a'.out;omega);have HP:=Kd.R_putg HA.out (rd ws y2) mm;have A3':=Qh H;have HW1:=Qh (h_w1 y0 c6 HWM.out);have C3:=Qh c6;have HP1:=Qh HP.1;have HP2:=Qh HP.2;have q2:=eq_true y0;have q3:=eq_true c6;have q4:=eq_true c4.1;have q5:=eq_true c4.2;clear H A3 y0 c6 c4 HP;go_wp2
             go_roundg (gk - 1)
             case measure=>have:=HY2.out;have:=C3.out;omega
             case rel=>exact ⟨last2.set (rd ws y2).toNat mm,y2 + 1,by rw [HW1.out],⟨by have:=HY2.out;omega,by have:=HY2.out;have:=C3.out;omega⟩,A3',⟨Kd.R_grown HO.out HP2.out (fun k hk e=>hk (by injection e))⟩,HP1,⟨Kd.R_grown HV.out HP2.out (fun k hk e=>hk.1 (by injection e))⟩,⟨blk_far BK1.out N13.out _⟩,⟨Qg HB.out G3.out⟩⟩
            ·rw [if_neg c4] at H
             exact absurd H (by simp)
           ·have H:=A3.out
            rw [h_end c6] at H;obtain rfl:last2=free':=Option.some.inj H;have t4:decide (y2 < (ws.length:Int))=false:=decide_eq_false c6;have X1:=Qh (of_eq_true q1);have X0:=Qh (of_eq_true q0);clear H A3 c6;go_wp2
            go_roundg i
            case measure=>omega
            case rel=>exact ⟨last2,out.set x.toNat mm,x - 1,by first | rfl | (have:=X0.out;have:=X1.out;have:=HM.out;rw [show wrap64 (x - 1)=x - 1 by unfold wrap64;omega]),⟨by have:=HX.out;omega,by have:=HX.out;omega,by have:=HX.out;simp;omega⟩,⟨by have:=H'.out;rw [EI.out];exact this⟩,HO,HA,BK1,HB⟩
         ·have t3:(f0 != 4)=true:=bne_iff_ne.mpr c5
          clear c5;go_wp2_with (first | (go_at_call 31;refine (layers_wires.calls f0 f1 A2_ c2_ f2 f3 f4 f5 ws _ ?s1 ?s2 A1.out).mono ?_;(case s1=>exact Qt HI.out (Qg HB.out GO.out));(case s2=>exact HI2.out);rintro e w6 ⟨vv,rfl,ho,hb⟩;have HA5:=Kd.R_grown HA.out HP2.out (fun k hk e=>NG.out (by cases e;exact hk));have N34:=h_lt HA5;have N35:=h_lt HP1.out;have HVok:=Kd.R_base ho;have HV:=Qh (show Kd.R (Kd.int .i64) 3 w6 w.heap.size (fun k=>k≠gb3∧k≠go) vv ws from ⟨fun k hk=>by have h1:=HVok k hk;exact ⟨by omega,by omega⟩,(Kd.R_lower ho (Qg HB.out GO.out).size).2⟩);have HO6:=Qh (Kd.R_below HP1.out hb);have HA6:=Qh (Kd.R_below HA5 hb);have BK6':=Qh (Qq (blk_grown BK1.out HP2.out (fun e=>Kd.R_ne HO.out BK1.out (by decide) e)) hb);have HB6:=Qh (Qr (Qg HB.out GO.out) hb);clear ho hb HA5 N34 N35 HVok HO HA BK1 HB HP1 HP2 hcz g' f' e' d' c' b';obtain ⟨Av,cv,ev⟩:=Kd.R_slice HV.out;subst ev))
          go_loopg [74] ws.length (fun kq v40 w'=>∃ (last2:List Int) (y2:Int),v40=.int .i64 y2∧Aside0 (0≤y2∧y2 + kq=ws.length)∧Aside0 (wire_set mm last2 (ws.drop y2.toNat)=some free')∧Aside0 (Kd.R (Kd.int .i64) 3 w' w.heap.size (fun k=>k≠gb3) (.slice (some ⟨go,0,none⟩) out.length co) (out.set x.toNat m1))∧Aside0 (Kd.R (Kd.int .i64) 63 w' w.heap.size (fun k=>k=gb3) (.slice (some ⟨gb3,0,none⟩) 128 128) last2)∧Aside0 (Kd.R (Kd.int .i64) 3 w' w.heap.size (fun k=>k≠gb3∧k≠go) (.slice Av ws.length cv) ws)∧Aside0 (w'.heap[gb1]?=some (.cells #[.int .i64 a0_0,.int .i64 a0_1,.slice (some ad) l0_2.length c0_2] 24 (0,0)))∧Aside0 (Below w.heap.size w w'))
          case atStart=>exact ⟨free,0,rfl,⟨by omega,by omega⟩,A3,HO6,HA6,HV,BK6',HB6⟩
          case round =>
           clear A3 HO6 HA6 HV BK6' HB6;obtain ⟨last2,y2,rfl,HY2,A3,HO,HA,HV,BK1,HB⟩:=hrel;have a':=Qh (h_len HA.out);by_cases c6:y2 < ws.length
           ·have t4:decide (y2 < (ws.length:Int))=true:=decide_eq_true c6
            have y0:0≤y2:=HY2.out.1;have H:=A3.out;rw [h_drop y0 c6] at H;unfold wire_set at H
            by_cases c4:0≤rd ws y2∧rd ws y2 < 128
            ·rw [if_pos c4] at H
             obtain ⟨ad2,e2,g2⟩:=Kd.at_int (Kd.R_reads' HV.out).2.2 y2 y0 c6
             cases e2;obtain ⟨g3,f3_⟩:=Kd.R_celln 0 HA.out (rd ws y2) c4.1 (by have:=a'.out;omega);have HP:=Kd.R_putg HA.out (rd ws y2) mm;have A3':=Qh H;have HW1:=Qh (h_w1 y0 c6 HWM.out);have C3:=Qh c6;have HP1:=Qh HP.1;have HP2:=Qh HP.2;have q2:=eq_true y0;have q3:=eq_true c6;have q4:=eq_true c4.1;have q5:=eq_true c4.2;clear H A3 y0 c6 c4 HP;go_wp2
             go_roundg (gk - 1)
             case measure=>have:=HY2.out;have:=C3.out;omega
             case rel=>exact ⟨last2.set (rd ws y2).toNat mm,y2 + 1,by rw [HW1.out],⟨by have:=HY2.out;omega,by have:=HY2.out;have:=C3.out;omega⟩,A3',⟨Kd.R_grown HO.out HP2.out (fun k hk e=>hk (by injection e))⟩,HP1,⟨Kd.R_grown HV.out HP2.out (fun k hk e=>hk.1 (by injection e))⟩,⟨blk_far BK1.out N13.out _⟩,⟨Qg HB.out G3.out⟩⟩
            ·rw [if_neg c4] at H
             exact absurd H (by simp)
           ·have H:=A3.out
            rw [h_end c6] at H;obtain rfl:last2=free':=Option.some.inj H;have t4:decide (y2 < (ws.length:Int))=false:=decide_eq_false c6;have X1:=Qh (of_eq_true q1);have X0:=Qh (of_eq_true q0);clear H A3 c6;go_wp2
            go_roundg i
            case measure=>omega
            case rel=>exact ⟨last2,out.set x.toNat m1,x - 1,by first | rfl | (have:=X0.out;have:=X1.out;have:=HM.out;rw [show wrap64 (x - 1)=x - 1 by unfold wrap64;omega]),⟨by have:=HX.out;omega,by have:=HX.out;omega,by have:=HX.out;simp;omega⟩,⟨by have:=H'.out;rw [EI.out];exact this⟩,HO,HA,BK1,HB⟩
      ·have t1:decide (0≤x)=false:=decide_eq_false c1
       have H:=H'.out;obtain rfl:gk0=0:=by have:=HX.out;omega
       unfold late_go at H
       obtain rfl:out=r:=Option.some.inj H;obtain ⟨Ao,co,eo⟩:=Kd.R_slice HO.out;subst eo;clear H H' c1;go_wp2
       go_ret2
       exact ⟨_,rfl,Kd.R_mono HO.out (fun _ _=>trivial),HB.out⟩
  ·rw [if_neg cL] at H1
   exact absurd H1 (by simp)
 ·rw [if_neg c0] at H1
  simp only [Option.some.injEq,Prod.mk.injEq] at H1
  obtain ⟨rfl,rfl⟩:=H1;have t0:(e0 != 0)=true:=bne_iff_ne.mpr c0;clear c0;go_enter Try.func9,Try.ntmps9
  go_wp2_with (first | ((with_reducible refine gate_dst (N:=1) rfl ?_);refine box_event ?hg (N:=1) ?hd (cs:=#[.int .i64 a0_0,.int .i64 a0_1,.slice A0_2 l0_2.length c0_2]) (t:=24) ?hr ?_;(case hd=>rfl);(case hg=>rfl);(case hr=>first | (go_simp;done) | (go_simp;rfl));intro gb1 hg w1 BK1 hb;have G1:=Qh (show w.heap.size≤gb1 by rw [hg];exact Nat.le_refl _);have HB1:=Qh (Qr HB.out hb);replace BK1:=Qh BK1;clear HB;have HB:=HB1;clear HB1 hb hg;have hz0:w1.cell? ⟨gb1,0,none⟩=some (.int .i64 a0_0):=(Qi BK1.out 0).trans rfl;have hz1:w1.cell? ⟨gb1,1,none⟩=some (.int .i64 a0_1):=(Qi BK1.out 1).trans rfl;have hz2:w1.cell? ⟨gb1,2,none⟩=some (.slice A0_2 l0_2.length c0_2):=(Qi BK1.out 2).trans rfl) | (go_at_call 15;refine (layers_Depth.calls k a0_0 a0_1 A0_2 c0_2 l0_2 d _ _ ?s1 ?s2 AD.out).mono ?_;(case s1=>exact Qt HR.out HB.out);(case s2=>exact HC.out);rintro e w2 ⟨rfl,hb⟩;have HB1:=Qh (Qr HB.out hb);have BK1':=Qh (Qq BK1.out hb);clear HB BK1 hz0 hz1 hz2 hb;have HB:=HB1;have BK1:=BK1';clear HB1 BK1';have hz2:w2.cell? ⟨gb1,2,none⟩=some (.slice A0_2 l0_2.length c0_2):=(Qi BK1.out 2).trans rfl))
  go_ret2
  exact ⟨_,rfl,Kd.R_nil _ _ _ _ _,HB.out⟩
def slices_Reverse_int_int.l0:Nat→List Int→Int→Int→Option (List Int)
 | 0,_,_,_=>none
 | k + 1,x0,x2,x3=>if x2 < x3 then (if 0≤x3 then (if x3 < (x0.length:Int) then (if 0≤x2 then (if x2 < (x0.length:Int) then (slices_Reverse_int_int.l0 k ((x0.set (x2:Int).toNat (rd x0 x3)).set (x3:Int).toNat (rd x0 x2)) (wrap64 (x2 + 1)) (wrap64 (x3 - 1))) else (none)) else (none)) else (none)) else (none)) else (some x0)
def slices_Reverse_int_int.f (k:Nat) (l0:List Int):Option (List Int):=slices_Reverse_int_int.l0 k l0 0 (wrap64 ((l0.length:Int) - 1))
def slices_Reverse_int_int.T3:Bool × List (List Nat × List Nat):=(true,[([],[]),([],[]),([],[]),([],[]),([],[]),([],[]),([4,5],[4,5]),([6],[6]),([],[]),([],[]),([8,9],[8,9]),([10],[10]),([0,1,0,1,4,5,6,7,11],[0,1]),([12,7,0,1,4,5,6,7,11],[7,12]),([2,3,0,1,2,3,4,5,6,7,8,9,10,11,12,13],[2,3]),([14,11,13,0,1,2,3,4,5,6,7,8,9,10,11,12,13],[11,14])])
def slices_Reverse_int_int.B3:List Nat:=[0,0,0,0,0,0,48,112,0,0,768,1792,4083,8179,16383,32767]
theorem slices_Reverse_int_int.tab3:rtab .any (opsOf Try.f49 3)=slices_Reverse_int_int.T3:=by kernel_rfl
theorem slices_Reverse_int_int.bits3:waitsOk slices_Reverse_int_int.T3.2 slices_Reverse_int_int.B3=true:=by kernel_rfl
set_option maxHeartbeats 8000000 in
set_option maxRecDepth 100000 in
theorem slices_Reverse_int_int.calls (k:Nat) (P0_:Nat→Prop) (f':Value) (l0:List Int) (r:List Int) (w0 w:World) (hB:Below w0.heap.size w0 w) (ho0:Kd.R (Kd.int .i64) 3 w w0.heap.size P0_ f' l0) (h:slices_Reverse_int_int.f k l0=some r) :
  Calls Try.prog 49 #[f'] w fun e w'=>e=.returned (.tuple #[])∧Kd.R (Kd.int .i64) 3 w' w0.heap.size (fun k_=>(P0_ k_∨w.heap.size≤k_)) f' r∧Below w0.heap.size w0 w'∧Kept w w' (fun k_=>P0_ k_):=by
 have HO0:=Qh (show Kd.R (Kd.int .i64) 3 w w0.heap.size (fun k_=>(P0_ k_∨w.heap.size≤k_)) f' l0 from Kd.R_mono ho0 (fun k_ hk=>(.inl hk)));have HK:=Qh (Kept.refl w (fun k_=>P0_ k_));have HW0:=Qh hB.size;have HB:=Qh hB;clear hB;have H:(slices_Reverse_int_int.l0 k l0 0 (wrap64 ((l0.length:Int) - 1)))=some r:=h;clear h;have H':=Qh H;clear H;obtain ⟨Ao2,co2,eo2⟩:=Kd.R_slice HO0.out;subst eo2;go_enter Try.func49,Try.ntmps49
 go_wp2
 go_loopg [2,3] k (fun kq v2 v3 w'=>∃ (x0_1:List Int) (x2_1:Int) (x3_1:Int),v2=.int .i64 x2_1∧v3=.int .i64 x3_1∧Aside0 (slices_Reverse_int_int.l0 kq x0_1 x2_1 x3_1=some r)∧Aside0 (kq≤k)∧Aside0 (Kd.R (Kd.int .i64) 3 w' w0.heap.size (fun k_=>(P0_ k_∨w.heap.size≤k_)) (.slice Ao2 l0.length co2) x0_1)∧Aside0 (Kept w w' (fun k_=>P0_ k_))∧Aside0 (Below w0.heap.size w0 w'))
 case atStart=>exact ⟨(l0),(0),(wrap64 ((l0.length:Int) - 1)),(by first | rfl | (simp;done) | (simp [*];done)),(by first | rfl | (simp;done) | (simp [*];done)),H',⟨Nat.le_refl _⟩,⟨by (with_reducible repeat (first | apply Qv | apply Qw | apply Qx));exact HO0.out⟩,⟨by repeat (first | (with_reducible first | exact HK.out | apply Kept.alloc | apply Kept.drewN | apply Kept.drew) | exact HK.out)⟩,⟨by repeat (first | (with_reducible first | exact HB.out | apply Qd | apply Qe | apply Qf) | exact HB.out)⟩⟩
 case round =>
  clear H';(try clear p2);obtain ⟨x0_1,x2_1,x3_1,rfl,rfl,HA,HK1,HO_0,HK,HB⟩:=hrel;have hl0_1:=(Kd.R_reads' HO_0.out).1;rw [hl0_1] at HO_0
  (try simp only [hl0_1])
  cases gk with
  | zero=>exact absurd HA.out (by simp [slices_Reverse_int_int.l0])
  | succ k1 =>
   have H:=HA.out;clear HA;simp only [slices_Reverse_int_int.l0] at H;by_cases c3:x2_1 < x3_1
   ·rw [if_pos c3] at H
    have c3b0:decide (x2_1 < x3_1)=true:=decide_eq_true c3;clear c3;by_cases c4:0≤x3_1
    ·rw [if_pos c4] at H
     have c4b0:decide (0≤x3_1)=true:=decide_eq_true c4;clear c4;by_cases c5:x3_1 < (x0_1.length:Int)
     ·rw [if_pos c5] at H
      have c5b0:decide (x3_1 < (x0_1.length:Int))=true:=decide_eq_true c5;clear c5;by_cases c6:0≤x2_1
      ·rw [if_pos c6] at H
       have c6b0:decide (0≤x2_1)=true:=decide_eq_true c6;clear c6;by_cases c7:x2_1 < (x0_1.length:Int)
       ·rw [if_pos c7] at H
        have c7b0:decide (x2_1 < (x0_1.length:Int))=true:=decide_eq_true c7;clear c7;obtain ⟨l',c'⟩:∃ y_:List Int,y_=(x0_1.set (x2_1:Int).toNat (rd x0_1 x3_1)):=⟨_,rfl⟩;replace H:(slices_Reverse_int_int.l0 k1 (l'.set (x3_1:Int).toNat (rd x0_1 x2_1)) (wrap64 (x2_1 + 1)) (wrap64 (x3_1 - 1)))=some r:=by first | (rw [c'];with_reducible exact H) | (have H2_:=(Option.bind_some _ _).symm.trans H;rw [c'];with_reducible exact H2_) | (have H2_:=(Option.bind_some _ _).symm.trans H;with_reducible exact H2_) | with_reducible exact H | (rw [c'];exact H) | exact H
        have p':=Qh c';clear c';obtain ⟨k',b'⟩:∃ y_:List Int,y_=(l'.set (x3_1:Int).toNat (rd x0_1 x2_1)):=⟨_,rfl⟩;replace H:(slices_Reverse_int_int.l0 k1 k' (wrap64 (x2_1 + 1)) (wrap64 (x3_1 - 1)))=some r:=by first | (rw [b'];with_reducible exact H) | (have H2_:=(Option.bind_some _ _).symm.trans H;rw [b'];with_reducible exact H2_) | (have H2_:=(Option.bind_some _ _).symm.trans H;with_reducible exact H2_) | with_reducible exact H | (rw [b'];exact H) | exact H
        have o':=Qh b';clear b';have H':=Qh H;clear H;try go_wp2
        have n0_:=Qh (Qx HO_0.out);have n1_:=Qh (Kept.drew HK.out);have n2_:=Qh (Qf HB.out);clear HO_0;clear HK;clear HB;have HO_0:=n0_;have HK:=n1_;have HB:=n2_;clear n0_ n1_ n2_;have j':0≤(x3_1:Int):=of_decide_eq_true (by first | (with_reducible assumption) | assumption);have h':x3_1 < (x0_1.length:Int):=of_decide_eq_true (by first | (with_reducible assumption) | assumption);obtain ⟨n',r',e'⟩:=Kd.at_int (Kd.R_reads' HO_0.out).2.2 x3_1 j' h'
        cases r'
        replace j':=eq_true j';replace h':=eq_true h';have i':0≤(x2_1:Int):=of_decide_eq_true (by first | (with_reducible assumption) | assumption);have g':x2_1 < (x0_1.length:Int):=of_decide_eq_true (by first | (with_reducible assumption) | assumption);obtain ⟨m',q',d'⟩:=Kd.at_int (Kd.R_reads' HO_0.out).2.2 x2_1 i' g';obtain rfl:n'=m':=(by injection q');replace i':=eq_true i';replace g':=eq_true g';have p8:0≤(x2_1:Int):=of_decide_eq_true (by first | (with_reducible assumption) | assumption);have q8:(x2_1:Int) < ((x0_1.length:Int):Int):=of_decide_eq_true (by first | (with_reducible assumption) | assumption);obtain ⟨go8,co8,eo8,gb8,gl8,cl8,HG8⟩:=Kd.R_form HO_0.out (by omega);(first | cases eo8 | (injection eo8 with ea_ en_ ec_;(first | subst ea_ | (injection ea_ with ea_;subst ea_));subst ec_;clear en_))
        have GB8:=Qh gb8;have GG8:=Qh HG8;clear gb8 gl8 HG8;have HMgo8:=Qh (show (P0_ go8∨w.heap.size≤go8) from (HO_0.out.1 _ rfl));(first | simp only [add_plain] at e' | skip)
        (first | simp only [add_plain] at d' | skip)
        obtain ⟨hx8_0,hf8_0⟩:=Kd.R_celln 0 HO_0.out (x2_1:Int) p8 q8;replace p8:=eq_true p8;replace q8:=eq_true q8;have HP11:=Kd.R_putn HO_0.out (x2_1:Int) (rd x0_1 x3_1);rw [← p'.out] at HP11
        have HQ11:=Qh HP11;clear HP11;have p9:0≤(x3_1:Int):=of_decide_eq_true (by first | (with_reducible assumption) | assumption);have q9:(x3_1:Int) < ((x0_1.length:Int):Int):=of_decide_eq_true (by first | (with_reducible assumption) | assumption);obtain ⟨hx9_0,hf9_0⟩:=Kd.R_celln 0 HQ11.out (x3_1:Int) p9 q9;replace p9:=eq_true p9;replace q9:=eq_true q9;have HP12:=Kd.R_putn HQ11.out (x3_1:Int) (rd x0_1 x2_1);rw [← o'.out] at HP12
        have HQ12:=Qh HP12;clear HP12;refine start_ (n:=16) (S:=fun w'=>w'.cell? ⟨go8,(x3_1).toNat,none⟩=some (.int .i64 (rd x0_1 x3_1))∧w'.cell? ⟨go8,(x2_1).toNat,none⟩=some (.int .i64 (rd x0_1 x2_1))) (ds:=[13,15]) #[false,false,false,false,false,false,false,false,false,false,false,false,false,false,false,false] (by kernel_rfl) rfl rfl ⟨e',d'⟩ (fun hHeld=>?_);refine with_tabW slices_Reverse_int_int.tab3 slices_Reverse_int_int.bits3 (fun HT_ HW_=>?_)
        generalize wr.drew=w10 at HO_0 HK HB GG8 HQ11 HQ12 hf8_0 hf9_0 e' d' hx8_0 hx9_0 hHeld ⊢
        refine pure_ (i:=0) (N:=some 14) (v:=?_) (a':=?_) #[true,false,false,false,false,false,false,false,false,false,false,false,false,false,false,false] rfl rfl (any_of HT_.out (by kernel_rfl)) (fun _ _ _ h=>h) (Or.inl ⟨by rfl,?_⟩) ?_ ?_
        rotate_left
        ·intro w'
         go_simp
         with_reducible rfl
        rotate_left
        ·simp only [Act.put,List.setIfInBounds_toArray,List.set_cons_zero,List.set_cons_succ,i64_w,i32_w]
         rfl
        refine pure_ (i:=1) (N:=some 15) (v:=?_) (a':=?_) #[true,true,false,false,false,false,false,false,false,false,false,false,false,false,false,false] rfl rfl (any_of HT_.out (by kernel_rfl)) (fun _ _ _ h=>h) (Or.inl ⟨by rfl,?_⟩) ?_ ?_
        rotate_left
        ·intro w'
         go_simp
         with_reducible rfl
        rotate_left
        ·simp only [Act.put,List.setIfInBounds_toArray,List.set_cons_zero,List.set_cons_succ,i64_w,i32_w]
         rfl
        refine pure_ (i:=2) (N:=some 16) (v:=?_) (a':=?_) #[true,true,true,false,false,false,false,false,false,false,false,false,false,false,false,false] rfl rfl (any_of HT_.out (by kernel_rfl)) (fun _ _ _ h=>h) (Or.inl ⟨by rfl,?_⟩) ?_ ?_
        rotate_left
        ·intro w'
         go_simp
         with_reducible rfl
        rotate_left
        ·simp only [Act.put,List.setIfInBounds_toArray,List.set_cons_zero,List.set_cons_succ,i64_w,i32_w]
         rfl
        refine pure_ (i:=3) (N:=some 17) (v:=?_) (a':=?_) #[true,true,true,true,false,false,false,false,false,false,false,false,false,false,false,false] rfl rfl (any_of HT_.out (by kernel_rfl)) (fun _ _ _ h=>h) (Or.inl ⟨by rfl,?_⟩) ?_ ?_
        rotate_left
        ·intro w'
         go_simp
         with_reducible rfl
        rotate_left
        ·simp only [Act.put,List.setIfInBounds_toArray,List.set_cons_zero,List.set_cons_succ,i64_w,i32_w]
         rfl
        refine pure_ (i:=4) (N:=some 18) (v:=?_) (a':=?_) #[true,true,true,true,true,false,false,false,false,false,false,false,false,false,false,false] rfl rfl (any_of HT_.out (by kernel_rfl)) (fun _ _ _ h=>h) (Or.inl ⟨by rfl,?_⟩) ?_ ?_
        rotate_left
        ·intro w'
         go_simp
         with_reducible rfl
        rotate_left
        ·simp only [Act.put,List.setIfInBounds_toArray,List.set_cons_zero,List.set_cons_succ,i64_w,i32_w]
         rfl
        refine pure_ (i:=5) (N:=some 19) (v:=?_) (a':=?_) #[true,true,true,true,true,true,false,false,false,false,false,false,false,false,false,false] rfl rfl (any_of HT_.out (by kernel_rfl)) (fun _ _ _ h=>h) (Or.inl ⟨by rfl,?_⟩) ?_ ?_
        rotate_left
        ·intro w'
         go_simp
         with_reducible rfl
        rotate_left
        ·simp only [Act.put,List.setIfInBounds_toArray,List.set_cons_zero,List.set_cons_succ,i64_w,i32_w]
         rfl
        refine pure_ (i:=6) (N:=some 20) (v:=?_) (a':=?_) #[true,true,true,true,true,true,true,false,false,false,false,false,false,false,false,false] rfl rfl (any_of HT_.out (by kernel_rfl)) (fun _ _ _ h=>h) (Or.inl ⟨by rfl,?_⟩) ?_ ?_
        rotate_left
        ·intro w'
         go_simp
         with_reducible rfl
        rotate_left
        ·simp only [Act.put,List.setIfInBounds_toArray,List.set_cons_zero,List.set_cons_succ,i64_w,i32_w]
         rfl
        refine pure_ (i:=8) (N:=some 22) (v:=?_) (a':=?_) #[true,true,true,true,true,true,true,false,true,false,false,false,false,false,false,false] rfl rfl (any_of HT_.out (by kernel_rfl)) (fun _ _ _ h=>h) (Or.inl ⟨by rfl,?_⟩) ?_ ?_
        rotate_left
        ·intro w'
         go_simp
         with_reducible rfl
        rotate_left
        ·simp only [Act.put,List.setIfInBounds_toArray,List.set_cons_zero,List.set_cons_succ,i64_w,i32_w]
         rfl
        refine pure_ (i:=9) (N:=some 23) (v:=?_) (a':=?_) #[true,true,true,true,true,true,true,false,true,true,false,false,false,false,false,false] rfl rfl (any_of HT_.out (by kernel_rfl)) (fun _ _ _ h=>h) (Or.inl ⟨by rfl,?_⟩) ?_ ?_
        rotate_left
        ·intro w'
         go_simp
         with_reducible rfl
        rotate_left
        ·simp only [Act.put,List.setIfInBounds_toArray,List.set_cons_zero,List.set_cons_succ,i64_w,i32_w]
         rfl
        refine pure_ (i:=10) (N:=some 24) (v:=?_) (a':=?_) #[true,true,true,true,true,true,true,false,true,true,true,false,false,false,false,false] rfl rfl (any_of HT_.out (by kernel_rfl)) (fun _ _ _ h=>h) (Or.inl ⟨by rfl,?_⟩) ?_ ?_
        rotate_left
        ·intro w'
         go_simp
         with_reducible rfl
        rotate_left
        ·simp only [Act.put,List.setIfInBounds_toArray,List.set_cons_zero,List.set_cons_succ,i64_w,i32_w]
         rfl
        refine take_ (i:=7) (N:=some 21) (v:=?_) (a':=?_) #[true,true,true,true,true,true,true,true,true,true,true,false,false,false,false,false] rfl rfl (take_ofW HT_.out HW_.out (by kernel_rfl)) (fun _ _ _ h=>h) (Or.inl ⟨by rfl,?_⟩) hHeld ?_ ?_
        rotate_left
        ·rintro w' ⟨s0,s1⟩
         go_simp
         with_reducible rfl
        rotate_left
        ·simp only [Act.put,List.setIfInBounds_toArray,List.set_cons_zero,List.set_cons_succ,i64_w,i32_w]
         rfl
        refine take_ (i:=11) (N:=some 25) (v:=?_) (a':=?_) #[true,true,true,true,true,true,true,true,true,true,true,true,false,false,false,false] rfl rfl (take_ofW HT_.out HW_.out (by kernel_rfl)) (fun _ _ _ h=>h) (Or.inl ⟨by rfl,?_⟩) hHeld ?_ ?_
        rotate_left
        ·rintro w' ⟨s0,s1⟩
         go_simp
         with_reducible rfl
        rotate_left
        ·simp only [Act.put,List.setIfInBounds_toArray,List.set_cons_zero,List.set_cons_succ,i64_w,i32_w]
         rfl
        refine pure_ (i:=12) (N:=some 26) (v:=?_) (a':=?_) #[true,true,true,true,true,true,true,true,true,true,true,true,true,false,false,false] rfl rfl (any_of HT_.out (by kernel_rfl)) (fun _ _ _ h=>h) (Or.inl ⟨by rfl,?_⟩) ?_ ?_
        rotate_left
        ·intro w'
         go_simp
         with_reducible rfl
        rotate_left
        ·simp only [Act.put,List.setIfInBounds_toArray,List.set_cons_zero,List.set_cons_succ,i64_w,i32_w]
         rfl
        refine last_ (i:=13) (N:=none) #[true,true,true,true,true,true,true,true,true,true,true,true,true,true,false,false] rfl rfl (one_of HT_.out (by kernel_rfl)) (by decide) (fun K hK=>?_)
        refine skip_ (w1:=?_) (by rfl) rfl ?_ ?_
        rotate_left
        ·go_simp
         rfl
        refine hK.out _ _ ?_
        clear hK K;refine pure_ (i:=14) (N:=some 27) (v:=?_) (a':=?_) #[true,true,true,true,true,true,true,true,true,true,true,true,true,true,true,false] rfl rfl (any_of HT_.out (by kernel_rfl)) (fun _ _ _ h=>h) (Or.inl ⟨by rfl,?_⟩) ?_ ?_
        rotate_left
        ·intro w'
         go_simp
         with_reducible rfl
        rotate_left
        ·simp only [Act.put,List.setIfInBounds_toArray,List.set_cons_zero,List.set_cons_succ,i64_w,i32_w]
         rfl
        refine last_ (i:=15) (N:=none) #[true,true,true,true,true,true,true,true,true,true,true,true,true,true,true,true] rfl rfl (one_of HT_.out (by kernel_rfl)) (by decide) (fun K hK=>?_)
        refine skip_ (w1:=?_) (by rfl) rfl ?_ ?_
        rotate_left
        ·go_simp
         rfl
        refine hK.out _ _ ?_
        clear hK K;refine done_ (done_of HT_.out (by kernel_rfl)) ?_
        try go_wp2
        (try simp only [← hl0_1])
        go_roundg k1
        case measure=>have:=HK1.out;omega
        case rel=>exact ⟨(k'),(wrap64 (x2_1 + 1)),(wrap64 (x3_1 - 1)),(by first | rfl | (simp;done) | (simp [*];done)),(by first | rfl | (simp;done) | (simp [*];done)),H',⟨by have:=HK1.out;omega⟩,⟨by (try simp only [hl0_1]);(with_reducible repeat (first | apply Qv | apply Qw | apply Qx));exact HQ12.out⟩,⟨by repeat (first | (with_reducible first | exact HK.out | apply Kept.alloc | apply Kept.drewN | apply Kept.drew | refine Kept.setCell ?_ HMgo8.out _ | refine Kept.setCell ?_ HMgo8.out _) | exact HK.out)⟩,⟨by repeat (first | (with_reducible first | exact HB.out | apply Qd | apply Qe | apply Qf | refine Qg ?_ GB8.out | refine Qg ?_ GB8.out) | exact HB.out)⟩⟩
       ·rw [if_neg c7] at H
        exact absurd H (by simp)
      ·rw [if_neg c6] at H
       exact absurd H (by simp)
     ·rw [if_neg c5] at H
      exact absurd H (by simp)
    ·rw [if_neg c4] at H
     exact absurd H (by simp)
   ·rw [if_neg c3] at H
    have c3b0:decide (x2_1 < x3_1)=false:=decide_eq_false c3;clear c3;obtain rfl:=Option.some.inj H;go_wp2
    first | go_end0 | ((try simp only [Exit.inBlock,Exit.then]);refine bodyPost_ret (results_none rfl _ _ _) rfl ?_)
    exact ⟨by first | rfl | (simp [errW_none,errW_some]<;>rfl) | (simp [*,errW_none,errW_some]<;>rfl),(by first | exact (by (with_reducible repeat (first | apply Qv | apply Qw | apply Qx));exact HO_0.out) | (simp only [hl0_1];exact (by (with_reducible repeat (first | apply Qv | apply Qw | apply Qx));exact HO_0.out))),by repeat (first | (with_reducible first | exact HB.out | apply Qd | apply Qe | apply Qf) | exact HB.out),by repeat (first | (with_reducible first | exact HK.out | apply Kept.alloc | apply Kept.drewN | apply Kept.drew) | exact HK.out)⟩
theorem h_rowB {w:World} {g:Nat} {t base n:Nat} {xs:List Bool} {ok:Nat→Prop} (h:w.heap[g]?=some (.cells (bools xs).toArray t (0,0))) (hb:base≤g) (hn:xs.length=n) (hm:n≤9223372036854775807) (hok:ok g) :
  Kd.R Kd.bool t w base ok (.slice (some ⟨g,0,none⟩) n n) xs:=by
 subst hn
 refine Kd.R_of_own (h1:=fun _=>rfl) ⟨by simp [encs],.inr ⟨g,xs.length,_,rfl,hb,h,Nat.le_refl _,hm,by simp [bools],by simp only [bools,encs,Nat.mul_one];exact List.take_of_length_le (by simp)⟩⟩ ?_
 intro q hq
 obtain rfl:q=g:=by simpa [Value.ownBlock] using hq.symm
 exact hok
theorem h_ltB {w:World} {g t base n c:Nat} {xs:List Bool} {ok:Nat→Prop} (h:Kd.R Kd.bool t w base ok (.slice (some ⟨g,0,none⟩) n c) xs):g < w.heap.size :=
 own_lt (Kd.own_of_R (h1:=fun _=>rfl) h) g rfl
def wire_at (bs:List Bool):Int→List Int→Option Int
 | _,[]=>some (-1)
 | i,w :: ws=>if 0≤w∧w < 128 then (if rdOf false bs w=true then some i else wire_at bs (i + 1) ws) else none
theorem cone1_calls (gb:Nat) (bs:List Bool) (x:Int) (base:Nat) (ok:Nat→Prop) (w:World) (h:Kd.R Kd.bool 75 w base ok (.slice (some ⟨gb,0,none⟩) 128 128) bs) (h0:0≤x) (h1:x < 128) :
  Calls Try.prog 48 #[.int .i64 x,.pointer (some ⟨gb,0,none⟩)] w fun e w'=>e=.returned (.bool (rdOf false bs x))∧w'=w:=by
 obtain ⟨g1,g2⟩:=Kd.R_celln false h x h0 (by omega)
 have q0:=eq_true h0
 have q1:=eq_true h1
 clear h h0 h1
 go_enter Try.func48,Try.ntmps48
 go_wp2
 go_ret
 exact ⟨rfl,rfl⟩
set_option maxHeartbeats 2000000 in
set_option maxRecDepth 100000 in
theorem IndexFunc_calls (gb:Nat) (bs:List Bool) (A:Option Addr) (c:Nat) (ws:List Int) (r:Int) (base base':Nat) (ok ok':Nat→Prop) (w:World) (h:Kd.R Kd.bool 75 w base ok (.slice (some ⟨gb,0,none⟩) 128 128) bs) (hw:Kd.R (Kd.int .i64) 3 w base' ok' (.slice A ws.length c) ws)
  (hf:wire_at bs 0 ws=some r) :
  Calls Try.prog 57 #[.slice A ws.length c,.func (.func 48) #[] #[.pointer (some ⟨gb,0,none⟩)]] w fun e w'=>e=.returned (.int .i64 r)∧w'=w:=by
 have HA:=Aside0.mk h
 have HW:=Aside0.mk hw
 have HWM:=Aside0.mk ((Kd.R_reads' hw).2.2).2.1
 have H':=Aside0.mk hf
 clear h hw hf
 go_enter Try.func57,Try.ntmps57
 go_wp2
 go_loop [8] (fun v=>∃ y:Int,v=.int .i64 y∧Aside0 (0≤y∧y≤ws.length)∧Aside0 (wire_at bs y (ws.drop y.toNat)=some r)) (fun i=>ws.length - (intOf i).toNat)
 case atStart=>exact ⟨0,rfl,⟨by omega,by omega⟩,H'⟩
 case round =>
  clear H'
  obtain ⟨y,rfl,HY,H'⟩:=hrel
  by_cases c3:y < ws.length
  ·have t2:decide (y < (ws.length:Int))=true:=decide_eq_true c3
   have y0:0≤y:=HY.out.1
   have H:=H'.out
   rw [h_drop y0 c3] at H
   unfold wire_at at H
   by_cases c4:0≤rd ws y∧rd ws y < 128
   ·rw [if_pos c4] at H
    obtain ⟨ad2,e2,g2⟩:=Kd.at_int (Kd.R_reads' HW.out).2.2 y y0 c3
    cases e2
    have hcl:=cone1_calls gb bs (rd ws y) base ok w HA.out c4.1 c4.2
    have HW1:=Aside0.mk (h_w1 y0 c3 HWM.out)
    have C3:=Aside0.mk c3
    have q2:=eq_true y0
    have q3:=eq_true c3
    by_cases c5:rdOf false bs (rd ws y)=true
    ·rw [if_pos c5] at H
     obtain rfl:y=r:=Option.some.inj H
     rw [c5] at hcl
     have HCL:=Aside0.mk hcl
     clear H H' y0 c3 c4 c5 hcl
     go_wp2_with (first | (go_at_call 48;refine HCL.out.mono ?_;rintro e w2 ⟨rfl,rfl⟩))
     go_ret
     exact ⟨rfl,rfl⟩
    ·rw [if_neg c5] at H
     have A2':=Aside0.mk H
     rw [Bool.eq_false_iff.mpr c5] at hcl
     have HCL:=Aside0.mk hcl
     clear H H' y0 c3 c4 c5 hcl
     go_wp2_with (first | (go_at_call 48;refine HCL.out.mono ?_;rintro e w2 ⟨rfl,rfl⟩))
     refine ⟨⟨y + 1,by rw [HW1.out],⟨by have:=of_eq_true q2;omega,by have:=C3.out;omega⟩,A2'⟩,?_⟩
     have:=of_eq_true q2
     have:=C3.out
     rw [HW1.out]
     simp [intOf]
     omega
   ·rw [if_neg c4] at H
    exact absurd H (by simp)
  ·have H:=H'.out
   rw [h_end c3] at H
   obtain rfl:-1=r:=Option.some.inj H
   have t2:decide (y < (ws.length:Int))=false:=decide_eq_false c3
   clear H H' c3
   go_wp2
   go_ret
   exact ⟨rfl,rfl⟩
theorem ContainsFunc_calls (gb:Nat) (bs:List Bool) (A:Option Addr) (c:Nat) (ws:List Int) (r:Int) (base base':Nat) (ok ok':Nat→Prop) (w:World) (h:Kd.R Kd.bool 75 w base ok (.slice (some ⟨gb,0,none⟩) 128 128) bs) (hw:Kd.R (Kd.int .i64) 3 w base' ok' (.slice A ws.length c) ws)
  (hf:wire_at bs 0 ws=some r) :
  Calls Try.prog 47 #[.slice A ws.length c,.func (.func 48) #[] #[.pointer (some ⟨gb,0,none⟩)]] w fun e w'=>e=.returned (.bool (decide (0≤r)))∧w'=w:=by
 have HCL:=Aside0.mk (IndexFunc_calls gb bs A c ws r base base' ok ok' w h hw hf)
 clear h hw hf
 go_enter Try.func47,Try.ntmps47
 go_wp2_with (first | (go_at_call 57;refine HCL.out.mono ?_;rintro e w2 ⟨rfl,rfl⟩))
 go_ret
 exact ⟨rfl,rfl⟩
def cone_init (n:Int):List Bool→List Int→Option (Option (List Bool))
 | m,[]=>some (some m)
 | m,q :: qs=>if q < 0∨n≤q then some none else if q < 128 then (if rdOf false m q=true then some none else cone_init n (m.set q.toNat true) qs) else none
def mark_all:List Bool→List Int→Option (List Bool)
 | m,[]=>some m
 | m,w :: ws=>if 0≤w∧w < 128 then mark_all (m.set w.toNat true) ws else none
def cone_i (l:List S57) (back:Bool) (x:Int):Int:=if back=true then (l.length:Int) - 1 - x else x
def cone_go (l:List S57) (back:Bool):Nat→Int→List Bool→List Int→Option (List Int)
 | 0,_,_,out=>some out
 | r + 1,x,m,out =>
  (layers_wires.f (rd_T57 l (cone_i l back x)).f0 (rd_T57 l (cone_i l back x)).f1 (rd_T57 l (cone_i l back x)).f2 (rd_T57 l (cone_i l back x)).f3 (rd_T57 l (cone_i l back x)).f4 (rd_T57 l (cone_i l back x)).f5).bind fun ws =>
  if (rd_T57 l (cone_i l back x)).f0=4 then cone_go l back r (x + 1) m out else
  (wire_at m 0 ws).bind fun j=>if 0≤j then (mark_all m ws).bind fun m'=>if out.length < 17592186044416 then cone_go l back r (x + 1) m' (out ++ [cone_i l back x]) else none else cone_go l back r (x + 1) m out
def cone_rest (k:Nat) (l:List S57) (back:Bool) (b:Option (List Bool)):Option (List Int × Int) :=
 match b with
 | none=>some ([],190)
 | some m=>(cone_go l back l.length 0 m []).bind fun out=>if back=true then (slices_Reverse_int_int.f k out).bind fun o=>some (o,0) else some (out,0)
def layers_cone.f (k:Nat) (a0_0:Int) (a0_1:Int) (l0_2:List S57) (l1:List Int) (a2:Bool):Option (List Int × Int) :=
 (layers_checked.f k a0_0 a0_1 l0_2).bind fun e=>if e=0 then (cone_init a0_0 (List.replicate 128 false) l1).bind fun b=>cone_rest k l0_2 a2 b else some ([],e)
set_option maxHeartbeats 8000000 in
set_option maxRecDepth 100000 in
theorem layers_cone.calls (k:Nat) (a0_0:Int) (a0_1:Int) (A0_2:Option Addr) (c0_2:Nat) (l0_2:List (S57)) (A1:Option Addr) (c1:Nat) (l1:List Int) (a2:Bool) (r1:List Int) (r2:Int) (w:World) (hr0_2:Kd.C k57 w A0_2 l0_2.length l0_2) (hc0_2:l0_2.length≤c0_2) (hr1:Kd.C (Kd.int .i64) w A1 l1.length l1) (hc1:l1.length≤c1) (h:layers_cone.f k a0_0 a0_1 l0_2 l1 a2=some (r1,r2)) :
  Calls Try.prog 32 #[.agg #[.int .i64 a0_0,.int .i64 a0_1,.slice A0_2 l0_2.length c0_2],.slice A1 l1.length c1,.bool a2] w fun e w'=>∃ v0_:Value,e=.returned (.tuple #[v0_,.int .i64 r2])∧Kd.R (Kd.int .i64) 3 w' w.heap.size (fun _=>True) v0_ r1∧Below w.heap.size w w':=by
 have hu24:=Try.underlying24;have hu57:=Try.underlying57;have HM:=Qh hr0_2.2.1;have HM1:=Qh hr1.2.1;have HR:=Qh hr0_2;have HR1:=Qh hr1;have HC:=Qh hc0_2;have HB:=Qh (Below.refl w.heap.size w);unfold layers_cone.f at h
 obtain ⟨e0,AD0,H1⟩:=Option.bind_eq_some_iff.mp h;have AD:=Qh AD0;clear hr0_2 hc0_2 hr1 hc1 h AD0;by_cases c0:e0=0
 ·subst c0
  rw [if_pos rfl] at H1
  obtain ⟨b,H2,H3⟩:=Option.bind_eq_some_iff.mp H1;have HI:=Qh H2;have HJ:=Qh H3;clear H1 H2 H3;go_enter Try.func32,Try.ntmps32
  go_wp2_with (first | ((with_reducible refine gate_dst (N:=3) rfl ?_);refine box_event ?hg (N:=3) ?hd (cs:=#[.int .i64 a0_0,.int .i64 a0_1,.slice A0_2 l0_2.length c0_2]) (t:=24) ?hr ?_;(case hd=>rfl);(case hg=>rfl);(case hr=>first | (go_simp;done) | (go_simp;rfl));intro gb3 hg w1 BK3 hb;have G3:=Qh (show w.heap.size≤gb3 by rw [hg];exact Nat.le_refl _);have HB1:=Qh (Qr HB.out hb);replace BK3:=Qh BK3;clear HB;have HB:=HB1;clear HB1 hb hg;have hz0:w1.cell? ⟨gb3,0,none⟩=some (.int .i64 a0_0):=(Qi BK3.out 0).trans rfl;have hz1:w1.cell? ⟨gb3,1,none⟩=some (.int .i64 a0_1):=(Qi BK3.out 1).trans rfl;have hz2:w1.cell? ⟨gb3,2,none⟩=some (.slice A0_2 l0_2.length c0_2):=(Qi BK3.out 2).trans rfl) | (go_at_call 26;refine (layers_checked.calls k a0_0 a0_1 A0_2 c0_2 l0_2 _ _ ?s1 ?s2 AD.out).mono ?_;(case s1=>exact Qt HR.out HB.out);(case s2=>exact HC.out);rintro e w2 ⟨rfl,hb⟩;have HB1:=Qh (Qr HB.out hb);have BK1':=Qh (Qq BK3.out hb);clear HB BK3 hz0 hz1 hz2 hb;have HB:=HB1;have BK3:=BK1';clear HB1 BK1') | ((with_reducible refine gate_dst (N:=9) rfl ?_);refine box_event ?hg (N:=9) ?hd (cs:=Try.zeroCells75) (t:=75) ?hr ?_;(case hd=>rfl);(case hg=>rfl);(case hr=>first | (go_simp;done) | (go_simp;rfl));intro gb9 hg w4 BK9 hb;have G9:=Qh (show w.heap.size≤gb9 by rw [hg];exact HB.out.size);have N39:=Qh (show gb3≠gb9 by rw [hg];exact Nat.ne_of_lt (blk_lt BK3.out));have HB1:=Qh (Qr HB.out hb);have BK1':=Qh (Qq BK3.out hb);have HA:=Qh (h_rowB (xs:=List.replicate 128 false) (n:=128) (ok:=fun k=>k=gb9) (base:=w.heap.size) (t:=75) (by rw [BK9];kernel_rfl) G9.out (by simp) (by decide) rfl);clear HB BK3 BK9;have HB:=HB1;have BK3:=BK1';clear HB1 BK1' hb hg))
  go_loopg [26] l1.length (fun kq v26 w'=>∃ (m:List Bool) (x:Int),v26=.int .i64 x∧Aside0 (0≤x∧x + kq=l1.length)∧Aside0 (cone_init a0_0 m (l1.drop x.toNat)=some b)∧Aside0 (Kd.R Kd.bool 75 w' w.heap.size (fun k=>k=gb9) (.slice (some ⟨gb9,0,none⟩) 128 128) m)∧Aside0 (w'.heap[gb3]?=some (.cells #[.int .i64 a0_0,.int .i64 a0_1,.slice A0_2 l0_2.length c0_2] 24 (0,0)))∧Aside0 (Below w.heap.size w w'))
  case atStart=>exact ⟨_,0,rfl,⟨by omega,by omega⟩,HI,HA,BK3,HB⟩
  case round =>
   clear HI HA BK3 HB;obtain ⟨m,x,rfl,HX,HI,HA,BK3,HB⟩:=hrel;have hz0:wr.cell? ⟨gb3,0,none⟩=some (.int .i64 a0_0):=(Qi BK3.out 0).trans rfl;have hz2:wr.cell? ⟨gb3,2,none⟩=some (.slice A0_2 l0_2.length c0_2):=(Qi BK3.out 2).trans rfl;by_cases cx:x < l1.length
   ·have t1:decide (x < (l1.length:Int))=true:=decide_eq_true cx
    have x0:0≤x:=HX.out.1;have H:=HI.out;rw [h_drop x0 cx] at H;unfold cone_init at H
    obtain ⟨ad1,e1,g1⟩:=Kd.at_int HR1.out x x0 cx
    cases e1;replace g1:=(HB.out.cell (Qk w _ g1)).trans g1;have HW1:=Qh (h_w1 x0 cx HM1.out);have CX:=Qh cx;have q0:=eq_true x0;have q1:=eq_true cx;by_cases c2:rd l1 x < 0∨a0_0≤rd l1 x
    ·rw [if_pos c2] at H
     obtain rfl:none=b:=Option.some.inj H;simp only [cone_rest,Option.some.injEq,Prod.mk.injEq] at HJ
     obtain ⟨rfl,rfl⟩:=HJ.out;by_cases c3:rd l1 x < 0
     ·have t2:decide (rd l1 x < 0)=true:=decide_eq_true c3
      clear H HI HJ cx x0 c2 c3;go_wp2
      go_ret2
      exact ⟨_,rfl,Kd.R_nil _ _ _ _ _,HB.out⟩
     ·have t2:decide (rd l1 x < 0)=false:=decide_eq_false c3
      have t3:decide (a0_0≤rd l1 x)=true:=decide_eq_true (by omega);clear H HI HJ cx x0 c2 c3;go_wp2
      go_ret2
      exact ⟨_,rfl,Kd.R_nil _ _ _ _ _,HB.out⟩
    ·rw [if_neg c2] at H
     by_cases c3:rd l1 x < 128
     ·rw [if_pos c3] at H
      have t2:decide (rd l1 x < 0)=false:=decide_eq_false (by omega);have t3:decide (a0_0≤rd l1 x)=false:=decide_eq_false (by omega);obtain ⟨g2,g2f⟩:=Kd.R_celln false HA.out (rd l1 x) (by omega) (by omega);have q2:(0≤rd l1 x)=True:=eq_true (by omega);have q3:=eq_true c3;by_cases c4:rdOf false m (rd l1 x)=true
      ·rw [if_pos c4] at H
       obtain rfl:none=b:=Option.some.inj H;simp only [cone_rest,Option.some.injEq,Prod.mk.injEq] at HJ
       obtain ⟨rfl,rfl⟩:=HJ.out;rw [c4] at g2
       clear H HI HJ cx x0 c2 c3 c4;go_wp2
       go_ret2
       exact ⟨_,rfl,Kd.R_nil _ _ _ _ _,HB.out⟩
      ·rw [if_neg c4] at H
       have HI':=Qh H;rw [Bool.eq_false_iff.mpr c4] at g2
       have HP:=Kd.R_putg HA.out (rd l1 x) true;have HP1:=Qh HP.1;clear H HI cx x0 c2 c3 c4 HP;go_wp2
       go_roundg (gk - 1)
       case measure=>have:=HX.out;have:=CX.out;omega
       case rel=>exact ⟨m.set (rd l1 x).toNat true,x + 1,by rw [HW1.out],⟨by have:=HX.out;omega,by have:=HX.out;have:=CX.out;omega⟩,HI',HP1,⟨blk_far BK3.out N39.out _⟩,⟨Qg HB.out G9.out⟩⟩
     ·rw [if_neg c3] at H
      exact absurd H (by simp)
   ·have H:=HI.out
    rw [h_end cx] at H;obtain rfl:some m=b:=Option.some.inj H;have t1:decide (x < (l1.length:Int))=false:=decide_eq_false cx;have H:=HJ.out;unfold cone_rest at H
    simp only at H
    obtain ⟨out,HG0,HF0⟩:=Option.bind_eq_some_iff.mp H;have HG:=Qh HG0;have HF:=Qh HF0;clear H HI HJ cx HG0 HF0;have HNN:=Qh (show (0:Nat) < 1 from Nat.one_pos);go_wp2
    go_loopg [12,49] l0_2.length (fun kq v12 v49 w'=>∃ (m:List Bool) (o:List Int) (x:Int),v49=.int .i64 x∧Aside0 (0≤x∧x + kq=l0_2.length)∧Aside0 (cone_go l0_2 a2 kq x m o=some out)∧Aside0 (Kd.R (Kd.int .i64) 3 w' w.heap.size (fun k=>k≠gb9) v12 o)∧Aside0 (Kd.R Kd.bool 75 w' w.heap.size (fun k=>k=gb9) (.slice (some ⟨gb9,0,none⟩) 128 128) m)∧Aside0 (w'.heap[gb3]?=some (.cells #[.int .i64 a0_0,.int .i64 a0_1,.slice A0_2 l0_2.length c0_2] 24 (0,0)))∧Aside0 (Below w.heap.size w w'))
    case atStart=>exact ⟨m,[],0,rfl,⟨by omega,by omega⟩,HG,⟨Kd.R_nil _ _ _ _ _⟩,HA,BK3,HB⟩
    case round =>
     clear HG HA BK3 HB hz0 hz2 HX HNN;obtain ⟨m,o,x,rfl,HX,HG,HO,HA,BK3,HB⟩:=hrel;obtain ⟨gk0,egk⟩:∃ g,g=gk:=⟨_,rfl⟩;subst egk;have hz0:wr.cell? ⟨gb3,0,none⟩=some (.int .i64 a0_0):=(Qi BK3.out 0).trans rfl;have hz2:wr.cell? ⟨gb3,2,none⟩=some (.slice A0_2 l0_2.length c0_2):=(Qi BK3.out 2).trans rfl;by_cases cx:x < l0_2.length
     ·have t1:decide (x < (l0_2.length:Int))=true:=decide_eq_true cx
      have x0:0≤x:=HX.out.1;obtain ⟨rr,rfl⟩:∃ r,gk0=r + 1:=⟨gk0 - 1,by have:=HX.out;omega⟩
      cases a2
      ·have HII:=Qh (show cone_i l0_2 false x=x from rfl)
       have i0:=x0;have i1:=cx;have H:=HG.out;unfold cone_go at H
       rw [HII.out] at H;obtain ⟨ws,A1_,H1⟩:=Option.bind_eq_some_iff.mp H;obtain ⟨ad,A2_,c2_,e_,hx0,hx1,hx2,hx3,hx4,hx5,hl,hi⟩:=at_T57 HR.out x i0 i1
       cases e_;replace hx0:=(HB.out.cell (Qk w _ hx0)).trans hx0;replace hx1:=(HB.out.cell (Qk w _ hx1)).trans hx1;replace hx2:=(HB.out.cell (Qk w _ hx2)).trans hx2;replace hx3:=(HB.out.cell (Qk w _ hx3)).trans hx3;replace hx4:=(HB.out.cell (Qk w _ hx4)).trans hx4;replace hx5:=(HB.out.cell (Qk w _ hx5)).trans hx5;have A1:=Qh A1_;have HI2:=Qh hi;have HI3:=Qh hl;have HK:=Qh H1;have hcz:wr.cell? ⟨gb3,2,none⟩=some (.slice (some ad) l0_2.length c0_2):=(Qi BK3.out 2).trans rfl;have q0:=eq_true i0;have q1:=eq_true i1;have HW1:=Qh (h_w1 x0 cx HM.out);have CX:=Qh cx;clear H H1 hi hl A1_ HG i0 i1 x0 cx hz0 hz2;generalize hf0:(rd_T57 l0_2 x).f0=f0 at *
       generalize hf1:(rd_T57 l0_2 x).f1=f1 at *
       generalize hf2:(rd_T57 l0_2 x).f2=f2 at *
       generalize hf3:(rd_T57 l0_2 x).f3=f3 at *
       generalize hf4:(rd_T57 l0_2 x).f4=f4 at *
       generalize hf5:(rd_T57 l0_2 x).f5=f5 at *
       clear hf0 hf1 hf2 hf3 hf4 hf5;have H:=HK.out;by_cases c5:f0=4
       ·rw [if_pos c5] at H
        have HG:=Qh H;have t3:(f0 == 4)=true:=beq_iff_eq.mpr c5;clear H HK c5;go_wp2_with (first | (go_at_call 31;refine (layers_wires.calls f0 f1 A2_ c2_ f2 f3 f4 f5 ws _ ?s1 ?s2 A1.out).mono ?_;(case s1=>exact Qt HI2.out (Qd HB.out _));(case s2=>exact HI3.out);rintro e w5 ⟨vw,rfl,ho,hb⟩;have N9:=Qh (h_ltB HA.out);have HWok:=Kd.R_base ho;have HW:=Qh (show Kd.R (Kd.int .i64) 3 w5 w.heap.size (fun k=>k≠gb9) vw ws from ⟨fun k hk e=>by have h1:=HWok k hk;have h2:=N9.out;simp at h1;omega,(Kd.R_lower ho (by simp;exact Nat.le_succ_of_le HB.out.size)).2⟩);have HO':=Qh (Kd.R_below (Qv HO.out _) hb);have HA':=Qh (Kd.R_below (Qv HA.out _) hb);have BK1':=Qh (Qq (Qc BK3.out _) hb);have BK6:=Qh (Qq (blk_new wr _) hb);have HB':=Qh (Qr (Qd HB.out _) hb);clear ho hb HO HA BK3 HB HWok hcz;have HO:=HO';have HA:=HA';have BK3:=BK1';have HB:=HB';clear HO' HA' BK1' HB';have a':w5.cell? ⟨wr.heap.size,0,none⟩=some (.int .i64 f0):=(Qi BK6.out 0).trans rfl;obtain ⟨Aw,cw,ew⟩:=Kd.R_slice HW.out;subst ew))
        go_roundg rr
        case measure=>omega
        case rel=>exact ⟨m,o,x + 1,by rw [HW1.out],⟨by have:=HX.out;omega,by have:=HX.out;have:=CX.out;omega⟩,HG,HO,HA,BK3,HB⟩
       ·rw [if_neg c5] at H
        have t3:(f0 == 4)=false:=beq_eq_false_iff_ne.mpr c5;obtain ⟨j,AJ0,H1⟩:=Option.bind_eq_some_iff.mp H;have AJ:=Qh AJ0;by_cases c6:0≤j
        ·rw [if_pos c6] at H1
         obtain ⟨m',AM0,H2⟩:=Option.bind_eq_some_iff.mp H1;have AM:=Qh AM0;have t4:decide (0≤j)=true:=decide_eq_true c6;by_cases c7:o.length < 17592186044416
         ·rw [if_pos c7] at H2
          have HG:=Qh H2;have HL:=Qh c7;clear H H1 H2 HK c5 c6 c7 AJ0 AM0;go_wp2_with (first | (go_at_call 31;refine (layers_wires.calls f0 f1 A2_ c2_ f2 f3 f4 f5 ws _ ?s1 ?s2 A1.out).mono ?_;(case s1=>exact Qt HI2.out (Qd HB.out _));(case s2=>exact HI3.out);rintro e w5 ⟨vw,rfl,ho,hb⟩;have N9:=Qh (h_ltB HA.out);have HWok:=Kd.R_base ho;have HW:=Qh (show Kd.R (Kd.int .i64) 3 w5 w.heap.size (fun k=>k≠gb9) vw ws from ⟨fun k hk e=>by have h1:=HWok k hk;have h2:=N9.out;simp at h1;omega,(Kd.R_lower ho (by simp;exact Nat.le_succ_of_le HB.out.size)).2⟩);have HO':=Qh (Kd.R_below (Qv HO.out _) hb);have HA':=Qh (Kd.R_below (Qv HA.out _) hb);have BK1':=Qh (Qq (Qc BK3.out _) hb);have BK6:=Qh (Qq (blk_new wr _) hb);have HB':=Qh (Qr (Qd HB.out _) hb);clear ho hb HO HA BK3 HB HWok hcz;have HO:=HO';have HA:=HA';have BK3:=BK1';have HB:=HB';clear HO' HA' BK1' HB';have a':w5.cell? ⟨wr.heap.size,0,none⟩=some (.int .i64 f0):=(Qi BK6.out 0).trans rfl;obtain ⟨Aw,cw,ew⟩:=Kd.R_slice HW.out;subst ew) | (go_at_call 47;refine (ContainsFunc_calls gb9 m _ _ ws j _ _ _ _ _ HA.out HW.out AJ.out).mono ?_;rintro e w6 ⟨rfl,rfl⟩))
          have HWM:=Qh ((Kd.R_reads' HW.out).2.2).2.1;go_loopg [78] ws.length (fun kq v40 w'=>∃ (m2:List Bool) (y2:Int),v40=.int .i64 y2∧Aside0 (0≤y2∧y2 + kq=ws.length)∧Aside0 (mark_all m2 (ws.drop y2.toNat)=some m')∧Aside0 (Kd.R (Kd.int .i64) 3 w' w.heap.size (fun k=>k≠gb9) u12 o)∧Aside0 (Kd.R Kd.bool 75 w' w.heap.size (fun k=>k=gb9) (.slice (some ⟨gb9,0,none⟩) 128 128) m2)∧Aside0 (Kd.R (Kd.int .i64) 3 w' w.heap.size (fun k=>k≠gb9) (.slice Aw ws.length cw) ws)∧Aside0 (w'.heap[gb3]?=some (.cells #[.int .i64 a0_0,.int .i64 a0_1,.slice (some ad) l0_2.length c0_2] 24 (0,0)))∧Aside0 (Below w.heap.size w w'))
          case atStart=>exact ⟨m,0,rfl,⟨by omega,by omega⟩,AM,HO,HA,HW,BK3,HB⟩
          case round =>
           clear AM HO HA HW BK3 HB AJ a' BK6;obtain ⟨m2,y2,rfl,HY2,AM,HO,HA,HV,BK3,HB⟩:=hrel;by_cases c6:y2 < ws.length
           ·have t5:decide (y2 < (ws.length:Int))=true:=decide_eq_true c6
            have y0:0≤y2:=HY2.out.1;have H:=AM.out;rw [h_drop y0 c6] at H;unfold mark_all at H
            by_cases c4:0≤rd ws y2∧rd ws y2 < 128
            ·rw [if_pos c4] at H
             obtain ⟨ad2,e2,g2⟩:=Kd.at_int (Kd.R_reads' HV.out).2.2 y2 y0 c6
             cases e2;obtain ⟨g3,f3_⟩:=Kd.R_celln false HA.out (rd ws y2) c4.1 (by omega);have HP:=Kd.R_putg HA.out (rd ws y2) true;have AM':=Qh H;have HW2:=Qh (h_w1 y0 c6 HWM.out);have C3:=Qh c6;have HP1:=Qh HP.1;have HP2:=Qh HP.2;have q2:=eq_true y0;have q3:=eq_true c6;have q4:=eq_true c4.1;have q5:=eq_true c4.2;clear H AM y0 c6 c4 HP;go_wp2
             go_roundg (gk - 1)
             case measure=>have:=HY2.out;have:=C3.out;omega
             case rel=>exact ⟨m2.set (rd ws y2).toNat true,y2 + 1,by rw [HW2.out],⟨by have:=HY2.out;omega,by have:=HY2.out;have:=C3.out;omega⟩,AM',⟨Kd.R_grown HO.out HP2.out (fun k hk e=>hk (by injection e))⟩,HP1,⟨Kd.R_grown HV.out HP2.out (fun k hk e=>hk (by injection e))⟩,⟨blk_far BK3.out N39.out _⟩,⟨Qg HB.out G9.out⟩⟩
            ·rw [if_neg c4] at H
             exact absurd H (by simp)
           ·have H:=AM.out
            rw [h_end c6] at H;obtain rfl:m2=m':=Option.some.inj H;have t5:decide (y2 < (ws.length:Int))=false:=decide_eq_false c6;have N3:=Qh (h_ltB HA.out);clear H AM c6;go_wp2_with (first | ((with_reducible refine gate_builtin (b:=.append) (xs:=#[.tmp 85,.tmp 87]) rfl ?_);at_builtin;refine Kd.R_append (Kd.int .i64) (w0:=w) w.heap.size rfl (.tmp 85) (.tmp 87) 25 3 (.int .i64 0) 8 rfl Try.underlying25 info3 rfl (by decide) (by omega) u12 o x [.int .i64 x] (fun k=>k≠gb9) (fun _=>False) rfl rfl ?aP (fun _ hk=>hk.elim) ?aF ?aO ?aB ?aS ?aL ?_;(case aP=>exact rfl);(case aB=>exact HB.out);(case aF=>exact fun k hk e=>by have:=N3.out;omega);(case aO=>exact HO.out);(case aS=>exact HB.out.size);(case aL=>have:=HL.out;omega);intro v9 w9 ho hb hg hat;have HO':=Qh ho;have HB':=Qh hb;have HA':=Qh (Kd.R_grown HA.out hg (fun k hk e=>HO.out.1 k e.symm hk));have BK1':=Qh (blk_grown BK3.out hg (Kd.R_ne HO.out BK3.out (by decide)));clear ho hb hg hat HO HA HB BK3;have HO:=HO';have HB:=HB';have HA:=HA';have BK3:=BK1';clear HO' HB' HA' BK1'))
            go_roundg rr
            case measure=>omega
            case rel=>exact ⟨m2,o ++ [x],x + 1,by rw [HW1.out],⟨by have:=HX.out;omega,by have:=HX.out;have:=CX.out;omega⟩,HG,HO,HA,BK3,HB⟩
         ·rw [if_neg c7] at H2
          exact absurd H2 (by simp)
        ·rw [if_neg c6] at H1
         have HG:=Qh H1;have t4:decide (0≤j)=false:=decide_eq_false c6;clear H H1 HK c5 c6 AJ0;go_wp2_with (first | (go_at_call 31;refine (layers_wires.calls f0 f1 A2_ c2_ f2 f3 f4 f5 ws _ ?s1 ?s2 A1.out).mono ?_;(case s1=>exact Qt HI2.out (Qd HB.out _));(case s2=>exact HI3.out);rintro e w5 ⟨vw,rfl,ho,hb⟩;have N9:=Qh (h_ltB HA.out);have HWok:=Kd.R_base ho;have HW:=Qh (show Kd.R (Kd.int .i64) 3 w5 w.heap.size (fun k=>k≠gb9) vw ws from ⟨fun k hk e=>by have h1:=HWok k hk;have h2:=N9.out;simp at h1;omega,(Kd.R_lower ho (by simp;exact Nat.le_succ_of_le HB.out.size)).2⟩);have HO':=Qh (Kd.R_below (Qv HO.out _) hb);have HA':=Qh (Kd.R_below (Qv HA.out _) hb);have BK1':=Qh (Qq (Qc BK3.out _) hb);have BK6:=Qh (Qq (blk_new wr _) hb);have HB':=Qh (Qr (Qd HB.out _) hb);clear ho hb HO HA BK3 HB HWok hcz;have HO:=HO';have HA:=HA';have BK3:=BK1';have HB:=HB';clear HO' HA' BK1' HB';have a':w5.cell? ⟨wr.heap.size,0,none⟩=some (.int .i64 f0):=(Qi BK6.out 0).trans rfl;obtain ⟨Aw,cw,ew⟩:=Kd.R_slice HW.out;subst ew) | (go_at_call 47;refine (ContainsFunc_calls gb9 m _ _ ws j _ _ _ _ _ HA.out HW.out AJ.out).mono ?_;rintro e w6 ⟨rfl,rfl⟩))
         go_roundg rr
         case measure=>omega
         case rel=>exact ⟨m,o,x + 1,by rw [HW1.out],⟨by have:=HX.out;omega,by have:=HX.out;have:=CX.out;omega⟩,HG,HO,HA,BK3,HB⟩
      ·obtain ⟨n1,hn1⟩:∃ n1:Int,(l0_2.length:Int) - 1=n1:=⟨_,rfl⟩
       have e1:wrap64 ((l0_2.length:Int) - 1)=n1:=by have:=HM.out;rw [← hn1];unfold wrap64;omega
       obtain ⟨ii,hii⟩:∃ ii:Int,n1 - x=ii:=⟨_,rfl⟩;have e2:wrap64 (n1 - x)=ii:=by have:=HM.out;rw [← hii,← hn1];unfold wrap64;omega
       have HII:=Qh (show cone_i l0_2 true x=ii by rw [← hii,← hn1];rfl);have i0:0≤ii:=by omega
       have i1:ii < l0_2.length:=by omega
       clear hn1 hii;have H:=HG.out;unfold cone_go at H
       rw [HII.out] at H;obtain ⟨ws,A1_,H1⟩:=Option.bind_eq_some_iff.mp H;obtain ⟨ad,A2_,c2_,e_,hx0,hx1,hx2,hx3,hx4,hx5,hl,hi⟩:=at_T57 HR.out ii i0 i1
       cases e_;replace hx0:=(HB.out.cell (Qk w _ hx0)).trans hx0;replace hx1:=(HB.out.cell (Qk w _ hx1)).trans hx1;replace hx2:=(HB.out.cell (Qk w _ hx2)).trans hx2;replace hx3:=(HB.out.cell (Qk w _ hx3)).trans hx3;replace hx4:=(HB.out.cell (Qk w _ hx4)).trans hx4;replace hx5:=(HB.out.cell (Qk w _ hx5)).trans hx5;have A1:=Qh A1_;have HI2:=Qh hi;have HI3:=Qh hl;have HK:=Qh H1;have hcz:wr.cell? ⟨gb3,2,none⟩=some (.slice (some ad) l0_2.length c0_2):=(Qi BK3.out 2).trans rfl;have q0:=eq_true i0;have q1:=eq_true i1;have HW1:=Qh (h_w1 x0 cx HM.out);have CX:=Qh cx;clear H H1 hi hl A1_ HG i0 i1 x0 cx hz0 hz2;generalize hf0:(rd_T57 l0_2 ii).f0=f0 at *
       generalize hf1:(rd_T57 l0_2 ii).f1=f1 at *
       generalize hf2:(rd_T57 l0_2 ii).f2=f2 at *
       generalize hf3:(rd_T57 l0_2 ii).f3=f3 at *
       generalize hf4:(rd_T57 l0_2 ii).f4=f4 at *
       generalize hf5:(rd_T57 l0_2 ii).f5=f5 at *
       clear hf0 hf1 hf2 hf3 hf4 hf5;have H:=HK.out;by_cases c5:f0=4
       ·rw [if_pos c5] at H
        have HG:=Qh H;have t3:(f0 == 4)=true:=beq_iff_eq.mpr c5;clear H HK c5;go_wp2_with (first | (go_at_call 31;refine (layers_wires.calls f0 f1 A2_ c2_ f2 f3 f4 f5 ws _ ?s1 ?s2 A1.out).mono ?_;(case s1=>exact Qt HI2.out (Qd HB.out _));(case s2=>exact HI3.out);rintro e w5 ⟨vw,rfl,ho,hb⟩;have N9:=Qh (h_ltB HA.out);have HWok:=Kd.R_base ho;have HW:=Qh (show Kd.R (Kd.int .i64) 3 w5 w.heap.size (fun k=>k≠gb9) vw ws from ⟨fun k hk e=>by have h1:=HWok k hk;have h2:=N9.out;simp at h1;omega,(Kd.R_lower ho (by simp;exact Nat.le_succ_of_le HB.out.size)).2⟩);have HO':=Qh (Kd.R_below (Qv HO.out _) hb);have HA':=Qh (Kd.R_below (Qv HA.out _) hb);have BK1':=Qh (Qq (Qc BK3.out _) hb);have BK6:=Qh (Qq (blk_new wr _) hb);have HB':=Qh (Qr (Qd HB.out _) hb);clear ho hb HO HA BK3 HB HWok hcz;have HO:=HO';have HA:=HA';have BK3:=BK1';have HB:=HB';clear HO' HA' BK1' HB';have a':w5.cell? ⟨wr.heap.size,0,none⟩=some (.int .i64 f0):=(Qi BK6.out 0).trans rfl;obtain ⟨Aw,cw,ew⟩:=Kd.R_slice HW.out;subst ew))
        go_roundg rr
        case measure=>omega
        case rel=>exact ⟨m,o,x + 1,by rw [HW1.out],⟨by have:=HX.out;omega,by have:=HX.out;have:=CX.out;omega⟩,HG,HO,HA,BK3,HB⟩
       ·rw [if_neg c5] at H
        have t3:(f0 == 4)=false:=beq_eq_false_iff_ne.mpr c5;obtain ⟨j,AJ0,H1⟩:=Option.bind_eq_some_iff.mp H;have AJ:=Qh AJ0;by_cases c6:0≤j
        ·rw [if_pos c6] at H1
         obtain ⟨m',AM0,H2⟩:=Option.bind_eq_some_iff.mp H1;have AM:=Qh AM0;have t4:decide (0≤j)=true:=decide_eq_true c6;by_cases c7:o.length < 17592186044416
         ·rw [if_pos c7] at H2
          have HG:=Qh H2;have HL:=Qh c7;clear H H1 H2 HK c5 c6 c7 AJ0 AM0;go_wp2_with (first | (go_at_call 31;refine (layers_wires.calls f0 f1 A2_ c2_ f2 f3 f4 f5 ws _ ?s1 ?s2 A1.out).mono ?_;(case s1=>exact Qt HI2.out (Qd HB.out _));(case s2=>exact HI3.out);rintro e w5 ⟨vw,rfl,ho,hb⟩;have N9:=Qh (h_ltB HA.out);have HWok:=Kd.R_base ho;have HW:=Qh (show Kd.R (Kd.int .i64) 3 w5 w.heap.size (fun k=>k≠gb9) vw ws from ⟨fun k hk e=>by have h1:=HWok k hk;have h2:=N9.out;simp at h1;omega,(Kd.R_lower ho (by simp;exact Nat.le_succ_of_le HB.out.size)).2⟩);have HO':=Qh (Kd.R_below (Qv HO.out _) hb);have HA':=Qh (Kd.R_below (Qv HA.out _) hb);have BK1':=Qh (Qq (Qc BK3.out _) hb);have BK6:=Qh (Qq (blk_new wr _) hb);have HB':=Qh (Qr (Qd HB.out _) hb);clear ho hb HO HA BK3 HB HWok hcz;have HO:=HO';have HA:=HA';have BK3:=BK1';have HB:=HB';clear HO' HA' BK1' HB';have a':w5.cell? ⟨wr.heap.size,0,none⟩=some (.int .i64 f0):=(Qi BK6.out 0).trans rfl;obtain ⟨Aw,cw,ew⟩:=Kd.R_slice HW.out;subst ew) | (go_at_call 47;refine (ContainsFunc_calls gb9 m _ _ ws j _ _ _ _ _ HA.out HW.out AJ.out).mono ?_;rintro e w6 ⟨rfl,rfl⟩))
          have HWM:=Qh ((Kd.R_reads' HW.out).2.2).2.1;go_loopg [78] ws.length (fun kq v40 w'=>∃ (m2:List Bool) (y2:Int),v40=.int .i64 y2∧Aside0 (0≤y2∧y2 + kq=ws.length)∧Aside0 (mark_all m2 (ws.drop y2.toNat)=some m')∧Aside0 (Kd.R (Kd.int .i64) 3 w' w.heap.size (fun k=>k≠gb9) u12 o)∧Aside0 (Kd.R Kd.bool 75 w' w.heap.size (fun k=>k=gb9) (.slice (some ⟨gb9,0,none⟩) 128 128) m2)∧Aside0 (Kd.R (Kd.int .i64) 3 w' w.heap.size (fun k=>k≠gb9) (.slice Aw ws.length cw) ws)∧Aside0 (w'.heap[gb3]?=some (.cells #[.int .i64 a0_0,.int .i64 a0_1,.slice (some ad) l0_2.length c0_2] 24 (0,0)))∧Aside0 (Below w.heap.size w w'))
          case atStart=>exact ⟨m,0,rfl,⟨by omega,by omega⟩,AM,HO,HA,HW,BK3,HB⟩
          case round =>
           clear AM HO HA HW BK3 HB AJ a' BK6;obtain ⟨m2,y2,rfl,HY2,AM,HO,HA,HV,BK3,HB⟩:=hrel;by_cases c6:y2 < ws.length
           ·have t5:decide (y2 < (ws.length:Int))=true:=decide_eq_true c6
            have y0:0≤y2:=HY2.out.1;have H:=AM.out;rw [h_drop y0 c6] at H;unfold mark_all at H
            by_cases c4:0≤rd ws y2∧rd ws y2 < 128
            ·rw [if_pos c4] at H
             obtain ⟨ad2,e2,g2⟩:=Kd.at_int (Kd.R_reads' HV.out).2.2 y2 y0 c6
             cases e2;obtain ⟨g3,f3_⟩:=Kd.R_celln false HA.out (rd ws y2) c4.1 (by omega);have HP:=Kd.R_putg HA.out (rd ws y2) true;have AM':=Qh H;have HW2:=Qh (h_w1 y0 c6 HWM.out);have C3:=Qh c6;have HP1:=Qh HP.1;have HP2:=Qh HP.2;have q2:=eq_true y0;have q3:=eq_true c6;have q4:=eq_true c4.1;have q5:=eq_true c4.2;clear H AM y0 c6 c4 HP;go_wp2
             go_roundg (gk - 1)
             case measure=>have:=HY2.out;have:=C3.out;omega
             case rel=>exact ⟨m2.set (rd ws y2).toNat true,y2 + 1,by rw [HW2.out],⟨by have:=HY2.out;omega,by have:=HY2.out;have:=C3.out;omega⟩,AM',⟨Kd.R_grown HO.out HP2.out (fun k hk e=>hk (by injection e))⟩,HP1,⟨Kd.R_grown HV.out HP2.out (fun k hk e=>hk (by injection e))⟩,⟨blk_far BK3.out N39.out _⟩,⟨Qg HB.out G9.out⟩⟩
            ·rw [if_neg c4] at H
             exact absurd H (by simp)
           ·have H:=AM.out
            rw [h_end c6] at H;obtain rfl:m2=m':=Option.some.inj H;have t5:decide (y2 < (ws.length:Int))=false:=decide_eq_false c6;have N3:=Qh (h_ltB HA.out);clear H AM c6;go_wp2_with (first | ((with_reducible refine gate_builtin (b:=.append) (xs:=#[.tmp 85,.tmp 87]) rfl ?_);at_builtin;refine Kd.R_append (Kd.int .i64) (w0:=w) w.heap.size rfl (.tmp 85) (.tmp 87) 25 3 (.int .i64 0) 8 rfl Try.underlying25 info3 rfl (by decide) (by omega) u12 o ii [.int .i64 ii] (fun k=>k≠gb9) (fun _=>False) rfl rfl ?aP (fun _ hk=>hk.elim) ?aF ?aO ?aB ?aS ?aL ?_;(case aP=>exact rfl);(case aB=>exact HB.out);(case aF=>exact fun k hk e=>by have:=N3.out;omega);(case aO=>exact HO.out);(case aS=>exact HB.out.size);(case aL=>have:=HL.out;omega);intro v9 w9 ho hb hg hat;have HO':=Qh ho;have HB':=Qh hb;have HA':=Qh (Kd.R_grown HA.out hg (fun k hk e=>HO.out.1 k e.symm hk));have BK1':=Qh (blk_grown BK3.out hg (Kd.R_ne HO.out BK3.out (by decide)));clear ho hb hg hat HO HA HB BK3;have HO:=HO';have HB:=HB';have HA:=HA';have BK3:=BK1';clear HO' HB' HA' BK1'))
            go_roundg rr
            case measure=>omega
            case rel=>exact ⟨m2,o ++ [ii],x + 1,by rw [HW1.out],⟨by have:=HX.out;omega,by have:=HX.out;have:=CX.out;omega⟩,HG,HO,HA,BK3,HB⟩
         ·rw [if_neg c7] at H2
          exact absurd H2 (by simp)
        ·rw [if_neg c6] at H1
         have HG:=Qh H1;have t4:decide (0≤j)=false:=decide_eq_false c6;clear H H1 HK c5 c6 AJ0;go_wp2_with (first | (go_at_call 31;refine (layers_wires.calls f0 f1 A2_ c2_ f2 f3 f4 f5 ws _ ?s1 ?s2 A1.out).mono ?_;(case s1=>exact Qt HI2.out (Qd HB.out _));(case s2=>exact HI3.out);rintro e w5 ⟨vw,rfl,ho,hb⟩;have N9:=Qh (h_ltB HA.out);have HWok:=Kd.R_base ho;have HW:=Qh (show Kd.R (Kd.int .i64) 3 w5 w.heap.size (fun k=>k≠gb9) vw ws from ⟨fun k hk e=>by have h1:=HWok k hk;have h2:=N9.out;simp at h1;omega,(Kd.R_lower ho (by simp;exact Nat.le_succ_of_le HB.out.size)).2⟩);have HO':=Qh (Kd.R_below (Qv HO.out _) hb);have HA':=Qh (Kd.R_below (Qv HA.out _) hb);have BK1':=Qh (Qq (Qc BK3.out _) hb);have BK6:=Qh (Qq (blk_new wr _) hb);have HB':=Qh (Qr (Qd HB.out _) hb);clear ho hb HO HA BK3 HB HWok hcz;have HO:=HO';have HA:=HA';have BK3:=BK1';have HB:=HB';clear HO' HA' BK1' HB';have a':w5.cell? ⟨wr.heap.size,0,none⟩=some (.int .i64 f0):=(Qi BK6.out 0).trans rfl;obtain ⟨Aw,cw,ew⟩:=Kd.R_slice HW.out;subst ew) | (go_at_call 47;refine (ContainsFunc_calls gb9 m _ _ ws j _ _ _ _ _ HA.out HW.out AJ.out).mono ?_;rintro e w6 ⟨rfl,rfl⟩))
         go_roundg rr
         case measure=>omega
         case rel=>exact ⟨m,o,x + 1,by rw [HW1.out],⟨by have:=HX.out;omega,by have:=HX.out;have:=CX.out;omega⟩,HG,HO,HA,BK3,HB⟩
     ·have H:=HG.out
      obtain rfl:gk0=0:=by have:=HX.out;omega
      unfold cone_go at H
      obtain rfl:o=out:=Option.some.inj H;have t1:decide (x < (l0_2.length:Int))=false:=decide_eq_false cx;have H:=HF.out
      cases a2
      ·simp only [Bool.false_eq_true,if_false,Option.some.injEq,Prod.mk.injEq] at H
       obtain ⟨rfl,rfl⟩:=H;obtain ⟨Ao,co,eo⟩:=Kd.R_slice HO.out;subst eo;clear HG HF cx;go_wp2
       go_ret2
       exact ⟨_,rfl,Kd.R_mono HO.out (fun _ _=>trivial),HB.out⟩
      ·simp only [if_true] at H
       obtain ⟨o2,AR0,H2⟩:=Option.bind_eq_some_iff.mp H;simp only [Option.some.injEq,Prod.mk.injEq] at H2
       obtain ⟨rfl,rfl⟩:=H2;have AR:=Qh AR0;clear HG HF cx AR0 H;go_wp2_with (first | (go_at_call 49;refine (slices_Reverse_int_int.calls k (fun _=>True) u12 o o2 w wr HB.out (Kd.R_mono HO.out (fun _ _=>trivial)) AR.out).mono ?_;rintro e w7 ⟨rfl,ho,hb,hk⟩;have HO2:=Qh ho;have HB2:=Qh hb;clear ho hb hk))
       go_ret2
       exact ⟨_,rfl,Kd.R_mono HO2.out (fun _ _=>trivial),HB2.out⟩
 ·rw [if_neg c0] at H1
  simp only [Option.some.injEq,Prod.mk.injEq] at H1
  obtain ⟨rfl,rfl⟩:=H1;have t0:(e0 != 0)=true:=bne_iff_ne.mpr c0;clear c0;go_enter Try.func32,Try.ntmps32
  go_wp2_with (first | ((with_reducible refine gate_dst (N:=3) rfl ?_);refine box_event ?hg (N:=3) ?hd (cs:=#[.int .i64 a0_0,.int .i64 a0_1,.slice A0_2 l0_2.length c0_2]) (t:=24) ?hr ?_;(case hd=>rfl);(case hg=>rfl);(case hr=>first | (go_simp;done) | (go_simp;rfl));intro gb3 hg w1 BK3 hb;have G3:=Qh (show w.heap.size≤gb3 by rw [hg];exact Nat.le_refl _);have HB1:=Qh (Qr HB.out hb);replace BK3:=Qh BK3;clear HB;have HB:=HB1;clear HB1 hb hg;have hz0:w1.cell? ⟨gb3,0,none⟩=some (.int .i64 a0_0):=(Qi BK3.out 0).trans rfl;have hz1:w1.cell? ⟨gb3,1,none⟩=some (.int .i64 a0_1):=(Qi BK3.out 1).trans rfl;have hz2:w1.cell? ⟨gb3,2,none⟩=some (.slice A0_2 l0_2.length c0_2):=(Qi BK3.out 2).trans rfl) | (go_at_call 26;refine (layers_checked.calls k a0_0 a0_1 A0_2 c0_2 l0_2 _ _ ?s1 ?s2 AD.out).mono ?_;(case s1=>exact Qt HR.out HB.out);(case s2=>exact HC.out);rintro e w2 ⟨rfl,hb⟩;have HB1:=Qh (Qr HB.out hb);have BK1':=Qh (Qq BK3.out hb);clear HB BK3 hz0 hz1 hz2 hb;have HB:=HB1;have BK3:=BK1';clear HB1 BK1'))
  go_ret2
  exact ⟨_,rfl,Kd.R_nil _ _ _ _ _,HB.out⟩
def layers_Past.f (k:Nat) (a0_0:Int) (a0_1:Int) (l0_2:List (S57)) (l1:List Int):Option (List Int × Int):=(layers_cone.f k a0_0 a0_1 l0_2 l1 true).bind fun bt5602=>(some (bt5602.1,bt5602.2))
set_option maxHeartbeats 8000000 in
set_option maxRecDepth 100000 in
theorem layers_Past.calls (k:Nat) (a0_0:Int) (a0_1:Int) (A0_2:Option Addr) (c0_2:Nat) (l0_2:List (S57)) (A1:Option Addr) (c1:Nat) (l1:List Int) (r1:List Int) (r2:Int) (w:World) (hr0_2:Kd.C k57 w A0_2 l0_2.length l0_2) (hc0_2:l0_2.length≤c0_2) (hr1:Kd.C (Kd.int .i64) w A1 l1.length l1) (hc1:l1.length≤c1) (h:layers_Past.f k a0_0 a0_1 l0_2 l1=some (r1,r2)) :
  Calls Try.prog 11 #[.agg #[.int .i64 a0_0,.int .i64 a0_1,.slice A0_2 l0_2.length c0_2],.slice A1 l1.length c1] w fun e w'=>∃ v0_:Value,e=.returned (.tuple #[v0_,.int .i64 r2])∧Kd.R (Kd.int .i64) 3 w' w.heap.size (fun _=>True) v0_ r1∧Below w.heap.size w w':=by
 have hu24:=Try.underlying24;have HR0_2:=Qh hr0_2;have HC0_2:=Qh hc0_2;clear hr0_2 hc0_2;have HR1:=Qh hr1;have HC1:=Qh hc1;clear hr1 hc1;have HB:=Qh (Below.refl w.heap.size w);have H:((layers_cone.f k a0_0 a0_1 l0_2 l1 true).bind fun d'=>(some (d'.1,d'.2)))=some (r1,r2):=h;clear h;replace H:=Option.bind_eq_some_iff.mp H;obtain ⟨⟨f',e'⟩,A30,H⟩:=H;replace H:(some (f',e'))=some (r1,r2):=H
 have A3:=Qh A30;clear A30;simp only [Option.some.injEq,Prod.mk.injEq] at H;obtain ⟨rfl,rfl⟩:=H;go_enter Try.func11,Try.ntmps11
 go_wp2_with (first | ((with_reducible refine gate_dst (N:=2) rfl ?_);refine box_event ?hg (N:=2) ?hd (cs:=#[.int .i64 a0_0,.int .i64 a0_1,.slice A0_2 l0_2.length c0_2]) (t:=24) ?hr ?_;(case hd=>rfl);(case hg=>rfl);(case hr=>first | (go_simp;done) | (go_simp;rfl));intro b' hg w4 hbox hb;have n0_:=Qh (Qr (by repeat (first | (with_reducible first | exact HB.out | apply Qd | apply Qe | apply Qf) | exact HB.out)) hb);have n1_:=Qh (hbox);have n2_:=Qh ((by rw [hg];exact (Qs (by repeat (first | (with_reducible first | exact HB.out | apply Qd | apply Qe | apply Qf) | exact HB.out))):w.heap.size≤b'));have n3_:=Qh ((by rw [hg];exact (Qs (by repeat (first | (with_reducible first | exact HB.out | apply Qd | apply Qe | apply Qf) | exact HB.out))):w.heap.size≤b'));clear HB;have HB:=n0_;have a':=n1_;have n':=n2_;have c':=n3_;clear n0_ n1_ n2_ n3_;clear hb hbox hg;have m':w4.cell? ⟨b',0,none⟩=some (.int .i64 a0_0):=(Qi a'.out 0).trans rfl;have l':w4.cell? ⟨b',1,none⟩=some (.int .i64 a0_1):=(Qi a'.out 1).trans rfl;have k':w4.cell? ⟨b',2,none⟩=some (.slice A0_2 l0_2.length c0_2):=(Qi a'.out 2).trans rfl;have j':=Qj a'.out 0;have i':=Qj a'.out 1;have h':=Qj a'.out 2) | ((with_reducible refine gate_callee (f:=32) rfl ?_);refine goesL_ (some 8) rfl rfl Try.func32 (by kernel_rfl) rfl #[.agg #[.int .i64 a0_0,.int .i64 a0_1,.slice A0_2 l0_2.length c0_2],.slice A1 l1.length c1,.bool true] rfl (by (try simp only [List.map_toArray,List.map_cons,List.map_nil]);first | done | rfl | (simp only [List.length_drop,List.length_take];rfl)) ?_;(with_reducible refine (layers_cone.calls k a0_0 a0_1 _ _ l0_2 _ _ l1 true f' e' _ ?side1 ?side2 ?side3 ?side4 A3.out).mono ?_);(case side1=>repeat (first | exact (Qt HR0_2.out HB.out) | (with_reducible refine Kd.C_alloc ?_ _) | (with_reducible refine Kd.C_drewN ?_ _) | (with_reducible refine Kd.C_drew ?_)));(case side2=>exact HC0_2.out);(case side3=>repeat (first | exact (Qt HR1.out HB.out) | (with_reducible refine Kd.C_alloc ?_ _) | (with_reducible refine Kd.C_drewN ?_ _) | (with_reducible refine Kd.C_drew ?_)));(case side4=>exact HC1.out);rintro e w6 ⟨o',rfl,ho0,hb⟩;refine ⟨_,rfl,?_⟩;have n0_:=Qh (Kd.R_lower ho0 (Qs (by repeat (first | (with_reducible first | exact HB.out | apply Qd | apply Qe | apply Qf | refine Qg ?_ c'.out) | exact HB.out))));have n1_:=Qh (Qq (g:=b') (o:=.cells #[.int .i64 a0_0,.int .i64 a0_1,.slice A0_2 l0_2.length c0_2] 24 (0,0)) (by (with_reducible repeat (first | refine Qa ?_ _ | refine Qb ?_ | refine Qc ?_ _));exact a'.out) hb);have n2_:=Qh (Qr (by repeat (first | (with_reducible first | exact HB.out | apply Qd | apply Qe | apply Qf | refine Qg ?_ c'.out) | exact HB.out)) hb);clear a';clear HB;have g':=n0_;have a':=n1_;have HB:=n2_;clear n0_ n1_ n2_;(try clear hb);(try clear hb2);(try clear hk);(try clear hi);(try clear ho0)))
 go_ret2
 exact ⟨_,by first | rfl | (simp [errW_none,errW_some]<;>rfl) | (simp [*,errW_none,errW_some]<;>rfl),by (with_reducible repeat (first | apply Qv | apply Qw | apply Qx));exact g'.out,by repeat (first | (with_reducible first | exact HB.out | apply Qd | apply Qe | apply Qf | refine Qg ?_ c'.out) | exact HB.out)⟩
def layers_Moments.l0:Nat→List (List Int)→List Int→Int→Int→Int→Int→List (S57)→Option ((List (List Int)) × Int)
 | 0,_,_,_,_,_,_,_=>none
 | k + 1,x6,x20,x21,x22,x10102000,x10102001,x10102002=>if x22 < x21 then (if 0≤x22 then (if x22 < (x20.length:Int) then (if x22 < (x10102002.length:Int) then (if ((rd_T57 x10102002 x22).f0)=4 then (layers_Moments.l0 k x6 x20 x21 (wrap64 (x22 + 1)) x10102000 x10102001 x10102002) else (if 0≤(wrap64 ((rd x20 x22) - 1)) then (if (wrap64 ((rd x20 x22) - 1)) < (x6.length:Int) then (if (rd_L1 x6 (wrap64 ((rd x20 x22) - 1))).length < 17592186044416 then (layers_Moments.l0 k (x6.set ((wrap64 ((rd x20 x22) - 1)):Int).toNat ((rd_L1 x6 (wrap64 ((rd x20 x22) - 1))) ++ [x22])) x20 x21 (wrap64 (x22 + 1)) x10102000 x10102001 x10102002) else (none)) else (none)) else (none))) else (none)) else (none)) else (none)) else (some (x6,0))
def layers_Moments.f (k:Nat) (a0_0:Int) (a0_1:Int) (l0_2:List (S57)):Option ((List (List Int)) × Int):=(layers_Depth.f k a0_0 a0_1 l0_2).bind fun bt10102=>(if bt10102.2=0 then (if 0≤bt10102.1 then (if (bt10102.1:Int).toNat≤11728124029610 then ((layers_early.f a0_0 a0_1 l0_2).bind fun t10107=>(layers_Moments.l0 k (List.replicate (bt10102.1:Int).toNat []) t10107 (t10107.length:Int) 0 a0_0 a0_1 l0_2)) else (none)) else (none)) else (some (([]:List (List Int)),bt10102.2)))
set_option maxHeartbeats 8000000 in
set_option maxRecDepth 100000 in
theorem layers_Moments.calls (k:Nat) (a0_0:Int) (a0_1:Int) (A0_2:Option Addr) (c0_2:Nat) (l0_2:List (S57)) (r1:List (List Int)) (r2:Int) (w:World) (hr0_2:Kd.C k57 w A0_2 l0_2.length l0_2) (hc0_2:l0_2.length≤c0_2) (h:layers_Moments.f k a0_0 a0_1 l0_2=some (r1,r2)) :
  Calls Try.prog 20 #[.agg #[.int .i64 a0_0,.int .i64 a0_1,.slice A0_2 l0_2.length c0_2]] w fun e w'=>∃ v0_:Value,e=.returned (.tuple #[v0_,.int .i64 r2])∧Kd.S (Kd.slice 3 (Kd.int .i64)) 25 w' w.heap.size (fun _=>True) v0_ r1∧Below w.heap.size w w':=by
 have hu24:=Try.underlying24;have HR0_2:=Qh hr0_2;have HC0_2:=Qh hc0_2;clear hr0_2 hc0_2;have HB:=Qh (Below.refl w.heap.size w);have H:((layers_Depth.f k a0_0 a0_1 l0_2).bind fun y'=>(if y'.2=0 then (if 0≤y'.1 then (if (y'.1:Int).toNat≤11728124029610 then ((layers_early.f a0_0 a0_1 l0_2).bind fun b'=>(layers_Moments.l0 k (List.replicate (y'.1:Int).toNat []) b' (b'.length:Int) 0 a0_0 a0_1 l0_2)) else (none)) else (none)) else (some (([]:List (List Int)),y'.2))))=some (r1,r2):=h;clear h;replace H:=Option.bind_eq_some_iff.mp H;obtain ⟨⟨e',l'⟩,A20,H⟩:=H;replace H:(if l'=0 then (if 0≤e' then (if (e':Int).toNat≤11728124029610 then ((layers_early.f a0_0 a0_1 l0_2).bind fun b'=>(layers_Moments.l0 k (List.replicate (e':Int).toNat []) b' (b'.length:Int) 0 a0_0 a0_1 l0_2)) else (none)) else (none)) else (some (([]:List (List Int)),l')))=some (r1,r2):=H
 have A2:=Qh A20;clear A20;by_cases c3:l'=0
 ·rw [if_pos c3] at H
  have c3b0:(l' == 0)=true:=beq_iff_eq.mpr c3;have c3b1:(l' != 0)=false:=bne_eq_false_iff_eq.mpr c3;clear c3;by_cases c4:0≤e'
  ·rw [if_pos c4] at H
   have c4b0:=eq_true c4;have c4b1:decide (0≤e')=true:=decide_eq_true c4;clear c4;by_cases c5:(e':Int).toNat≤11728124029610
   ·rw [if_pos c5] at H
    have c5b0:=eq_true c5;have c5b1:decide ((e':Int).toNat≤11728124029610)=true:=decide_eq_true c5;clear c5;obtain ⟨am',v'⟩:∃ y_:List (List Int),y_=(List.replicate (e':Int).toNat []):=⟨_,rfl⟩;replace H:((layers_early.f a0_0 a0_1 l0_2).bind fun b'=>(layers_Moments.l0 k am' b' (b'.length:Int) 0 a0_0 a0_1 l0_2))=some (r1,r2):=by first | (rw [v'];with_reducible exact H) | (have H2_:=(Option.bind_some _ _).symm.trans H;rw [v'];with_reducible exact H2_) | (have H2_:=(Option.bind_some _ _).symm.trans H;with_reducible exact H2_) | with_reducible exact H | (rw [v'];exact H) | exact H
    have as':=Qh v';clear v';replace H:=Option.bind_eq_some_iff.mp H;obtain ⟨b',A60,H⟩:=H;replace H:(layers_Moments.l0 k am' b' (b'.length:Int) 0 a0_0 a0_1 l0_2)=some (r1,r2):=H
    have A6:=Qh A60;clear A60;have H':=Qh H;clear H;go_enter Try.func20,Try.ntmps20
    go_wp2_with (first | ((with_reducible refine gate_dst (N:=1) rfl ?_);refine box_event ?hg (N:=1) ?hd (cs:=#[.int .i64 a0_0,.int .i64 a0_1,.slice A0_2 l0_2.length c0_2]) (t:=24) ?hr ?_;(case hd=>rfl);(case hg=>rfl);(case hr=>first | (go_simp;done) | (go_simp;rfl));intro c' hg w7 hbox hb;have n0_:=Qh (Qr (by repeat (first | (with_reducible first | exact HB.out | apply Qd | apply Qe | apply Qf) | exact HB.out)) hb);have n1_:=Qh (hbox);have n2_:=Qh ((by rw [hg];exact (Qs (by repeat (first | (with_reducible first | exact HB.out | apply Qd | apply Qe | apply Qf) | exact HB.out))):w.heap.size≤c'));have n3_:=Qh ((by rw [hg];exact (Qs (by repeat (first | (with_reducible first | exact HB.out | apply Qd | apply Qe | apply Qf) | exact HB.out))):w.heap.size≤c'));clear HB;have HB:=n0_;have a':=n1_;have bk':=n2_;have d':=n3_;clear n0_ n1_ n2_ n3_;clear hb hbox hg;have br':w7.cell? ⟨c',0,none⟩=some (.int .i64 a0_0):=(Qi a'.out 0).trans rfl;have bq':w7.cell? ⟨c',1,none⟩=some (.int .i64 a0_1):=(Qi a'.out 1).trans rfl;have bp':w7.cell? ⟨c',2,none⟩=some (.slice A0_2 l0_2.length c0_2):=(Qi a'.out 2).trans rfl;have bo':=Qj a'.out 0;have bn':=Qj a'.out 1;have bm':=Qj a'.out 2) | ((with_reducible refine gate_callee (f:=15) rfl ?_);refine goesL_ (some 11) rfl rfl Try.func15 (by kernel_rfl) rfl #[.agg #[.int .i64 a0_0,.int .i64 a0_1,.slice A0_2 l0_2.length c0_2]] rfl (by (try simp only [List.map_toArray,List.map_cons,List.map_nil]);first | done | rfl | (simp only [List.length_drop,List.length_take];rfl)) ?_;(with_reducible refine (layers_Depth.calls k a0_0 a0_1 _ _ l0_2 e' l' _ ?side1 ?side2 A2.out).mono ?_);(case side1=>repeat (first | exact (Qt HR0_2.out HB.out) | (with_reducible refine Kd.C_alloc ?_ _) | (with_reducible refine Kd.C_drewN ?_ _) | (with_reducible refine Kd.C_drew ?_)));(case side2=>exact HC0_2.out);rintro e w9 ⟨rfl,hb⟩;refine ⟨_,rfl,?_⟩;have n0_:=Qh (Qq (g:=c') (o:=.cells #[.int .i64 a0_0,.int .i64 a0_1,.slice A0_2 l0_2.length c0_2] 24 (0,0)) (by (with_reducible repeat (first | refine Qa ?_ _ | refine Qb ?_ | refine Qc ?_ _));exact a'.out) hb);have n1_:=Qh (Qr (by repeat (first | (with_reducible first | exact HB.out | apply Qd | apply Qe | apply Qf | refine Qg ?_ d'.out) | exact HB.out)) hb);clear a';clear HB;have a':=n0_;have HB:=n1_;clear n0_ n1_;(try clear hb);(try clear hb2);(try clear hk);(try clear hi)) | ((with_reducible refine gate_dst (N:=18) rfl ?_);refine Kd.S_make (Kd.slice 3 (Kd.int .i64)) _ 25 rfl (N:=18) rfl 43 _ _ rfl e' rfl rfl Try.underlying43 (.slice none 0 0) 24 info25 rfl (by decide) (by omega) [] (ok:=fun _=>True) (okp:=fun _=>True) ⟨_,rfl,Kd.R_nil _ _ _ _ _⟩ (fun _ hk=>hk) trivial (of_decide_eq_true (by first | (with_reducible assumption) | assumption)) (Nat.le_trans (Nat.mul_le_mul_right _ (of_decide_eq_true (by first | (with_reducible assumption) | assumption):e'.toNat≤11728124029610)) (by omega)) (Below.refl _ _) (Nat.le_refl _) ?_;intro bl' w10 ho11 hb hg_ hnew_;clear hg_ hnew_;(first | rw [← as'.out] at ho11 | (simp only [Int.reduceToNat] at ho11;rw [← as'.out] at ho11));have n0_:=Qh (Kd.S_lower ho11 (Qs (by repeat (first | (with_reducible first | exact HB.out | apply Qd | apply Qe | apply Qf | refine Qg ?_ d'.out) | exact HB.out))));have n1_:=Qh (Qq (g:=c') (o:=.cells #[.int .i64 a0_0,.int .i64 a0_1,.slice A0_2 l0_2.length c0_2] 24 (0,0)) (by (with_reducible repeat (first | refine Qa ?_ _ | refine Qb ?_ | refine Qc ?_ _));exact a'.out) hb);have n2_:=Qh (Qr (by repeat (first | (with_reducible first | exact HB.out | apply Qd | apply Qe | apply Qf | refine Qg ?_ d'.out) | exact HB.out)) hb);clear a';clear HB;have ad':=n0_;have a':=n1_;have HB:=n2_;clear n0_ n1_ n2_;clear hb ho11;have bh':w10.cell? ⟨c',0,none⟩=some (.int .i64 a0_0):=(Qi a'.out 0).trans rfl;have bg':w10.cell? ⟨c',1,none⟩=some (.int .i64 a0_1):=(Qi a'.out 1).trans rfl;have bf':w10.cell? ⟨c',2,none⟩=some (.slice A0_2 l0_2.length c0_2):=(Qi a'.out 2).trans rfl;have be':=Qj a'.out 0;have bd':=Qj a'.out 1;have bc':=Qj a'.out 2) | ((with_reducible refine gate_callee (f:=27) rfl ?_);refine goesL_ (some 20) rfl rfl Try.func27 (by kernel_rfl) rfl #[.agg #[.int .i64 a0_0,.int .i64 a0_1,.slice A0_2 l0_2.length c0_2]] rfl (by (try simp only [List.map_toArray,List.map_cons,List.map_nil]);first | done | rfl | (simp only [List.length_drop,List.length_take];rfl)) ?_;(with_reducible refine (layers_early.calls a0_0 a0_1 _ _ l0_2 b' _ ?side1 ?side2 A6.out).mono ?_);(case side1=>repeat (first | exact (Qt HR0_2.out HB.out) | (with_reducible refine Kd.C_alloc ?_ _) | (with_reducible refine Kd.C_drewN ?_ _) | (with_reducible refine Kd.C_drew ?_)));(case side2=>exact HC0_2.out);rintro e w13 ⟨cs',rfl,ho0,hb⟩;refine ⟨_,rfl,?_⟩;have n0_:=Qh (Kd.S_elder' (by (with_reducible repeat (first | apply Kd.S_alloc | apply Kd.S_drewN | apply Kd.S_drew));exact ad'.out) (Kd.R_base ho0) hb);have n1_:=Qh (Kd.R_lower ho0 (Qs (by repeat (first | (with_reducible first | exact HB.out | apply Qd | apply Qe | apply Qf | refine Qg ?_ d'.out) | exact HB.out))));have n2_:=Qh (Qq (g:=c') (o:=.cells #[.int .i64 a0_0,.int .i64 a0_1,.slice A0_2 l0_2.length c0_2] 24 (0,0)) (by (with_reducible repeat (first | refine Qa ?_ _ | refine Qb ?_ | refine Qc ?_ _));exact a'.out) hb);have n3_:=Qh (Qr (by repeat (first | (with_reducible first | exact HB.out | apply Qd | apply Qe | apply Qf | refine Qg ?_ d'.out) | exact HB.out)) hb);clear ad';clear a';clear HB;have ad':=n0_;have at':=n1_;have a':=n2_;have HB:=n3_;clear n0_ n1_ n2_ n3_;(try clear hb);(try clear hb2);(try clear hk);(try clear hi);(try clear ho0);obtain ⟨Ao14,co14,eo14⟩:=Kd.R_slice at'.out;subst eo14))
    go_loopg [22] k (fun kq v22 w'=>∃ (x6_1:List (List Int)) (x22_1:Int),v22=.int .i64 x22_1∧Aside0 (layers_Moments.l0 kq x6_1 b' (b'.length:Int) x22_1 a0_0 a0_1 l0_2=some (r1,r2))∧Aside0 (kq≤k)∧Aside0 (Kd.S (Kd.slice 3 (Kd.int .i64)) 25 w' w.heap.size (fun k_=>some k_≠((.slice Ao14 b'.length co14):Value).ownBlock) bl' x6_1)∧Aside0 (Kd.R (Kd.int .i64) 3 w' w.heap.size (fun _=>True) (.slice Ao14 b'.length co14) b')∧Aside0 (w'.heap[c']?=some (.cells #[.int .i64 a0_0,.int .i64 a0_1,(.slice A0_2 l0_2.length c0_2)] 24 (0,0)))∧Aside0 (Below w.heap.size w w'))
    case atStart=>exact ⟨(am'),(0),(by first | rfl | (simp;done) | (simp [*];done)),H',⟨Nat.le_refl _⟩,⟨by (with_reducible repeat (first | apply Kd.S_alloc | apply Kd.S_drewN | apply Kd.S_drew));exact Kd.S_mono ad'.out (fun _ hk=>hk.2)⟩,⟨by (with_reducible repeat (first | apply Qv | apply Qw | apply Qx));exact at'.out⟩,⟨by (with_reducible repeat (first | refine Qa ?_ _ | refine Qb ?_ | refine Qc ?_ _));exact a'.out⟩,⟨by repeat (first | (with_reducible first | exact HB.out | apply Qd | apply Qe | apply Qf | refine Qg ?_ d'.out) | exact HB.out)⟩⟩
    case round =>
     clear H';(try clear c1);(try clear c2);(try clear p2);(try clear c3);(try clear c3b0);(try clear c3b1);(try clear c4);(try clear c4b0);(try clear c4b1);(try clear c5);(try clear c5b0);(try clear c5b1);(try clear bh');(try clear bg');(try clear bf');(try clear br');(try clear bq');(try clear bp');(try clear be');(try clear bd');(try clear bc');(try clear bo');(try clear bn');(try clear bm');obtain ⟨x6_1,x22_1,rfl,HA,HK1,HO_6,HO_20,a',HB⟩:=hrel
     cases gk with
     | zero=>exact absurd HA.out (by simp [layers_Moments.l0])
     | succ k1 =>
      have H:=HA.out;clear HA;simp only [layers_Moments.l0] at H;by_cases c15:x22_1 < (b'.length:Int)
      ·rw [if_pos c15] at H
       have c15b0:decide (x22_1 < (b'.length:Int))=true:=decide_eq_true c15;clear c15;by_cases c16:0≤x22_1
       ·rw [if_pos c16] at H
        have c16b0:decide (0≤x22_1)=true:=decide_eq_true c16;clear c16;by_cases c17:x22_1 < (b'.length:Int)
        ·rw [if_pos c17] at H
         have c17b0:decide (x22_1 < (b'.length:Int))=true:=decide_eq_true c17;clear c17;by_cases c18:x22_1 < (l0_2.length:Int)
         ·rw [if_pos c18] at H
          have c18b0:decide (x22_1 < (l0_2.length:Int))=true:=decide_eq_true c18;clear c18;by_cases c19:((rd_T57 l0_2 x22_1).f0)=4
          ·rw [if_pos c19] at H
           have c19b0:(((rd_T57 l0_2 x22_1).f0) == 4)=true:=beq_iff_eq.mpr c19;have c19b1:(((rd_T57 l0_2 x22_1).f0) != 4)=false:=bne_eq_false_iff_eq.mpr c19;clear c19;have H':=Qh H;clear H;have s':0≤(x22_1:Int):=of_decide_eq_true (by first | (with_reducible assumption) | assumption);have q':x22_1 < (b'.length:Int):=of_decide_eq_true (by first | (with_reducible assumption) | assumption);obtain ⟨ah',ap',au'⟩:=Kd.at_int (Kd.R_reads' HO_20.out).2.2 x22_1 s' q'
           cases ap'
           replace s':=eq_true s';replace q':=eq_true q';have co':wr.cell? ⟨c',0,none⟩=some (.int .i64 a0_0):=(Qi a'.out 0).trans rfl;have cn':wr.cell? ⟨c',1,none⟩=some (.int .i64 a0_1):=(Qi a'.out 1).trans rfl;have cm':wr.cell? ⟨c',2,none⟩=some (.slice A0_2 l0_2.length c0_2):=(Qi a'.out 2).trans rfl;have cf':=Qj a'.out 0;have ce':=Qj a'.out 1;have cd':=Qj a'.out 2;have r':0≤(x22_1:Int):=of_decide_eq_true (by first | (with_reducible assumption) | assumption);have p':x22_1 < (l0_2.length:Int):=of_decide_eq_true (by first | (with_reducible assumption) | assumption);obtain ⟨ag',bb',ba',ao',k',j',i',h',g',f',n',o'⟩:=at_T57 HR0_2.out x22_1 r' p'
           cases ao'
           replace k':=(HB.out.cell (Qk w _ k')).trans k';replace j':=(HB.out.cell (Qk w _ j')).trans j';replace i':=(HB.out.cell (Qk w _ i')).trans i';replace h':=(HB.out.cell (Qk w _ h')).trans h';replace g':=(HB.out.cell (Qk w _ g')).trans g';replace f':=(HB.out.cell (Qk w _ f')).trans f';have aw':=Qh o';have ax':=Qh n';clear o' n';replace r':=eq_true r';replace p':=eq_true p';go_wp2
           go_roundg k1
           case measure=>have:=HK1.out;omega
           case rel=>exact ⟨(x6_1),(wrap64 (x22_1 + 1)),(by first | rfl | (simp;done) | (simp [*];done)),H',⟨by have:=HK1.out;omega⟩,⟨by (with_reducible repeat (first | apply Kd.S_alloc | apply Kd.S_drewN | apply Kd.S_drew));exact HO_6.out⟩,⟨by (with_reducible repeat (first | apply Qv | apply Qw | apply Qx));exact HO_20.out⟩,⟨by (with_reducible repeat (first | refine Qa ?_ _ | refine Qb ?_ | refine Qc ?_ _));exact a'.out⟩,⟨by repeat (first | (with_reducible first | exact HB.out | apply Qd | apply Qe | apply Qf | refine Qg ?_ d'.out) | exact HB.out)⟩⟩
          ·rw [if_neg c19] at H
           have c19b0:(((rd_T57 l0_2 x22_1).f0) == 4)=false:=beq_eq_false_iff_ne.mpr c19;have c19b1:(((rd_T57 l0_2 x22_1).f0) != 4)=true:=bne_iff_ne.mpr c19;obtain ⟨ji21,hji21⟩:∃ j_:Int,(wrap64 ((rd b' x22_1) - 1))=j_:=⟨_,rfl⟩;replace H:(if 0≤(ji21) then (if (ji21) < (x6_1.length:Int) then (if (rd_L1 x6_1 (ji21)).length < 17592186044416 then (layers_Moments.l0 k1 (x6_1.set ((ji21):Int).toNat ((rd_L1 x6_1 (ji21)) ++ [x22_1])) b' (b'.length:Int) (wrap64 (x22_1 + 1)) a0_0 a0_1 l0_2) else (none)) else (none)) else (none))=some (r1,r2):=by first | (rw [hji21] at H;exact H) | (simp only [hji21] at H ⊢;exact H)
           have hji21w:(IntKind.i64.wrap ((rd b' x22_1) - 1))=ji21:=(i64_w _).trans hji21;by_cases c22:0≤(ji21)
           ·rw [if_pos c22] at H
            have c22b0:decide (0≤(ji21))=true:=decide_eq_true c22;clear c22;by_cases c23:(ji21) < (x6_1.length:Int)
            ·rw [if_pos c23] at H
             have c23b0:decide ((ji21) < (x6_1.length:Int))=true:=decide_eq_true c23;clear c23;by_cases c24:(rd_L1 x6_1 (ji21)).length < 17592186044416
             ·rw [if_pos c24] at H
              have bt':=Qh c24;clear c24;obtain ⟨z',u'⟩:∃ y_:List Int,y_=((rd_L1 x6_1 (ji21)) ++ [x22_1]):=⟨_,rfl⟩;replace H:(layers_Moments.l0 k1 (x6_1.set ((ji21):Int).toNat z') b' (b'.length:Int) (wrap64 (x22_1 + 1)) a0_0 a0_1 l0_2)=some (r1,r2):=by first | (rw [u'];with_reducible exact H) | (have H2_:=(Option.bind_some _ _).symm.trans H;rw [u'];with_reducible exact H2_) | (have H2_:=(Option.bind_some _ _).symm.trans H;with_reducible exact H2_) | with_reducible exact H | (rw [u'];exact H) | exact H
              have bj':=Qh u';clear u';obtain ⟨al',t'⟩:∃ y_:List (List Int),y_=(x6_1.set ((ji21):Int).toNat z'):=⟨_,rfl⟩;replace H:(layers_Moments.l0 k1 al' b' (b'.length:Int) (wrap64 (x22_1 + 1)) a0_0 a0_1 l0_2)=some (r1,r2):=by first | (rw [t'];with_reducible exact H) | (have H2_:=(Option.bind_some _ _).symm.trans H;rw [t'];with_reducible exact H2_) | (have H2_:=(Option.bind_some _ _).symm.trans H;with_reducible exact H2_) | with_reducible exact H | (rw [t'];exact H) | exact H
              have bi':=Qh t';clear t';have H':=Qh H;clear H;have s':0≤(x22_1:Int):=of_decide_eq_true (by first | (with_reducible assumption) | assumption);have q':x22_1 < (b'.length:Int):=of_decide_eq_true (by first | (with_reducible assumption) | assumption);obtain ⟨ah',ap',au'⟩:=Kd.at_int (Kd.R_reads' HO_20.out).2.2 x22_1 s' q'
              cases ap'
              replace s':=eq_true s';replace q':=eq_true q';have cl':wr.cell? ⟨c',0,none⟩=some (.int .i64 a0_0):=(Qi a'.out 0).trans rfl;have ck':wr.cell? ⟨c',1,none⟩=some (.int .i64 a0_1):=(Qi a'.out 1).trans rfl;have cj':wr.cell? ⟨c',2,none⟩=some (.slice A0_2 l0_2.length c0_2):=(Qi a'.out 2).trans rfl;have cc':=Qj a'.out 0;have cb':=Qj a'.out 1;have ca':=Qj a'.out 2;have r':0≤(x22_1:Int):=of_decide_eq_true (by first | (with_reducible assumption) | assumption);have p':x22_1 < (l0_2.length:Int):=of_decide_eq_true (by first | (with_reducible assumption) | assumption);obtain ⟨ag',bb',ba',ao',k',j',i',h',g',f',n',o'⟩:=at_T57 HR0_2.out x22_1 r' p'
              cases ao'
              replace k':=(HB.out.cell (Qk w _ k')).trans k';replace j':=(HB.out.cell (Qk w _ j')).trans j';replace i':=(HB.out.cell (Qk w _ i')).trans i';replace h':=(HB.out.cell (Qk w _ h')).trans h';replace g':=(HB.out.cell (Qk w _ g')).trans g';replace f':=(HB.out.cell (Qk w _ f')).trans f';have aw':=Qh o';have ax':=Qh n';clear o' n';replace r':=eq_true r';replace p':=eq_true p';obtain ⟨Ao27,co27,eo27⟩:=Kd.S_slice HO_6.out;subst eo27;have af':0≤((ji21):Int):=of_decide_eq_true (by first | (with_reducible assumption) | assumption);have ae':(ji21) < (x6_1.length:Int):=of_decide_eq_true (by first | (with_reducible assumption) | assumption);obtain ⟨cq',ar',aq',bs',aa',aj',ak'⟩:=at_L1 (Kd.S_reads' HO_6.out).2.2 (ji21) af' ae'
              cases bs'
              obtain ⟨cp',ay',az',an'⟩:=Kd.S_get HO_6.out [] (ji21) af' (by first | exact ae' | exact of_decide_eq_true (by first | (with_reducible assumption) | assumption) | (have e_:=(Kd.S_reads' HO_6.out).1;omega));obtain ⟨bu',rfl,ab'⟩:=az';have m':=an' 0 _ rfl;rw [Nat.add_zero,show ((Kd.slice 3 (Kd.int .i64))).sz=1 from rfl,Nat.mul_one] at m'
              replace m':=Option.some.inj (m'.symm.trans aa');rw [m'] at ab'
              have ac':=Qh (show Kd.R (Kd.int .i64) 3 _ _ _ _ (rd_L1 x6_1 (ji21)) from ab');clear m' ab';have av':=Qh aa';clear an' ay';have bv':=Qh ak';have bw':=Qh aj';clear ak' aj';replace af':=eq_true af';replace ae':=eq_true ae';obtain ⟨go28,co28,eo28,gb28,gl28,cl28,HG28⟩:=Kd.S_form HO_6.out (by have h_:((ji21):Int) < ((x6_1.length:Int):Int):=of_decide_eq_true (by first | (with_reducible assumption) | assumption);have h2_:0≤((ji21):Int):=(of_decide_eq_true (by first | (with_reducible assumption) | assumption));omega);(first | cases eo28 | (injection eo28 with ea_ en_ ec_;(first | subst ea_ | (injection ea_ with ea_;subst ea_));subst ec_;clear en_))
              have GB28:=Qh gb28;have GG28:=Qh HG28;clear gb28 gl28 HG28;(first | simp only [add_plain] at aa' | skip)
              obtain ⟨oki28,ce28,hcl28,hM28,hcc28,_,_,hH28⟩:=Kd.S_elem HO_6.out [] ((ji21):Int) (of_decide_eq_true (by first | (with_reducible assumption) | assumption)) (by have h_:((ji21):Int) < ((x6_1.length:Int):Int):=of_decide_eq_true (by first | (with_reducible assumption) | assumption);first | exact h_ | (have e_:=(Kd.S_reads' HO_6.out).1;omega) | simpa using h_);obtain ⟨ve28_0,rfl,ge28_0⟩:=hM28;have hv28:=hcc28 0 _ rfl;have hX28:=av'.out;(try simp only [add_plain] at hX28)
              (try simp only [Nat.add_zero] at hv28)
              (try rw [show ((Kd.slice 3 (Kd.int .i64))).sz=1 from rfl,Nat.mul_one] at hv28)
              replace hv28:=Option.some.inj (hv28.symm.trans hX28);subst hv28;clear hX28 hcc28 hcl28;have UU28:=Qh (show Kd.R (Kd.int .i64) 3 _ w.heap.size oki28 (.slice ar' (rd_L1 x6_1 (ji21)).length aq') (rd_L1 x6_1 (ji21)) from ge28_0);have HH28:=Qh hH28;have HN28:=Qh (Kd.S_reads' HO_6.out).1;clear hH28 ge28_0;go_wp2_with (first | ((with_reducible refine gate_builtin (b:=.append) (xs:=#[.tmp 41,.tmp 43]) rfl ?_);at_builtin;refine Kd.R_append (Kd.int .i64) (w0:=w) w.heap.size rfl (.tmp 41) (.tmp 43) 25 3 (.int .i64 0) 8 rfl Try.underlying25 info3 rfl (by decide) (by omega) (.slice ar' (rd_L1 x6_1 (ji21)).length aq') (rd_L1 x6_1 (ji21)) x22_1 [.int .i64 x22_1] (fun k_=>oki28 k_∨((fun k_=>some k_≠(.slice (some ah') b'.length co14:Value).ownBlock)) k_∧wr.heap.size≤k_) (fun _=>False) rfl rfl ?aP (fun _ hk=>hk.elim) ?aF ?aO ?aB ?aS ?aL ?_;(case aP=>exact rfl);(case aB=>exact (by repeat (first | (with_reducible first | exact HB.out | apply Qd | apply Qe | apply Qf | refine Qg ?_ d'.out) | exact HB.out)));(case aF=>exact (fun k_ hk=>.inr ⟨Kd.fresh' (Kd.R_lt (by (with_reducible repeat (first | apply Qv | apply Qw | apply Qx));exact HO_20.out)) k_ hk,hk⟩));(case aO=>exact (by (with_reducible repeat (first | apply Qv | apply Qw | apply Qx));exact Kd.R_mono UU28.out (fun _ hk=>.inl hk)));(case aS=>exact (Qs (by repeat (first | (with_reducible first | exact HB.out | apply Qd | apply Qe | apply Qf | refine Qg ?_ d'.out) | exact HB.out))));(case aL=>have:=bt'.out;omega);intro cr' w29 ho hb hg hat;rw [← bj'.out] at ho;have n0_:=Qh (Kd.R_grown2 (by (with_reducible repeat (first | apply Qv | apply Qw | apply Qx));exact HO_20.out) rfl hg (fun k_ e_=>(ac'.out.1 k_ e_).1));have n1_:=Qh (blk_grown (g:=c') (o:=.cells #[.int .i64 a0_0,.int .i64 a0_1,.slice (some ag') l0_2.length c0_2] 24 (0,0)) (by (with_reducible repeat (first | refine Qa ?_ _ | refine Qb ?_ | refine Qc ?_ _));exact a'.out) hg (Kd.R_ne ac'.out a'.out (by decide)));have n2_:=Qh (hb);have n3_:=Qh (Kd.H_grown (Kd.H_widen (by repeat (first | exact HH28.out | refine Kd.H_alloc ?_ _ | refine Kd.H_drewN ?_ _ | refine Kd.H_drew ?_))) hg (fun k_ e_=>.inl (UU28.out.1 k_ e_)));have n4_:=Qh (ho);clear HO_20;clear a';clear HB;clear HH28;clear HO_6;clear UU28;clear ac';have HO_20:=n0_;have a':=n1_;have HB:=n2_;have HH28:=n3_;have ai':=n4_;clear n0_ n1_ n2_ n3_ n4_;clear ho hb hg hat;have p25:0≤((ji21):Int):=of_decide_eq_true (by first | (with_reducible assumption) | assumption);have q25:((ji21):Int) < ((x6_1.length:Int):Int):=of_decide_eq_true (by first | (with_reducible assumption) | assumption);replace p25:=eq_true p25;replace q25:=eq_true q25;obtain ⟨Ao32,co32,eo32⟩:=Kd.R_slice ai'.out;subst eo32;obtain ⟨_,_,hraw30,_,_,hcc30,_⟩:=Kd.H_raw HH28.out (of_decide_eq_true (by first | (with_reducible assumption) | assumption)) (by have h_:((ji21):Int) < ((x6_1.length:Int):Int):=of_decide_eq_true (by first | (with_reducible assumption) | assumption);first | exact h_ | (have e_:=(HN28.out);omega) | simpa using h_);obtain ⟨_,hfr30⟩:=Kd.H_at HH28.out (of_decide_eq_true (by first | (with_reducible assumption) | assumption)) (by have h_:((ji21):Int) < ((x6_1.length:Int):Int):=of_decide_eq_true (by first | (with_reducible assumption) | assumption);first | exact h_ | (have e_:=(HN28.out);omega) | simpa using h_);have hx30_0:=hcc30 0 _ rfl;have hf30_0:=hfr30 0;(try simp only [Nat.add_zero] at hx30_0 hf30_0);(try rw [show ((Kd.slice 3 (Kd.int .i64))).sz=1 from rfl,Nat.mul_one] at hx30_0);(try rw [show ((Kd.slice 3 (Kd.int .i64))).sz=1 from rfl,Nat.mul_one] at hf30_0);have HP30:=Kd.S_seg0 HH28.out (of_decide_eq_true (by first | (with_reducible assumption) | assumption)) (by have h_:((ji21):Int) < ((x6_1.length:Int):Int):=of_decide_eq_true (by first | (with_reducible assumption) | assumption);first | exact h_ | (have e_:=(HN28.out);omega) | simpa using h_) (seg:=[.slice Ao32 z'.length co32]) (j:=0) (show 1≤1 from by decide) (x':=z') (Kd.M_row ai'.out) (fun _ hk=>hk);(try simp only [show ((Kd.slice 3 (Kd.int .i64))).sz=1 from rfl,Nat.mul_one,Nat.add_zero] at HP30);clear hcc30 hfr30) | ((with_reducible refine gate_store (t:=25) (p:=45) rfl ?_);refine store_event (t:=25) (p:=45) (v:=?vo_w31) (w1:=(w29.setCell ⟨go28,((ji21):Int).toNat,none⟩ (.slice Ao32 z'.length co32))) ?hg ?ho ?hn ?hr ?_;(case ho=>rfl);(case hg=>rfl);(case hn=>rfl);(case hr=>first | (go_simp;done) | (go_simp;rfl));intro w31 hw;have hg:w29.grownBy w31 (some go28):=(by rw [hw];exact HP30.2);have hp_:Kd.S (Kd.slice 3 (Kd.int .i64)) 25 w31 w.heap.size (fun k_=>some k_≠(.slice (some ah') b'.length co14:Value).ownBlock) (.slice (some ⟨go28,0,none⟩) x6_1.length co27) al':=(by rw [hw,bi'.out];exact HP30.1);clear HP30;have n0_:=Qh (Kd.R_over' (v:=(.slice (some ⟨go28,0,none⟩) x6_1.length co27)) (by (with_reducible repeat (first | apply Qv | apply Qw | apply Qx));exact HO_20.out) (Kd.R_typed hraw30) (by decide) hg);have n1_:=Qh (blk_grown (g:=c') (o:=.cells #[.int .i64 a0_0,.int .i64 a0_1,.slice (some ag') l0_2.length c0_2] 24 (0,0)) (by (with_reducible repeat (first | refine Qa ?_ _ | refine Qb ?_ | refine Qc ?_ _));exact a'.out) hg (Kd.R_ne hraw30 a'.out (by decide)));have n2_:=Qh ((by rw [hw];exact Qg HB.out GB28.out:Below w.heap.size w w31));have n3_:=Qh (hp_);clear HO_20;clear a';clear HB;clear ai';clear HH28;have HO_20:=n0_;have a':=n1_;have HB:=n2_;have HO_6:=n3_;clear n0_ n1_ n2_ n3_;clear hg hw hp_ hraw30))
              go_roundg k1
              case measure=>have:=HK1.out;omega
              case rel=>exact ⟨(al'),(wrap64 (x22_1 + 1)),(by first | rfl | (simp;done) | (simp [*];done)),H',⟨by have:=HK1.out;omega⟩,⟨by (with_reducible repeat (first | apply Kd.S_alloc | apply Kd.S_drewN | apply Kd.S_drew));exact HO_6.out⟩,⟨by (with_reducible repeat (first | apply Qv | apply Qw | apply Qx));exact HO_20.out⟩,⟨by (with_reducible repeat (first | refine Qa ?_ _ | refine Qb ?_ | refine Qc ?_ _));exact a'.out⟩,⟨by repeat (first | (with_reducible first | exact HB.out | apply Qd | apply Qe | apply Qf | refine Qg ?_ d'.out) | exact HB.out)⟩⟩
             ·rw [if_neg c24] at H
              exact absurd H (by simp)
            ·rw [if_neg c23] at H
             exact absurd H (by simp)
           ·rw [if_neg c22] at H
            exact absurd H (by simp)
         ·rw [if_neg c18] at H
          exact absurd H (by simp)
        ·rw [if_neg c17] at H
         exact absurd H (by simp)
       ·rw [if_neg c16] at H
        exact absurd H (by simp)
      ·rw [if_neg c15] at H
       have c15b0:decide (x22_1 < (b'.length:Int))=false:=decide_eq_false c15;clear c15;simp only [Option.some.injEq,Prod.mk.injEq] at H;obtain ⟨rfl,rfl⟩:=H;go_wp2
       go_ret2
       exact ⟨_,by first | rfl | (simp [errW_none,errW_some]<;>rfl) | (simp [*,errW_none,errW_some]<;>rfl),by (with_reducible repeat (first | apply Kd.S_alloc | apply Kd.S_drewN | apply Kd.S_drew));exact Kd.S_mono HO_6.out (fun _ hk=>trivial),by repeat (first | (with_reducible first | exact HB.out | apply Qd | apply Qe | apply Qf | refine Qg ?_ d'.out) | exact HB.out)⟩
   ·rw [if_neg c5] at H
    exact absurd H (by simp)
  ·rw [if_neg c4] at H
   exact absurd H (by simp)
 ·rw [if_neg c3] at H
  have c3b0:(l' == 0)=false:=beq_eq_false_iff_ne.mpr c3;have c3b1:(l' != 0)=true:=bne_iff_ne.mpr c3;simp only [Option.some.injEq,Prod.mk.injEq] at H;obtain ⟨rfl,rfl⟩:=H;go_enter Try.func20,Try.ntmps20
  go_wp2_with (first | ((with_reducible refine gate_dst (N:=1) rfl ?_);refine box_event ?hg (N:=1) ?hd (cs:=#[.int .i64 a0_0,.int .i64 a0_1,.slice A0_2 l0_2.length c0_2]) (t:=24) ?hr ?_;(case hd=>rfl);(case hg=>rfl);(case hr=>first | (go_simp;done) | (go_simp;rfl));intro c' hg w33 hbox hb;have n0_:=Qh (Qr (by repeat (first | (with_reducible first | exact HB.out | apply Qd | apply Qe | apply Qf) | exact HB.out)) hb);have n1_:=Qh (hbox);have n2_:=Qh ((by rw [hg];exact (Qs (by repeat (first | (with_reducible first | exact HB.out | apply Qd | apply Qe | apply Qf) | exact HB.out))):w.heap.size≤c'));have n3_:=Qh ((by rw [hg];exact (Qs (by repeat (first | (with_reducible first | exact HB.out | apply Qd | apply Qe | apply Qf) | exact HB.out))):w.heap.size≤c'));clear HB;have HB:=n0_;have a':=n1_;have bk':=n2_;have d':=n3_;clear n0_ n1_ n2_ n3_;clear hb hbox hg;have ci':w33.cell? ⟨c',0,none⟩=some (.int .i64 a0_0):=(Qi a'.out 0).trans rfl;have ch':w33.cell? ⟨c',1,none⟩=some (.int .i64 a0_1):=(Qi a'.out 1).trans rfl;have cg':w33.cell? ⟨c',2,none⟩=some (.slice A0_2 l0_2.length c0_2):=(Qi a'.out 2).trans rfl;have bz':=Qj a'.out 0;have by':=Qj a'.out 1;have bx':=Qj a'.out 2) | ((with_reducible refine gate_callee (f:=15) rfl ?_);refine goesL_ (some 11) rfl rfl Try.func15 (by kernel_rfl) rfl #[.agg #[.int .i64 a0_0,.int .i64 a0_1,.slice A0_2 l0_2.length c0_2]] rfl (by (try simp only [List.map_toArray,List.map_cons,List.map_nil]);first | done | rfl | (simp only [List.length_drop,List.length_take];rfl)) ?_;(with_reducible refine (layers_Depth.calls k a0_0 a0_1 _ _ l0_2 e' l' _ ?side1 ?side2 A2.out).mono ?_);(case side1=>repeat (first | exact (Qt HR0_2.out HB.out) | (with_reducible refine Kd.C_alloc ?_ _) | (with_reducible refine Kd.C_drewN ?_ _) | (with_reducible refine Kd.C_drew ?_)));(case side2=>exact HC0_2.out);rintro e w35 ⟨rfl,hb⟩;refine ⟨_,rfl,?_⟩;have n0_:=Qh (Qq (g:=c') (o:=.cells #[.int .i64 a0_0,.int .i64 a0_1,.slice A0_2 l0_2.length c0_2] 24 (0,0)) (by (with_reducible repeat (first | refine Qa ?_ _ | refine Qb ?_ | refine Qc ?_ _));exact a'.out) hb);have n1_:=Qh (Qr (by repeat (first | (with_reducible first | exact HB.out | apply Qd | apply Qe | apply Qf | refine Qg ?_ d'.out) | exact HB.out)) hb);clear a';clear HB;have a':=n0_;have HB:=n1_;clear n0_ n1_;(try clear hb);(try clear hb2);(try clear hk);(try clear hi)))
  go_ret2
  exact ⟨_,by first | rfl | (simp [errW_none,errW_some]<;>rfl) | (simp [*,errW_none,errW_some]<;>rfl),by first | exact Kd.S_nil _ _ _ _ _ | exact Kd.N_nil _ _ _ _ _ | exact Kd.V_nil _ _ _ _ _ | exact Kd.Q_nil _ _ _ _ _ | exact Kd.R_nil _ _ _ _ _,by repeat (first | (with_reducible first | exact HB.out | apply Qd | apply Qe | apply Qf | refine Qg ?_ d'.out) | exact HB.out)⟩
def circuit_Copy.l0:Nat→List (S57)→Int→Int→Int→Int→List (S57)→Option (Int × Int × (List (S57)))
 | 0,_,_,_,_,_,_=>none
 | k + 1,x12,x13,x14,x27104000,x27104001,x27104002=>if x14 < x13 then (if 0≤x14 then (if x14 < (x12.length:Int) then ((slices_Clone_int_int.f ((rd_T57 x12 x14).f2)).bind fun t27106=>(if x27104002.length < 2199023255552 then (circuit_Copy.l0 k x12 x13 (wrap64 (x14 + 1)) x27104000 x27104001 (x27104002 ++ [(⟨(rd_T57 x12 x14).f0,(rd_T57 x12 x14).f1,t27106,(rd_T57 x12 x14).f3,(rd_T57 x12 x14).f4,(rd_T57 x12 x14).f5⟩:S57)])) else (none))) else (none)) else (none)) else (some (x27104000,x27104001,x27104002))
def circuit_Copy.f (k:Nat) (a0_0:Int) (a0_1:Int) (l0_2:List (S57)):Option (Int × Int × (List (S57))):=circuit_Copy.l0 k l0_2 (l0_2.length:Int) 0 a0_0 a0_1 ([]:List (S57))
set_option maxHeartbeats 8000000 in
set_option maxRecDepth 100000 in
theorem circuit_Copy.calls (k:Nat) (a0_0:Int) (a0_1:Int) (A0_2:Option Addr) (c0_2:Nat) (l0_2:List (S57)) (r1:Int) (r2:Int) (r3:List (S57)) (w:World) (hr0_2:Kd.C k57 w A0_2 l0_2.length l0_2) (hc0_2:l0_2.length≤c0_2) (h:circuit_Copy.f k a0_0 a0_1 l0_2=some (r1,r2,r3)) :
  Calls Try.prog 54 #[.agg #[.int .i64 a0_0,.int .i64 a0_1,.slice A0_2 l0_2.length c0_2]] w fun e w'=>∃ v2_:Value,e=.returned (.agg #[.int .i64 r1,.int .i64 r2,v2_])∧Kd.S k57 57 w' w.heap.size (fun _=>True) v2_ r3∧Below w.heap.size w w':=by
 have hu24:=Try.underlying24;have hu57:=Try.underlying57;have HR0_2:=Qh hr0_2;have HC0_2:=Qh hc0_2;clear hr0_2 hc0_2;have HB:=Qh (Below.refl w.heap.size w);have H:(circuit_Copy.l0 k l0_2 (l0_2.length:Int) 0 a0_0 a0_1 ([]:List (S57)))=some (r1,r2,r3):=h;clear h;have H':=Qh H;clear H;go_enter Try.func54,Try.ntmps54
 go_wp2_with (first | ((with_reducible refine gate_dst (N:=1) rfl ?_);refine box_event ?hg (N:=1) ?hd (cs:=#[.int .i64 a0_0,.int .i64 a0_1,.slice A0_2 l0_2.length c0_2]) (t:=24) ?hr ?_;(case hd=>rfl);(case hg=>rfl);(case hr=>first | (go_simp;done) | (go_simp;rfl));intro h' hg w2 hbox hb;have n0_:=Qh (Qr (by repeat (first | (with_reducible first | exact HB.out | apply Qd | apply Qe | apply Qf) | exact HB.out)) hb);have n1_:=Qh (hbox);have n2_:=Qh ((by rw [hg];exact (Qs (by repeat (first | (with_reducible first | exact HB.out | apply Qd | apply Qe | apply Qf) | exact HB.out))):w.heap.size≤h'));have n3_:=Qh ((by rw [hg];exact (Qs (by repeat (first | (with_reducible first | exact HB.out | apply Qd | apply Qe | apply Qf) | exact HB.out))):w.heap.size≤h'));clear HB;have HB:=n0_;have d':=n1_;have ed':=n2_;have k':=n3_;clear n0_ n1_ n2_ n3_;clear hb hbox hg) | ((with_reducible refine gate_dst (N:=2) rfl ?_);refine box_event ?hg (N:=2) ?hd (cs:=#[.int .i64 0,.int .i64 0,.slice none 0 0]) (t:=24) ?hr ?_;(case hd=>rfl);(case hg=>rfl);(case hr=>first | (go_simp;done) | (go_simp;rfl));intro i' hg w3 hbox hb;have n0_:=Qh (Qq (g:=h') (o:=.cells #[.int .i64 a0_0,.int .i64 a0_1,.slice A0_2 l0_2.length c0_2] 24 (0,0)) (by (with_reducible repeat (first | refine Qa ?_ _ | refine Qb ?_ | refine Qc ?_ _));exact d'.out) hb);have n1_:=Qh (Qr (by repeat (first | (with_reducible first | exact HB.out | apply Qd | apply Qe | apply Qf | refine Qg ?_ k'.out) | exact HB.out)) hb);have n2_:=Qh (hbox);have n3_:=Qh ((by rw [hg];exact (Qs (by repeat (first | (with_reducible first | exact HB.out | apply Qd | apply Qe | apply Qf | refine Qg ?_ k'.out) | exact HB.out))):w.heap.size≤i'));have n4_:=Qh ((by rw [hg];exact (Qs (by repeat (first | (with_reducible first | exact HB.out | apply Qd | apply Qe | apply Qf | refine Qg ?_ k'.out) | exact HB.out))):w.heap.size≤i'));have n5_:=Qh ((by rw [hg];exact Nat.ne_of_lt (blk_lt (g:=h') (o:=.cells #[.int .i64 a0_0,.int .i64 a0_1,.slice A0_2 l0_2.length c0_2] 24 (0,0)) (by (with_reducible repeat (first | refine Qa ?_ _ | refine Qb ?_ | refine Qc ?_ _));exact d'.out)):h'≠i'));have n6_:=Qh ((by rw [hg];exact Nat.ne_of_gt (blk_lt (g:=h') (o:=.cells #[.int .i64 a0_0,.int .i64 a0_1,.slice A0_2 l0_2.length c0_2] 24 (0,0)) (by (with_reducible repeat (first | refine Qa ?_ _ | refine Qb ?_ | refine Qc ?_ _));exact d'.out)):i'≠h'));clear d';clear HB;have d':=n0_;have HB:=n1_;have e':=n2_;have ec':=n3_;have p':=n4_;have ae':=n5_;have ad':=n6_;clear n0_ n1_ n2_ n3_ n4_ n5_ n6_;clear hb hbox hg;have fb':=ae'.out;have ey':=ad'.out;have bo':w3.cell? ⟨h',0,none⟩=some (.int .i64 a0_0):=(Qi d'.out 0).trans rfl;have bn':w3.cell? ⟨h',1,none⟩=some (.int .i64 a0_1):=(Qi d'.out 1).trans rfl;have bm':w3.cell? ⟨h',2,none⟩=some (.slice A0_2 l0_2.length c0_2):=(Qi d'.out 2).trans rfl;have bi':=Qj d'.out 0;have bh':=Qj d'.out 1;have bg':=Qj d'.out 2) | ((with_reducible refine gate_dst (N:=3) rfl ?_);refine box_event ?hg (N:=3) ?hd (cs:=#[.int .i64 0,.int .i64 0,.slice none 0 0]) (t:=24) ?hr ?_;(case hd=>rfl);(case hg=>rfl);(case hr=>first | (go_simp;done) | (go_simp;rfl));intro g' hg w6 hbox hb;have n0_:=Qh (Qq (g:=h') (o:=.cells #[.int .i64 a0_0,.int .i64 a0_1,.slice A0_2 l0_2.length c0_2] 24 (0,0)) (by (with_reducible repeat (first | refine Qa ?_ _ | refine Qb ?_ | refine Qc ?_ _));exact d'.out) hb);have n1_:=Qh (Qq (g:=i') (o:=.cells #[.int .i64 0,.int .i64 0,.slice none 0 0] 24 (0,0)) (by (with_reducible repeat (first | refine Qa ?_ _ | refine Qb ?_ | refine Qc ?_ _));exact e'.out) hb);have n2_:=Qh (Qr (by repeat (first | (with_reducible first | exact HB.out | apply Qd | apply Qe | apply Qf | refine Qg ?_ k'.out | refine Qg ?_ p'.out) | exact HB.out)) hb);have n3_:=Qh (hbox);have n4_:=Qh ((by rw [hg];exact (Qs (by repeat (first | (with_reducible first | exact HB.out | apply Qd | apply Qe | apply Qf | refine Qg ?_ k'.out | refine Qg ?_ p'.out) | exact HB.out))):w.heap.size≤g'));have n5_:=Qh ((by rw [hg];exact (Qs (by repeat (first | (with_reducible first | exact HB.out | apply Qd | apply Qe | apply Qf | refine Qg ?_ k'.out | refine Qg ?_ p'.out) | exact HB.out))):w.heap.size≤g'));have n6_:=Qh ((by rw [hg];exact Nat.ne_of_lt (blk_lt (g:=h') (o:=.cells #[.int .i64 a0_0,.int .i64 a0_1,.slice A0_2 l0_2.length c0_2] 24 (0,0)) (by (with_reducible repeat (first | refine Qa ?_ _ | refine Qb ?_ | refine Qc ?_ _));exact d'.out)):h'≠g'));have n7_:=Qh ((by rw [hg];exact Nat.ne_of_gt (blk_lt (g:=h') (o:=.cells #[.int .i64 a0_0,.int .i64 a0_1,.slice A0_2 l0_2.length c0_2] 24 (0,0)) (by (with_reducible repeat (first | refine Qa ?_ _ | refine Qb ?_ | refine Qc ?_ _));exact d'.out)):g'≠h'));have n8_:=Qh ((by rw [hg];exact Nat.ne_of_lt (blk_lt (g:=i') (o:=.cells #[.int .i64 0,.int .i64 0,.slice none 0 0] 24 (0,0)) (by (with_reducible repeat (first | refine Qa ?_ _ | refine Qb ?_ | refine Qc ?_ _));exact e'.out)):i'≠g'));have n9_:=Qh ((by rw [hg];exact Nat.ne_of_gt (blk_lt (g:=i') (o:=.cells #[.int .i64 0,.int .i64 0,.slice none 0 0] 24 (0,0)) (by (with_reducible repeat (first | refine Qa ?_ _ | refine Qb ?_ | refine Qc ?_ _));exact e'.out)):g'≠i'));clear d';clear e';clear HB;have d':=n0_;have e':=n1_;have HB:=n2_;have c':=n3_;have eb':=n4_;have t':=n5_;have s':=n6_;have aa':=n7_;have r':=n8_;have z':=n9_;clear n0_ n1_ n2_ n3_ n4_ n5_ n6_ n7_ n8_ n9_;clear hb hbox hg;have fa':=aa'.out;have ex':=s'.out;have ez':=z'.out;have ew':=r'.out;have bl':w6.cell? ⟨g',0,none⟩=some (.int .i64 0):=(Qi c'.out 0).trans rfl;have bk':w6.cell? ⟨g',1,none⟩=some (.int .i64 0):=(Qi c'.out 1).trans rfl;have bj':w6.cell? ⟨g',2,none⟩=some (.slice none 0 0):=(Qi c'.out 2).trans rfl;have bf':=Qj c'.out 0;have be':=Qj c'.out 1;have bd':=Qj c'.out 2;have bb':w6.cell? ⟨h',0,none⟩=some (.int .i64 a0_0):=(Qi d'.out 0).trans rfl;have ba':w6.cell? ⟨h',1,none⟩=some (.int .i64 a0_1):=(Qi d'.out 1).trans rfl;have az':w6.cell? ⟨h',2,none⟩=some (.slice A0_2 l0_2.length c0_2):=(Qi d'.out 2).trans rfl;have ay':=Qj d'.out 0;have ax':=Qj d'.out 1;have aw':=Qj d'.out 2))
 go_loopg [14] k (fun kq v14 w'=>∃ (x14_1:Int) (l':List (S57)) (j':Value),v14=.int .i64 x14_1∧Aside0 (circuit_Copy.l0 kq l0_2 (l0_2.length:Int) x14_1 a0_0 a0_1 l'=some (r1,r2,r3))∧Aside0 (kq≤k)∧Aside0 (Kd.S k57 57 w' w.heap.size (fun _=>True) j' l')∧Aside0 (w'.heap[h']?=some (.cells #[.int .i64 a0_0,.int .i64 a0_1,(.slice A0_2 l0_2.length c0_2)] 24 (0,0)))∧Aside0 (w'.heap[i']?=some (.cells #[.int .i64 0,.int .i64 0,(.slice none 0 0)] 24 (0,0)))∧Aside0 (w'.heap[g']?=some (.cells #[.int .i64 a0_0,.int .i64 a0_1,j'] 24 (0,0)))∧Aside0 (Below w.heap.size w w'))
 case atStart=>exact ⟨(0),(([]:List (S57))),(.slice none 0 0),(by first | rfl | (simp;done) | (simp [*];done)),H',⟨Nat.le_refl _⟩,⟨by first | exact Kd.S_nil _ _ _ _ _ | exact Kd.N_nil _ _ _ _ _ | exact Kd.V_nil _ _ _ _ _ | exact Kd.Q_nil _ _ _ _ _ | exact Kd.R_nil _ _ _ _ _⟩,⟨by (with_reducible repeat (first | refine Qa ?_ _ | refine Qb ?_ | refine Qc ?_ _));refine blk_far ?_ s'.out _;(with_reducible repeat (first | refine Qa ?_ _ | refine Qb ?_ | refine Qc ?_ _));refine blk_far ?_ s'.out _;(with_reducible repeat (first | refine Qa ?_ _ | refine Qb ?_ | refine Qc ?_ _));refine blk_far ?_ s'.out _;(with_reducible repeat (first | refine Qa ?_ _ | refine Qb ?_ | refine Qc ?_ _));exact d'.out⟩,⟨by (with_reducible repeat (first | refine Qa ?_ _ | refine Qb ?_ | refine Qc ?_ _));refine blk_far ?_ r'.out _;(with_reducible repeat (first | refine Qa ?_ _ | refine Qb ?_ | refine Qc ?_ _));refine blk_far ?_ r'.out _;(with_reducible repeat (first | refine Qa ?_ _ | refine Qb ?_ | refine Qc ?_ _));refine blk_far ?_ r'.out _;(with_reducible repeat (first | refine Qa ?_ _ | refine Qb ?_ | refine Qc ?_ _));exact e'.out⟩,⟨by (with_reducible repeat (first | refine Qa ?_ _ | refine Qb ?_ | refine Qc ?_ _));refine blk_put (cs:=#[.int .i64 a0_0,.int .i64 a0_1,.slice none 0 0]) ?_ 2 _ rfl;(with_reducible repeat (first | refine Qa ?_ _ | refine Qb ?_ | refine Qc ?_ _));refine blk_put (cs:=#[.int .i64 a0_0,.int .i64 0,.slice none 0 0]) ?_ 1 _ rfl;(with_reducible repeat (first | refine Qa ?_ _ | refine Qb ?_ | refine Qc ?_ _));refine blk_put (cs:=#[.int .i64 0,.int .i64 0,.slice none 0 0]) ?_ 0 _ rfl;(with_reducible repeat (first | refine Qa ?_ _ | refine Qb ?_ | refine Qc ?_ _));exact c'.out⟩,⟨by repeat (first | (with_reducible first | exact HB.out | apply Qd | apply Qe | apply Qf | refine Qg ?_ k'.out | refine Qg ?_ p'.out | refine Qg ?_ t'.out) | exact HB.out)⟩⟩
 case round =>
  clear H';(try clear p2);(try clear c4);(try clear c5);(try clear c7);(try clear c8);(try clear bb');(try clear ba');(try clear az');(try clear bo');(try clear bn');(try clear bm');(try clear bl');(try clear bk');(try clear bj');(try clear ay');(try clear ax');(try clear aw');(try clear bi');(try clear bh');(try clear bg');(try clear bf');(try clear be');(try clear bd');obtain ⟨x14_1,l',j',rfl,HA,HK1,f',d',e',c',HB⟩:=hrel
  cases gk with
  | zero=>exact absurd HA.out (by simp [circuit_Copy.l0])
  | succ k1 =>
   have H:=HA.out;clear HA;simp only [circuit_Copy.l0] at H;by_cases c11:x14_1 < (l0_2.length:Int)
   ·rw [if_pos c11] at H
    have c11b0:decide (x14_1 < (l0_2.length:Int))=true:=decide_eq_true c11;clear c11;by_cases c12:0≤x14_1
    ·rw [if_pos c12] at H
     have c12b0:decide (0≤x14_1)=true:=decide_eq_true c12;clear c12;by_cases c13:x14_1 < (l0_2.length:Int)
     ·rw [if_pos c13] at H
      have c13b0:decide (x14_1 < (l0_2.length:Int))=true:=decide_eq_true c13;clear c13;replace H:=Option.bind_eq_some_iff.mp H;obtain ⟨q',bq',H⟩:=H;replace H:(if l'.length < 2199023255552 then (circuit_Copy.l0 k1 l0_2 (l0_2.length:Int) (wrap64 (x14_1 + 1)) a0_0 a0_1 (l' ++ [(⟨(rd_T57 l0_2 x14_1).f0,(rd_T57 l0_2 x14_1).f1,q',(rd_T57 l0_2 x14_1).f3,(rd_T57 l0_2 x14_1).f4,(rd_T57 l0_2 x14_1).f5⟩:S57)])) else (none))=some (r1,r2,r3):=H
      have A14:=Qh bq';clear bq';by_cases c15:l'.length < 2199023255552
      ·rw [if_pos c15] at H
       have br':=Qh c15;clear c15;obtain ⟨al',ac'⟩:∃ y_:List (S57),y_=(l' ++ [(⟨(rd_T57 l0_2 x14_1).f0,(rd_T57 l0_2 x14_1).f1,q',(rd_T57 l0_2 x14_1).f3,(rd_T57 l0_2 x14_1).f4,(rd_T57 l0_2 x14_1).f5⟩:S57)]):=⟨_,rfl⟩;replace H:(circuit_Copy.l0 k1 l0_2 (l0_2.length:Int) (wrap64 (x14_1 + 1)) a0_0 a0_1 al')=some (r1,r2,r3):=by first | (rw [ac'];with_reducible exact H) | (have H2_:=(Option.bind_some _ _).symm.trans H;rw [ac'];with_reducible exact H2_) | (have H2_:=(Option.bind_some _ _).symm.trans H;with_reducible exact H2_) | with_reducible exact H | (rw [ac'];exact H) | exact H
       have bc':=Qh ac';clear ac';have H':=Qh H;clear H;have as':0≤(x14_1:Int):=of_decide_eq_true (by first | (with_reducible assumption) | assumption);have ar':x14_1 < (l0_2.length:Int):=of_decide_eq_true (by first | (with_reducible assumption) | assumption);obtain ⟨ab',v',u',bp',ak',aj',ai',ah',ag',af',am',an'⟩:=at_T57 HR0_2.out x14_1 as' ar'
       cases bp'
       replace ak':=(HB.out.cell (Qk w _ ak')).trans ak';replace aj':=(HB.out.cell (Qk w _ aj')).trans aj';replace ai':=(HB.out.cell (Qk w _ ai')).trans ai';replace ah':=(HB.out.cell (Qk w _ ah')).trans ah';replace ag':=(HB.out.cell (Qk w _ ag')).trans ag';replace af':=(HB.out.cell (Qk w _ af')).trans af';have au':=Qh an';have av':=Qh am';clear an' am';replace as':=eq_true as';replace ar':=eq_true ar';go_wp2_with (first | ((with_reducible refine gate_dst (N:=5) rfl ?_);refine box_event ?hg (N:=5) ?hd (cs:=#[.int .i64 0,.int .i64 0,.slice none 0 0,.int .i64 0,.int .i64 0,.int .i64 0]) (t:=57) ?hr ?_;(case hd=>rfl);(case hg=>rfl);(case hr=>first | (go_simp;done) | (go_simp;rfl));intro b' hg w16 hbox hb;have n0_:=Qh (Kd.S_below (Kd.S_elderB (by (with_reducible repeat (first | apply Kd.S_alloc | apply Kd.S_drewN | apply Kd.S_drew));exact f'.out) b' (Nat.le_of_eq hg.symm)) hb);have n1_:=Qh (Qq (g:=h') (o:=.cells #[.int .i64 a0_0,.int .i64 a0_1,.slice (some ab') l0_2.length c0_2] 24 (0,0)) (by (with_reducible repeat (first | refine Qa ?_ _ | refine Qb ?_ | refine Qc ?_ _));exact d'.out) hb);have n2_:=Qh (Qq (g:=i') (o:=.cells #[.int .i64 0,.int .i64 0,.slice none 0 0] 24 (0,0)) (by (with_reducible repeat (first | refine Qa ?_ _ | refine Qb ?_ | refine Qc ?_ _));exact e'.out) hb);have n3_:=Qh (Qq (g:=g') (o:=.cells #[.int .i64 a0_0,.int .i64 a0_1,j'] 24 (0,0)) (by (with_reducible repeat (first | refine Qa ?_ _ | refine Qb ?_ | refine Qc ?_ _));exact c'.out) hb);have n4_:=Qh (Qr (by repeat (first | (with_reducible first | exact HB.out | apply Qd | apply Qe | apply Qf | refine Qg ?_ k'.out | refine Qg ?_ p'.out | refine Qg ?_ t'.out) | exact HB.out)) hb);have n5_:=Qh (hbox);have n6_:=Qh ((by rw [hg];exact (Qs (by repeat (first | (with_reducible first | exact HB.out | apply Qd | apply Qe | apply Qf | refine Qg ?_ k'.out | refine Qg ?_ p'.out | refine Qg ?_ t'.out) | exact HB.out))):w.heap.size≤b'));have n7_:=Qh ((by rw [hg];exact (Qs (by repeat (first | (with_reducible first | exact HB.out | apply Qd | apply Qe | apply Qf | refine Qg ?_ k'.out | refine Qg ?_ p'.out | refine Qg ?_ t'.out) | exact HB.out))):w.heap.size≤b'));have n8_:=Qh ((by rw [hg];exact Nat.ne_of_lt (blk_lt (g:=h') (o:=.cells #[.int .i64 a0_0,.int .i64 a0_1,.slice (some ab') l0_2.length c0_2] 24 (0,0)) (by (with_reducible repeat (first | refine Qa ?_ _ | refine Qb ?_ | refine Qc ?_ _));exact d'.out)):h'≠b'));have n9_:=Qh ((by rw [hg];exact Nat.ne_of_gt (blk_lt (g:=h') (o:=.cells #[.int .i64 a0_0,.int .i64 a0_1,.slice (some ab') l0_2.length c0_2] 24 (0,0)) (by (with_reducible repeat (first | refine Qa ?_ _ | refine Qb ?_ | refine Qc ?_ _));exact d'.out)):b'≠h'));have n10_:=Qh ((by rw [hg];exact Nat.ne_of_lt (blk_lt (g:=i') (o:=.cells #[.int .i64 0,.int .i64 0,.slice none 0 0] 24 (0,0)) (by (with_reducible repeat (first | refine Qa ?_ _ | refine Qb ?_ | refine Qc ?_ _));exact e'.out)):i'≠b'));have n11_:=Qh ((by rw [hg];exact Nat.ne_of_gt (blk_lt (g:=i') (o:=.cells #[.int .i64 0,.int .i64 0,.slice none 0 0] 24 (0,0)) (by (with_reducible repeat (first | refine Qa ?_ _ | refine Qb ?_ | refine Qc ?_ _));exact e'.out)):b'≠i'));have n12_:=Qh ((by rw [hg];exact Nat.ne_of_lt (blk_lt (g:=g') (o:=.cells #[.int .i64 a0_0,.int .i64 a0_1,j'] 24 (0,0)) (by (with_reducible repeat (first | refine Qa ?_ _ | refine Qb ?_ | refine Qc ?_ _));exact c'.out)):g'≠b'));have n13_:=Qh ((by rw [hg];exact Nat.ne_of_gt (blk_lt (g:=g') (o:=.cells #[.int .i64 a0_0,.int .i64 a0_1,j'] 24 (0,0)) (by (with_reducible repeat (first | refine Qa ?_ _ | refine Qb ?_ | refine Qc ?_ _));exact c'.out)):b'≠g'));clear f';clear d';clear e';clear c';clear HB;have f':=n0_;have d':=n1_;have e':=n2_;have c':=n3_;have HB:=n4_;have a':=n5_;have ea':=n6_;have y':=n7_;have o':=n8_;have aq':=n9_;have n':=n10_;have ap':=n11_;have m':=n12_;have ao':=n13_;clear n0_ n1_ n2_ n3_ n4_ n5_ n6_ n7_ n8_ n9_ n10_ n11_ n12_ n13_;clear hb hbox hg;have ev':=aq'.out;have en':=o'.out;have eu':=ap'.out;have em':=n'.out;have et':=ao'.out;have el':=m'.out;have dz':w16.cell? ⟨b',0,none⟩=some (.int .i64 0):=(Qi a'.out 0).trans rfl;have dy':w16.cell? ⟨b',1,none⟩=some (.int .i64 0):=(Qi a'.out 1).trans rfl;have dx':w16.cell? ⟨b',2,none⟩=some (.slice none 0 0):=(Qi a'.out 2).trans rfl;have dw':w16.cell? ⟨b',3,none⟩=some (.int .i64 0):=(Qi a'.out 3).trans rfl;have dv':w16.cell? ⟨b',4,none⟩=some (.int .i64 0):=(Qi a'.out 4).trans rfl;have du':w16.cell? ⟨b',5,none⟩=some (.int .i64 0):=(Qi a'.out 5).trans rfl;have cv':=Qj a'.out 0;have cu':=Qj a'.out 1;have ct':=Qj a'.out 2;have cs':=Qj a'.out 3;have cr':=Qj a'.out 4;have cq':=Qj a'.out 5) | ((with_reducible refine gate_callee (f:=46) rfl ?_);refine goesL_ (some 20) rfl rfl Try.func46 (by kernel_rfl) rfl #[.slice v' ((rd_T57 l0_2 x14_1).f2).length u'] rfl (by (try simp only [List.map_toArray,List.map_cons,List.map_nil]);first | done | rfl | (simp only [List.length_drop,List.length_take];rfl)) ?_;(with_reducible refine (slices_Clone_int_int.calls _ _ ((rd_T57 l0_2 x14_1).f2) q' _ ?side1 ?side2 A14.out).mono ?_);(case side1=>exact Qt au'.out (by repeat (first | (with_reducible first | exact HB.out | apply Qd | apply Qe | apply Qf | refine Qg ?_ k'.out | refine Qg ?_ p'.out | refine Qg ?_ t'.out | refine Qg ?_ y'.out) | exact HB.out)));(case side2=>exact av'.out);rintro e w21 ⟨ef',rfl,ho0,hb⟩;refine ⟨_,rfl,?_⟩;have n0_:=Qh (Kd.S_elder' (by (with_reducible repeat (first | apply Kd.S_alloc | apply Kd.S_drewN | apply Kd.S_drew));exact (Kd.S_mono (Kd.S_far (p:=⟨b',5,none⟩) (Kd.S_far (p:=⟨b',4,none⟩) (Kd.S_far (p:=⟨b',3,none⟩) (Kd.S_far (p:=⟨b',2,none⟩) (Kd.S_far (p:=⟨b',1,none⟩) (Kd.S_far (p:=⟨b',0,none⟩) (Kd.S_mono f'.out (fun k_ hk=>(⟨hk,hk.2⟩:_∧k_≠b'))) (fun _ hk=>hk.2) (.int .i64 ((rd_T57 l0_2 x14_1).f0))) (fun _ hk=>hk.2) (.int .i64 ((rd_T57 l0_2 x14_1).f1))) (fun _ hk=>hk.2) (.slice v' ((rd_T57 l0_2 x14_1).f2).length u')) (fun _ hk=>hk.2) (.int .i64 ((rd_T57 l0_2 x14_1).f3))) (fun _ hk=>hk.2) (.int .i64 ((rd_T57 l0_2 x14_1).f4))) (fun _ hk=>hk.2) (.int .i64 ((rd_T57 l0_2 x14_1).f5))) (fun _ h_=>h_.1))) (Kd.R_base ho0) hb);have n1_:=Qh (Kd.R_lower ho0 (Qs (by repeat (first | (with_reducible first | exact HB.out | apply Qd | apply Qe | apply Qf | refine Qg ?_ k'.out | refine Qg ?_ p'.out | refine Qg ?_ t'.out | refine Qg ?_ y'.out) | exact HB.out))));have n2_:=Qh (Qq (g:=h') (o:=.cells #[.int .i64 a0_0,.int .i64 a0_1,.slice (some ab') l0_2.length c0_2] 24 (0,0)) (by (with_reducible repeat (first | refine Qa ?_ _ | refine Qb ?_ | refine Qc ?_ _));refine blk_far ?_ o'.out _;(with_reducible repeat (first | refine Qa ?_ _ | refine Qb ?_ | refine Qc ?_ _));refine blk_far ?_ o'.out _;(with_reducible repeat (first | refine Qa ?_ _ | refine Qb ?_ | refine Qc ?_ _));refine blk_far ?_ o'.out _;(with_reducible repeat (first | refine Qa ?_ _ | refine Qb ?_ | refine Qc ?_ _));refine blk_far ?_ o'.out _;(with_reducible repeat (first | refine Qa ?_ _ | refine Qb ?_ | refine Qc ?_ _));refine blk_far ?_ o'.out _;(with_reducible repeat (first | refine Qa ?_ _ | refine Qb ?_ | refine Qc ?_ _));refine blk_far ?_ o'.out _;(with_reducible repeat (first | refine Qa ?_ _ | refine Qb ?_ | refine Qc ?_ _));exact d'.out) hb);have n3_:=Qh (Qq (g:=i') (o:=.cells #[.int .i64 0,.int .i64 0,.slice none 0 0] 24 (0,0)) (by (with_reducible repeat (first | refine Qa ?_ _ | refine Qb ?_ | refine Qc ?_ _));refine blk_far ?_ n'.out _;(with_reducible repeat (first | refine Qa ?_ _ | refine Qb ?_ | refine Qc ?_ _));refine blk_far ?_ n'.out _;(with_reducible repeat (first | refine Qa ?_ _ | refine Qb ?_ | refine Qc ?_ _));refine blk_far ?_ n'.out _;(with_reducible repeat (first | refine Qa ?_ _ | refine Qb ?_ | refine Qc ?_ _));refine blk_far ?_ n'.out _;(with_reducible repeat (first | refine Qa ?_ _ | refine Qb ?_ | refine Qc ?_ _));refine blk_far ?_ n'.out _;(with_reducible repeat (first | refine Qa ?_ _ | refine Qb ?_ | refine Qc ?_ _));refine blk_far ?_ n'.out _;(with_reducible repeat (first | refine Qa ?_ _ | refine Qb ?_ | refine Qc ?_ _));exact e'.out) hb);have n4_:=Qh (Qq (g:=g') (o:=.cells #[.int .i64 a0_0,.int .i64 a0_1,j'] 24 (0,0)) (by (with_reducible repeat (first | refine Qa ?_ _ | refine Qb ?_ | refine Qc ?_ _));refine blk_far ?_ m'.out _;(with_reducible repeat (first | refine Qa ?_ _ | refine Qb ?_ | refine Qc ?_ _));refine blk_far ?_ m'.out _;(with_reducible repeat (first | refine Qa ?_ _ | refine Qb ?_ | refine Qc ?_ _));refine blk_far ?_ m'.out _;(with_reducible repeat (first | refine Qa ?_ _ | refine Qb ?_ | refine Qc ?_ _));refine blk_far ?_ m'.out _;(with_reducible repeat (first | refine Qa ?_ _ | refine Qb ?_ | refine Qc ?_ _));refine blk_far ?_ m'.out _;(with_reducible repeat (first | refine Qa ?_ _ | refine Qb ?_ | refine Qc ?_ _));refine blk_far ?_ m'.out _;(with_reducible repeat (first | refine Qa ?_ _ | refine Qb ?_ | refine Qc ?_ _));exact c'.out) hb);have n5_:=Qh (Qq (g:=b') (o:=.cells #[.int .i64 ((rd_T57 l0_2 x14_1).f0),.int .i64 ((rd_T57 l0_2 x14_1).f1),.slice v' ((rd_T57 l0_2 x14_1).f2).length u',.int .i64 ((rd_T57 l0_2 x14_1).f3),.int .i64 ((rd_T57 l0_2 x14_1).f4),.int .i64 ((rd_T57 l0_2 x14_1).f5)] 57 (0,0)) (by (with_reducible repeat (first | refine Qa ?_ _ | refine Qb ?_ | refine Qc ?_ _));refine blk_put (cs:=#[.int .i64 ((rd_T57 l0_2 x14_1).f0),.int .i64 ((rd_T57 l0_2 x14_1).f1),.slice v' ((rd_T57 l0_2 x14_1).f2).length u',.int .i64 ((rd_T57 l0_2 x14_1).f3),.int .i64 ((rd_T57 l0_2 x14_1).f4),.int .i64 0]) ?_ 5 _ rfl;(with_reducible repeat (first | refine Qa ?_ _ | refine Qb ?_ | refine Qc ?_ _));refine blk_put (cs:=#[.int .i64 ((rd_T57 l0_2 x14_1).f0),.int .i64 ((rd_T57 l0_2 x14_1).f1),.slice v' ((rd_T57 l0_2 x14_1).f2).length u',.int .i64 ((rd_T57 l0_2 x14_1).f3),.int .i64 0,.int .i64 0]) ?_ 4 _ rfl;(with_reducible repeat (first | refine Qa ?_ _ | refine Qb ?_ | refine Qc ?_ _));refine blk_put (cs:=#[.int .i64 ((rd_T57 l0_2 x14_1).f0),.int .i64 ((rd_T57 l0_2 x14_1).f1),.slice v' ((rd_T57 l0_2 x14_1).f2).length u',.int .i64 0,.int .i64 0,.int .i64 0]) ?_ 3 _ rfl;(with_reducible repeat (first | refine Qa ?_ _ | refine Qb ?_ | refine Qc ?_ _));refine blk_put (cs:=#[.int .i64 ((rd_T57 l0_2 x14_1).f0),.int .i64 ((rd_T57 l0_2 x14_1).f1),.slice none 0 0,.int .i64 0,.int .i64 0,.int .i64 0]) ?_ 2 _ rfl;(with_reducible repeat (first | refine Qa ?_ _ | refine Qb ?_ | refine Qc ?_ _));refine blk_put (cs:=#[.int .i64 ((rd_T57 l0_2 x14_1).f0),.int .i64 0,.slice none 0 0,.int .i64 0,.int .i64 0,.int .i64 0]) ?_ 1 _ rfl;(with_reducible repeat (first | refine Qa ?_ _ | refine Qb ?_ | refine Qc ?_ _));refine blk_put (cs:=#[.int .i64 0,.int .i64 0,.slice none 0 0,.int .i64 0,.int .i64 0,.int .i64 0]) ?_ 0 _ rfl;(with_reducible repeat (first | refine Qa ?_ _ | refine Qb ?_ | refine Qc ?_ _));exact a'.out) hb);have n6_:=Qh (Qr (by repeat (first | (with_reducible first | exact HB.out | apply Qd | apply Qe | apply Qf | refine Qg ?_ k'.out | refine Qg ?_ p'.out | refine Qg ?_ t'.out | refine Qg ?_ y'.out) | exact HB.out)) hb);clear f';clear d';clear e';clear c';clear a';clear HB;have f':=n0_;have x':=n1_;have d':=n2_;have e':=n3_;have c':=n4_;have a':=n5_;have HB:=n6_;clear n0_ n1_ n2_ n3_ n4_ n5_ n6_;(try clear hb);(try clear hb2);(try clear hk);(try clear hi);(try clear ho0);obtain ⟨Ao22,co22,eo22⟩:=Kd.R_slice x'.out;subst eo22;have dt':w21.cell? ⟨b',0,none⟩=some (.int .i64 ((rd_T57 l0_2 x14_1).f0)):=(Qi a'.out 0).trans rfl;have ds':w21.cell? ⟨b',1,none⟩=some (.int .i64 ((rd_T57 l0_2 x14_1).f1)):=(Qi a'.out 1).trans rfl;have dr':w21.cell? ⟨b',2,none⟩=some (.slice v' ((rd_T57 l0_2 x14_1).f2).length u'):=(Qi a'.out 2).trans rfl;have dq':w21.cell? ⟨b',3,none⟩=some (.int .i64 ((rd_T57 l0_2 x14_1).f3)):=(Qi a'.out 3).trans rfl;have dp':w21.cell? ⟨b',4,none⟩=some (.int .i64 ((rd_T57 l0_2 x14_1).f4)):=(Qi a'.out 4).trans rfl;have do':w21.cell? ⟨b',5,none⟩=some (.int .i64 ((rd_T57 l0_2 x14_1).f5)):=(Qi a'.out 5).trans rfl;have cp':=Qj a'.out 0;have co':=Qj a'.out 1;have cn':=Qj a'.out 2;have cm':=Qj a'.out 3;have cl':=Qj a'.out 4;have ck':=Qj a'.out 5) | ((with_reducible refine gate_store (t:=25) (p:=21) rfl ?_);refine store_event (t:=25) (p:=21) (v:=?vo_w24) (w1:=(w21.setCell ⟨b',2,none⟩ (.slice Ao22 q'.length co22))) ?hg ?ho ?hn ?hr ?_;(case ho=>rfl);(case hg=>rfl);(case hn=>rfl);(case hr=>first | (go_simp;done) | (go_simp;rfl));intro w24 hw;have n0_:Aside0 (Kd.S k57 57 w24 w.heap.size (fun k_=>some k_≠(.slice Ao22 q'.length co22:Value).ownBlock∧k_≠b') j' l'):=⟨(by rw [hw];exact (by (with_reducible repeat (first | apply Kd.S_alloc | apply Kd.S_drewN | apply Kd.S_drew));exact Kd.S_mono (Kd.S_far (p:=⟨b',2,none⟩) (Kd.S_mono f'.out (fun k_ hk=>(⟨hk,hk.1.2⟩:_∧k_≠b'))) (fun _ hk=>hk.2) (.slice Ao22 q'.length co22)) (fun _ hk=>⟨hk.1.2,hk.1.1.2⟩)))⟩;have n1_:Aside0 (Kd.R (Kd.int .i64) 3 w24 w.heap.size (fun _=>True) (.slice Ao22 q'.length co22) q'):=⟨(by rw [hw];exact (by (with_reducible repeat (first | apply Qv | apply Qw | apply Qx));exact Kd.R_mono (Kd.R_far (p:=⟨b',2,none⟩) (Kd.R_types x'.out a'.out (by decide)) (fun _ hk=>hk.2) (.slice Ao22 q'.length co22)) (fun _ hk=>trivial)))⟩;have n2_:Aside0 (w24.heap[h']?=some (.cells #[.int .i64 a0_0,.int .i64 a0_1,.slice (some ab') l0_2.length c0_2] 24 (0,0))):=⟨(by rw [hw];exact (by (with_reducible repeat (first | refine Qa ?_ _ | refine Qb ?_ | refine Qc ?_ _));refine blk_far ?_ o'.out _;(with_reducible repeat (first | refine Qa ?_ _ | refine Qb ?_ | refine Qc ?_ _));exact d'.out))⟩;have n3_:Aside0 (w24.heap[i']?=some (.cells #[.int .i64 0,.int .i64 0,.slice none 0 0] 24 (0,0))):=⟨(by rw [hw];exact (by (with_reducible repeat (first | refine Qa ?_ _ | refine Qb ?_ | refine Qc ?_ _));refine blk_far ?_ n'.out _;(with_reducible repeat (first | refine Qa ?_ _ | refine Qb ?_ | refine Qc ?_ _));exact e'.out))⟩;have n4_:Aside0 (w24.heap[g']?=some (.cells #[.int .i64 a0_0,.int .i64 a0_1,j'] 24 (0,0))):=⟨(by rw [hw];exact (by (with_reducible repeat (first | refine Qa ?_ _ | refine Qb ?_ | refine Qc ?_ _));refine blk_far ?_ m'.out _;(with_reducible repeat (first | refine Qa ?_ _ | refine Qb ?_ | refine Qc ?_ _));exact c'.out))⟩;have n5_:Aside0 (w24.heap[b']?=some (.cells #[.int .i64 ((rd_T57 l0_2 x14_1).f0),.int .i64 ((rd_T57 l0_2 x14_1).f1),.slice Ao22 q'.length co22,.int .i64 ((rd_T57 l0_2 x14_1).f3),.int .i64 ((rd_T57 l0_2 x14_1).f4),.int .i64 ((rd_T57 l0_2 x14_1).f5)] 57 (0,0))):=⟨(by rw [hw];exact (by (with_reducible repeat (first | refine Qa ?_ _ | refine Qb ?_ | refine Qc ?_ _));refine blk_put (cs:=#[.int .i64 ((rd_T57 l0_2 x14_1).f0),.int .i64 ((rd_T57 l0_2 x14_1).f1),.slice v' ((rd_T57 l0_2 x14_1).f2).length u',.int .i64 ((rd_T57 l0_2 x14_1).f3),.int .i64 ((rd_T57 l0_2 x14_1).f4),.int .i64 ((rd_T57 l0_2 x14_1).f5)]) ?_ 2 _ rfl;(with_reducible repeat (first | refine Qa ?_ _ | refine Qb ?_ | refine Qc ?_ _));exact a'.out))⟩;have n6_:Aside0 (Below w.heap.size w w24):=⟨(by rw [hw];exact (by repeat (first | (with_reducible first | exact HB.out | apply Qd | apply Qe | apply Qf | refine Qg ?_ k'.out | refine Qg ?_ p'.out | refine Qg ?_ t'.out | refine Qg ?_ y'.out) | exact HB.out)))⟩;clear hw;clear f';clear x';clear d';clear e';clear c';clear a';clear HB;have f':=n0_;have x':=n1_;have d':=n2_;have e':=n3_;have c':=n4_;have a':=n5_;have HB:=n6_;clear n0_ n1_ n2_ n3_ n4_ n5_ n6_;have es':=aa'.out;have ek':=s'.out;have er':=z'.out;have ej':=r'.out;have dn':w24.cell? ⟨g',0,none⟩=some (.int .i64 a0_0):=(Qi c'.out 0).trans rfl;have dm':w24.cell? ⟨g',1,none⟩=some (.int .i64 a0_1):=(Qi c'.out 1).trans rfl;have dl':w24.cell? ⟨g',2,none⟩=some (j'):=(Qi c'.out 2).trans rfl;have cj':=Qj c'.out 0;have ci':=Qj c'.out 1;have ch':=Qj c'.out 2;have dk':w24.cell? ⟨b',0,none⟩=some (.int .i64 ((rd_T57 l0_2 x14_1).f0)):=(Qi a'.out 0).trans rfl;have dj':w24.cell? ⟨b',1,none⟩=some (.int .i64 ((rd_T57 l0_2 x14_1).f1)):=(Qi a'.out 1).trans rfl;have di':w24.cell? ⟨b',2,none⟩=some (.slice Ao22 q'.length co22):=(Qi a'.out 2).trans rfl;have dh':w24.cell? ⟨b',3,none⟩=some (.int .i64 ((rd_T57 l0_2 x14_1).f3)):=(Qi a'.out 3).trans rfl;have dg':w24.cell? ⟨b',4,none⟩=some (.int .i64 ((rd_T57 l0_2 x14_1).f4)):=(Qi a'.out 4).trans rfl;have df':w24.cell? ⟨b',5,none⟩=some (.int .i64 ((rd_T57 l0_2 x14_1).f5)):=(Qi a'.out 5).trans rfl;have cg':=Qj a'.out 0;have cf':=Qj a'.out 1;have ce':=Qj a'.out 2;have cd':=Qj a'.out 3;have cc':=Qj a'.out 4;have cb':=Qj a'.out 5) | ((with_reducible refine gate_builtin (b:=.append) (xs:=#[.tmp 23,.tmp 25]) rfl ?_);at_builtin;refine Kd.S_append k57 (w0:=w) w.heap.size rfl (.tmp 23) (.tmp 25) 22 57 (.agg #[(.int .i64 0),(.int .i64 0),(.slice none 0 0),(.int .i64 0),(.int .i64 0),(.int .i64 0)]) 64 rfl Try.underlying22 info57 rfl (by decide) (by omega) j' l' (⟨(rd_T57 l0_2 x14_1).f0,(rd_T57 l0_2 x14_1).f1,q',(rd_T57 l0_2 x14_1).f3,(rd_T57 l0_2 x14_1).f4,(rd_T57 l0_2 x14_1).f5⟩:S57) [.int .i64 ((rd_T57 l0_2 x14_1).f0),.int .i64 ((rd_T57 l0_2 x14_1).f1),.slice Ao22 q'.length co22,.int .i64 ((rd_T57 l0_2 x14_1).f3),.int .i64 ((rd_T57 l0_2 x14_1).f4),.int .i64 ((rd_T57 l0_2 x14_1).f5)] (fun k_=>k_≠b') (fun k_=>some k_=(.slice Ao22 q'.length co22:Value).ownBlock) rfl rfl ?aP (fun k_ hk_=>((Kd.R_mono (ok':=fun k_=>((fun k_=>k_≠b')) k_∧some k_≠(j':Value).ownBlock) (Kd.R_types (Kd.R_apart' (x'.out) (Kd.S_typed f'.out) (by decide)) a'.out (by decide)) (fun k_ hk=>⟨hk.2,hk.1.2⟩))).1 k_ hk_.symm) ?aF ?aO ?aB ?aS ?aL ?_;(case aP=>exact k57_mkM _ _ _ (⟨(rd_T57 l0_2 x14_1).f0,(rd_T57 l0_2 x14_1).f1,q',(rd_T57 l0_2 x14_1).f3,(rd_T57 l0_2 x14_1).f4,(rd_T57 l0_2 x14_1).f5⟩:S57) (Kd.R_mono (Kd.R_tight rfl (Kd.R_mono (ok':=fun k_=>((fun k_=>k_≠b')) k_∧some k_≠(j':Value).ownBlock) (Kd.R_types (Kd.R_apart' (x'.out) (Kd.S_typed f'.out) (by decide)) a'.out (by decide)) (fun k_ hk=>⟨hk.2,hk.1.2⟩))) (fun _ h_=>h_)));(case aB=>exact (by repeat (first | (with_reducible first | exact HB.out | apply Qd | apply Qe | apply Qf | refine Qg ?_ k'.out | refine Qg ?_ p'.out | refine Qg ?_ t'.out | refine Qg ?_ y'.out) | exact HB.out)));(case aF=>exact (fun k_ hk=>Kd.freshB (g:=b') (o:=.cells #[.int .i64 ((rd_T57 l0_2 x14_1).f0),.int .i64 ((rd_T57 l0_2 x14_1).f1),.slice Ao22 q'.length co22,.int .i64 ((rd_T57 l0_2 x14_1).f3),.int .i64 ((rd_T57 l0_2 x14_1).f4),.int .i64 ((rd_T57 l0_2 x14_1).f5)] 57 (0,0)) (by (with_reducible repeat (first | refine Qa ?_ _ | refine Qb ?_ | refine Qc ?_ _));exact a'.out) k_ hk));(case aO=>exact (by (with_reducible repeat (first | apply Kd.S_alloc | apply Kd.S_drewN | apply Kd.S_drew));exact Kd.S_mono f'.out (fun k_ hk=>⟨hk.2,fun e_=>hk.1 e_⟩)));(case aS=>exact (Qs (by repeat (first | (with_reducible first | exact HB.out | apply Qd | apply Qe | apply Qf | refine Qg ?_ k'.out | refine Qg ?_ p'.out | refine Qg ?_ t'.out | refine Qg ?_ y'.out) | exact HB.out))));(case aL=>have:=br'.out;omega);intro ee' w29 ho hb hg hat;rw [← bc'.out] at ho;have n0_:=Qh (blk_grown (g:=h') (o:=.cells #[.int .i64 a0_0,.int .i64 a0_1,.slice (some ab') l0_2.length c0_2] 24 (0,0)) (by (with_reducible repeat (first | refine Qa ?_ _ | refine Qb ?_ | refine Qc ?_ _));exact d'.out) hg (Kd.S_ne f'.out d'.out (by decide)));have n1_:=Qh (blk_grown (g:=i') (o:=.cells #[.int .i64 0,.int .i64 0,.slice none 0 0] 24 (0,0)) (by (with_reducible repeat (first | refine Qa ?_ _ | refine Qb ?_ | refine Qc ?_ _));exact e'.out) hg (Kd.S_ne f'.out e'.out (by decide)));have n2_:=Qh (blk_grown (g:=g') (o:=.cells #[.int .i64 a0_0,.int .i64 a0_1,j'] 24 (0,0)) (by (with_reducible repeat (first | refine Qa ?_ _ | refine Qb ?_ | refine Qc ?_ _));exact c'.out) hg (Kd.S_ne f'.out c'.out (by decide)));have n3_:=Qh (blk_grown (g:=b') (o:=.cells #[.int .i64 ((rd_T57 l0_2 x14_1).f0),.int .i64 ((rd_T57 l0_2 x14_1).f1),.slice Ao22 q'.length co22,.int .i64 ((rd_T57 l0_2 x14_1).f3),.int .i64 ((rd_T57 l0_2 x14_1).f4),.int .i64 ((rd_T57 l0_2 x14_1).f5)] 57 (0,0)) (by (with_reducible repeat (first | refine Qa ?_ _ | refine Qb ?_ | refine Qc ?_ _));exact a'.out) hg (Kd.S_away f'.out (fun _ hk=>hk.2)));have n4_:=Qh (hb);have n5_:=Qh (ho);clear d';clear e';clear c';clear a';clear HB;clear f';clear x';have d':=n0_;have e':=n1_;have c':=n2_;have a':=n3_;have HB:=n4_;have at':=n5_;clear n0_ n1_ n2_ n3_ n4_ n5_;clear ho hb hg hat;obtain ⟨Ao30,co30,eo30⟩:=Kd.S_slice at'.out;subst eo30;have de':w29.cell? ⟨g',0,none⟩=some (.int .i64 a0_0):=(Qi c'.out 0).trans rfl;have dd':w29.cell? ⟨g',1,none⟩=some (.int .i64 a0_1):=(Qi c'.out 1).trans rfl;have dc':w29.cell? ⟨g',2,none⟩=some (j'):=(Qi c'.out 2).trans rfl;have ca':=Qj c'.out 0;have bz':=Qj c'.out 1;have by':=Qj c'.out 2))
       go_roundg k1
       case measure=>have:=HK1.out;omega
       case rel=>exact ⟨(wrap64 (x14_1 + 1)),(al'),(.slice Ao30 al'.length co30),(by first | rfl | (simp;done) | (simp [*];done)),H',⟨by have:=HK1.out;omega⟩,⟨by (with_reducible repeat (first | apply Kd.S_alloc | apply Kd.S_drewN | apply Kd.S_drew));exact Kd.S_mono (Kd.S_far (p:=⟨g',2,none⟩) (Kd.S_types at'.out c'.out (by decide)) (fun _ hk=>hk.2) (.slice Ao30 al'.length co30)) (fun _ hk=>trivial)⟩,⟨by (with_reducible repeat (first | refine Qa ?_ _ | refine Qb ?_ | refine Qc ?_ _));refine blk_far ?_ s'.out _;(with_reducible repeat (first | refine Qa ?_ _ | refine Qb ?_ | refine Qc ?_ _));exact d'.out⟩,⟨by (with_reducible repeat (first | refine Qa ?_ _ | refine Qb ?_ | refine Qc ?_ _));refine blk_far ?_ r'.out _;(with_reducible repeat (first | refine Qa ?_ _ | refine Qb ?_ | refine Qc ?_ _));exact e'.out⟩,⟨by (with_reducible repeat (first | refine Qa ?_ _ | refine Qb ?_ | refine Qc ?_ _));refine blk_put (cs:=#[.int .i64 a0_0,.int .i64 a0_1,j']) ?_ 2 _ rfl;(with_reducible repeat (first | refine Qa ?_ _ | refine Qb ?_ | refine Qc ?_ _));exact c'.out⟩,⟨by repeat (first | (with_reducible first | exact HB.out | apply Qd | apply Qe | apply Qf | refine Qg ?_ k'.out | refine Qg ?_ p'.out | refine Qg ?_ t'.out | refine Qg ?_ y'.out) | exact HB.out)⟩⟩
      ·rw [if_neg c15] at H
       exact absurd H (by simp)
     ·rw [if_neg c13] at H
      exact absurd H (by simp)
    ·rw [if_neg c12] at H
     exact absurd H (by simp)
   ·rw [if_neg c11] at H
    have c11b0:decide (x14_1 < (l0_2.length:Int))=false:=decide_eq_false c11;clear c11;simp only [Option.some.injEq,Prod.mk.injEq] at H;obtain ⟨rfl,rfl,rfl⟩:=H;have eq':=aa'.out;have ei':=s'.out;have ep':=z'.out;have eh':=r'.out;have db':wr.cell? ⟨g',0,none⟩=some (.int .i64 a0_0):=(Qi c'.out 0).trans rfl;have da':wr.cell? ⟨g',1,none⟩=some (.int .i64 a0_1):=(Qi c'.out 1).trans rfl;have cz':wr.cell? ⟨g',2,none⟩=some (j'):=(Qi c'.out 2).trans rfl;have bx':=Qj c'.out 0;have bw':=Qj c'.out 1;have bv':=Qj c'.out 2;have eo':=ad'.out;have eg':=ae'.out;have cy':wr.cell? ⟨i',0,none⟩=some (.int .i64 0):=(Qi e'.out 0).trans rfl;have cx':wr.cell? ⟨i',1,none⟩=some (.int .i64 0):=(Qi e'.out 1).trans rfl;have cw':wr.cell? ⟨i',2,none⟩=some (.slice none 0 0):=(Qi e'.out 2).trans rfl;have bu':=Qj e'.out 0;have bt':=Qj e'.out 1;have bs':=Qj e'.out 2;obtain ⟨Ao37,co37,eo37⟩:=Kd.S_slice f'.out;subst eo37;go_wp2
    refine bodyPost_ret (results_cell_row rfl _ _ i' 24 #[.int .i64 a0_0,.int .i64 a0_1,.slice Ao37 l'.length co37] (0,0) _ rfl (by (with_reducible repeat (first | refine Qa ?_ _ | refine Qb ?_ | refine Qc ?_ _));refine blk_put (cs:=#[.int .i64 a0_0,.int .i64 a0_1,.slice none 0 0]) ?_ 2 _ rfl;(with_reducible repeat (first | refine Qa ?_ _ | refine Qb ?_ | refine Qc ?_ _));refine blk_put (cs:=#[.int .i64 a0_0,.int .i64 0,.slice none 0 0]) ?_ 1 _ rfl;(with_reducible repeat (first | refine Qa ?_ _ | refine Qb ?_ | refine Qc ?_ _));refine blk_put (cs:=#[.int .i64 0,.int .i64 0,.slice none 0 0]) ?_ 0 _ rfl;(with_reducible repeat (first | refine Qa ?_ _ | refine Qb ?_ | refine Qc ?_ _));exact e'.out) Try.underlying24 rfl (by kernel_rfl)) rfl ?_
    exact ⟨_,by first | rfl | (simp [errW_none,errW_some]<;>rfl) | (simp [*,errW_none,errW_some]<;>rfl),by (with_reducible repeat (first | apply Kd.S_alloc | apply Kd.S_drewN | apply Kd.S_drew));exact Kd.S_mono (Kd.S_far (p:=⟨i',2,none⟩) (Kd.S_far (p:=⟨i',1,none⟩) (Kd.S_far (p:=⟨i',0,none⟩) (Kd.S_types f'.out e'.out (by decide)) (fun _ hk=>hk.2) (.int .i64 a0_0)) (fun _ hk=>hk.2) (.int .i64 a0_1)) (fun _ hk=>hk.2) (.slice Ao37 l'.length co37)) (fun _ hk=>trivial),by repeat (first | (with_reducible first | exact HB.out | apply Qd | apply Qe | apply Qf | refine Qg ?_ k'.out | refine Qg ?_ p'.out | refine Qg ?_ t'.out) | exact HB.out)⟩
end Go.Proofs.Ytpnfhddcnnoclaa.Px
