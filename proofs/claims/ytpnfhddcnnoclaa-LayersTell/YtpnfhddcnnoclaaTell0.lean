import Derived.ArgAppend
import Derived.Below
import Derived.BigQuiet
import Derived.Deep.AppendLies
import Derived.Deep.CutBlock
import Derived.Deep.DeepCutAuto
import Derived.Deep.Draws
import Derived.Deep.LoopGhost
import Derived.Deep.OwnRows
import Derived.Deep.QuietTactic
import Derived.Deep.RegionHeld3
import Derived.Deep.WholeRow
import Derived.IntWalk
import Derived.KernelRfl
import Derived.Laws.BitsLemmas
import Derived.Laws.BytesArg
import Derived.Laws.EntriesVeiled
import Derived.Laws.IdiomCopy
import Derived.Laws.MakeOwn
import Derived.Laws.OwnMore
import Derived.Laws.Rows
import Derived.Laws.Slices
import Derived.Lib.AppendStr
import Derived.Lib.ConvBytes
import Derived.Lib.Hide
import Derived.Lib.SliceRun
import Derived.Maps.AppendAt
import Derived.OrdersHeld
import Derived.OwnWalk
import Derived.RowKit
import Derived.RowKit3
import Derived.Tactics
import Derived.Test.YtpnfhddcnnoclaaProg
import Derived.WalkKit
import Derived.WideLaws
import Derived.Test.YtpnfhddcnnoclaaWWords
import Derived.Test.YtpnfhddcnnoclaaWLast
import Derived.Test.YtpnfhddcnnoclaaWTab
import Derived.Test.YtpnfhddcnnoclaaWFour
import Derived.Test.YtpnfhddcnnoclaaWQPut
import Derived.Test.YtpnfhddcnnoclaaWApart
import Derived.Test.YtpnfhddcnnoclaaWArr
import Derived.Test.YtpnfhddcnnoclaaWZeros
import Derived.Test.YtpnfhddcnnoclaaWFoot
import Derived.Test.YtpnfhddcnnoclaaWKept
import Derived.Test.YtpnfhddcnnoclaaWShare
import Derived.Test.YtpnfhddcnnoclaaWN
import Derived.Test.YtpnfhddcnnoclaaWFootNe
import Derived.Test.YtpnfhddcnnoclaaWAt
import Derived.Test.YtpnfhddcnnoclaaWEqStruct
import Derived.Test.YtpnfhddcnnoclaaWRepsOne
import Derived.Test.YtpnfhddcnnoclaaWInv
import Derived.Test.YtpnfhddcnnoclaaWInvWords
import Derived.Test.YtpnfhddcnnoclaaWGuard
import Derived.Test.YtpnfhddcnnoclaaWNEv
import Derived.Test.YtpnfhddcnnoclaaWMore
import Derived.Test.YtpnfhddcnnoclaaWSized
namespace Go.Proofs.Ytpnfhddcnnoclaa.Px
open Go.RowKit Go.Proofs.YtpnfhddcnnoclaaW.PrintWords Go.Proofs.YtpnfhddcnnoclaaW.PrintLast Go.Proofs.YtpnfhddcnnoclaaW.PrintMore
attribute [local go_sem] max2_int min2_int max_two min_two max_three min_three max_four min_four
set_option linter.unusedVariables false
set_option linter.unusedSimpArgs false
def errW : Option Int → Value
 | none => .nilIface
 | some c => .iface 0 (.int .i64 c)
theorem errW_none : errW none = .nilIface := rfl
theorem errW_some (c : Int) : errW (some c) = .iface 0 (.int .i64 c) := rfl
theorem info3 : (Try.prog.info? 3).map (fun i => (i.zero, i.size, i.bytes)) = some (some (.int .i64 0), 1, 8) := by kernel_rfl
theorem info4 : (Try.prog.info? 4).map (fun i => (i.zero, i.size, i.bytes)) = some (some (.bool false), 1, 1) := by kernel_rfl
theorem info25 : (Try.prog.info? 25).map (fun i => (i.zero, i.size, i.bytes)) = some (some (.slice none 0 0), 1, 24) := by kernel_rfl
theorem info57 : (Try.prog.info? 57).map (fun i => (i.zero, i.size, i.bytes)) = some (some (.agg #[(.int .i64 0), (.int .i64 0), (.slice none 0 0), (.int .i64 0), (.int .i64 0), (.int .i64 0)]), 6, 64) := by kernel_rfl
def rd_L1 (xs : List (List Int)) (i : Int) : (List Int) := xs.getD i.toNat ([] : List Int)
theorem at_L1 {w : World} {A : Option Addr} {n : Nat} {xs : List (List Int)} (h : Kd.C (Kd.slice 3 (Kd.int .i64)) w A n xs) (i : Int) (h0 : 0 ≤ i) (h1 : i < n) : ∃ ad A0 c0, A = some ad ∧ w.cell? (ad.add i.toNat) = some (.slice A0 (rd_L1 xs i).length c0) ∧ (rd_L1 xs i).length ≤ c0 ∧ (Kd.int .i64).C w A0 (rd_L1 xs i).length (rd_L1 xs i) := by
 obtain ⟨ad, c, e, _, hK, hc0⟩ := Kd.C_get h ([] : List Int) i h0 h1
 have hc : ∀ j u, c[j]? = some u → w.cell? (ad.add (i.toNat * 1 + j)) = some u := hc0
 obtain ⟨A0, c0, rfl, l0, g0⟩ := hK
 exact ⟨ad, A0, c0, e, by have hq := hc 0 _ rfl; rwa [Nat.mul_one, Nat.add_zero] at hq, l0, g0⟩
structure S57 where
 f0 : Int
 f1 : Int
 f2 : (List Int)
 f3 : Int
 f4 : Int
 f5 : Int
def z57 : S57 := ⟨(0 : Int), (0 : Int), ([] : List Int), (0 : Int), (0 : Int), (0 : Int)⟩
def k57 : Kd S57 := Kd.iso (Kd.pair (Kd.int .i64) (Kd.pair (Kd.int .i64) (Kd.pair (Kd.slice 3 (Kd.int .i64)) (Kd.pair (Kd.int .i64) (Kd.pair (Kd.int .i64) (Kd.int .i64)))))) (fun x : S57 => (x.f0, x.f1, x.f2, x.f3, x.f4, x.f5))
theorem k57_open {w : World} {x : S57} {cs : List Value} (h : k57.K w x cs) : ∃ A2 c2, cs = [.int .i64 x.f0, .int .i64 x.f1, .slice A2 x.f2.length c2, .int .i64 x.f3, .int .i64 x.f4, .int .i64 x.f5] ∧ x.f2.length ≤ c2 ∧ (Kd.int .i64).C w A2 x.f2.length x.f2 := by
 obtain ⟨_, _, rfl, rfl, ⟨_, _, rfl, rfl, ⟨_, _, rfl, ⟨A2, c2, rfl, l2, g2⟩, ⟨_, _, rfl, rfl, ⟨_, _, rfl, rfl, rfl⟩⟩⟩⟩⟩ := h
 exact ⟨A2, c2, rfl, l2, g2⟩
theorem k57_mk (w : World) (x : S57) {A2 : Option Addr} {c2 : Nat} (l2 : x.f2.length ≤ c2) (g2 : (Kd.int .i64).C w A2 x.f2.length x.f2) : k57.K w x [.int .i64 x.f0, .int .i64 x.f1, .slice A2 x.f2.length c2, .int .i64 x.f3, .int .i64 x.f4, .int .i64 x.f5] := ⟨[.int .i64 x.f0], [.int .i64 x.f1, .slice A2 x.f2.length c2, .int .i64 x.f3, .int .i64 x.f4, .int .i64 x.f5], rfl, rfl, ⟨[.int .i64 x.f1], [.slice A2 x.f2.length c2, .int .i64 x.f3, .int .i64 x.f4, .int .i64 x.f5], rfl, rfl, ⟨[.slice A2 x.f2.length c2], [.int .i64 x.f3, .int .i64 x.f4, .int .i64 x.f5], rfl, ⟨A2, c2, rfl, l2, g2⟩, ⟨[.int .i64 x.f3], [.int .i64 x.f4, .int .i64 x.f5], rfl, rfl, ⟨[.int .i64 x.f4], [.int .i64 x.f5], rfl, rfl, rfl⟩⟩⟩⟩⟩
theorem k57_mkM (w : World) (base : Nat) (ok : Nat → Prop) (x : S57) {v2 : Value} (g2 : (Kd.int .i64).R 3 w base ok v2 x.f2) : k57.M w base ok x [.int .i64 x.f0, .int .i64 x.f1, v2, .int .i64 x.f3, .int .i64 x.f4, .int .i64 x.f5] := ⟨[.int .i64 x.f0], [.int .i64 x.f1, v2, .int .i64 x.f3, .int .i64 x.f4, .int .i64 x.f5], rfl, rfl, ⟨[.int .i64 x.f1], [v2, .int .i64 x.f3, .int .i64 x.f4, .int .i64 x.f5], rfl, rfl, ⟨[v2], [.int .i64 x.f3, .int .i64 x.f4, .int .i64 x.f5], rfl, ⟨v2, rfl, g2⟩, ⟨[.int .i64 x.f3], [.int .i64 x.f4, .int .i64 x.f5], rfl, rfl, ⟨[.int .i64 x.f4], [.int .i64 x.f5], rfl, rfl, rfl⟩⟩⟩⟩⟩
theorem k57_openF {W : World} {ok : Nat → Prop} {x : S57} {cs : List Value} (h : Kd.FK k57 W ok x cs) : ∃ A2 c2, cs = [.int .i64 x.f0, .int .i64 x.f1, .slice A2 x.f2.length c2, .int .i64 x.f3, .int .i64 x.f4, .int .i64 x.f5] ∧ x.f2.length ≤ c2 ∧ Kd.F (Kd.int .i64) W ok A2 x.f2.length x.f2 := by
 obtain ⟨A2, c2, rfl, l2, _⟩ := k57_open (Kd.FK_now h)
 exact ⟨A2, c2, rfl, l2, (fun W' hW => by obtain ⟨A2_, c2_, he, l2_, g2_⟩ := k57_open (h W' hW); injection (Option.some.inj (show some (Value.slice A2 x.f2.length c2) = some (Value.slice A2_ x.f2.length c2_) from congrArg (fun l => l[2]?) he)) with ha_ _ _; rw [ha_]; exact g2_)⟩
theorem k57_mkF (W : World) (ok : Nat → Prop) (x : S57) {A2 : Option Addr} {c2 : Nat} (l2 : x.f2.length ≤ c2) (g2 : Kd.F (Kd.int .i64) W ok A2 x.f2.length x.f2) : Kd.FK k57 W ok x [.int .i64 x.f0, .int .i64 x.f1, .slice A2 x.f2.length c2, .int .i64 x.f3, .int .i64 x.f4, .int .i64 x.f5] := fun W2 hW => k57_mk W2 x l2 (g2 W2 hW)
def rd_T57 (xs : List S57) (i : Int) : S57 := xs.getD i.toNat z57
theorem at_T57 {w : World} {A : Option Addr} {n : Nat} {xs : List S57} (h : Kd.C k57 w A n xs) (i : Int) (h0 : 0 ≤ i) (h1 : i < n) : ∃ ad A2 c2, A = some ad ∧ w.cell? (ad.add (i.toNat * 6)) = some (.int .i64 (rd_T57 xs i).f0) ∧ w.cell? ⟨(ad.add (i.toNat * 6)).block, (ad.add (i.toNat * 6)).off + 1, none⟩ = some (.int .i64 (rd_T57 xs i).f1) ∧ w.cell? ⟨(ad.add (i.toNat * 6)).block, (ad.add (i.toNat * 6)).off + 2, none⟩ = some (.slice A2 (rd_T57 xs i).f2.length c2) ∧ w.cell? ⟨(ad.add (i.toNat * 6)).block, (ad.add (i.toNat * 6)).off + 3, none⟩ = some (.int .i64 (rd_T57 xs i).f3) ∧ w.cell? ⟨(ad.add (i.toNat * 6)).block, (ad.add (i.toNat * 6)).off + 4, none⟩ = some (.int .i64 (rd_T57 xs i).f4) ∧ w.cell? ⟨(ad.add (i.toNat * 6)).block, (ad.add (i.toNat * 6)).off + 5, none⟩ = some (.int .i64 (rd_T57 xs i).f5) ∧ (rd_T57 xs i).f2.length ≤ c2 ∧ (Kd.int .i64).C w A2 (rd_T57 xs i).f2.length (rd_T57 xs i).f2 := by
 obtain ⟨ad, c, e, _, hK, hc0⟩ := Kd.C_get h z57 i h0 h1
 have hc : ∀ j u, c[j]? = some u → w.cell? (ad.add (i.toNat * 6 + j)) = some u := hc0
 obtain ⟨A2, c2, rfl, l2, g2⟩ := k57_open hK
 exact ⟨ad, A2, c2, e, hc 0 _ rfl, by rw [← add_field _ _ 1 (by omega)]; exact hc 1 _ rfl, by rw [← add_field _ _ 2 (by omega)]; exact hc 2 _ rfl, by rw [← add_field _ _ 3 (by omega)]; exact hc 3 _ rfl, by rw [← add_field _ _ 4 (by omega)]; exact hc 4 _ rfl, by rw [← add_field _ _ 5 (by omega)]; exact hc 5 _ rfl, l2, g2⟩
def slices_Index_int_int.l0 : Nat → List Int → Int → Int → Int → Option (Int)
 | 0, _, _, _, _ => none
 | k + 1, x0, x1, x7, x8 => if x8 < x7 then (if 0 ≤ x8 then (if x8 < (x0.length : Int) then (if x1 = (rd x0 x8) then (some x8) else (slices_Index_int_int.l0 k x0 x1 x7 (wrap64 (x8 + 1)))) else (none)) else (none)) else (some (-1))
def slices_Index_int_int.f (k : Nat) (l0 : List Int) (a1 : Int) : Option (Int) := slices_Index_int_int.l0 k l0 a1 (l0.length : Int) 0
set_option maxHeartbeats 8000000 in
set_option maxRecDepth 100000 in
theorem slices_Index_int_int.calls (k : Nat) (A0 : Option Addr) (c0 : Nat) (l0 : List Int) (a1 : Int) (r : Int) (w : World) (hr0 : Kd.C (Kd.int .i64) w A0 l0.length l0) (hc0 : l0.length ≤ c0) (h : slices_Index_int_int.f k l0 a1 = some r) :
  Calls Try.prog 66 #[.slice A0 l0.length c0, .int .i64 a1] w fun e w' => e = .returned (.int .i64 r) ∧ Drawn0 w w' := by
 have HR0 := Aside0.mk hr0
 have HC0 := Aside0.mk hc0
 clear hr0 hc0
 have H : (slices_Index_int_int.l0 k l0 a1 (l0.length : Int) 0) = some r := h
 clear h
 have H' := Aside0.mk H
 clear H
 go_enter Try.func66, Try.ntmps66
 go_wp2
 go_loopg [8] k (fun kq v8 w' => ∃ (x8_1 : Int), v8 = .int .i64 x8_1 ∧ Aside0 (slices_Index_int_int.l0 kq l0 a1 (l0.length : Int) x8_1 = some r) ∧ Aside0 (kq ≤ k) ∧ Drawn0 w w')
 case atStart => exact ⟨(0), (by first | rfl | (simp; done) | (simp [*]; done)), H', ⟨Nat.le_refl _⟩, by repeat (first | exact Drawn0.refl _ | apply Drawn0.step)⟩
 case round =>
  clear H'
  try clear p2
  obtain ⟨x8_1, rfl, HA, HK1, ⟨m1, rfl⟩⟩ := hrel
  cases gk with
  | zero => exact absurd HA.out (by simp [slices_Index_int_int.l0])
  | succ k1 =>
   have H := HA.out
   clear HA
   simp only [slices_Index_int_int.l0] at H
   by_cases c3 : x8_1 < (l0.length : Int)
   ·rw [if_pos c3] at H
    have c3b0 : decide (x8_1 < (l0.length : Int)) = true := decide_eq_true c3
    clear c3
    by_cases c4 : 0 ≤ x8_1
    ·rw [if_pos c4] at H
     have c4b0 : decide (0 ≤ x8_1) = true := decide_eq_true c4
     clear c4
     by_cases c5 : x8_1 < (l0.length : Int)
     ·rw [if_pos c5] at H
      have c5b0 : decide (x8_1 < (l0.length : Int)) = true := decide_eq_true c5
      clear c5
      by_cases c6 : a1 = (rd l0 x8_1)
      ·rw [if_pos c6] at H
       have c6b0 : (a1 == (rd l0 x8_1)) = true := beq_iff_eq.mpr c6
       have c6b1 : (a1 != (rd l0 x8_1)) = false := bne_eq_false_iff_eq.mpr c6
       clear c6
       obtain rfl := Option.some.inj H
       have p33101 : 0 ≤ (x8_1 : Int) := of_decide_eq_true (by first | (with_reducible assumption) | assumption)
       have q33101 : x8_1 < (l0.length : Int) := of_decide_eq_true (by first | (with_reducible assumption) | assumption)
       obtain ⟨ad33101, e33101, hx33101_0⟩ := Kd.at_int HR0.out x8_1 p33101 q33101
       cases e33101
       replace p33101 := eq_true p33101
       replace q33101 := eq_true q33101
       go_wp2
       go_ret
       exact ⟨by first | rfl | (simp; done) | (simp [*]; done), by repeat (first | exact Drawn0.refl _ | apply Drawn0.step)⟩
      ·rw [if_neg c6] at H
       have c6b0 : (a1 == (rd l0 x8_1)) = false := beq_eq_false_iff_ne.mpr c6
       have c6b1 : (a1 != (rd l0 x8_1)) = true := bne_iff_ne.mpr c6
       have H' := Aside0.mk H
       clear H
       have p33101 : 0 ≤ (x8_1 : Int) := of_decide_eq_true (by first | (with_reducible assumption) | assumption)
       have q33101 : x8_1 < (l0.length : Int) := of_decide_eq_true (by first | (with_reducible assumption) | assumption)
       obtain ⟨ad33101, e33101, hx33101_0⟩ := Kd.at_int HR0.out x8_1 p33101 q33101
       cases e33101
       replace p33101 := eq_true p33101
       replace q33101 := eq_true q33101
       go_wp2
       go_roundg k1
       case measure => have := HK1.out; omega
       case rel => exact ⟨(wrap64 (x8_1 + 1)), (by first | rfl | (simp; done) | (simp [*]; done)), H', ⟨by have := HK1.out; omega⟩, by repeat (first | exact Drawn0.refl _ | apply Drawn0.step)⟩
     ·rw [if_neg c5] at H
      exact absurd H (by simp)
    ·rw [if_neg c4] at H
     exact absurd H (by simp)
   ·rw [if_neg c3] at H
    have c3b0 : decide (x8_1 < (l0.length : Int)) = false := decide_eq_false c3
    clear c3
    obtain rfl := Option.some.inj H
    go_wp2
    go_ret
    exact ⟨by first | rfl | (simp; done) | (simp [*]; done), by repeat (first | exact Drawn0.refl _ | apply Drawn0.step)⟩
def slices_Contains_int_int.f (k : Nat) (l0 : List Int) (a1 : Int) : Option (Bool) := (slices_Index_int_int.f k l0 a1).bind fun t30601 => (some (decide (t30601 ≥ 0)))
set_option maxHeartbeats 8000000 in
set_option maxRecDepth 100000 in
theorem slices_Contains_int_int.calls (k : Nat) (A0 : Option Addr) (c0 : Nat) (l0 : List Int) (a1 : Int) (r : Bool) (w : World) (hr0 : Kd.C (Kd.int .i64) w A0 l0.length l0) (hc0 : l0.length ≤ c0) (h : slices_Contains_int_int.f k l0 a1 = some r) :
  Calls Try.prog 61 #[.slice A0 l0.length c0, .int .i64 a1] w fun e w' => e = .returned (.bool r) ∧ Drawn0 w w' := by
 have HR0 := Aside0.mk hr0
 have HC0 := Aside0.mk hc0
 clear hr0 hc0
 have H : ((slices_Index_int_int.f k l0 a1).bind fun t30601 => (some (decide (t30601 ≥ 0)))) = some r := h
 clear h
 replace H := Option.bind_eq_some_iff.mp H
 obtain ⟨t30601, A30, H⟩ := H
 replace H : (some (decide (t30601 ≥ 0))) = some r := H
 have A3 := Aside0.mk A30
 clear A30
 obtain rfl := Option.some.inj H
 go_enter Try.func61, Try.ntmps61
 go_wp2_with (first | ((with_reducible refine gate_callee (f := 66) rfl ?_); refine goesL_ (some 7) rfl rfl Try.func66 (by kernel_rfl) rfl #[.slice A0 l0.length c0, .int .i64 a1] rfl (by (try simp only [List.map_toArray, List.map_cons, List.map_nil]); first | done | rfl | (simp only [List.length_drop, List.length_take]; rfl)) ?_; (with_reducible refine (slices_Index_int_int.calls k _ _ l0 a1 t30601 _ ?side1 ?side2 A3.out).mono ?_); (case side1 => repeat (first | exact HR0.out | (with_reducible refine Kd.C_alloc ?_ _) | (with_reducible refine Kd.C_drewN ?_ _) | (with_reducible refine Kd.C_drew ?_))); (case side2 => exact HC0.out); rintro e w' ⟨rfl, ⟨nd, rfl⟩⟩; refine ⟨_, rfl, ?_⟩))
 go_ret
 exact ⟨by first | rfl | (simp; done) | (simp [*]; done), by repeat (first | exact Drawn0.refl _ | apply Drawn0.step)⟩
section
variable {P : Program} {ops : Array Oper} {rest : List Oper} {o : Oper} {a : Act} {Q : Exit → Act → World → Prop}
theorem h_value {W : World} {v : Value} (hgd : o.guard = none) (hrun : (execOp a.eval o).run P W = .ok (.value v) W) (h : wpList P ops Q rest (a.put o.dst v) W) : wpList P ops Q (o :: rest) a W := Kd.event_run hgd hrun h
end
theorem bcell {W w1 : World} (hb : Below W.heap.size W w1) : (∀ b o, b < W.heap.size → w1.cell? ⟨b, o, none⟩ = W.cell? ⟨b, o, none⟩) ∧ (∀ b o, b < W.heap.size → w1.frozen? ⟨b, o, none⟩ = W.frozen? ⟨b, o, none⟩) :=
 ⟨fun b o h => hb.cell (p := ⟨b, o, none⟩) h, fun b o h => hb.frozen (p := ⟨b, o, none⟩) h⟩
section
variable {P : Program} {ops : Array Oper} {rest : List Oper} {a : Act} {Q : Exit → Act → World → Prop}
end
theorem h_row {w : World} {g : Nat} {t base n : Nat} {k : IntKind} {xs : List Int} {ok : Nat → Prop} (h : w.heap[g]? = some (.cells (nums k xs).toArray t (0, 0))) (hb : base ≤ g) (hn : xs.length = n) (hm : n ≤ 9223372036854775807) (hok : ok g) :
  Kd.R (Kd.int k) t w base ok (.slice (some ⟨g, 0, none⟩) n n) xs := by
 subst hn
 refine Kd.R_of_own (h1 := fun _ => rfl) ⟨by simp [encs], .inr ⟨g, xs.length, _, rfl, hb, h, Nat.le_refl _, hm, by simp [nums], by simp only [nums, encs, Nat.mul_one]; exact List.take_of_length_le (by simp)⟩⟩ ?_
 intro q hq
 obtain rfl : q = g := by simpa [Value.ownBlock] using hq.symm
 exact hok
theorem h_lt {w : World} {g t base n c : Nat} {k : IntKind} {xs : List Int} {ok : Nat → Prop} (h : Kd.R (Kd.int k) t w base ok (.slice (some ⟨g, 0, none⟩) n c) xs) : g < w.heap.size :=
 own_lt (Kd.own_of_R (h1 := fun _ => rfl) h) g rfl
theorem h_len {w : World} {t base n c : Nat} {A : Option Addr} {k : IntKind} {xs : List Int} {ok : Nat → Prop} (h : Kd.R (Kd.int k) t w base ok (.slice A n c) xs) : xs.length = n := by
 obtain ⟨_, _, e⟩ := Kd.R_slice h
 injection e with _ e _
 exact e.symm
def gate_rows : List (List UInt8 × Int × Int × Int) :=
  [([], 0, 0, 0), ([105, 100], 1, 0, 1), ([120], 1, 0, 2), ([121], 1, 0, 3), ([122], 1, 0, 4), ([115], 1, 0, 6), ([115, 100, 103], 1, 0, 5), ([115, 120], 1, 0, 8), ([115, 120, 100, 103], 1, 0, 7), ([115, 121], 1, 0, 10), ([115, 121, 100, 103], 1, 0, 9),
   ([99, 120], 2, 1, 11), ([99, 121], 2, 1, 12), ([99, 122], 2, 0, 13), ([115, 119, 97, 112], 2, 0, 14), ([105, 115, 119, 97, 112], 2, 0, 16), ([105, 115, 119, 97, 112, 100, 103], 2, 0, 15), ([104, 104], 2, 0, 17), ([99, 99, 120], 3, 2, 18), ([99, 99, 122], 3, 0, 19), ([99, 115, 119, 97, 112], 3, 1, 20)]
def gate_row (r : List UInt8 × Int × Int × Int) : List Value := [.string ⟨r.1.toArray⟩, .int .i64 r.2.1, .int .i64 r.2.2.1, .int .i64 r.2.2.2]
def gate_tbl : Array Value := (gate_rows.flatMap gate_row).toArray
set_option maxHeartbeats 4000000 in
set_option maxRecDepth 100000 in
theorem gate_table_calls (w : World) : Calls Try.prog 71 #[] w fun e w' => e = .returned (.agg gate_tbl) ∧ Below w.heap.size w w' := by
 have hu94 := Try.underlying94
 have hst := fun W : World => run_storeCells_new (P := Try.prog) W 96 Try.zeroCells96 gate_tbl (by kernel_rfl) (by kernel_rfl) (by kernel_rfl)
 go_enter Try.func71, Try.ntmps71
 go_wp2_with (first | ((with_reducible refine gate_dst (N := 1) rfl ?_); refine h_value (v := .agg (gate_row (gate_rows.getD 1 default)).toArray) ?hg ?hr ?_; (case hg => rfl); (case hr => kernel_rfl)) | ((with_reducible refine gate_dst (N := 2) rfl ?_); refine h_value (v := .agg (gate_row (gate_rows.getD 2 default)).toArray) ?hg ?hr ?_; (case hg => rfl); (case hr => kernel_rfl)) | ((with_reducible refine gate_dst (N := 3) rfl ?_); refine h_value (v := .agg (gate_row (gate_rows.getD 3 default)).toArray) ?hg ?hr ?_; (case hg => rfl); (case hr => kernel_rfl)) | ((with_reducible refine gate_dst (N := 4) rfl ?_); refine h_value (v := .agg (gate_row (gate_rows.getD 4 default)).toArray) ?hg ?hr ?_; (case hg => rfl); (case hr => kernel_rfl)) | ((with_reducible refine gate_dst (N := 5) rfl ?_); refine h_value (v := .agg (gate_row (gate_rows.getD 5 default)).toArray) ?hg ?hr ?_; (case hg => rfl); (case hr => kernel_rfl)) | ((with_reducible refine gate_dst (N := 6) rfl ?_); refine h_value (v := .agg (gate_row (gate_rows.getD 6 default)).toArray) ?hg ?hr ?_; (case hg => rfl); (case hr => kernel_rfl)) | ((with_reducible refine gate_dst (N := 7) rfl ?_); refine h_value (v := .agg (gate_row (gate_rows.getD 7 default)).toArray) ?hg ?hr ?_; (case hg => rfl); (case hr => kernel_rfl)) | ((with_reducible refine gate_dst (N := 8) rfl ?_); refine h_value (v := .agg (gate_row (gate_rows.getD 8 default)).toArray) ?hg ?hr ?_; (case hg => rfl); (case hr => kernel_rfl)) | ((with_reducible refine gate_dst (N := 9) rfl ?_); refine h_value (v := .agg (gate_row (gate_rows.getD 9 default)).toArray) ?hg ?hr ?_; (case hg => rfl); (case hr => kernel_rfl)) | ((with_reducible refine gate_dst (N := 10) rfl ?_); refine h_value (v := .agg (gate_row (gate_rows.getD 10 default)).toArray) ?hg ?hr ?_; (case hg => rfl); (case hr => kernel_rfl)) | ((with_reducible refine gate_dst (N := 11) rfl ?_); refine h_value (v := .agg (gate_row (gate_rows.getD 11 default)).toArray) ?hg ?hr ?_; (case hg => rfl); (case hr => kernel_rfl)) | ((with_reducible refine gate_dst (N := 12) rfl ?_); refine h_value (v := .agg (gate_row (gate_rows.getD 12 default)).toArray) ?hg ?hr ?_; (case hg => rfl); (case hr => kernel_rfl)) | ((with_reducible refine gate_dst (N := 13) rfl ?_); refine h_value (v := .agg (gate_row (gate_rows.getD 13 default)).toArray) ?hg ?hr ?_; (case hg => rfl); (case hr => kernel_rfl)) | ((with_reducible refine gate_dst (N := 14) rfl ?_); refine h_value (v := .agg (gate_row (gate_rows.getD 14 default)).toArray) ?hg ?hr ?_; (case hg => rfl); (case hr => kernel_rfl)) | ((with_reducible refine gate_dst (N := 15) rfl ?_); refine h_value (v := .agg (gate_row (gate_rows.getD 15 default)).toArray) ?hg ?hr ?_; (case hg => rfl); (case hr => kernel_rfl)) | ((with_reducible refine gate_dst (N := 16) rfl ?_); refine h_value (v := .agg (gate_row (gate_rows.getD 16 default)).toArray) ?hg ?hr ?_; (case hg => rfl); (case hr => kernel_rfl)) | ((with_reducible refine gate_dst (N := 17) rfl ?_); refine h_value (v := .agg (gate_row (gate_rows.getD 17 default)).toArray) ?hg ?hr ?_; (case hg => rfl); (case hr => kernel_rfl)) | ((with_reducible refine gate_dst (N := 18) rfl ?_); refine h_value (v := .agg (gate_row (gate_rows.getD 18 default)).toArray) ?hg ?hr ?_; (case hg => rfl); (case hr => kernel_rfl)) | ((with_reducible refine gate_dst (N := 19) rfl ?_); refine h_value (v := .agg (gate_row (gate_rows.getD 19 default)).toArray) ?hg ?hr ?_; (case hg => rfl); (case hr => kernel_rfl)) | ((with_reducible refine gate_dst (N := 20) rfl ?_); refine h_value (v := .agg (gate_row (gate_rows.getD 20 default)).toArray) ?hg ?hr ?_; (case hg => rfl); (case hr => kernel_rfl)) | ((with_reducible refine gate_dst (N := 21) rfl ?_); refine h_value (v := .agg gate_tbl) ?hg ?hr ?_; (case hg => rfl); (case hr => kernel_rfl)))
 refine bodyPost_ret (results_cell_row rfl _ _ w.heap.size 96 gate_tbl (0, 0) _ rfl (blk_new w _) Try.underlying96 rfl (by kernel_rfl)) rfl ?_
 exact ⟨rfl, (Below.refl _ _).alloc (Nat.le_refl _) _⟩
def gate_Arity.f (a0 : Int) : Option Int := some (if a0 < 1 ∨ 20 < a0 then 0 else if a0 ≤ 10 then 1 else if a0 ≤ 17 then 2 else 3)
theorem gate_index (k : Int) (h0 : 1 ≤ k) (h1 : k ≤ 20) (W : World) : (Instr.index 96 (.agg gate_tbl) (.int .i64 k)).run Try.prog W = .ok (.agg (gate_row (gate_rows.getD k.toNat default)).toArray) W := by
 obtain rfl | rfl | rfl | rfl | rfl | rfl | rfl | rfl | rfl | rfl | rfl | rfl | rfl | rfl | rfl | rfl | rfl | rfl | rfl | rfl : k = 1 ∨ k = 2 ∨ k = 3 ∨ k = 4 ∨ k = 5 ∨ k = 6 ∨ k = 7 ∨ k = 8 ∨ k = 9 ∨ k = 10 ∨ k = 11 ∨ k = 12 ∨ k = 13 ∨ k = 14 ∨ k = 15 ∨ k = 16 ∨ k = 17 ∨ k = 18 ∨ k = 19 ∨ k = 20 := by omega
 all_goals kernel_rfl
set_option maxHeartbeats 1000000 in
set_option maxRecDepth 100000 in
theorem gate_of_calls (k : Int) (w : World) : Calls Try.prog 70 #[.int .i64 k] w fun e w' => e = .returned (.agg (gate_row (if 1 ≤ k ∧ k ≤ 20 then gate_rows.getD k.toNat default else ([], 0, 0, 0))).toArray) ∧ Below w.heap.size w w' := by
 have hu94 := Try.underlying94
 by_cases h : 1 ≤ k ∧ k ≤ 20
 ·rw [if_pos h]
  obtain ⟨h0, h1⟩ := h
  have hi := gate_index k h0 h1
  show Calls _ _ _ _ fun e w' => e = .returned (.agg #[.string ⟨(gate_rows.getD k.toNat default).1.toArray⟩, .int .i64 (gate_rows.getD k.toNat default).2.1, .int .i64 (gate_rows.getD k.toNat default).2.2.1, .int .i64 (gate_rows.getD k.toNat default).2.2.2]) ∧ _
  replace hi : ∀ W, (Instr.index 96 (.agg gate_tbl) (.int .i64 k)).run Try.prog W = .ok (.agg #[.string ⟨(gate_rows.getD k.toNat default).1.toArray⟩, .int .i64 (gate_rows.getD k.toNat default).2.1, .int .i64 (gate_rows.getD k.toNat default).2.2.1, .int .i64 (gate_rows.getD k.toNat default).2.2.2]) W := hi
  generalize (⟨(gate_rows.getD k.toNat default).1.toArray⟩ : ByteArray) = s at *
  generalize (gate_rows.getD k.toNat default).2.1 = x at *
  generalize (gate_rows.getD k.toNat default).2.2.1 = y at *
  generalize (gate_rows.getD k.toNat default).2.2.2 = z at *
  have t1 : decide (k < 1) = false := decide_eq_false (by omega)
  have t2 : decide (20 < k) = false := decide_eq_false (by omega)
  go_enter Try.func70, Try.ntmps70
  go_wp2_with (first | (go_at_call 71; refine (gate_table_calls _).mono ?_; rintro e w' ⟨rfl, hb⟩; obtain ⟨hc, hf⟩ := bcell hb; have hs := hb.size; have HB := Lib.hid hb; clear hb))
  have hb1 : Below w.heap.size w w' := below_then ((Below.refl _ _).alloc (Nat.le_refl _) _) (by simp) HB.out
  refine bodyPost_ret (results_cell_row rfl _ _ w.heap.size 94 #[.string s, .int .i64 x, .int .i64 y, .int .i64 z] (0, 0) _ rfl (blk_set (blk_set (blk_set (blk_set (blk_below (blk_new w _) HB.out) 0 _) 1 _) 2 _) 3 _) Try.underlying94 rfl (by kernel_rfl)) rfl ?_
  exact ⟨rfl, below_set (below_set (below_set (below_set hb1 (Nat.le_refl _)) (Nat.le_refl _)) (Nat.le_refl _)) (Nat.le_refl _)⟩
 ·rw [if_neg h]
  show Calls _ _ _ _ fun e w' => e = .returned (.agg #[.string ⟨#[]⟩, .int .i64 0, .int .i64 0, .int .i64 0]) ∧ _
  by_cases t1 : k < 1
  ·have c1 : decide (k < 1) = true := decide_eq_true t1
   go_enter Try.func70, Try.ntmps70
   go_wp2
   refine bodyPost_ret (results_cell_row rfl _ _ w.heap.size 94 #[.string ⟨#[]⟩, .int .i64 0, .int .i64 0, .int .i64 0] (0, 0) _ rfl (blk_new w _) Try.underlying94 rfl (by kernel_rfl)) rfl ?_
   exact ⟨rfl, (Below.refl _ _).alloc (Nat.le_refl _) _⟩
  ·have c1 : decide (k < 1) = false := decide_eq_false t1
   have c2 : decide (20 < k) = true := decide_eq_true (by omega)
   go_enter Try.func70, Try.ntmps70
   go_wp2
   refine bodyPost_ret (results_cell_row rfl _ _ w.heap.size 94 #[.string ⟨#[]⟩, .int .i64 0, .int .i64 0, .int .i64 0] (0, 0) _ rfl (blk_new w _) Try.underlying94 rfl (by kernel_rfl)) rfl ?_
   exact ⟨rfl, (Below.refl _ _).alloc (Nat.le_refl _) _⟩
set_option maxHeartbeats 1000000 in
set_option maxRecDepth 100000 in
theorem gate_Arity.calls (a0 : Int) (r : Int) (w : World) (h : gate_Arity.f a0 = some r) :
  Calls Try.prog 65 #[.int .i64 a0] w fun e w' => e = .returned (.int .i64 r) ∧ Below w.heap.size w w' := by
 have hr : (if 1 ≤ a0 ∧ a0 ≤ 20 then gate_rows.getD a0.toNat default else ([], 0, 0, 0)).2.1 = r := by
  have := Option.some.inj h
  subst this
  by_cases hk : 1 ≤ a0 ∧ a0 ≤ 20
  ·obtain ⟨h0, h1⟩ := hk
   obtain rfl | rfl | rfl | rfl | rfl | rfl | rfl | rfl | rfl | rfl | rfl | rfl | rfl | rfl | rfl | rfl | rfl | rfl | rfl | rfl : a0 = 1 ∨ a0 = 2 ∨ a0 = 3 ∨ a0 = 4 ∨ a0 = 5 ∨ a0 = 6 ∨ a0 = 7 ∨ a0 = 8 ∨ a0 = 9 ∨ a0 = 10 ∨ a0 = 11 ∨ a0 = 12 ∨ a0 = 13 ∨ a0 = 14 ∨ a0 = 15 ∨ a0 = 16 ∨ a0 = 17 ∨ a0 = 18 ∨ a0 = 19 ∨ a0 = 20 := by omega
   all_goals decide
  ·rw [if_neg hk, if_pos (by omega)]
 have hc := gate_of_calls a0
 generalize (if 1 ≤ a0 ∧ a0 ≤ 20 then gate_rows.getD a0.toNat default else ([], 0, 0, 0)) = q at *
 obtain ⟨s, x, y, z⟩ := q
 simp only at hr
 subst hr
 replace hc : ∀ w, Calls Try.prog 70 #[.int .i64 a0] w fun e w' => e = .returned (.agg #[.string ⟨s.toArray⟩, .int .i64 x, .int .i64 y, .int .i64 z]) ∧ Below w.heap.size w w' := hc
 have HC := Lib.hid hc
 clear hc h
 have hfl : ∀ w, (Instr.field 94 (.agg #[.string ⟨s.toArray⟩, .int .i64 x, .int .i64 y, .int .i64 z]) 1).run Try.prog w = .ok (.int .i64 x) w := fun w => by kernel_rfl
 go_enter Try.func65, Try.ntmps65
 go_wp2_with (go_at_call 70; refine (HC.out _).mono ?_; rintro e w' ⟨rfl, hb⟩; have HB := Lib.hid hb; clear hb)
 go_ret
 exact ⟨rfl, HB.out⟩
def gate_Check.l0 : Nat → List Int → Int → List Int → Int → Int → Option (Int)
 | 0, _, _, _, _, _ => none
 | k + 1, x1, x2, x17, x18, x19 => if x19 < x18 then (if 0 ≤ x19 then (if x19 < (x17.length : Int) then (if (rd x17 x19) < 0 then (some 61) else (if (rd x17 x19) ≥ x2 then (some 61) else (if x19 ≤ (x1.length : Int) then ((slices_Contains_int_int.f k (x1.take (x19 : Int).toNat) (rd x17 x19)).bind fun t30105 => (if t30105 = true then (some 61) else (gate_Check.l0 k x1 x2 x17 x18 (wrap64 (x19 + 1))))) else (none)))) else (none)) else (none)) else (some 0)
def gate_Check.f (k : Nat) (a0 : Int) (l1 : List Int) (a2 : Int) : Option (Int) := (gate_Arity.f a0).bind fun t30101 => (if t30101 = 0 then (some 60) else ((gate_Arity.f a0).bind fun t30102 => (if (l1.length : Int) = t30102 then (gate_Check.l0 k l1 a2 l1 (l1.length : Int) 0) else (some 61))))
set_option maxHeartbeats 8000000 in
set_option maxRecDepth 100000 in
theorem gate_Check.calls (k : Nat) (a0 : Int) (A1 : Option Addr) (c1 : Nat) (l1 : List Int) (a2 : Int) (r : Int) (w : World) (hr1 : Kd.C (Kd.int .i64) w A1 l1.length l1) (hc1 : l1.length ≤ c1) (h : gate_Check.f k a0 l1 a2 = some r) :
  Calls Try.prog 60 #[.int .i64 a0, .slice A1 l1.length c1, .int .i64 a2] w fun e w' => e = .returned (.int .i64 r) ∧ Below w.heap.size w w' := by
 have HR1 := Aside0.mk hr1
 have HC1 := Aside0.mk hc1
 clear hr1 hc1
 have HB := Aside0.mk (Below.refl w.heap.size w)
 have H : ((gate_Arity.f a0).bind fun t30101 => (if t30101 = 0 then (some 60) else ((gate_Arity.f a0).bind fun t30102 => (if (l1.length : Int) = t30102 then (gate_Check.l0 k l1 a2 l1 (l1.length : Int) 0) else (some 61))))) = some r := h
 clear h
 replace H := Option.bind_eq_some_iff.mp H
 obtain ⟨t30101, A40, H⟩ := H
 replace H : (if t30101 = 0 then (some 60) else ((gate_Arity.f a0).bind fun t30102 => (if (l1.length : Int) = t30102 then (gate_Check.l0 k l1 a2 l1 (l1.length : Int) 0) else (some 61)))) = some r := H
 have A4 := Aside0.mk A40
 clear A40
 by_cases c5 : t30101 = 0
 ·rw [if_pos c5] at H
  have c5b0 : (t30101 == 0) = true := beq_iff_eq.mpr c5
  have c5b1 : (t30101 != 0) = false := bne_eq_false_iff_eq.mpr c5
  clear c5
  obtain rfl := Option.some.inj H
  go_enter Try.func60, Try.ntmps60
  go_wp2_with (first | ((with_reducible refine gate_callee (f := 65) rfl ?_); refine goesL_ (some 10) rfl rfl Try.func65 (by kernel_rfl) rfl #[.int .i64 a0] rfl (by (try simp only [List.map_toArray, List.map_cons, List.map_nil]); first | done | rfl | (simp only [List.length_drop, List.length_take]; rfl)) ?_; (with_reducible refine (gate_Arity.calls a0 t30101 _ A4.out).mono ?_); rintro e w6 ⟨rfl, hb⟩; refine ⟨_, rfl, ?_⟩; have n0_ := Aside0.mk (below_step (by repeat (first | (with_reducible first | exact HB.out | apply below_alloc | apply pw_below_drewN | apply below_drew1) | exact HB.out)) hb); clear HB; have HB := n0_; clear n0_; (try clear hb); (try clear hb2); (try clear hk); (try clear hi)))
  go_ret
  exact ⟨by first | rfl | (simp [errW_none, errW_some] <;> rfl) | (simp [*, errW_none, errW_some] <;> rfl), by repeat (first | (with_reducible first | exact HB.out | apply below_alloc | apply pw_below_drewN | apply below_drew1) | exact HB.out)⟩
 ·rw [if_neg c5] at H
  have c5b0 : (t30101 == 0) = false := beq_eq_false_iff_ne.mpr c5
  have c5b1 : (t30101 != 0) = true := bne_iff_ne.mpr c5
  replace H := Option.bind_eq_some_iff.mp H
  obtain ⟨t30102, A70, H⟩ := H
  replace H : (if (l1.length : Int) = t30102 then (gate_Check.l0 k l1 a2 l1 (l1.length : Int) 0) else (some 61)) = some r := H
  have A7 := Aside0.mk A70
  clear A70
  by_cases c8 : (l1.length : Int) = t30102
  ·rw [if_pos c8] at H
   have c8b0 : ((l1.length : Int) == t30102) = true := beq_iff_eq.mpr c8
   have c8b1 : ((l1.length : Int) != t30102) = false := bne_eq_false_iff_eq.mpr c8
   clear c8
   have H' := Aside0.mk H
   clear H
   go_enter Try.func60, Try.ntmps60
   go_wp2_with (first | ((with_reducible refine gate_callee (f := 65) rfl ?_); refine goesL_ (some 10) rfl rfl Try.func65 (by kernel_rfl) rfl #[.int .i64 a0] rfl (by (try simp only [List.map_toArray, List.map_cons, List.map_nil]); first | done | rfl | (simp only [List.length_drop, List.length_take]; rfl)) ?_; (with_reducible refine (gate_Arity.calls a0 t30101 _ A4.out).mono ?_); rintro e w9 ⟨rfl, hb⟩; refine ⟨_, rfl, ?_⟩; have n0_ := Aside0.mk (below_step (by repeat (first | (with_reducible first | exact HB.out | apply below_alloc | apply pw_below_drewN | apply below_drew1) | exact HB.out)) hb); clear HB; have HB := n0_; clear n0_; (try clear hb); (try clear hb2); (try clear hk); (try clear hi)) | ((with_reducible refine gate_callee (f := 65) rfl ?_); refine goesL_ (some 15) rfl rfl Try.func65 (by kernel_rfl) rfl #[.int .i64 a0] rfl (by (try simp only [List.map_toArray, List.map_cons, List.map_nil]); first | done | rfl | (simp only [List.length_drop, List.length_take]; rfl)) ?_; (with_reducible refine (gate_Arity.calls a0 t30102 _ A7.out).mono ?_); rintro e w10 ⟨rfl, hb⟩; refine ⟨_, rfl, ?_⟩; have n0_ := Aside0.mk (below_step (by repeat (first | (with_reducible first | exact HB.out | apply below_alloc | apply pw_below_drewN | apply below_drew1) | exact HB.out)) hb); clear HB; have HB := n0_; clear n0_; (try clear hb); (try clear hb2); (try clear hk); (try clear hi)))
   go_loopg [19] k (fun kq v19 w' => ∃ (x19_1 : Int), v19 = .int .i64 x19_1 ∧ Aside0 (gate_Check.l0 kq l1 a2 l1 (l1.length : Int) x19_1 = some r) ∧ Aside0 (kq ≤ k) ∧ Aside0 (Below w.heap.size w w'))
   case atStart => exact ⟨(0), (by first | rfl | (simp; done) | (simp [*]; done)), H', ⟨Nat.le_refl _⟩, ⟨by repeat (first | (with_reducible first | exact HB.out | apply below_alloc | apply pw_below_drewN | apply below_drew1) | exact HB.out)⟩⟩
   case round =>
    clear H'
    try clear c1
    try clear p2
    try clear c5
    try clear c5b0
    try clear c5b1
    try clear c6
    try clear c8
    try clear c8b0
    try clear c8b1
    obtain ⟨x19_1, rfl, HA, HK1, HB⟩ := hrel
    cases gk with
    | zero => exact absurd HA.out (by simp [gate_Check.l0])
    | succ k1 =>
     have H := HA.out
     clear HA
     simp only [gate_Check.l0] at H
     by_cases c11 : x19_1 < (l1.length : Int)
     ·rw [if_pos c11] at H
      have c11b0 : decide (x19_1 < (l1.length : Int)) = true := decide_eq_true c11
      clear c11
      by_cases c12 : 0 ≤ x19_1
      ·rw [if_pos c12] at H
       have c12b0 : decide (0 ≤ x19_1) = true := decide_eq_true c12
       clear c12
       by_cases c13 : x19_1 < (l1.length : Int)
       ·rw [if_pos c13] at H
        have c13b0 : decide (x19_1 < (l1.length : Int)) = true := decide_eq_true c13
        clear c13
        by_cases c14 : (rd l1 x19_1) < 0
        ·rw [if_pos c14] at H
         have c14b0 : decide ((rd l1 x19_1) < 0) = true := decide_eq_true c14
         clear c14
         obtain rfl := Option.some.inj H
         have p30103 : 0 ≤ (x19_1 : Int) := of_decide_eq_true (by first | (with_reducible assumption) | assumption)
         have q30103 : x19_1 < (l1.length : Int) := of_decide_eq_true (by first | (with_reducible assumption) | assumption)
         obtain ⟨ad30103, e30103, hx30103_0⟩ := Kd.at_int HR1.out x19_1 p30103 q30103
         cases e30103
         replace hx30103_0 := (HB.out.cell (World.block_lt_of_cell? w _ hx30103_0)).trans hx30103_0
         replace p30103 := eq_true p30103
         replace q30103 := eq_true q30103
         go_wp2
         go_ret
         exact ⟨by first | rfl | (simp [errW_none, errW_some] <;> rfl) | (simp [*, errW_none, errW_some] <;> rfl), by repeat (first | (with_reducible first | exact HB.out | apply below_alloc | apply pw_below_drewN | apply below_drew1) | exact HB.out)⟩
        ·rw [if_neg c14] at H
         have c14b0 : decide ((rd l1 x19_1) < 0) = false := decide_eq_false c14
         clear c14
         by_cases c15 : (rd l1 x19_1) ≥ a2
         ·rw [if_pos c15] at H
          have c15b0 : decide (a2 ≤ (rd l1 x19_1)) = true := decide_eq_true c15
          clear c15
          obtain rfl := Option.some.inj H
          have p30103 : 0 ≤ (x19_1 : Int) := of_decide_eq_true (by first | (with_reducible assumption) | assumption)
          have q30103 : x19_1 < (l1.length : Int) := of_decide_eq_true (by first | (with_reducible assumption) | assumption)
          obtain ⟨ad30103, e30103, hx30103_0⟩ := Kd.at_int HR1.out x19_1 p30103 q30103
          cases e30103
          replace hx30103_0 := (HB.out.cell (World.block_lt_of_cell? w _ hx30103_0)).trans hx30103_0
          replace p30103 := eq_true p30103
          replace q30103 := eq_true q30103
          go_wp2
          go_ret
          exact ⟨by first | rfl | (simp [errW_none, errW_some] <;> rfl) | (simp [*, errW_none, errW_some] <;> rfl), by repeat (first | (with_reducible first | exact HB.out | apply below_alloc | apply pw_below_drewN | apply below_drew1) | exact HB.out)⟩
         ·rw [if_neg c15] at H
          have c15b0 : decide (a2 ≤ (rd l1 x19_1)) = false := decide_eq_false c15
          clear c15
          have c16b0 := eq_true (of_decide_eq_true (by first | (with_reducible assumption) | assumption) : 0 ≤ x19_1)
          by_cases c17 : x19_1 ≤ (l1.length : Int)
          ·rw [if_pos c17] at H
           have c17b0 := eq_true c17
           have c17b1 : decide (x19_1 ≤ (l1.length : Int)) = true := decide_eq_true c17
           clear c17
           replace H := Option.bind_eq_some_iff.mp H
           obtain ⟨t30105, A180, H⟩ := H
           replace H : (if t30105 = true then (some 61) else (gate_Check.l0 k1 l1 a2 l1 (l1.length : Int) (wrap64 (x19_1 + 1)))) = some r := H
           have A18 := Aside0.mk A180
           clear A180
           by_cases c19 : t30105 = true
           ·subst c19
            have H1 : (some 61) = some r := by rw [if_pos rfl] at H; exact H
            clear H
            have H := H1
            clear H1
            obtain rfl := Option.some.inj H
            have p30103 : 0 ≤ (x19_1 : Int) := of_decide_eq_true (by first | (with_reducible assumption) | assumption)
            have q30103 : x19_1 < (l1.length : Int) := of_decide_eq_true (by first | (with_reducible assumption) | assumption)
            obtain ⟨ad30103, e30103, hx30103_0⟩ := Kd.at_int HR1.out x19_1 p30103 q30103
            cases e30103
            replace hx30103_0 := (HB.out.cell (World.block_lt_of_cell? w _ hx30103_0)).trans hx30103_0
            replace p30103 := eq_true p30103
            replace q30103 := eq_true q30103
            obtain ⟨i020, hi020, _, hsz20, _⟩ := info_parts info3
            obtain ⟨hcut20, hA20, hC20⟩ := print_take_of (P := Try.prog) (Value.int .i64) 0 25 3 .i64 Try.underlying25 hi020 hsz20 (some ad30103) c1 l1 x19_1 (of_decide_eq_true (by first | (with_reducible assumption) | assumption)) (of_decide_eq_true (by first | (with_reducible assumption) | assumption)) HC1.out
            have HR30104 := Aside0.mk (Kd.C_of_reads (h1 := fun _ => rfl) (hA20 _ (Kd.reads_of_C HR1.out)))
            have HC30104 := Aside0.mk hC20
            clear hA20 hC20 hi020 hsz20
            go_wp2_with (first | (go_at_call 61; (refine calls_of_args (args' := #[.slice (some ad30103) (l1.take (x19_1 : Int).toNat).length c1, .int .i64 (rd l1 x19_1)]) ?cargs ?_); (case cargs => (have hz_ : x19_1 ≤ (l1.length : Int) := (by first | exact of_decide_eq_true (by assumption) | exact Int.le_of_lt (of_decide_eq_true (by assumption))); have hy_ : min (x19_1 : Int).toNat l1.length = (x19_1 : Int).toNat := (by omega); simp only [List.length_take, hy_])); (with_reducible refine (slices_Contains_int_int.calls k1 _ _ (l1.take (x19_1 : Int).toNat) (rd l1 x19_1) true _ ?side1 ?side2 A18.out).mono ?_); (case side1 => repeat (first | exact (Kd.C_below HR30104.out HB.out) | (with_reducible refine Kd.C_alloc ?_ _) | (with_reducible refine Kd.C_drewN ?_ _) | (with_reducible refine Kd.C_drew ?_))); (case side2 => exact HC30104.out); rintro e w' ⟨rfl, ⟨nd, rfl⟩⟩))
            go_ret
            exact ⟨by first | rfl | (simp [errW_none, errW_some] <;> rfl) | (simp [*, errW_none, errW_some] <;> rfl), by repeat (first | (with_reducible first | exact HB.out | apply below_alloc | apply pw_below_drewN | apply below_drew1) | exact HB.out)⟩
           ·replace c19 := Bool.eq_false_iff.mpr c19
            subst c19
            have H1 : (gate_Check.l0 k1 l1 a2 l1 (l1.length : Int) (wrap64 (x19_1 + 1))) = some r := by rw [if_neg (show ¬ (false = true) by decide)] at H; exact H
            clear H
            have H := H1
            clear H1
            have H' := Aside0.mk H
            clear H
            have p30103 : 0 ≤ (x19_1 : Int) := of_decide_eq_true (by first | (with_reducible assumption) | assumption)
            have q30103 : x19_1 < (l1.length : Int) := of_decide_eq_true (by first | (with_reducible assumption) | assumption)
            obtain ⟨ad30103, e30103, hx30103_0⟩ := Kd.at_int HR1.out x19_1 p30103 q30103
            cases e30103
            replace hx30103_0 := (HB.out.cell (World.block_lt_of_cell? w _ hx30103_0)).trans hx30103_0
            replace p30103 := eq_true p30103
            replace q30103 := eq_true q30103
            obtain ⟨i021, hi021, _, hsz21, _⟩ := info_parts info3
            obtain ⟨hcut21, hA21, hC21⟩ := print_take_of (P := Try.prog) (Value.int .i64) 0 25 3 .i64 Try.underlying25 hi021 hsz21 (some ad30103) c1 l1 x19_1 (of_decide_eq_true (by first | (with_reducible assumption) | assumption)) (of_decide_eq_true (by first | (with_reducible assumption) | assumption)) HC1.out
            have HR30104 := Aside0.mk (Kd.C_of_reads (h1 := fun _ => rfl) (hA21 _ (Kd.reads_of_C HR1.out)))
            have HC30104 := Aside0.mk hC21
            clear hA21 hC21 hi021 hsz21
            go_wp2_with (first | (go_at_call 61; (refine calls_of_args (args' := #[.slice (some ad30103) (l1.take (x19_1 : Int).toNat).length c1, .int .i64 (rd l1 x19_1)]) ?cargs ?_); (case cargs => (have hz_ : x19_1 ≤ (l1.length : Int) := (by first | exact of_decide_eq_true (by assumption) | exact Int.le_of_lt (of_decide_eq_true (by assumption))); have hy_ : min (x19_1 : Int).toNat l1.length = (x19_1 : Int).toNat := (by omega); simp only [List.length_take, hy_])); (with_reducible refine (slices_Contains_int_int.calls k1 _ _ (l1.take (x19_1 : Int).toNat) (rd l1 x19_1) false _ ?side1 ?side2 A18.out).mono ?_); (case side1 => repeat (first | exact (Kd.C_below HR30104.out HB.out) | (with_reducible refine Kd.C_alloc ?_ _) | (with_reducible refine Kd.C_drewN ?_ _) | (with_reducible refine Kd.C_drew ?_))); (case side2 => exact HC30104.out); rintro e w' ⟨rfl, ⟨nd, rfl⟩⟩))
            go_roundg k1
            case measure => have := HK1.out; omega
            case rel => exact ⟨(wrap64 (x19_1 + 1)), (by first | rfl | (simp; done) | (simp [*]; done)), H', ⟨by have := HK1.out; omega⟩, ⟨by repeat (first | (with_reducible first | exact HB.out | apply below_alloc | apply pw_below_drewN | apply below_drew1) | exact HB.out)⟩⟩
          ·rw [if_neg c17] at H
           exact absurd H (by simp)
       ·rw [if_neg c13] at H
        exact absurd H (by simp)
      ·rw [if_neg c12] at H
       exact absurd H (by simp)
     ·rw [if_neg c11] at H
      have c11b0 : decide (x19_1 < (l1.length : Int)) = false := decide_eq_false c11
      clear c11
      obtain rfl := Option.some.inj H
      go_wp2
      go_ret
      exact ⟨by first | rfl | (simp [errW_none, errW_some] <;> rfl) | (simp [*, errW_none, errW_some] <;> rfl), by repeat (first | (with_reducible first | exact HB.out | apply below_alloc | apply pw_below_drewN | apply below_drew1) | exact HB.out)⟩
  ·rw [if_neg c8] at H
   have c8b0 : ((l1.length : Int) == t30102) = false := beq_eq_false_iff_ne.mpr c8
   have c8b1 : ((l1.length : Int) != t30102) = true := bne_iff_ne.mpr c8
   obtain rfl := Option.some.inj H
   go_enter Try.func60, Try.ntmps60
   go_wp2_with (first | ((with_reducible refine gate_callee (f := 65) rfl ?_); refine goesL_ (some 10) rfl rfl Try.func65 (by kernel_rfl) rfl #[.int .i64 a0] rfl (by (try simp only [List.map_toArray, List.map_cons, List.map_nil]); first | done | rfl | (simp only [List.length_drop, List.length_take]; rfl)) ?_; (with_reducible refine (gate_Arity.calls a0 t30101 _ A4.out).mono ?_); rintro e w22 ⟨rfl, hb⟩; refine ⟨_, rfl, ?_⟩; have n0_ := Aside0.mk (below_step (by repeat (first | (with_reducible first | exact HB.out | apply below_alloc | apply pw_below_drewN | apply below_drew1) | exact HB.out)) hb); clear HB; have HB := n0_; clear n0_; (try clear hb); (try clear hb2); (try clear hk); (try clear hi)) | ((with_reducible refine gate_callee (f := 65) rfl ?_); refine goesL_ (some 15) rfl rfl Try.func65 (by kernel_rfl) rfl #[.int .i64 a0] rfl (by (try simp only [List.map_toArray, List.map_cons, List.map_nil]); first | done | rfl | (simp only [List.length_drop, List.length_take]; rfl)) ?_; (with_reducible refine (gate_Arity.calls a0 t30102 _ A7.out).mono ?_); rintro e w23 ⟨rfl, hb⟩; refine ⟨_, rfl, ?_⟩; have n0_ := Aside0.mk (below_step (by repeat (first | (with_reducible first | exact HB.out | apply below_alloc | apply pw_below_drewN | apply below_drew1) | exact HB.out)) hb); clear HB; have HB := n0_; clear n0_; (try clear hb); (try clear hb2); (try clear hk); (try clear hi)))
   go_ret
   exact ⟨by first | rfl | (simp [errW_none, errW_some] <;> rfl) | (simp [*, errW_none, errW_some] <;> rfl), by repeat (first | (with_reducible first | exact HB.out | apply below_alloc | apply pw_below_drewN | apply below_drew1) | exact HB.out)⟩
def may_loop (k : Nat) (n : Int) (xs : List Int) : Nat → Int → Option Bool
 | 0, _ => some true
 | r + 1, i => if rd xs i < 0 then some false else if rd xs i ≥ n then some false else (slices_Contains_int_int.f k (xs.take i.toNat) (rd xs i)).bind fun b => if b = true then some false else may_loop k n xs r (i + 1)
def may_tail (f0 : Int) (xs : List Int) (f3 m : Int) : Bool := if f0 = 2 then (decide ((xs.length : Int) = 1) && (decide (f3 ≥ 0) && decide (f3 < m))) else if f0 = 3 then (decide ((xs.length : Int) = 1) && decide (f3 = 0)) else if f0 = 4 then decide (f3 = 0) else false
def may_gate (g f3 f4 f5 m : Int) : Bool := decide (g = 0) && (decide (f3 = 0) && ((decide (f4 = -1) && decide (f5 = 0)) || (decide (f4 ≥ 0) && (decide (f4 < m) && (decide (f5 = 0) || decide (f5 = 1))))))
def circuit_may.f (k : Nat) (a0_0 : Int) (a0_1 : Int) (l0_2 : List Int) (a0_3 : Int) (a0_4 : Int) (a0_5 : Int) (a1 : Int) (a2 : Int) : Option Bool :=
 if a0_0 = 1 then (gate_Check.f k a0_1 l0_2 a1).bind fun g => some (may_gate g a0_3 a0_4 a0_5 a2)
 else if a0_1 ≠ 0 ∨ a0_4 ≠ -1 ∨ a0_5 ≠ 0 ∨ (l0_2.length : Int) = 0 then some false else (may_loop k a1 l0_2 l0_2.length 0).bind fun b => if b = true then some (may_tail a0_0 l0_2 a0_3 a2) else some false
section
variable {f0 f3 m : Int} {xs : List Int}
theorem mt1 (v1 : (f0 == 2) = true) (v2 : ((xs.length : Int) == 1) = false) : may_tail f0 xs f3 m = false := by unfold may_tail; grind
theorem mt2 (v1 : (f0 == 2) = true) (v2 : ((xs.length : Int) == 1) = true) (v3 : decide (f3 ≥ 0) = false) : may_tail f0 xs f3 m = false := by unfold may_tail; grind
theorem mt3 (v1 : (f0 == 2) = true) (v2 : ((xs.length : Int) == 1) = true) (v3 : decide (f3 ≥ 0) = true) : may_tail f0 xs f3 m = decide (f3 < m) := by unfold may_tail; grind
theorem mt4 (v1 : (f0 == 2) = false) (v2 : (f0 == 3) = true) (v3 : ((xs.length : Int) == 1) = false) : may_tail f0 xs f3 m = false := by unfold may_tail; grind
theorem mt5 (v1 : (f0 == 2) = false) (v2 : (f0 == 3) = true) (v3 : ((xs.length : Int) == 1) = true) : may_tail f0 xs f3 m = (f3 == 0) := by unfold may_tail; grind
theorem mt6 (v1 : (f0 == 2) = false) (v2 : (f0 == 3) = false) (v3 : (f0 == 4) = true) : may_tail f0 xs f3 m = (f3 == 0) := by unfold may_tail; grind
theorem mt7 (v1 : (f0 == 2) = false) (v2 : (f0 == 3) = false) (v3 : (f0 == 4) = false) : may_tail f0 xs f3 m = false := by unfold may_tail; grind
end
set_option maxHeartbeats 8000000 in
set_option maxRecDepth 100000 in
theorem circuit_may.calls (k : Nat) (a0_0 : Int) (a0_1 : Int) (A0_2 : Option Addr) (c0_2 : Nat) (l0_2 : List Int) (a0_3 : Int) (a0_4 : Int) (a0_5 : Int) (a1 : Int) (a2 : Int) (r : Bool) (w : World) (hr0_2 : Kd.C (Kd.int .i64) w A0_2 l0_2.length l0_2) (hc0_2 : l0_2.length ≤ c0_2) (h : circuit_may.f k a0_0 a0_1 l0_2 a0_3 a0_4 a0_5 a1 a2 = some r) :
    Calls Try.prog 55 #[.agg #[.int .i64 a0_0, .int .i64 a0_1, .slice A0_2 l0_2.length c0_2, .int .i64 a0_3, .int .i64 a0_4, .int .i64 a0_5], .int .i64 a1, .int .i64 a2] w fun e w' => e = .returned (.bool r) ∧ Below w.heap.size w w' := by
  have hu57 := Try.underlying57
  have HL := Aside0.mk hr0_2.2.1
  have HR := Aside0.mk hr0_2
  have HC := Aside0.mk hc0_2
  have HB := Aside0.mk (Below.refl w.heap.size w)
  clear hr0_2 hc0_2
  unfold circuit_may.f at h
  by_cases c0 : a0_0 = 1
  · rw [if_pos c0] at h
    obtain ⟨g, AG0, H⟩ := Option.bind_eq_some_iff.mp h
    have AG := Aside0.mk AG0
    clear h AG0
    obtain rfl := Option.some.inj H
    clear H
    have b0 : (a0_0 == 1) = true := beq_iff_eq.mpr c0
    have hcs : ((a0_4 == -1) = true ∧ (a0_5 == 0) = true ∧ decide (a0_4 ≥ 0) = false) ∨ ((a0_4 == -1) = true ∧ (a0_5 == 0) = false ∧ decide (a0_4 ≥ 0) = false) ∨ ((a0_4 == -1) = false ∧ decide (a0_4 ≥ 0) = false) ∨ ((a0_4 == -1) = false ∧ decide (a0_4 ≥ 0) = true ∧ decide (a0_4 < a2) = false) ∨ ((a0_4 == -1) = false ∧ decide (a0_4 ≥ 0) = true ∧ decide (a0_4 < a2) = true ∧ (a0_5 == 0) = true) ∨ ((a0_4 == -1) = false ∧ decide (a0_4 ≥ 0) = true ∧ decide (a0_4 < a2) = true ∧ (a0_5 == 0) = false ∧ (a0_5 == 1) = true) ∨ ((a0_4 == -1) = false ∧ decide (a0_4 ≥ 0) = true ∧ decide (a0_4 < a2) = true ∧ (a0_5 == 0) = false ∧ (a0_5 == 1) = false) := by
      simp only [beq_iff_eq, decide_eq_true_eq, decide_eq_false_iff_not, beq_eq_false_iff_ne]
      omega
    have hg : (g == 0) = false ∨ ((g == 0) = true ∧ (a0_3 == 0) = false) ∨ ((g == 0) = true ∧ (a0_3 == 0) = true) := by
      simp only [beq_iff_eq, beq_eq_false_iff_ne]
      omega
    clear c0
    rcases hcs with ⟨t1, t2, t3⟩ | ⟨t1, t2, t3⟩ | ⟨t1, t2⟩ | ⟨t1, t2, t3⟩ | ⟨t1, t2, t3, t4⟩ | ⟨t1, t2, t3, t4, t5⟩ | ⟨t1, t2, t3, t4, t5⟩ <;> rcases hg with g1 | ⟨g1, g2⟩ | ⟨g1, g2⟩ <;>
      (go_enter Try.func55, Try.ntmps55
       go_wp2_with (first | (go_at_call 60; refine (gate_Check.calls k a0_1 A0_2 c0_2 l0_2 a1 g _ (Kd.C_alloc HR.out _) HC.out AG.out).mono ?_; rintro e w9 ⟨rfl, hb⟩; have HB9 := Aside0.mk (below_step (below_alloc HB.out _) hb); have BK := Aside0.mk (blk_below (blk_new w (.cells #[.int .i64 a0_0, .int .i64 a0_1, .slice A0_2 l0_2.length c0_2, .int .i64 a0_3, .int .i64 a0_4, .int .i64 a0_5] 57)) hb); clear hb; have y3 := (blk_cell BK.out 3).trans (rfl : _ = some (Value.int .i64 a0_3))))
       go_ret
       refine ⟨?_, HB9.out⟩
       unfold may_gate
       simp only [beq_iff_eq, beq_eq_false_iff_ne, decide_eq_true_eq, decide_eq_false_iff_not] at *
       simp [*])
  · rw [if_neg c0] at h
    have b0 : (a0_0 == 1) = false := beq_eq_false_iff_ne.mpr c0
    by_cases c1 : a0_1 ≠ 0 ∨ a0_4 ≠ -1 ∨ a0_5 ≠ 0 ∨ (l0_2.length : Int) = 0
    · rw [if_pos c1] at h
      obtain rfl := Option.some.inj h
      have hcs : ((a0_1 != 0) = true) ∨ ((a0_1 != 0) = false ∧ (a0_4 != -1) = true) ∨ ((a0_1 != 0) = false ∧ (a0_4 != -1) = false ∧ (a0_5 != 0) = true) ∨ ((a0_1 != 0) = false ∧ (a0_4 != -1) = false ∧ (a0_5 != 0) = false ∧ ((l0_2.length : Int) == 0) = true) := by
        simp only [bne_iff_ne, bne_eq_false_iff_eq, beq_iff_eq]
        omega
      clear c0 c1 h
      rcases hcs with t1 | ⟨t1, t2⟩ | ⟨t1, t2, t3⟩ | ⟨t1, t2, t3, t4⟩ <;>
        (go_enter Try.func55, Try.ntmps55
         go_wp2
         go_ret
         exact ⟨rfl, below_alloc HB.out _⟩)
    · rw [if_neg c1] at h
      obtain ⟨b, AB0, H⟩ := Option.bind_eq_some_iff.mp h
      have t1 : (a0_1 != 0) = false := bne_eq_false_iff_eq.mpr (by omega)
      have t2 : (a0_4 != -1) = false := bne_eq_false_iff_eq.mpr (by omega)
      have t3 : (a0_5 != 0) = false := bne_eq_false_iff_eq.mpr (by omega)
      have t4 : ((l0_2.length : Int) == 0) = false := beq_eq_false_iff_ne.mpr (by omega)
      obtain ⟨ad, eA, _⟩ := Kd.at_int HR.out 0 (by omega) (by omega)
      subst eA
      have AB := Aside0.mk AB0
      have HH := Aside0.mk H
      clear c0 c1 h AB0 H
      go_enter Try.func55, Try.ntmps55
      go_wp2_with (first | ((with_reducible refine gate_dst (N := 3) rfl ?_); refine box_event ?hg (N := 3) ?hd (cs := #[.int .i64 a0_0, .int .i64 a0_1, .slice (some ad) l0_2.length c0_2, .int .i64 a0_3, .int .i64 a0_4, .int .i64 a0_5]) (t := 57) ?hr ?_; (case hd => rfl); (case hg => rfl); (case hr => first | (go_simp; done) | (go_simp; rfl)); intro gb hg w1 BK1 hb; have HB1 := Aside0.mk (below_step HB.out hb); replace BK1 := Aside0.mk BK1; clear HB; have HB := HB1; clear HB1 hb hg; have z0 := (blk_cell BK1.out 0).trans (rfl : _ = some (Value.int .i64 a0_0)); have z1 := (blk_cell BK1.out 1).trans (rfl : _ = some (Value.int .i64 a0_1)); have z2 := (blk_cell BK1.out 2).trans (rfl : _ = some (Value.slice (some ad) l0_2.length c0_2)); have z3 := (blk_cell BK1.out 3).trans (rfl : _ = some (Value.int .i64 a0_3)); have z4 := (blk_cell BK1.out 4).trans (rfl : _ = some (Value.int .i64 a0_4)); have z5 := (blk_cell BK1.out 5).trans (rfl : _ = some (Value.int .i64 a0_5))))
      clear z0 z1 z2 z3 z4 z5
      go_loopg [81] (l0_2.length) (fun kq v81 w' => ∃ (i : Nat), v81 = .int .i64 (i : Int) ∧ Aside0 (i + kq = l0_2.length) ∧ Aside0 (may_loop k a1 l0_2 kq (i : Int) = some b) ∧ Aside0 (w'.heap[gb]? = some (.cells #[.int .i64 a0_0, .int .i64 a0_1, .slice (some ad) l0_2.length c0_2, .int .i64 a0_3, .int .i64 a0_4, .int .i64 a0_5] 57 (0, 0))) ∧ Aside0 (Below w.heap.size w w'))
      case atStart => exact ⟨0, rfl, ⟨by omega⟩, AB, BK1, HB⟩
      case round =>
        clear BK1 HB AB
        obtain ⟨i, rfl, HX, AL, BK1, HB⟩ := hrel
        have z0 := (blk_cell BK1.out 0).trans (rfl : _ = some (Value.int .i64 a0_0))
        have z2 := (blk_cell BK1.out 2).trans (rfl : _ = some (Value.slice (some ad) l0_2.length c0_2))
        have z3 := (blk_cell BK1.out 3).trans (rfl : _ = some (Value.int .i64 a0_3))
        by_cases c1 : i < l0_2.length
        · obtain ⟨g, rfl⟩ : ∃ g, gk = g + 1 := ⟨gk - 1, by have := HX.out; omega⟩
          have u1 : decide ((i : Int) < (l0_2.length : Int)) = true := decide_eq_true (by omega)
          have u1' : decide (i < l0_2.length) = true := decide_eq_true c1
          have AL' := AL.out
          unfold may_loop at AL'
          obtain ⟨ad2, e2, y1⟩ := Kd.at_int (Kd.C_below HR.out HB.out) (i : Int) (by omega) (by omega)
          cases e2
          have y1' := y1
          rw [Int.toNat_natCast] at y1'
          have hw : wrap64 ((i : Int) + 1) = (i : Int) + 1 := by unfold wrap64; have := HL.out; omega
          have hi0 : decide ((i : Int) ≤ (l0_2.length : Int)) = true := decide_eq_true (by omega)
          have C1 := Aside0.mk c1
          have C1' : (i < l0_2.length) = True := eq_true c1
          have C1'' : ((i : Int) < (l0_2.length : Int)) = True := eq_true (by omega)
          by_cases c2 : rd l0_2 i < 0
          · rw [if_pos c2] at AL'
            obtain rfl := Option.some.inj AL'
            rw [if_neg (by decide)] at HH
            obtain rfl := Option.some.inj HH.out
            have u2 : decide (rd l0_2 i < 0) = true := decide_eq_true c2
            clear c1 c2 AL AL'
            go_wp2
            go_ret
            exact ⟨rfl, HB.out⟩
          · rw [if_neg c2] at AL'
            have u2 : decide (rd l0_2 i < 0) = false := decide_eq_false c2
            by_cases c3 : rd l0_2 i ≥ a1
            · rw [if_pos c3] at AL'
              obtain rfl := Option.some.inj AL'
              rw [if_neg (by decide)] at HH
              obtain rfl := Option.some.inj HH.out
              have u3 : decide (rd l0_2 i ≥ a1) = true := decide_eq_true c3
              clear c1 c2 c3 AL AL'
              go_wp2
              go_ret
              exact ⟨rfl, HB.out⟩
            · rw [if_neg c3] at AL'
              have u3 : decide (rd l0_2 i ≥ a1) = false := decide_eq_false c3
              obtain ⟨bb, AC0, AN⟩ := Option.bind_eq_some_iff.mp AL'
              have AC := Aside0.mk AC0
              obtain ⟨i0, hi1, _, hsz, _⟩ := info_parts info3
              obtain ⟨hcut, hA, hCt⟩ := print_take_of (P := Try.prog) (Value.int .i64) 0 25 3 .i64 Try.underlying25 hi1 hsz (some ad) c0_2 l0_2 (i : Int) (by omega) (by omega) HC.out
              have HRt := Aside0.mk (Kd.C_of_reads (h1 := fun _ => rfl) (hA _ (Kd.reads_of_C HR.out)))
              have HCt := Aside0.mk hCt
              clear c1 c2 c3 AL AL' AC0 hA hCt hi1 hsz
              by_cases cb : bb = true
              · subst cb
                rw [if_pos rfl] at AN
                obtain rfl := Option.some.inj AN
                rw [if_neg (by decide)] at HH
                obtain rfl := Option.some.inj HH.out
                clear AN
                go_wp2_with (first | (go_at_call 61; (refine calls_of_args (args' := #[.slice (some ad) (l0_2.take (i : Int).toNat).length c0_2, .int .i64 (rd l0_2 i)]) ?cargs ?_); (case cargs => (have hy_ : (l0_2.take (i : Int).toNat).length = i := (by have := C1.out; rw [List.length_take, Int.toNat_natCast]; omega); have hy2_ : min i l0_2.length = i := (by have := C1.out; omega); first | rfl | (simp only [hy_]; done) | (simp [hy_, hy2_]; done) | trace_state)); refine (slices_Contains_int_int.calls k (some ad) c0_2 (l0_2.take (i : Int).toNat) (rd l0_2 i) true _ (Kd.C_below HRt.out HB.out) HCt.out AC.out).mono ?_; rintro e w9 ⟨rfl, hd⟩; have HB9 := Aside0.mk (below_step HB.out hd.below); clear hd))
                go_ret
                exact ⟨rfl, HB9.out⟩
              · replace cb := Bool.eq_false_iff.mpr cb
                subst cb
                rw [if_neg (by decide)] at AN
                have AN' := Aside0.mk (show may_loop k a1 l0_2 g ((i + 1 : Nat) : Int) = some b from AN)
                clear AN
                go_wp2_with (first | (go_at_call 61; (refine calls_of_args (args' := #[.slice (some ad) (l0_2.take (i : Int).toNat).length c0_2, .int .i64 (rd l0_2 i)]) ?cargs ?_); (case cargs => (have hy_ : (l0_2.take (i : Int).toNat).length = i := (by have := C1.out; rw [List.length_take, Int.toNat_natCast]; omega); have hy2_ : min i l0_2.length = i := (by have := C1.out; omega); first | rfl | (simp only [hy_]; done) | (simp [hy_, hy2_]; done) | trace_state)); refine (slices_Contains_int_int.calls k (some ad) c0_2 (l0_2.take (i : Int).toNat) (rd l0_2 i) false _ (Kd.C_below HRt.out HB.out) HCt.out AC.out).mono ?_; rintro e w9 ⟨rfl, hd⟩; have HB9 := Aside0.mk (below_step HB.out hd.below); have BK9 := Aside0.mk (blk_below BK1.out hd.below); clear hd))
                go_roundg g
                case measure => omega
                case rel => exact ⟨i + 1, by go_num, ⟨by have := HX.out; omega⟩, AN', BK9, HB9⟩
        · have u1 : decide ((i : Int) < (l0_2.length : Int)) = false := decide_eq_false (by omega)
          have u1' : decide (i < l0_2.length) = false := decide_eq_false c1
          obtain rfl : gk = 0 := by have := HX.out; omega
          have AL' := AL.out
          unfold may_loop at AL'
          obtain rfl := Option.some.inj AL'
          rw [if_pos rfl] at HH
          obtain rfl := Option.some.inj HH.out
          have hts : ((a0_0 == 2) = true ∧ ((l0_2.length : Int) == 1) = false) ∨ ((a0_0 == 2) = true ∧ ((l0_2.length : Int) == 1) = true ∧ decide (a0_3 ≥ 0) = false) ∨ ((a0_0 == 2) = true ∧ ((l0_2.length : Int) == 1) = true ∧ decide (a0_3 ≥ 0) = true) ∨ ((a0_0 == 2) = false ∧ (a0_0 == 3) = true ∧ ((l0_2.length : Int) == 1) = false) ∨ ((a0_0 == 2) = false ∧ (a0_0 == 3) = true ∧ ((l0_2.length : Int) == 1) = true) ∨ ((a0_0 == 2) = false ∧ (a0_0 == 3) = false ∧ (a0_0 == 4) = true) ∨ ((a0_0 == 2) = false ∧ (a0_0 == 3) = false ∧ (a0_0 == 4) = false) := by
            simp only [beq_iff_eq, decide_eq_true_eq, decide_eq_false_iff_not, beq_eq_false_iff_ne]
            omega
          clear c1 HH AL AL'
          rcases hts with ⟨v1, v2⟩ | ⟨v1, v2, v3⟩ | ⟨v1, v2, v3⟩ | ⟨v1, v2, v3⟩ | ⟨v1, v2, v3⟩ | ⟨v1, v2, v3⟩ | ⟨v1, v2, v3⟩ <;>
            (go_wp2
             go_ret
             refine ⟨?_, HB.out⟩
             refine congrArg (fun b => Ending.returned (Value.bool b)) ?_
             first | exact (mt1 v1 v2).symm | exact (mt2 v1 v2 v3).symm | exact (mt3 v1 v2 v3).symm | exact (mt4 v1 v2 v3).symm | exact (mt5 v1 v2 v3).symm | exact (mt6 v1 v2 v3).symm | exact (mt7 v1 v2 v3).symm)
mutual
def circuit_Check.j0 : Nat → Bool → Int → Int → List (S57) → Option (Int × Int)
 | 0, _, _, _, _ => none
 | k + 1, x29, x21102000, x21102001, x21102002 => if x29 = true then (some ((-1), 80)) else (circuit_Check.l0 k x21102002 (x21102002.length : Int) 0 x21102000 x21102001 x21102002)
def circuit_Check.l0 : Nat → List (S57) → Int → Int → Int → Int → List (S57) → Option (Int × Int)
 | 0, _, _, _, _, _, _ => none
 | k + 1, x31, x32, x33, x21102000, x21102001, x21102002 => if x33 < x32 then (if 0 ≤ x33 then (if x33 < (x31.length : Int) then ((circuit_may.f k ((rd_T57 x31 x33).f0) ((rd_T57 x31 x33).f1) ((rd_T57 x31 x33).f2) ((rd_T57 x31 x33).f3) ((rd_T57 x31 x33).f4) ((rd_T57 x31 x33).f5) x21102000 x21102001).bind fun t21104 => (if t21104 = true then (circuit_Check.l0 k x31 x32 (wrap64 (x33 + 1)) x21102000 x21102001 x21102002) else (some (x33, 80)))) else (none)) else (none)) else (some (0, 0))
end
def circuit_Check.f (k : Nat) (a0_0 : Int) (a0_1 : Int) (l0_2 : List (S57)) : Option (Int × Int) := if a0_0 < 0 then (circuit_Check.j0 k true a0_0 a0_1 l0_2) else (if a0_0 > 64 then (circuit_Check.j0 k true a0_0 a0_1 l0_2) else (if a0_1 < 0 then (circuit_Check.j0 k true a0_0 a0_1 l0_2) else (if a0_1 > 64 then (circuit_Check.j0 k true a0_0 a0_1 l0_2) else (circuit_Check.j0 k (decide ((l0_2.length : Int) > 4096)) a0_0 a0_1 l0_2))))
set_option maxHeartbeats 8000000 in
set_option maxRecDepth 100000 in
theorem circuit_Check.calls (k : Nat) (a0_0 : Int) (a0_1 : Int) (A0_2 : Option Addr) (c0_2 : Nat) (l0_2 : List (S57)) (r1 : Int) (r2 : Int) (w : World) (hr0_2 : Kd.C k57 w A0_2 l0_2.length l0_2) (hc0_2 : l0_2.length ≤ c0_2) (h : circuit_Check.f k a0_0 a0_1 l0_2 = some (r1, r2)) :
  Calls Try.prog 42 #[.agg #[.int .i64 a0_0, .int .i64 a0_1, .slice A0_2 l0_2.length c0_2]] w fun e w' => e = .returned (.tuple #[.int .i64 r1, .int .i64 r2]) ∧ Below w.heap.size w w' := by
 have hu24 := Try.underlying24
 have hu57 := Try.underlying57
 have HR0_2 := Aside0.mk hr0_2
 have HC0_2 := Aside0.mk hc0_2
 clear hr0_2 hc0_2
 have HB := Aside0.mk (Below.refl w.heap.size w)
 have H : (if a0_0 < 0 then (circuit_Check.j0 k true a0_0 a0_1 l0_2) else (if a0_0 > 64 then (circuit_Check.j0 k true a0_0 a0_1 l0_2) else (if a0_1 < 0 then (circuit_Check.j0 k true a0_0 a0_1 l0_2) else (if a0_1 > 64 then (circuit_Check.j0 k true a0_0 a0_1 l0_2) else (circuit_Check.j0 k (decide ((l0_2.length : Int) > 4096)) a0_0 a0_1 l0_2))))) = some (r1, r2) := h
 clear h
 have HC2 := Aside0.mk H
 clear H
 go_enter Try.func42, Try.ntmps42
 go_upto_region 1 with (first | ((with_reducible refine gate_dst (N := 1) rfl ?_); (try (refine gate_guard (by rfl) ?_; dsimp only)); refine box_event ?hg (N := 1) ?hd (cs := #[.int .i64 a0_0, .int .i64 a0_1, .slice A0_2 l0_2.length c0_2]) (t := 24) ?hr ?_; (case hd => rfl); (case hg => rfl); (case hr => first | (go_simp; done) | (go_simp; rfl)); intro gb21101 hg w3 hbox hb; have n0_ := Aside0.mk (below_step (by repeat (first | (with_reducible first | exact HB.out | apply below_alloc | apply pw_below_drewN | apply below_drew1) | exact HB.out)) hb); have n1_ := Aside0.mk (hbox); have n2_ := Aside0.mk ((by rw [hg]; exact (below_size (by repeat (first | (with_reducible first | exact HB.out | apply below_alloc | apply pw_below_drewN | apply below_drew1) | exact HB.out))) : w.heap.size ≤ gb21101)); have n3_ := Aside0.mk ((by rw [hg]; exact (below_size (by repeat (first | (with_reducible first | exact HB.out | apply below_alloc | apply pw_below_drewN | apply below_drew1) | exact HB.out))) : w.heap.size ≤ gb21101)); clear HB; have HB := n0_; have BK21101 := n1_; have GW21101 := n2_; have GE21101 := n3_; clear n0_ n1_ n2_ n3_; clear hb hbox hg))
 (try simp only [Act.put, List.setIfInBounds_toArray, List.set_cons_zero, List.set_cons_succ])
 go_cut [29] (fun v29 wc => ∃ (kq : Nat) (x29_1 : Bool), v29 = .bool x29_1 ∧ Aside0 (circuit_Check.j0 kq x29_1 a0_0 a0_1 l0_2 = some (r1, r2)) ∧ Aside0 (kq ≤ k) ∧ Aside0 (wc.heap[gb21101]? = some (.cells #[.int .i64 a0_0, .int .i64 a0_1, (.slice A0_2 l0_2.length c0_2)] 24 (0, 0))) ∧ Aside0 (Below w.heap.size w wc))
 case first =>
  have H := HC2.out
  clear HC2
  by_cases c4 : a0_0 < 0
  ·rw [if_pos c4] at H
   have c4b0 : decide (a0_0 < 0) = true := decide_eq_true c4
   clear c4
   (first | rw [c4b0] | (simp only [i64_w, i32_w]; rw [c4b0]) | skip)
   have H' := Aside0.mk H
   clear H
   have hcz5_0 : w3.cell? ⟨gb21101, 0, none⟩ = some (.int .i64 a0_0) := (blk_cell BK21101.out 0).trans rfl
   have hcz5_1 : w3.cell? ⟨gb21101, 1, none⟩ = some (.int .i64 a0_1) := (blk_cell BK21101.out 1).trans rfl
   have hcz5_2 : w3.cell? ⟨gb21101, 2, none⟩ = some (.slice A0_2 l0_2.length c0_2) := (blk_cell BK21101.out 2).trans rfl
   have hfz5_0 := blk_frozen BK21101.out 0
   have hfz5_1 := blk_frozen BK21101.out 1
   have hfz5_2 := blk_frozen BK21101.out 2
   go_wp2
   go_meet
   case rel => exact ⟨_, (true), (by first | rfl | (simp; done) | (simp [*]; done)), H', ⟨by first | omega | exact Nat.le_refl _⟩, ⟨by (with_reducible repeat (first | refine blk_drewN ?_ _ | refine blk_drew ?_ | refine blk_alloc ?_ _)); exact BK21101.out⟩, ⟨by repeat (first | (with_reducible first | exact HB.out | apply below_alloc | apply pw_below_drewN | apply below_drew1 | refine below_set ?_ GE21101.out) | exact HB.out)⟩⟩
  ·rw [if_neg c4] at H
   have c4b0 : decide (a0_0 < 0) = false := decide_eq_false c4
   clear c4
   (first | rw [c4b0] | (simp only [i64_w, i32_w]; rw [c4b0]) | skip)
   by_cases c6 : a0_0 > 64
   ·rw [if_pos c6] at H
    have c6b0 : decide (64 < a0_0) = true := decide_eq_true c6
    clear c6
    have H' := Aside0.mk H
    clear H
    have hcz7_0 : w3.cell? ⟨gb21101, 0, none⟩ = some (.int .i64 a0_0) := (blk_cell BK21101.out 0).trans rfl
    have hcz7_1 : w3.cell? ⟨gb21101, 1, none⟩ = some (.int .i64 a0_1) := (blk_cell BK21101.out 1).trans rfl
    have hcz7_2 : w3.cell? ⟨gb21101, 2, none⟩ = some (.slice A0_2 l0_2.length c0_2) := (blk_cell BK21101.out 2).trans rfl
    have hfz7_0 := blk_frozen BK21101.out 0
    have hfz7_1 := blk_frozen BK21101.out 1
    have hfz7_2 := blk_frozen BK21101.out 2
    go_wp2
    go_meet
    case rel => exact ⟨_, (true), (by first | rfl | (simp; done) | (simp [*]; done)), H', ⟨by first | omega | exact Nat.le_refl _⟩, ⟨by (with_reducible repeat (first | refine blk_drewN ?_ _ | refine blk_drew ?_ | refine blk_alloc ?_ _)); exact BK21101.out⟩, ⟨by repeat (first | (with_reducible first | exact HB.out | apply below_alloc | apply pw_below_drewN | apply below_drew1 | refine below_set ?_ GE21101.out) | exact HB.out)⟩⟩
   ·rw [if_neg c6] at H
    have c6b0 : decide (64 < a0_0) = false := decide_eq_false c6
    clear c6
    by_cases c8 : a0_1 < 0
    ·rw [if_pos c8] at H
     have c8b0 : decide (a0_1 < 0) = true := decide_eq_true c8
     clear c8
     have H' := Aside0.mk H
     clear H
     have hcz9_0 : w3.cell? ⟨gb21101, 0, none⟩ = some (.int .i64 a0_0) := (blk_cell BK21101.out 0).trans rfl
     have hcz9_1 : w3.cell? ⟨gb21101, 1, none⟩ = some (.int .i64 a0_1) := (blk_cell BK21101.out 1).trans rfl
     have hcz9_2 : w3.cell? ⟨gb21101, 2, none⟩ = some (.slice A0_2 l0_2.length c0_2) := (blk_cell BK21101.out 2).trans rfl
     have hfz9_0 := blk_frozen BK21101.out 0
     have hfz9_1 := blk_frozen BK21101.out 1
     have hfz9_2 := blk_frozen BK21101.out 2
     go_wp2
     go_meet
     case rel => exact ⟨_, (true), (by first | rfl | (simp; done) | (simp [*]; done)), H', ⟨by first | omega | exact Nat.le_refl _⟩, ⟨by (with_reducible repeat (first | refine blk_drewN ?_ _ | refine blk_drew ?_ | refine blk_alloc ?_ _)); exact BK21101.out⟩, ⟨by repeat (first | (with_reducible first | exact HB.out | apply below_alloc | apply pw_below_drewN | apply below_drew1 | refine below_set ?_ GE21101.out) | exact HB.out)⟩⟩
    ·rw [if_neg c8] at H
     have c8b0 : decide (a0_1 < 0) = false := decide_eq_false c8
     clear c8
     by_cases c10 : a0_1 > 64
     ·rw [if_pos c10] at H
      have c10b0 : decide (64 < a0_1) = true := decide_eq_true c10
      clear c10
      have H' := Aside0.mk H
      clear H
      have hcz11_0 : w3.cell? ⟨gb21101, 0, none⟩ = some (.int .i64 a0_0) := (blk_cell BK21101.out 0).trans rfl
      have hcz11_1 : w3.cell? ⟨gb21101, 1, none⟩ = some (.int .i64 a0_1) := (blk_cell BK21101.out 1).trans rfl
      have hcz11_2 : w3.cell? ⟨gb21101, 2, none⟩ = some (.slice A0_2 l0_2.length c0_2) := (blk_cell BK21101.out 2).trans rfl
      have hfz11_0 := blk_frozen BK21101.out 0
      have hfz11_1 := blk_frozen BK21101.out 1
      have hfz11_2 := blk_frozen BK21101.out 2
      go_wp2
      go_meet
      case rel => exact ⟨_, (true), (by first | rfl | (simp; done) | (simp [*]; done)), H', ⟨by first | omega | exact Nat.le_refl _⟩, ⟨by (with_reducible repeat (first | refine blk_drewN ?_ _ | refine blk_drew ?_ | refine blk_alloc ?_ _)); exact BK21101.out⟩, ⟨by repeat (first | (with_reducible first | exact HB.out | apply below_alloc | apply pw_below_drewN | apply below_drew1 | refine below_set ?_ GE21101.out) | exact HB.out)⟩⟩
     ·rw [if_neg c10] at H
      have c10b0 : decide (64 < a0_1) = false := decide_eq_false c10
      clear c10
      have H' := Aside0.mk H
      clear H
      have hcz12_0 : w3.cell? ⟨gb21101, 0, none⟩ = some (.int .i64 a0_0) := (blk_cell BK21101.out 0).trans rfl
      have hcz12_1 : w3.cell? ⟨gb21101, 1, none⟩ = some (.int .i64 a0_1) := (blk_cell BK21101.out 1).trans rfl
      have hcz12_2 : w3.cell? ⟨gb21101, 2, none⟩ = some (.slice A0_2 l0_2.length c0_2) := (blk_cell BK21101.out 2).trans rfl
      have hfz12_0 := blk_frozen BK21101.out 0
      have hfz12_1 := blk_frozen BK21101.out 1
      have hfz12_2 := blk_frozen BK21101.out 2
      go_wp2
      go_meet
      case rel => exact ⟨_, (decide ((l0_2.length : Int) > 4096)), (by first | rfl | (simp; done) | (simp [*]; done)), H', ⟨by first | omega | exact Nat.le_refl _⟩, ⟨by (with_reducible repeat (first | refine blk_drewN ?_ _ | refine blk_drew ?_ | refine blk_alloc ?_ _)); exact BK21101.out⟩, ⟨by repeat (first | (with_reducible first | exact HB.out | apply below_alloc | apply pw_below_drewN | apply below_drew1 | refine below_set ?_ GE21101.out) | exact HB.out)⟩⟩
 case rest =>
  clear HC2
  try clear c1
  try clear p2
  try clear c4
  try clear c4b0
  try clear c6
  try clear c6b0
  try clear c8
  try clear c8b0
  try clear c10
  try clear c10b0
  try clear hcz11_0
  try clear hcz11_1
  try clear hcz11_2
  try clear hcz12_0
  try clear hcz12_1
  try clear hcz12_2
  try clear hcz5_0
  try clear hcz5_1
  try clear hcz5_2
  try clear hcz7_0
  try clear hcz7_1
  try clear hcz7_2
  try clear hcz9_0
  try clear hcz9_1
  try clear hcz9_2
  try clear hfz11_0
  try clear hfz11_1
  try clear hfz11_2
  try clear hfz12_0
  try clear hfz12_1
  try clear hfz12_2
  try clear hfz5_0
  try clear hfz5_1
  try clear hfz5_2
  try clear hfz7_0
  try clear hfz7_1
  try clear hfz7_2
  try clear hfz9_0
  try clear hfz9_1
  try clear hfz9_2
  obtain ⟨kq, x29_1, rfl, HA, HJ1, BK21101, HB⟩ := hcut
  cases kq with
  | zero => exact absurd HA.out (by simp [circuit_Check.j0])
  | succ kj1 =>
   have H := HA.out
   clear HA
   simp only [circuit_Check.j0] at H
   by_cases c13 : x29_1 = true
   ·subst c13
    have H1 : (some ((-1), 80)) = some (r1, r2) := by rw [if_pos rfl] at H; exact H
    clear H
    have H := H1
    clear H1
    simp only [Option.some.injEq, Prod.mk.injEq] at H
    obtain ⟨rfl, rfl⟩ := H
    go_wp2
    go_ret2
    exact ⟨by first | rfl | (simp [errW_none, errW_some] <;> rfl) | (simp [*, errW_none, errW_some] <;> rfl), by repeat (first | (with_reducible first | exact HB.out | apply below_alloc | apply pw_below_drewN | apply below_drew1 | refine below_set ?_ GE21101.out) | exact HB.out)⟩
   ·replace c13 := Bool.eq_false_iff.mpr c13
    subst c13
    have H1 : (circuit_Check.l0 kj1 l0_2 (l0_2.length : Int) 0 a0_0 a0_1 l0_2) = some (r1, r2) := by rw [if_neg (show ¬ (false = true) by decide)] at H; exact H
    clear H
    have H := H1
    clear H1
    have H' := Aside0.mk H
    clear H
    have hcz14_0 : wc.cell? ⟨gb21101, 0, none⟩ = some (.int .i64 a0_0) := (blk_cell BK21101.out 0).trans rfl
    have hcz14_1 : wc.cell? ⟨gb21101, 1, none⟩ = some (.int .i64 a0_1) := (blk_cell BK21101.out 1).trans rfl
    have hcz14_2 : wc.cell? ⟨gb21101, 2, none⟩ = some (.slice A0_2 l0_2.length c0_2) := (blk_cell BK21101.out 2).trans rfl
    have hfz14_0 := blk_frozen BK21101.out 0
    have hfz14_1 := blk_frozen BK21101.out 1
    have hfz14_2 := blk_frozen BK21101.out 2
    go_wp2
    go_loopg [33] kj1 (fun kq v33 w' => ∃ (x33_2 : Int), v33 = .int .i64 x33_2 ∧ Aside0 (circuit_Check.l0 kq l0_2 (l0_2.length : Int) x33_2 a0_0 a0_1 l0_2 = some (r1, r2)) ∧ Aside0 (kq ≤ kj1) ∧ Aside0 (w'.heap[gb21101]? = some (.cells #[.int .i64 a0_0, .int .i64 a0_1, (.slice A0_2 l0_2.length c0_2)] 24 (0, 0))) ∧ Aside0 (Below w.heap.size w w'))
    case atStart => exact ⟨(0), (by first | rfl | (simp; done) | (simp [*]; done)), H', ⟨Nat.le_refl _⟩, ⟨by (with_reducible repeat (first | refine blk_drewN ?_ _ | refine blk_drew ?_ | refine blk_alloc ?_ _)); exact BK21101.out⟩, ⟨by repeat (first | (with_reducible first | exact HB.out | apply below_alloc | apply pw_below_drewN | apply below_drew1 | refine below_set ?_ GE21101.out) | exact HB.out)⟩⟩
    case round =>
     clear H'
     try clear c1
     try clear p2
     try clear c4
     try clear c4b0
     try clear c6
     try clear c6b0
     try clear c8
     try clear c8b0
     try clear c10
     try clear c10b0
     try clear c13
     try clear hcz11_0
     try clear hcz11_1
     try clear hcz11_2
     try clear hcz12_0
     try clear hcz12_1
     try clear hcz12_2
     try clear hcz14_0
     try clear hcz14_1
     try clear hcz14_2
     try clear hcz5_0
     try clear hcz5_1
     try clear hcz5_2
     try clear hcz7_0
     try clear hcz7_1
     try clear hcz7_2
     try clear hcz9_0
     try clear hcz9_1
     try clear hcz9_2
     try clear hfz11_0
     try clear hfz11_1
     try clear hfz11_2
     try clear hfz12_0
     try clear hfz12_1
     try clear hfz12_2
     try clear hfz14_0
     try clear hfz14_1
     try clear hfz14_2
     try clear hfz5_0
     try clear hfz5_1
     try clear hfz5_2
     try clear hfz7_0
     try clear hfz7_1
     try clear hfz7_2
     try clear hfz9_0
     try clear hfz9_1
     try clear hfz9_2
     try clear p2
     obtain ⟨x33_2, rfl, HA, HK2, BK21101, HB⟩ := hrel
     cases gk with
     | zero => exact absurd HA.out (by simp [circuit_Check.l0])
     | succ k2 =>
      have H := HA.out
      clear HA
      simp only [circuit_Check.l0] at H
      by_cases c15 : x33_2 < (l0_2.length : Int)
      ·rw [if_pos c15] at H
       have c15b0 : decide (x33_2 < (l0_2.length : Int)) = true := decide_eq_true c15
       clear c15
       by_cases c16 : 0 ≤ x33_2
       ·rw [if_pos c16] at H
        have c16b0 : decide (0 ≤ x33_2) = true := decide_eq_true c16
        clear c16
        by_cases c17 : x33_2 < (l0_2.length : Int)
        ·rw [if_pos c17] at H
         have c17b0 : decide (x33_2 < (l0_2.length : Int)) = true := decide_eq_true c17
         clear c17
         replace H := Option.bind_eq_some_iff.mp H
         obtain ⟨t21104, A180, H⟩ := H
         replace H : (if t21104 = true then (circuit_Check.l0 k2 l0_2 (l0_2.length : Int) (wrap64 (x33_2 + 1)) a0_0 a0_1 l0_2) else (some (x33_2, 80))) = some (r1, r2) := H
         have A18 := Aside0.mk A180
         clear A180
         by_cases c19 : t21104 = true
         ·subst c19
          have H1 : (circuit_Check.l0 k2 l0_2 (l0_2.length : Int) (wrap64 (x33_2 + 1)) a0_0 a0_1 l0_2) = some (r1, r2) := by rw [if_pos rfl] at H; exact H
          clear H
          have H := H1
          clear H1
          have H' := Aside0.mk H
          clear H
          have p21102 : 0 ≤ (x33_2 : Int) := of_decide_eq_true (by first | (with_reducible assumption) | assumption)
          have q21102 : x33_2 < (l0_2.length : Int) := of_decide_eq_true (by first | (with_reducible assumption) | assumption)
          obtain ⟨ad21102, A21102_2, c21102_2, e21102, hx21102_0, hx21102_1, hx21102_2, hx21102_3, hx21102_4, hx21102_5, hl21102_2, hi21102_2⟩ := at_T57 HR0_2.out x33_2 p21102 q21102
          cases e21102
          replace hx21102_0 := (HB.out.cell (World.block_lt_of_cell? w _ hx21102_0)).trans hx21102_0
          replace hx21102_1 := (HB.out.cell (World.block_lt_of_cell? w _ hx21102_1)).trans hx21102_1
          replace hx21102_2 := (HB.out.cell (World.block_lt_of_cell? w _ hx21102_2)).trans hx21102_2
          replace hx21102_3 := (HB.out.cell (World.block_lt_of_cell? w _ hx21102_3)).trans hx21102_3
          replace hx21102_4 := (HB.out.cell (World.block_lt_of_cell? w _ hx21102_4)).trans hx21102_4
          replace hx21102_5 := (HB.out.cell (World.block_lt_of_cell? w _ hx21102_5)).trans hx21102_5
          have HR21102_2 := Aside0.mk hi21102_2
          have HC21102_2 := Aside0.mk hl21102_2
          clear hi21102_2 hl21102_2
          replace p21102 := eq_true p21102
          replace q21102 := eq_true q21102
          go_wp2_with (first | ((with_reducible refine gate_dst (N := 5) rfl ?_); (try (refine gate_guard (by rfl) ?_; dsimp only)); refine box_event ?hg (N := 5) ?hd (cs := #[.int .i64 0, .int .i64 0, .slice none 0 0, .int .i64 0, .int .i64 0, .int .i64 0]) (t := 57) ?hr ?_; (case hd => rfl); (case hg => rfl); (case hr => first | (go_simp; done) | (go_simp; rfl)); intro gb21103 hg w20 hbox hb; have n0_ := Aside0.mk (blk_below (g := gb21101) (o := .cells #[.int .i64 a0_0, .int .i64 a0_1, .slice (some ad21102) l0_2.length c0_2] 24 (0, 0)) (by (with_reducible repeat (first | refine blk_drewN ?_ _ | refine blk_drew ?_ | refine blk_alloc ?_ _)); exact BK21101.out) hb); have n1_ := Aside0.mk (below_step (by repeat (first | (with_reducible first | exact HB.out | apply below_alloc | apply pw_below_drewN | apply below_drew1 | refine below_set ?_ GE21101.out) | exact HB.out)) hb); have n2_ := Aside0.mk (hbox); have n3_ := Aside0.mk ((by rw [hg]; exact (below_size (by repeat (first | (with_reducible first | exact HB.out | apply below_alloc | apply pw_below_drewN | apply below_drew1 | refine below_set ?_ GE21101.out) | exact HB.out))) : w.heap.size ≤ gb21103)); have n4_ := Aside0.mk ((by rw [hg]; exact (below_size (by repeat (first | (with_reducible first | exact HB.out | apply below_alloc | apply pw_below_drewN | apply below_drew1 | refine below_set ?_ GE21101.out) | exact HB.out))) : w.heap.size ≤ gb21103)); have n5_ := Aside0.mk ((by rw [hg]; exact Nat.ne_of_lt (blk_lt (g := gb21101) (o := .cells #[.int .i64 a0_0, .int .i64 a0_1, .slice (some ad21102) l0_2.length c0_2] 24 (0, 0)) (by (with_reducible repeat (first | refine blk_drewN ?_ _ | refine blk_drew ?_ | refine blk_alloc ?_ _)); exact BK21101.out)) : gb21101 ≠ gb21103)); have n6_ := Aside0.mk ((by rw [hg]; exact Nat.ne_of_gt (blk_lt (g := gb21101) (o := .cells #[.int .i64 a0_0, .int .i64 a0_1, .slice (some ad21102) l0_2.length c0_2] 24 (0, 0)) (by (with_reducible repeat (first | refine blk_drewN ?_ _ | refine blk_drew ?_ | refine blk_alloc ?_ _)); exact BK21101.out)) : gb21103 ≠ gb21101)); clear BK21101; clear HB; have BK21101 := n0_; have HB := n1_; have BK21103 := n2_; have GW21103 := n3_; have GE21103 := n4_; have NB21101_21103 := n5_; have NB21103_21101 := n6_; clear n0_ n1_ n2_ n3_ n4_ n5_ n6_; clear hb hbox hg; have hnb21 := NB21103_21101.out; have hnc21 := NB21101_21103.out; have hcz22_0 : w20.cell? ⟨gb21103, 0, none⟩ = some (.int .i64 0) := (blk_cell BK21103.out 0).trans rfl; have hcz22_1 : w20.cell? ⟨gb21103, 1, none⟩ = some (.int .i64 0) := (blk_cell BK21103.out 1).trans rfl; have hcz22_2 : w20.cell? ⟨gb21103, 2, none⟩ = some (.slice none 0 0) := (blk_cell BK21103.out 2).trans rfl; have hcz22_3 : w20.cell? ⟨gb21103, 3, none⟩ = some (.int .i64 0) := (blk_cell BK21103.out 3).trans rfl; have hcz22_4 : w20.cell? ⟨gb21103, 4, none⟩ = some (.int .i64 0) := (blk_cell BK21103.out 4).trans rfl; have hcz22_5 : w20.cell? ⟨gb21103, 5, none⟩ = some (.int .i64 0) := (blk_cell BK21103.out 5).trans rfl; have hfz22_0 := blk_frozen BK21103.out 0; have hfz22_1 := blk_frozen BK21103.out 1; have hfz22_2 := blk_frozen BK21103.out 2; have hfz22_3 := blk_frozen BK21103.out 3; have hfz22_4 := blk_frozen BK21103.out 4; have hfz22_5 := blk_frozen BK21103.out 5; have hcz23_0 : w20.cell? ⟨gb21101, 0, none⟩ = some (.int .i64 a0_0) := (blk_cell BK21101.out 0).trans rfl; have hcz23_1 : w20.cell? ⟨gb21101, 1, none⟩ = some (.int .i64 a0_1) := (blk_cell BK21101.out 1).trans rfl; have hcz23_2 : w20.cell? ⟨gb21101, 2, none⟩ = some (.slice (some ad21102) l0_2.length c0_2) := (blk_cell BK21101.out 2).trans rfl; have hfz23_0 := blk_frozen BK21101.out 0; have hfz23_1 := blk_frozen BK21101.out 1; have hfz23_2 := blk_frozen BK21101.out 2) | ((with_reducible refine gate_callee (f := 55) rfl ?_); refine goesL_ (some 43) rfl rfl Try.func55 (by kernel_rfl) rfl #[.agg #[.int .i64 ((rd_T57 l0_2 x33_2).f0), .int .i64 ((rd_T57 l0_2 x33_2).f1), .slice A21102_2 ((rd_T57 l0_2 x33_2).f2).length c21102_2, .int .i64 ((rd_T57 l0_2 x33_2).f3), .int .i64 ((rd_T57 l0_2 x33_2).f4), .int .i64 ((rd_T57 l0_2 x33_2).f5)], .int .i64 a0_0, .int .i64 a0_1] rfl (by (try simp only [List.map_toArray, List.map_cons, List.map_nil]); first | done | rfl | (simp only [List.length_drop, List.length_take]; rfl)) ?_; (with_reducible refine (circuit_may.calls k2 ((rd_T57 l0_2 x33_2).f0) ((rd_T57 l0_2 x33_2).f1) _ _ ((rd_T57 l0_2 x33_2).f2) ((rd_T57 l0_2 x33_2).f3) ((rd_T57 l0_2 x33_2).f4) ((rd_T57 l0_2 x33_2).f5) a0_0 a0_1 true _ ?side1 ?side2 A18.out).mono ?_); (case side1 => exact Kd.C_below HR21102_2.out (by repeat (first | (with_reducible first | exact HB.out | apply below_alloc | apply pw_below_drewN | apply below_drew1 | refine below_set ?_ GE21101.out | refine below_set ?_ GE21103.out) | exact HB.out))); (case side2 => exact HC21102_2.out); rintro e w24 ⟨rfl, hb⟩; refine ⟨_, rfl, ?_⟩; have n0_ := Aside0.mk (blk_below (g := gb21101) (o := .cells #[.int .i64 a0_0, .int .i64 a0_1, .slice (some ad21102) l0_2.length c0_2] 24 (0, 0)) (by (with_reducible repeat (first | refine blk_drewN ?_ _ | refine blk_drew ?_ | refine blk_alloc ?_ _)); refine blk_far ?_ NB21101_21103.out _; (with_reducible repeat (first | refine blk_drewN ?_ _ | refine blk_drew ?_ | refine blk_alloc ?_ _)); refine blk_far ?_ NB21101_21103.out _; (with_reducible repeat (first | refine blk_drewN ?_ _ | refine blk_drew ?_ | refine blk_alloc ?_ _)); refine blk_far ?_ NB21101_21103.out _; (with_reducible repeat (first | refine blk_drewN ?_ _ | refine blk_drew ?_ | refine blk_alloc ?_ _)); refine blk_far ?_ NB21101_21103.out _; (with_reducible repeat (first | refine blk_drewN ?_ _ | refine blk_drew ?_ | refine blk_alloc ?_ _)); refine blk_far ?_ NB21101_21103.out _; (with_reducible repeat (first | refine blk_drewN ?_ _ | refine blk_drew ?_ | refine blk_alloc ?_ _)); refine blk_far ?_ NB21101_21103.out _; (with_reducible repeat (first | refine blk_drewN ?_ _ | refine blk_drew ?_ | refine blk_alloc ?_ _)); exact BK21101.out) hb); have n1_ := Aside0.mk (blk_below (g := gb21103) (o := .cells #[.int .i64 ((rd_T57 l0_2 x33_2).f0), .int .i64 ((rd_T57 l0_2 x33_2).f1), .slice A21102_2 ((rd_T57 l0_2 x33_2).f2).length c21102_2, .int .i64 ((rd_T57 l0_2 x33_2).f3), .int .i64 ((rd_T57 l0_2 x33_2).f4), .int .i64 ((rd_T57 l0_2 x33_2).f5)] 57 (0, 0)) (by (with_reducible repeat (first | refine blk_drewN ?_ _ | refine blk_drew ?_ | refine blk_alloc ?_ _)); refine blk_put (cs := #[.int .i64 ((rd_T57 l0_2 x33_2).f0), .int .i64 ((rd_T57 l0_2 x33_2).f1), .slice A21102_2 ((rd_T57 l0_2 x33_2).f2).length c21102_2, .int .i64 ((rd_T57 l0_2 x33_2).f3), .int .i64 ((rd_T57 l0_2 x33_2).f4), .int .i64 0]) ?_ 5 _ rfl; (with_reducible repeat (first | refine blk_drewN ?_ _ | refine blk_drew ?_ | refine blk_alloc ?_ _)); refine blk_put (cs := #[.int .i64 ((rd_T57 l0_2 x33_2).f0), .int .i64 ((rd_T57 l0_2 x33_2).f1), .slice A21102_2 ((rd_T57 l0_2 x33_2).f2).length c21102_2, .int .i64 ((rd_T57 l0_2 x33_2).f3), .int .i64 0, .int .i64 0]) ?_ 4 _ rfl; (with_reducible repeat (first | refine blk_drewN ?_ _ | refine blk_drew ?_ | refine blk_alloc ?_ _)); refine blk_put (cs := #[.int .i64 ((rd_T57 l0_2 x33_2).f0), .int .i64 ((rd_T57 l0_2 x33_2).f1), .slice A21102_2 ((rd_T57 l0_2 x33_2).f2).length c21102_2, .int .i64 0, .int .i64 0, .int .i64 0]) ?_ 3 _ rfl; (with_reducible repeat (first | refine blk_drewN ?_ _ | refine blk_drew ?_ | refine blk_alloc ?_ _)); refine blk_put (cs := #[.int .i64 ((rd_T57 l0_2 x33_2).f0), .int .i64 ((rd_T57 l0_2 x33_2).f1), .slice none 0 0, .int .i64 0, .int .i64 0, .int .i64 0]) ?_ 2 _ rfl; (with_reducible repeat (first | refine blk_drewN ?_ _ | refine blk_drew ?_ | refine blk_alloc ?_ _)); refine blk_put (cs := #[.int .i64 ((rd_T57 l0_2 x33_2).f0), .int .i64 0, .slice none 0 0, .int .i64 0, .int .i64 0, .int .i64 0]) ?_ 1 _ rfl; (with_reducible repeat (first | refine blk_drewN ?_ _ | refine blk_drew ?_ | refine blk_alloc ?_ _)); refine blk_put (cs := #[.int .i64 0, .int .i64 0, .slice none 0 0, .int .i64 0, .int .i64 0, .int .i64 0]) ?_ 0 _ rfl; (with_reducible repeat (first | refine blk_drewN ?_ _ | refine blk_drew ?_ | refine blk_alloc ?_ _)); exact BK21103.out) hb); have n2_ := Aside0.mk (below_step (by repeat (first | (with_reducible first | exact HB.out | apply below_alloc | apply pw_below_drewN | apply below_drew1 | refine below_set ?_ GE21101.out | refine below_set ?_ GE21103.out) | exact HB.out)) hb); clear BK21101; clear BK21103; clear HB; have BK21101 := n0_; have BK21103 := n1_; have HB := n2_; clear n0_ n1_ n2_; (try clear hb); (try clear hb2); (try clear hk); (try clear hi)))
          go_roundg k2
          case measure => have := HJ1.out; have := HK2.out; omega
          case rel => exact ⟨(wrap64 (x33_2 + 1)), (by first | rfl | (simp; done) | (simp [*]; done)), H', ⟨by have := HJ1.out; have := HK2.out; omega⟩, ⟨by (with_reducible repeat (first | refine blk_drewN ?_ _ | refine blk_drew ?_ | refine blk_alloc ?_ _)); exact BK21101.out⟩, ⟨by repeat (first | (with_reducible first | exact HB.out | apply below_alloc | apply pw_below_drewN | apply below_drew1 | refine below_set ?_ GE21101.out | refine below_set ?_ GE21103.out) | exact HB.out)⟩⟩
         ·replace c19 := Bool.eq_false_iff.mpr c19
          subst c19
          have H1 : (some (x33_2, 80)) = some (r1, r2) := by rw [if_neg (show ¬ (false = true) by decide)] at H; exact H
          clear H
          have H := H1
          clear H1
          simp only [Option.some.injEq, Prod.mk.injEq] at H
          obtain ⟨rfl, rfl⟩ := H
          have p21102 : 0 ≤ (x33_2 : Int) := of_decide_eq_true (by first | (with_reducible assumption) | assumption)
          have q21102 : x33_2 < (l0_2.length : Int) := of_decide_eq_true (by first | (with_reducible assumption) | assumption)
          obtain ⟨ad21102, A21102_2, c21102_2, e21102, hx21102_0, hx21102_1, hx21102_2, hx21102_3, hx21102_4, hx21102_5, hl21102_2, hi21102_2⟩ := at_T57 HR0_2.out x33_2 p21102 q21102
          cases e21102
          replace hx21102_0 := (HB.out.cell (World.block_lt_of_cell? w _ hx21102_0)).trans hx21102_0
          replace hx21102_1 := (HB.out.cell (World.block_lt_of_cell? w _ hx21102_1)).trans hx21102_1
          replace hx21102_2 := (HB.out.cell (World.block_lt_of_cell? w _ hx21102_2)).trans hx21102_2
          replace hx21102_3 := (HB.out.cell (World.block_lt_of_cell? w _ hx21102_3)).trans hx21102_3
          replace hx21102_4 := (HB.out.cell (World.block_lt_of_cell? w _ hx21102_4)).trans hx21102_4
          replace hx21102_5 := (HB.out.cell (World.block_lt_of_cell? w _ hx21102_5)).trans hx21102_5
          have HR21102_2 := Aside0.mk hi21102_2
          have HC21102_2 := Aside0.mk hl21102_2
          clear hi21102_2 hl21102_2
          replace p21102 := eq_true p21102
          replace q21102 := eq_true q21102
          go_wp2_with (first | ((with_reducible refine gate_dst (N := 5) rfl ?_); (try (refine gate_guard (by rfl) ?_; dsimp only)); refine box_event ?hg (N := 5) ?hd (cs := #[.int .i64 0, .int .i64 0, .slice none 0 0, .int .i64 0, .int .i64 0, .int .i64 0]) (t := 57) ?hr ?_; (case hd => rfl); (case hg => rfl); (case hr => first | (go_simp; done) | (go_simp; rfl)); intro gb21103 hg w25 hbox hb; have n0_ := Aside0.mk (blk_below (g := gb21101) (o := .cells #[.int .i64 a0_0, .int .i64 a0_1, .slice (some ad21102) l0_2.length c0_2] 24 (0, 0)) (by (with_reducible repeat (first | refine blk_drewN ?_ _ | refine blk_drew ?_ | refine blk_alloc ?_ _)); exact BK21101.out) hb); have n1_ := Aside0.mk (below_step (by repeat (first | (with_reducible first | exact HB.out | apply below_alloc | apply pw_below_drewN | apply below_drew1 | refine below_set ?_ GE21101.out) | exact HB.out)) hb); have n2_ := Aside0.mk (hbox); have n3_ := Aside0.mk ((by rw [hg]; exact (below_size (by repeat (first | (with_reducible first | exact HB.out | apply below_alloc | apply pw_below_drewN | apply below_drew1 | refine below_set ?_ GE21101.out) | exact HB.out))) : w.heap.size ≤ gb21103)); have n4_ := Aside0.mk ((by rw [hg]; exact (below_size (by repeat (first | (with_reducible first | exact HB.out | apply below_alloc | apply pw_below_drewN | apply below_drew1 | refine below_set ?_ GE21101.out) | exact HB.out))) : w.heap.size ≤ gb21103)); have n5_ := Aside0.mk ((by rw [hg]; exact Nat.ne_of_lt (blk_lt (g := gb21101) (o := .cells #[.int .i64 a0_0, .int .i64 a0_1, .slice (some ad21102) l0_2.length c0_2] 24 (0, 0)) (by (with_reducible repeat (first | refine blk_drewN ?_ _ | refine blk_drew ?_ | refine blk_alloc ?_ _)); exact BK21101.out)) : gb21101 ≠ gb21103)); have n6_ := Aside0.mk ((by rw [hg]; exact Nat.ne_of_gt (blk_lt (g := gb21101) (o := .cells #[.int .i64 a0_0, .int .i64 a0_1, .slice (some ad21102) l0_2.length c0_2] 24 (0, 0)) (by (with_reducible repeat (first | refine blk_drewN ?_ _ | refine blk_drew ?_ | refine blk_alloc ?_ _)); exact BK21101.out)) : gb21103 ≠ gb21101)); clear BK21101; clear HB; have BK21101 := n0_; have HB := n1_; have BK21103 := n2_; have GW21103 := n3_; have GE21103 := n4_; have NB21101_21103 := n5_; have NB21103_21101 := n6_; clear n0_ n1_ n2_ n3_ n4_ n5_ n6_; clear hb hbox hg; have hnb26 := NB21103_21101.out; have hnc26 := NB21101_21103.out; have hcz27_0 : w25.cell? ⟨gb21103, 0, none⟩ = some (.int .i64 0) := (blk_cell BK21103.out 0).trans rfl; have hcz27_1 : w25.cell? ⟨gb21103, 1, none⟩ = some (.int .i64 0) := (blk_cell BK21103.out 1).trans rfl; have hcz27_2 : w25.cell? ⟨gb21103, 2, none⟩ = some (.slice none 0 0) := (blk_cell BK21103.out 2).trans rfl; have hcz27_3 : w25.cell? ⟨gb21103, 3, none⟩ = some (.int .i64 0) := (blk_cell BK21103.out 3).trans rfl; have hcz27_4 : w25.cell? ⟨gb21103, 4, none⟩ = some (.int .i64 0) := (blk_cell BK21103.out 4).trans rfl; have hcz27_5 : w25.cell? ⟨gb21103, 5, none⟩ = some (.int .i64 0) := (blk_cell BK21103.out 5).trans rfl; have hfz27_0 := blk_frozen BK21103.out 0; have hfz27_1 := blk_frozen BK21103.out 1; have hfz27_2 := blk_frozen BK21103.out 2; have hfz27_3 := blk_frozen BK21103.out 3; have hfz27_4 := blk_frozen BK21103.out 4; have hfz27_5 := blk_frozen BK21103.out 5; have hcz28_0 : w25.cell? ⟨gb21101, 0, none⟩ = some (.int .i64 a0_0) := (blk_cell BK21101.out 0).trans rfl; have hcz28_1 : w25.cell? ⟨gb21101, 1, none⟩ = some (.int .i64 a0_1) := (blk_cell BK21101.out 1).trans rfl; have hcz28_2 : w25.cell? ⟨gb21101, 2, none⟩ = some (.slice (some ad21102) l0_2.length c0_2) := (blk_cell BK21101.out 2).trans rfl; have hfz28_0 := blk_frozen BK21101.out 0; have hfz28_1 := blk_frozen BK21101.out 1; have hfz28_2 := blk_frozen BK21101.out 2) | ((with_reducible refine gate_callee (f := 55) rfl ?_); refine goesL_ (some 43) rfl rfl Try.func55 (by kernel_rfl) rfl #[.agg #[.int .i64 ((rd_T57 l0_2 x33_2).f0), .int .i64 ((rd_T57 l0_2 x33_2).f1), .slice A21102_2 ((rd_T57 l0_2 x33_2).f2).length c21102_2, .int .i64 ((rd_T57 l0_2 x33_2).f3), .int .i64 ((rd_T57 l0_2 x33_2).f4), .int .i64 ((rd_T57 l0_2 x33_2).f5)], .int .i64 a0_0, .int .i64 a0_1] rfl (by (try simp only [List.map_toArray, List.map_cons, List.map_nil]); first | done | rfl | (simp only [List.length_drop, List.length_take]; rfl)) ?_; (with_reducible refine (circuit_may.calls k2 ((rd_T57 l0_2 x33_2).f0) ((rd_T57 l0_2 x33_2).f1) _ _ ((rd_T57 l0_2 x33_2).f2) ((rd_T57 l0_2 x33_2).f3) ((rd_T57 l0_2 x33_2).f4) ((rd_T57 l0_2 x33_2).f5) a0_0 a0_1 false _ ?side1 ?side2 A18.out).mono ?_); (case side1 => exact Kd.C_below HR21102_2.out (by repeat (first | (with_reducible first | exact HB.out | apply below_alloc | apply pw_below_drewN | apply below_drew1 | refine below_set ?_ GE21101.out | refine below_set ?_ GE21103.out) | exact HB.out))); (case side2 => exact HC21102_2.out); rintro e w29 ⟨rfl, hb⟩; refine ⟨_, rfl, ?_⟩; have n0_ := Aside0.mk (blk_below (g := gb21101) (o := .cells #[.int .i64 a0_0, .int .i64 a0_1, .slice (some ad21102) l0_2.length c0_2] 24 (0, 0)) (by (with_reducible repeat (first | refine blk_drewN ?_ _ | refine blk_drew ?_ | refine blk_alloc ?_ _)); refine blk_far ?_ NB21101_21103.out _; (with_reducible repeat (first | refine blk_drewN ?_ _ | refine blk_drew ?_ | refine blk_alloc ?_ _)); refine blk_far ?_ NB21101_21103.out _; (with_reducible repeat (first | refine blk_drewN ?_ _ | refine blk_drew ?_ | refine blk_alloc ?_ _)); refine blk_far ?_ NB21101_21103.out _; (with_reducible repeat (first | refine blk_drewN ?_ _ | refine blk_drew ?_ | refine blk_alloc ?_ _)); refine blk_far ?_ NB21101_21103.out _; (with_reducible repeat (first | refine blk_drewN ?_ _ | refine blk_drew ?_ | refine blk_alloc ?_ _)); refine blk_far ?_ NB21101_21103.out _; (with_reducible repeat (first | refine blk_drewN ?_ _ | refine blk_drew ?_ | refine blk_alloc ?_ _)); refine blk_far ?_ NB21101_21103.out _; (with_reducible repeat (first | refine blk_drewN ?_ _ | refine blk_drew ?_ | refine blk_alloc ?_ _)); exact BK21101.out) hb); have n1_ := Aside0.mk (blk_below (g := gb21103) (o := .cells #[.int .i64 ((rd_T57 l0_2 x33_2).f0), .int .i64 ((rd_T57 l0_2 x33_2).f1), .slice A21102_2 ((rd_T57 l0_2 x33_2).f2).length c21102_2, .int .i64 ((rd_T57 l0_2 x33_2).f3), .int .i64 ((rd_T57 l0_2 x33_2).f4), .int .i64 ((rd_T57 l0_2 x33_2).f5)] 57 (0, 0)) (by (with_reducible repeat (first | refine blk_drewN ?_ _ | refine blk_drew ?_ | refine blk_alloc ?_ _)); refine blk_put (cs := #[.int .i64 ((rd_T57 l0_2 x33_2).f0), .int .i64 ((rd_T57 l0_2 x33_2).f1), .slice A21102_2 ((rd_T57 l0_2 x33_2).f2).length c21102_2, .int .i64 ((rd_T57 l0_2 x33_2).f3), .int .i64 ((rd_T57 l0_2 x33_2).f4), .int .i64 0]) ?_ 5 _ rfl; (with_reducible repeat (first | refine blk_drewN ?_ _ | refine blk_drew ?_ | refine blk_alloc ?_ _)); refine blk_put (cs := #[.int .i64 ((rd_T57 l0_2 x33_2).f0), .int .i64 ((rd_T57 l0_2 x33_2).f1), .slice A21102_2 ((rd_T57 l0_2 x33_2).f2).length c21102_2, .int .i64 ((rd_T57 l0_2 x33_2).f3), .int .i64 0, .int .i64 0]) ?_ 4 _ rfl; (with_reducible repeat (first | refine blk_drewN ?_ _ | refine blk_drew ?_ | refine blk_alloc ?_ _)); refine blk_put (cs := #[.int .i64 ((rd_T57 l0_2 x33_2).f0), .int .i64 ((rd_T57 l0_2 x33_2).f1), .slice A21102_2 ((rd_T57 l0_2 x33_2).f2).length c21102_2, .int .i64 0, .int .i64 0, .int .i64 0]) ?_ 3 _ rfl; (with_reducible repeat (first | refine blk_drewN ?_ _ | refine blk_drew ?_ | refine blk_alloc ?_ _)); refine blk_put (cs := #[.int .i64 ((rd_T57 l0_2 x33_2).f0), .int .i64 ((rd_T57 l0_2 x33_2).f1), .slice none 0 0, .int .i64 0, .int .i64 0, .int .i64 0]) ?_ 2 _ rfl; (with_reducible repeat (first | refine blk_drewN ?_ _ | refine blk_drew ?_ | refine blk_alloc ?_ _)); refine blk_put (cs := #[.int .i64 ((rd_T57 l0_2 x33_2).f0), .int .i64 0, .slice none 0 0, .int .i64 0, .int .i64 0, .int .i64 0]) ?_ 1 _ rfl; (with_reducible repeat (first | refine blk_drewN ?_ _ | refine blk_drew ?_ | refine blk_alloc ?_ _)); refine blk_put (cs := #[.int .i64 0, .int .i64 0, .slice none 0 0, .int .i64 0, .int .i64 0, .int .i64 0]) ?_ 0 _ rfl; (with_reducible repeat (first | refine blk_drewN ?_ _ | refine blk_drew ?_ | refine blk_alloc ?_ _)); exact BK21103.out) hb); have n2_ := Aside0.mk (below_step (by repeat (first | (with_reducible first | exact HB.out | apply below_alloc | apply pw_below_drewN | apply below_drew1 | refine below_set ?_ GE21101.out | refine below_set ?_ GE21103.out) | exact HB.out)) hb); clear BK21101; clear BK21103; clear HB; have BK21101 := n0_; have BK21103 := n1_; have HB := n2_; clear n0_ n1_ n2_; (try clear hb); (try clear hb2); (try clear hk); (try clear hi)))
          go_ret2
          exact ⟨by first | rfl | (simp [errW_none, errW_some] <;> rfl) | (simp [*, errW_none, errW_some] <;> rfl), by repeat (first | (with_reducible first | exact HB.out | apply below_alloc | apply pw_below_drewN | apply below_drew1 | refine below_set ?_ GE21101.out | refine below_set ?_ GE21103.out) | exact HB.out)⟩
        ·rw [if_neg c17] at H
         exact absurd H (by simp)
       ·rw [if_neg c16] at H
        exact absurd H (by simp)
      ·rw [if_neg c15] at H
       have c15b0 : decide (x33_2 < (l0_2.length : Int)) = false := decide_eq_false c15
       clear c15
       simp only [Option.some.injEq, Prod.mk.injEq] at H
       obtain ⟨rfl, rfl⟩ := H
       go_wp2
       go_ret2
       exact ⟨by first | rfl | (simp [errW_none, errW_some] <;> rfl) | (simp [*, errW_none, errW_some] <;> rfl), by repeat (first | (with_reducible first | exact HB.out | apply below_alloc | apply pw_below_drewN | apply below_drew1 | refine below_set ?_ GE21101.out) | exact HB.out)⟩
def layers_checked.f (k : Nat) (a0_0 : Int) (a0_1 : Int) (l0_2 : List (S57)) : Option (Int) := (circuit_Check.f k a0_0 a0_1 l0_2).bind fun bt13102 => (if bt13102.2 = 0 then (some 0) else (some 80))
set_option maxHeartbeats 8000000 in
set_option maxRecDepth 100000 in
theorem layers_checked.calls (k : Nat) (a0_0 : Int) (a0_1 : Int) (A0_2 : Option Addr) (c0_2 : Nat) (l0_2 : List (S57)) (r : Int) (w : World) (hr0_2 : Kd.C k57 w A0_2 l0_2.length l0_2) (hc0_2 : l0_2.length ≤ c0_2) (h : layers_checked.f k a0_0 a0_1 l0_2 = some r) :
  Calls Try.prog 26 #[.agg #[.int .i64 a0_0, .int .i64 a0_1, .slice A0_2 l0_2.length c0_2]] w fun e w' => e = .returned (.int .i64 r) ∧ Below w.heap.size w w' := by
 have hu24 := Try.underlying24
 have HR0_2 := Aside0.mk hr0_2
 have HC0_2 := Aside0.mk hc0_2
 clear hr0_2 hc0_2
 have HB := Aside0.mk (Below.refl w.heap.size w)
 have H : ((circuit_Check.f k a0_0 a0_1 l0_2).bind fun bt13102 => (if bt13102.2 = 0 then (some 0) else (some 80))) = some r := h
 clear h
 replace H := Option.bind_eq_some_iff.mp H
 obtain ⟨⟨t13102, t13103⟩, A20, H⟩ := H
 replace H : (if t13103 = 0 then (some 0) else (some 80)) = some r := H
 have A2 := Aside0.mk A20
 clear A20
 by_cases c3 : t13103 = 0
 ·rw [if_pos c3] at H
  have c3b0 : (t13103 == 0) = true := beq_iff_eq.mpr c3
  have c3b1 : (t13103 != 0) = false := bne_eq_false_iff_eq.mpr c3
  clear c3
  obtain rfl := Option.some.inj H
  go_enter Try.func26, Try.ntmps26
  go_wp2_with (first | ((with_reducible refine gate_dst (N := 1) rfl ?_); refine box_event ?hg (N := 1) ?hd (cs := #[.int .i64 a0_0, .int .i64 a0_1, .slice A0_2 l0_2.length c0_2]) (t := 24) ?hr ?_; (case hd => rfl); (case hg => rfl); (case hr => first | (go_simp; done) | (go_simp; rfl)); intro gb13101 hg w4 hbox hb; have n0_ := Aside0.mk (below_step (by repeat (first | (with_reducible first | exact HB.out | apply below_alloc | apply pw_below_drewN | apply below_drew1) | exact HB.out)) hb); have n1_ := Aside0.mk (hbox); have n2_ := Aside0.mk ((by rw [hg]; exact (below_size (by repeat (first | (with_reducible first | exact HB.out | apply below_alloc | apply pw_below_drewN | apply below_drew1) | exact HB.out))) : w.heap.size ≤ gb13101)); have n3_ := Aside0.mk ((by rw [hg]; exact (below_size (by repeat (first | (with_reducible first | exact HB.out | apply below_alloc | apply pw_below_drewN | apply below_drew1) | exact HB.out))) : w.heap.size ≤ gb13101)); clear HB; have HB := n0_; have BK13101 := n1_; have GW13101 := n2_; have GE13101 := n3_; clear n0_ n1_ n2_ n3_; clear hb hbox hg; have hcz5_0 : w4.cell? ⟨gb13101, 0, none⟩ = some (.int .i64 a0_0) := (blk_cell BK13101.out 0).trans rfl; have hcz5_1 : w4.cell? ⟨gb13101, 1, none⟩ = some (.int .i64 a0_1) := (blk_cell BK13101.out 1).trans rfl; have hcz5_2 : w4.cell? ⟨gb13101, 2, none⟩ = some (.slice A0_2 l0_2.length c0_2) := (blk_cell BK13101.out 2).trans rfl; have hfz5_0 := blk_frozen BK13101.out 0; have hfz5_1 := blk_frozen BK13101.out 1; have hfz5_2 := blk_frozen BK13101.out 2) | ((with_reducible refine gate_callee (f := 42) rfl ?_); refine goesL_ (some 7) rfl rfl Try.func42 (by kernel_rfl) rfl #[.agg #[.int .i64 a0_0, .int .i64 a0_1, .slice A0_2 l0_2.length c0_2]] rfl (by (try simp only [List.map_toArray, List.map_cons, List.map_nil]); first | done | rfl | (simp only [List.length_drop, List.length_take]; rfl)) ?_; (with_reducible refine (circuit_Check.calls k a0_0 a0_1 _ _ l0_2 t13102 t13103 _ ?side1 ?side2 A2.out).mono ?_); (case side1 => repeat (first | exact (Kd.C_below HR0_2.out HB.out) | (with_reducible refine Kd.C_alloc ?_ _) | (with_reducible refine Kd.C_drewN ?_ _) | (with_reducible refine Kd.C_drew ?_))); (case side2 => exact HC0_2.out); rintro e w6 ⟨rfl, hb⟩; refine ⟨_, rfl, ?_⟩; have n0_ := Aside0.mk (blk_below (g := gb13101) (o := .cells #[.int .i64 a0_0, .int .i64 a0_1, .slice A0_2 l0_2.length c0_2] 24 (0, 0)) (by (with_reducible repeat (first | refine blk_drewN ?_ _ | refine blk_drew ?_ | refine blk_alloc ?_ _)); exact BK13101.out) hb); have n1_ := Aside0.mk (below_step (by repeat (first | (with_reducible first | exact HB.out | apply below_alloc | apply pw_below_drewN | apply below_drew1 | refine below_set ?_ GE13101.out) | exact HB.out)) hb); clear BK13101; clear HB; have BK13101 := n0_; have HB := n1_; clear n0_ n1_; (try clear hb); (try clear hb2); (try clear hk); (try clear hi)))
  go_ret
  exact ⟨by first | rfl | (simp [errW_none, errW_some] <;> rfl) | (simp [*, errW_none, errW_some] <;> rfl), by repeat (first | (with_reducible first | exact HB.out | apply below_alloc | apply pw_below_drewN | apply below_drew1 | refine below_set ?_ GE13101.out) | exact HB.out)⟩
 ·rw [if_neg c3] at H
  have c3b0 : (t13103 == 0) = false := beq_eq_false_iff_ne.mpr c3
  have c3b1 : (t13103 != 0) = true := bne_iff_ne.mpr c3
  obtain rfl := Option.some.inj H
  go_enter Try.func26, Try.ntmps26
  go_wp2_with (first | ((with_reducible refine gate_dst (N := 1) rfl ?_); refine box_event ?hg (N := 1) ?hd (cs := #[.int .i64 a0_0, .int .i64 a0_1, .slice A0_2 l0_2.length c0_2]) (t := 24) ?hr ?_; (case hd => rfl); (case hg => rfl); (case hr => first | (go_simp; done) | (go_simp; rfl)); intro gb13101 hg w7 hbox hb; have n0_ := Aside0.mk (below_step (by repeat (first | (with_reducible first | exact HB.out | apply below_alloc | apply pw_below_drewN | apply below_drew1) | exact HB.out)) hb); have n1_ := Aside0.mk (hbox); have n2_ := Aside0.mk ((by rw [hg]; exact (below_size (by repeat (first | (with_reducible first | exact HB.out | apply below_alloc | apply pw_below_drewN | apply below_drew1) | exact HB.out))) : w.heap.size ≤ gb13101)); have n3_ := Aside0.mk ((by rw [hg]; exact (below_size (by repeat (first | (with_reducible first | exact HB.out | apply below_alloc | apply pw_below_drewN | apply below_drew1) | exact HB.out))) : w.heap.size ≤ gb13101)); clear HB; have HB := n0_; have BK13101 := n1_; have GW13101 := n2_; have GE13101 := n3_; clear n0_ n1_ n2_ n3_; clear hb hbox hg; have hcz8_0 : w7.cell? ⟨gb13101, 0, none⟩ = some (.int .i64 a0_0) := (blk_cell BK13101.out 0).trans rfl; have hcz8_1 : w7.cell? ⟨gb13101, 1, none⟩ = some (.int .i64 a0_1) := (blk_cell BK13101.out 1).trans rfl; have hcz8_2 : w7.cell? ⟨gb13101, 2, none⟩ = some (.slice A0_2 l0_2.length c0_2) := (blk_cell BK13101.out 2).trans rfl; have hfz8_0 := blk_frozen BK13101.out 0; have hfz8_1 := blk_frozen BK13101.out 1; have hfz8_2 := blk_frozen BK13101.out 2) | ((with_reducible refine gate_callee (f := 42) rfl ?_); refine goesL_ (some 7) rfl rfl Try.func42 (by kernel_rfl) rfl #[.agg #[.int .i64 a0_0, .int .i64 a0_1, .slice A0_2 l0_2.length c0_2]] rfl (by (try simp only [List.map_toArray, List.map_cons, List.map_nil]); first | done | rfl | (simp only [List.length_drop, List.length_take]; rfl)) ?_; (with_reducible refine (circuit_Check.calls k a0_0 a0_1 _ _ l0_2 t13102 t13103 _ ?side1 ?side2 A2.out).mono ?_); (case side1 => repeat (first | exact (Kd.C_below HR0_2.out HB.out) | (with_reducible refine Kd.C_alloc ?_ _) | (with_reducible refine Kd.C_drewN ?_ _) | (with_reducible refine Kd.C_drew ?_))); (case side2 => exact HC0_2.out); rintro e w9 ⟨rfl, hb⟩; refine ⟨_, rfl, ?_⟩; have n0_ := Aside0.mk (blk_below (g := gb13101) (o := .cells #[.int .i64 a0_0, .int .i64 a0_1, .slice A0_2 l0_2.length c0_2] 24 (0, 0)) (by (with_reducible repeat (first | refine blk_drewN ?_ _ | refine blk_drew ?_ | refine blk_alloc ?_ _)); exact BK13101.out) hb); have n1_ := Aside0.mk (below_step (by repeat (first | (with_reducible first | exact HB.out | apply below_alloc | apply pw_below_drewN | apply below_drew1 | refine below_set ?_ GE13101.out) | exact HB.out)) hb); clear BK13101; clear HB; have BK13101 := n0_; have HB := n1_; clear n0_ n1_; (try clear hb); (try clear hb2); (try clear hk); (try clear hi)))
  go_ret
  exact ⟨by first | rfl | (simp [errW_none, errW_some] <;> rfl) | (simp [*, errW_none, errW_some] <;> rfl), by repeat (first | (with_reducible first | exact HB.out | apply below_alloc | apply pw_below_drewN | apply below_drew1 | refine below_set ?_ GE13101.out) | exact HB.out)⟩
def slices_Clone_int_int.f (l0 : List Int) : Option (List Int) := if l0.length < 17592186044416 then some l0 else none
set_option maxHeartbeats 1000000 in
set_option maxRecDepth 100000 in
theorem slices_Clone_int_int.calls (A0 : Option Addr) (c0 : Nat) (l0 : List Int) (r : List Int) (w : World) (hr0 : Kd.C (Kd.int .i64) w A0 l0.length l0) (hc0 : l0.length ≤ c0) (h : slices_Clone_int_int.f l0 = some r) :
  Calls Try.prog 46 #[.slice A0 l0.length c0] w fun e w' => ∃ v0_ : Value, e = .returned v0_ ∧ Kd.R (Kd.int .i64) 3 w' w.heap.size (fun _ => True) v0_ r ∧ Below w.heap.size w w' := by
 unfold slices_Clone_int_int.f at h
 by_cases hlt : l0.length < 17592186044416
 ·rw [if_pos hlt] at h
  obtain rfl := Option.some.inj h
  have hq : ∀ W, (binOp .eql 25 (.slice A0 l0.length c0) (.slice none 0 0)).run Try.prog W = .ok (.bool A0.isNone) W := fun W => Lib.run_eql_slice_nil (P := Try.prog) W 25 3 A0 l0.length c0 0 0 Try.underlying25
  have HR := Lib.hid hr0
  have HC := Lib.hid hc0
  have HB := Lib.hid (Below.refl w.heap.size w)
  have HL := Lib.hid hlt
  clear hr0 hc0 hlt h
  cases A0 with
  | none =>
   have hl : l0 = [] := by
    cases l0 with
    | nil => rfl
    | cons x l =>
     obtain ⟨ad, c, e, _⟩ := Kd.C_get HR.out (0 : Int) 0 (by omega) (by simp)
     exact absurd e (by simp)
   subst hl
   have hq : ∀ W, (binOp .eql 25 (.slice none 0 c0) (.slice none 0 0)).run Try.prog W = .ok (.bool true) W := fun W => Lib.run_eql_slice_nil (P := Try.prog) W 25 3 none 0 c0 0 0 Try.underlying25
   go_enter Try.func46, Try.ntmps46
   go_wp2
   go_ret
   exact ⟨_, rfl, Kd.R_nil _ _ _ _ _, Below.refl _ _⟩
  | some ad =>
   go_enter Try.func46, Try.ntmps46
   go_wp2_with (first | ((with_reducible refine gate_dst (N := 5) rfl ?_); refine Kd.R_lit (Kd.int .i64) _ 3 ?hg (N := 5) ?hd (xs := ([] : List Int)) (inner := []) (ok := fun _ => True) (okp := fun _ => True) ?hr ?hp (fun _ hk => hk) trivial (Below.refl _ _) (Nat.le_refl _) (by simp) ?_; (case hd => rfl); (case hg => rfl); (case hr => first | (go_simp; done) | (go_simp; rfl)); (case hp => exact (Reps.none _ _)); intro v1 w1 ho hb hg_ hnew_; have HO := Lib.hid ho; have HB1 := Lib.hid (below_then HB.out (Nat.le_refl _) hb); clear hg_ hnew_ ho hb) | ((with_reducible refine gate_builtin (b := .append) (xs := #[.tmp 5, .tmp 6]) rfl ?_); at_builtin; refine Kd.R_append_rows (Kd.int .i64) (w0 := w) w.heap.size rfl (.tmp 5) (.tmp 6) 25 3 (.int .i64 0) 8 rfl Try.underlying25 info3 rfl (by decide) (by omega) v1 ([] : List Int) l0 _ _ _ (fun _ => True) (fun _ => False) rfl rfl ?aO ?aR (fun _ _ h => h) (fun _ h => h.elim) ?aF ?aB ?aS ?aL ?_; (case aR => exact Kd.C_below HR.out HB1.out); (case aB => exact HB1.out); (case aF => exact (fun _ _ => trivial)); (case aO => exact HO.out); (case aS => exact HB1.out.size); (case aL => have := HL.out; simp; omega); intro v2 w2 ho hb hg hat; have HO2 := Lib.hid ho; have HB2 := Lib.hid hb; clear ho hb hg hat))
   go_ret
   exact ⟨_, rfl, HO2.out, HB2.out⟩
 ·rw [if_neg hlt] at h
  exact absurd h (by simp)
def layers_wires.f (a0_0 : Int) (a0_1 : Int) (l0_2 : List Int) (a0_3 : Int) (a0_4 : Int) (a0_5 : Int) : Option (List Int) := (slices_Clone_int_int.f l0_2).bind fun t15602 => (if a0_0 = 2 then (if t15602.length < 17592186044416 then ((some (t15602 ++ [wrap64 (64 + a0_3)] : List Int)).bind fun y15605 => (if a0_4 ≥ 0 then (if y15605.length < 17592186044416 then (some (y15605 ++ [wrap64 (64 + a0_4)])) else (none)) else (some y15605))) else (none)) else (if a0_4 ≥ 0 then (if t15602.length < 17592186044416 then (some (t15602 ++ [wrap64 (64 + a0_4)])) else (none)) else (some t15602)))
set_option maxHeartbeats 8000000 in
set_option maxRecDepth 100000 in
theorem layers_wires.calls (a0_0 : Int) (a0_1 : Int) (A0_2 : Option Addr) (c0_2 : Nat) (l0_2 : List Int) (a0_3 : Int) (a0_4 : Int) (a0_5 : Int) (r : List Int) (w : World) (hr0_2 : Kd.C (Kd.int .i64) w A0_2 l0_2.length l0_2) (hc0_2 : l0_2.length ≤ c0_2) (h : layers_wires.f a0_0 a0_1 l0_2 a0_3 a0_4 a0_5 = some r) :
  Calls Try.prog 31 #[.agg #[.int .i64 a0_0, .int .i64 a0_1, .slice A0_2 l0_2.length c0_2, .int .i64 a0_3, .int .i64 a0_4, .int .i64 a0_5]] w fun e w' => ∃ v0_ : Value, e = .returned (v0_) ∧ Kd.R (Kd.int .i64) 3 w' w.heap.size (fun _ => True) v0_ r ∧ Below w.heap.size w w' := by
 have hu57 := Try.underlying57
 have HR0_2 := Aside0.mk hr0_2
 have HC0_2 := Aside0.mk hc0_2
 clear hr0_2 hc0_2
 have HB := Aside0.mk (Below.refl w.heap.size w)
 have H : ((slices_Clone_int_int.f l0_2).bind fun t15602 => (if a0_0 = 2 then (if t15602.length < 17592186044416 then ((some (t15602 ++ [wrap64 (64 + a0_3)] : List Int)).bind fun y15605 => (if a0_4 ≥ 0 then (if y15605.length < 17592186044416 then (some (y15605 ++ [wrap64 (64 + a0_4)])) else (none)) else (some y15605))) else (none)) else (if a0_4 ≥ 0 then (if t15602.length < 17592186044416 then (some (t15602 ++ [wrap64 (64 + a0_4)])) else (none)) else (some t15602)))) = some r := h
 clear h
 replace H := Option.bind_eq_some_iff.mp H
 obtain ⟨t15602, A20, H⟩ := H
 replace H : (if a0_0 = 2 then (if t15602.length < 17592186044416 then ((some (t15602 ++ [wrap64 (64 + a0_3)] : List Int)).bind fun y15605 => (if a0_4 ≥ 0 then (if y15605.length < 17592186044416 then (some (y15605 ++ [wrap64 (64 + a0_4)])) else (none)) else (some y15605))) else (none)) else (if a0_4 ≥ 0 then (if t15602.length < 17592186044416 then (some (t15602 ++ [wrap64 (64 + a0_4)])) else (none)) else (some t15602))) = some r := H
 have A2 := Aside0.mk A20
 clear A20
 by_cases c3 : a0_0 = 2
 ·rw [if_pos c3] at H
  have c3b0 : (a0_0 == 2) = true := beq_iff_eq.mpr c3
  have c3b1 : (a0_0 != 2) = false := bne_eq_false_iff_eq.mpr c3
  clear c3
  by_cases c4 : t15602.length < 17592186044416
  ·rw [if_pos c4] at H
   have LMc4 := Aside0.mk c4
   clear c4
   obtain ⟨y15605, hy15605⟩ : ∃ y_ : List Int, y_ = (t15602 ++ [wrap64 (64 + a0_3)]) := ⟨_, rfl⟩
   replace H : (if a0_4 ≥ 0 then (if y15605.length < 17592186044416 then (some (y15605 ++ [wrap64 (64 + a0_4)])) else (none)) else (some y15605)) = some r := by first | (rw [hy15605]; with_reducible exact H) | (have H2_ := (Option.bind_some _ _).symm.trans H; rw [hy15605]; with_reducible exact H2_) | (have H2_ := (Option.bind_some _ _).symm.trans H; with_reducible exact H2_) | with_reducible exact H | (rw [hy15605]; exact H) | exact H
   have Ny15605 := Aside0.mk hy15605
   clear hy15605
   by_cases c5 : a0_4 ≥ 0
   ·rw [if_pos c5] at H
    have c5b0 : decide (0 ≤ a0_4) = true := decide_eq_true c5
    clear c5
    by_cases c6 : y15605.length < 17592186044416
    ·rw [if_pos c6] at H
     have LMc6 := Aside0.mk c6
     clear c6
     obtain ⟨y15608, hy15608⟩ : ∃ y_ : List Int, y_ = (y15605 ++ [wrap64 (64 + a0_4)]) := ⟨_, rfl⟩
     replace H : (some y15608) = some r := by first | (rw [hy15608]; with_reducible exact H) | (have H2_ := (Option.bind_some _ _).symm.trans H; rw [hy15608]; with_reducible exact H2_) | (have H2_ := (Option.bind_some _ _).symm.trans H; with_reducible exact H2_) | with_reducible exact H | (rw [hy15608]; exact H) | exact H
     have Ny15608 := Aside0.mk hy15608
     clear hy15608
     obtain rfl := Option.some.inj H
     go_enter Try.func31, Try.ntmps31
     go_wp2_with (first | ((with_reducible refine gate_dst (N := 1) rfl ?_); refine box_event ?hg (N := 1) ?hd (cs := #[.int .i64 a0_0, .int .i64 a0_1, .slice A0_2 l0_2.length c0_2, .int .i64 a0_3, .int .i64 a0_4, .int .i64 a0_5]) (t := 57) ?hr ?_; (case hd => rfl); (case hg => rfl); (case hr => first | (go_simp; done) | (go_simp; rfl)); intro gb15601 hg w7 hbox hb; have n0_ := Aside0.mk (below_step (by repeat (first | (with_reducible first | exact HB.out | apply below_alloc | apply pw_below_drewN | apply below_drew1) | exact HB.out)) hb); have n1_ := Aside0.mk (hbox); have n2_ := Aside0.mk ((by rw [hg]; exact (below_size (by repeat (first | (with_reducible first | exact HB.out | apply below_alloc | apply pw_below_drewN | apply below_drew1) | exact HB.out))) : w.heap.size ≤ gb15601)); have n3_ := Aside0.mk ((by rw [hg]; exact (below_size (by repeat (first | (with_reducible first | exact HB.out | apply below_alloc | apply pw_below_drewN | apply below_drew1) | exact HB.out))) : w.heap.size ≤ gb15601)); clear HB; have HB := n0_; have BK15601 := n1_; have GW15601 := n2_; have GE15601 := n3_; clear n0_ n1_ n2_ n3_; clear hb hbox hg; have hcz8_0 : w7.cell? ⟨gb15601, 0, none⟩ = some (.int .i64 a0_0) := (blk_cell BK15601.out 0).trans rfl; have hcz8_1 : w7.cell? ⟨gb15601, 1, none⟩ = some (.int .i64 a0_1) := (blk_cell BK15601.out 1).trans rfl; have hcz8_2 : w7.cell? ⟨gb15601, 2, none⟩ = some (.slice A0_2 l0_2.length c0_2) := (blk_cell BK15601.out 2).trans rfl; have hcz8_3 : w7.cell? ⟨gb15601, 3, none⟩ = some (.int .i64 a0_3) := (blk_cell BK15601.out 3).trans rfl; have hcz8_4 : w7.cell? ⟨gb15601, 4, none⟩ = some (.int .i64 a0_4) := (blk_cell BK15601.out 4).trans rfl; have hcz8_5 : w7.cell? ⟨gb15601, 5, none⟩ = some (.int .i64 a0_5) := (blk_cell BK15601.out 5).trans rfl; have hfz8_0 := blk_frozen BK15601.out 0; have hfz8_1 := blk_frozen BK15601.out 1; have hfz8_2 := blk_frozen BK15601.out 2; have hfz8_3 := blk_frozen BK15601.out 3; have hfz8_4 := blk_frozen BK15601.out 4; have hfz8_5 := blk_frozen BK15601.out 5) | ((with_reducible refine gate_callee (f := 46) rfl ?_); refine goesL_ (some 6) rfl rfl Try.func46 (by kernel_rfl) rfl #[.slice A0_2 l0_2.length c0_2] rfl (by (try simp only [List.map_toArray, List.map_cons, List.map_nil]); first | done | rfl | (simp only [List.length_drop, List.length_take]; rfl)) ?_; (with_reducible refine (slices_Clone_int_int.calls _ _ l0_2 t15602 _ ?side1 ?side2 A2.out).mono ?_); (case side1 => repeat (first | exact (Kd.C_below HR0_2.out HB.out) | (with_reducible refine Kd.C_alloc ?_ _) | (with_reducible refine Kd.C_drewN ?_ _) | (with_reducible refine Kd.C_drew ?_))); (case side2 => exact HC0_2.out); rintro e w9 ⟨v15603, rfl, ho0, hb⟩; refine ⟨_, rfl, ?_⟩; have n0_ := Aside0.mk (Kd.R_lower ho0 (below_size (by repeat (first | (with_reducible first | exact HB.out | apply below_alloc | apply pw_below_drewN | apply below_drew1 | refine below_set ?_ GE15601.out) | exact HB.out)))); have n1_ := Aside0.mk (blk_below (g := gb15601) (o := .cells #[.int .i64 a0_0, .int .i64 a0_1, .slice A0_2 l0_2.length c0_2, .int .i64 a0_3, .int .i64 a0_4, .int .i64 a0_5] 57 (0, 0)) (by (with_reducible repeat (first | refine blk_drewN ?_ _ | refine blk_drew ?_ | refine blk_alloc ?_ _)); exact BK15601.out) hb); have n2_ := Aside0.mk (below_step (by repeat (first | (with_reducible first | exact HB.out | apply below_alloc | apply pw_below_drewN | apply below_drew1 | refine below_set ?_ GE15601.out) | exact HB.out)) hb); clear BK15601; clear HB; have HO15604 := n0_; have BK15601 := n1_; have HB := n2_; clear n0_ n1_ n2_; (try clear hb); (try clear hb2); (try clear hk); (try clear hi); (try clear ho0); have hcz10_0 : w9.cell? ⟨gb15601, 0, none⟩ = some (.int .i64 a0_0) := (blk_cell BK15601.out 0).trans rfl; have hcz10_1 : w9.cell? ⟨gb15601, 1, none⟩ = some (.int .i64 a0_1) := (blk_cell BK15601.out 1).trans rfl; have hcz10_2 : w9.cell? ⟨gb15601, 2, none⟩ = some (.slice A0_2 l0_2.length c0_2) := (blk_cell BK15601.out 2).trans rfl; have hcz10_3 : w9.cell? ⟨gb15601, 3, none⟩ = some (.int .i64 a0_3) := (blk_cell BK15601.out 3).trans rfl; have hcz10_4 : w9.cell? ⟨gb15601, 4, none⟩ = some (.int .i64 a0_4) := (blk_cell BK15601.out 4).trans rfl; have hcz10_5 : w9.cell? ⟨gb15601, 5, none⟩ = some (.int .i64 a0_5) := (blk_cell BK15601.out 5).trans rfl; have hfz10_0 := blk_frozen BK15601.out 0; have hfz10_1 := blk_frozen BK15601.out 1; have hfz10_2 := blk_frozen BK15601.out 2; have hfz10_3 := blk_frozen BK15601.out 3; have hfz10_4 := blk_frozen BK15601.out 4; have hfz10_5 := blk_frozen BK15601.out 5) | ((with_reducible refine gate_builtin (b := .append) (xs := #[.tmp 10, .tmp 14]) rfl ?_); at_builtin; refine Kd.R_append (Kd.int .i64) (w0 := w) w.heap.size rfl (.tmp 10) (.tmp 14) 25 3 (.int .i64 0) 8 rfl Try.underlying25 info3 rfl (by decide) (by omega) v15603 t15602 (wrap64 (64 + a0_3)) [.int .i64 (wrap64 (64 + a0_3))] (fun _ => True) (fun _ => False) rfl rfl ?aP (fun _ hk => hk.elim) ?aF ?aO ?aB ?aS ?aL ?_; (case aP => exact rfl); (case aB => exact (by repeat (first | (with_reducible first | exact HB.out | apply below_alloc | apply pw_below_drewN | apply below_drew1 | refine below_set ?_ GE15601.out) | exact HB.out))); (case aF => exact (fun _ _ => trivial)); (case aO => exact (by (with_reducible repeat (first | apply Kd.R_alloc | apply Kd.R_drewN | apply Kd.R_drew)); exact HO15604.out)); (case aS => exact (below_size (by repeat (first | (with_reducible first | exact HB.out | apply below_alloc | apply pw_below_drewN | apply below_drew1 | refine below_set ?_ GE15601.out) | exact HB.out)))); (case aL => have := LMc4.out; omega); intro v15606 w11 ho hb hg hat; rw [← Ny15605.out] at ho; have n0_ := Aside0.mk (blk_grown (g := gb15601) (o := .cells #[.int .i64 a0_0, .int .i64 a0_1, .slice A0_2 l0_2.length c0_2, .int .i64 a0_3, .int .i64 a0_4, .int .i64 a0_5] 57 (0, 0)) (by (with_reducible repeat (first | refine blk_drewN ?_ _ | refine blk_drew ?_ | refine blk_alloc ?_ _)); exact BK15601.out) hg (Kd.R_ne HO15604.out BK15601.out (by decide))); have n1_ := Aside0.mk (hb); have n2_ := Aside0.mk (ho); clear BK15601; clear HB; clear HO15604; have BK15601 := n0_; have HB := n1_; have HO15607 := n2_; clear n0_ n1_ n2_; clear ho hb hg hat; have hcz12_0 : w11.cell? ⟨gb15601, 0, none⟩ = some (.int .i64 a0_0) := (blk_cell BK15601.out 0).trans rfl; have hcz12_1 : w11.cell? ⟨gb15601, 1, none⟩ = some (.int .i64 a0_1) := (blk_cell BK15601.out 1).trans rfl; have hcz12_2 : w11.cell? ⟨gb15601, 2, none⟩ = some (.slice A0_2 l0_2.length c0_2) := (blk_cell BK15601.out 2).trans rfl; have hcz12_3 : w11.cell? ⟨gb15601, 3, none⟩ = some (.int .i64 a0_3) := (blk_cell BK15601.out 3).trans rfl; have hcz12_4 : w11.cell? ⟨gb15601, 4, none⟩ = some (.int .i64 a0_4) := (blk_cell BK15601.out 4).trans rfl; have hcz12_5 : w11.cell? ⟨gb15601, 5, none⟩ = some (.int .i64 a0_5) := (blk_cell BK15601.out 5).trans rfl; have hfz12_0 := blk_frozen BK15601.out 0; have hfz12_1 := blk_frozen BK15601.out 1; have hfz12_2 := blk_frozen BK15601.out 2; have hfz12_3 := blk_frozen BK15601.out 3; have hfz12_4 := blk_frozen BK15601.out 4; have hfz12_5 := blk_frozen BK15601.out 5) | ((with_reducible refine gate_builtin (b := .append) (xs := #[.tmp 19, .tmp 23]) rfl ?_); at_builtin; refine Kd.R_append (Kd.int .i64) (w0 := w) w.heap.size rfl (.tmp 19) (.tmp 23) 25 3 (.int .i64 0) 8 rfl Try.underlying25 info3 rfl (by decide) (by omega) v15606 y15605 (wrap64 (64 + a0_4)) [.int .i64 (wrap64 (64 + a0_4))] (fun _ => True) (fun _ => False) rfl rfl ?aP (fun _ hk => hk.elim) ?aF ?aO ?aB ?aS ?aL ?_; (case aP => exact rfl); (case aB => exact (by repeat (first | (with_reducible first | exact HB.out | apply below_alloc | apply pw_below_drewN | apply below_drew1 | refine below_set ?_ GE15601.out) | exact HB.out))); (case aF => exact (fun _ _ => trivial)); (case aO => exact (by (with_reducible repeat (first | apply Kd.R_alloc | apply Kd.R_drewN | apply Kd.R_drew)); exact HO15607.out)); (case aS => exact (below_size (by repeat (first | (with_reducible first | exact HB.out | apply below_alloc | apply pw_below_drewN | apply below_drew1 | refine below_set ?_ GE15601.out) | exact HB.out)))); (case aL => have := LMc6.out; omega); intro v15609 w13 ho hb hg hat; rw [← Ny15608.out] at ho; have n0_ := Aside0.mk (blk_grown (g := gb15601) (o := .cells #[.int .i64 a0_0, .int .i64 a0_1, .slice A0_2 l0_2.length c0_2, .int .i64 a0_3, .int .i64 a0_4, .int .i64 a0_5] 57 (0, 0)) (by (with_reducible repeat (first | refine blk_drewN ?_ _ | refine blk_drew ?_ | refine blk_alloc ?_ _)); exact BK15601.out) hg (Kd.R_ne HO15607.out BK15601.out (by decide))); have n1_ := Aside0.mk (hb); have n2_ := Aside0.mk (ho); clear BK15601; clear HB; clear HO15607; have BK15601 := n0_; have HB := n1_; have HO15610 := n2_; clear n0_ n1_ n2_; clear ho hb hg hat))
     go_ret
     exact ⟨_, by first | rfl | (simp [errW_none, errW_some] <;> rfl) | (simp [*, errW_none, errW_some] <;> rfl), by (with_reducible repeat (first | apply Kd.R_alloc | apply Kd.R_drewN | apply Kd.R_drew)); exact HO15610.out, by repeat (first | (with_reducible first | exact HB.out | apply below_alloc | apply pw_below_drewN | apply below_drew1 | refine below_set ?_ GE15601.out) | exact HB.out)⟩
    ·rw [if_neg c6] at H
     exact absurd H (by simp)
   ·rw [if_neg c5] at H
    have c5b0 : decide (0 ≤ a0_4) = false := decide_eq_false c5
    clear c5
    obtain rfl := Option.some.inj H
    go_enter Try.func31, Try.ntmps31
    go_wp2_with (first | ((with_reducible refine gate_dst (N := 1) rfl ?_); refine box_event ?hg (N := 1) ?hd (cs := #[.int .i64 a0_0, .int .i64 a0_1, .slice A0_2 l0_2.length c0_2, .int .i64 a0_3, .int .i64 a0_4, .int .i64 a0_5]) (t := 57) ?hr ?_; (case hd => rfl); (case hg => rfl); (case hr => first | (go_simp; done) | (go_simp; rfl)); intro gb15601 hg w14 hbox hb; have n0_ := Aside0.mk (below_step (by repeat (first | (with_reducible first | exact HB.out | apply below_alloc | apply pw_below_drewN | apply below_drew1) | exact HB.out)) hb); have n1_ := Aside0.mk (hbox); have n2_ := Aside0.mk ((by rw [hg]; exact (below_size (by repeat (first | (with_reducible first | exact HB.out | apply below_alloc | apply pw_below_drewN | apply below_drew1) | exact HB.out))) : w.heap.size ≤ gb15601)); have n3_ := Aside0.mk ((by rw [hg]; exact (below_size (by repeat (first | (with_reducible first | exact HB.out | apply below_alloc | apply pw_below_drewN | apply below_drew1) | exact HB.out))) : w.heap.size ≤ gb15601)); clear HB; have HB := n0_; have BK15601 := n1_; have GW15601 := n2_; have GE15601 := n3_; clear n0_ n1_ n2_ n3_; clear hb hbox hg; have hcz15_0 : w14.cell? ⟨gb15601, 0, none⟩ = some (.int .i64 a0_0) := (blk_cell BK15601.out 0).trans rfl; have hcz15_1 : w14.cell? ⟨gb15601, 1, none⟩ = some (.int .i64 a0_1) := (blk_cell BK15601.out 1).trans rfl; have hcz15_2 : w14.cell? ⟨gb15601, 2, none⟩ = some (.slice A0_2 l0_2.length c0_2) := (blk_cell BK15601.out 2).trans rfl; have hcz15_3 : w14.cell? ⟨gb15601, 3, none⟩ = some (.int .i64 a0_3) := (blk_cell BK15601.out 3).trans rfl; have hcz15_4 : w14.cell? ⟨gb15601, 4, none⟩ = some (.int .i64 a0_4) := (blk_cell BK15601.out 4).trans rfl; have hcz15_5 : w14.cell? ⟨gb15601, 5, none⟩ = some (.int .i64 a0_5) := (blk_cell BK15601.out 5).trans rfl; have hfz15_0 := blk_frozen BK15601.out 0; have hfz15_1 := blk_frozen BK15601.out 1; have hfz15_2 := blk_frozen BK15601.out 2; have hfz15_3 := blk_frozen BK15601.out 3; have hfz15_4 := blk_frozen BK15601.out 4; have hfz15_5 := blk_frozen BK15601.out 5) | ((with_reducible refine gate_callee (f := 46) rfl ?_); refine goesL_ (some 6) rfl rfl Try.func46 (by kernel_rfl) rfl #[.slice A0_2 l0_2.length c0_2] rfl (by (try simp only [List.map_toArray, List.map_cons, List.map_nil]); first | done | rfl | (simp only [List.length_drop, List.length_take]; rfl)) ?_; (with_reducible refine (slices_Clone_int_int.calls _ _ l0_2 t15602 _ ?side1 ?side2 A2.out).mono ?_); (case side1 => repeat (first | exact (Kd.C_below HR0_2.out HB.out) | (with_reducible refine Kd.C_alloc ?_ _) | (with_reducible refine Kd.C_drewN ?_ _) | (with_reducible refine Kd.C_drew ?_))); (case side2 => exact HC0_2.out); rintro e w16 ⟨v15603, rfl, ho0, hb⟩; refine ⟨_, rfl, ?_⟩; have n0_ := Aside0.mk (Kd.R_lower ho0 (below_size (by repeat (first | (with_reducible first | exact HB.out | apply below_alloc | apply pw_below_drewN | apply below_drew1 | refine below_set ?_ GE15601.out) | exact HB.out)))); have n1_ := Aside0.mk (blk_below (g := gb15601) (o := .cells #[.int .i64 a0_0, .int .i64 a0_1, .slice A0_2 l0_2.length c0_2, .int .i64 a0_3, .int .i64 a0_4, .int .i64 a0_5] 57 (0, 0)) (by (with_reducible repeat (first | refine blk_drewN ?_ _ | refine blk_drew ?_ | refine blk_alloc ?_ _)); exact BK15601.out) hb); have n2_ := Aside0.mk (below_step (by repeat (first | (with_reducible first | exact HB.out | apply below_alloc | apply pw_below_drewN | apply below_drew1 | refine below_set ?_ GE15601.out) | exact HB.out)) hb); clear BK15601; clear HB; have HO15604 := n0_; have BK15601 := n1_; have HB := n2_; clear n0_ n1_ n2_; (try clear hb); (try clear hb2); (try clear hk); (try clear hi); (try clear ho0); have hcz17_0 : w16.cell? ⟨gb15601, 0, none⟩ = some (.int .i64 a0_0) := (blk_cell BK15601.out 0).trans rfl; have hcz17_1 : w16.cell? ⟨gb15601, 1, none⟩ = some (.int .i64 a0_1) := (blk_cell BK15601.out 1).trans rfl; have hcz17_2 : w16.cell? ⟨gb15601, 2, none⟩ = some (.slice A0_2 l0_2.length c0_2) := (blk_cell BK15601.out 2).trans rfl; have hcz17_3 : w16.cell? ⟨gb15601, 3, none⟩ = some (.int .i64 a0_3) := (blk_cell BK15601.out 3).trans rfl; have hcz17_4 : w16.cell? ⟨gb15601, 4, none⟩ = some (.int .i64 a0_4) := (blk_cell BK15601.out 4).trans rfl; have hcz17_5 : w16.cell? ⟨gb15601, 5, none⟩ = some (.int .i64 a0_5) := (blk_cell BK15601.out 5).trans rfl; have hfz17_0 := blk_frozen BK15601.out 0; have hfz17_1 := blk_frozen BK15601.out 1; have hfz17_2 := blk_frozen BK15601.out 2; have hfz17_3 := blk_frozen BK15601.out 3; have hfz17_4 := blk_frozen BK15601.out 4; have hfz17_5 := blk_frozen BK15601.out 5) | ((with_reducible refine gate_builtin (b := .append) (xs := #[.tmp 10, .tmp 14]) rfl ?_); at_builtin; refine Kd.R_append (Kd.int .i64) (w0 := w) w.heap.size rfl (.tmp 10) (.tmp 14) 25 3 (.int .i64 0) 8 rfl Try.underlying25 info3 rfl (by decide) (by omega) v15603 t15602 (wrap64 (64 + a0_3)) [.int .i64 (wrap64 (64 + a0_3))] (fun _ => True) (fun _ => False) rfl rfl ?aP (fun _ hk => hk.elim) ?aF ?aO ?aB ?aS ?aL ?_; (case aP => exact rfl); (case aB => exact (by repeat (first | (with_reducible first | exact HB.out | apply below_alloc | apply pw_below_drewN | apply below_drew1 | refine below_set ?_ GE15601.out) | exact HB.out))); (case aF => exact (fun _ _ => trivial)); (case aO => exact (by (with_reducible repeat (first | apply Kd.R_alloc | apply Kd.R_drewN | apply Kd.R_drew)); exact HO15604.out)); (case aS => exact (below_size (by repeat (first | (with_reducible first | exact HB.out | apply below_alloc | apply pw_below_drewN | apply below_drew1 | refine below_set ?_ GE15601.out) | exact HB.out)))); (case aL => have := LMc4.out; omega); intro v15606 w18 ho hb hg hat; rw [← Ny15605.out] at ho; have n0_ := Aside0.mk (blk_grown (g := gb15601) (o := .cells #[.int .i64 a0_0, .int .i64 a0_1, .slice A0_2 l0_2.length c0_2, .int .i64 a0_3, .int .i64 a0_4, .int .i64 a0_5] 57 (0, 0)) (by (with_reducible repeat (first | refine blk_drewN ?_ _ | refine blk_drew ?_ | refine blk_alloc ?_ _)); exact BK15601.out) hg (Kd.R_ne HO15604.out BK15601.out (by decide))); have n1_ := Aside0.mk (hb); have n2_ := Aside0.mk (ho); clear BK15601; clear HB; clear HO15604; have BK15601 := n0_; have HB := n1_; have HO15607 := n2_; clear n0_ n1_ n2_; clear ho hb hg hat; have hcz19_0 : w18.cell? ⟨gb15601, 0, none⟩ = some (.int .i64 a0_0) := (blk_cell BK15601.out 0).trans rfl; have hcz19_1 : w18.cell? ⟨gb15601, 1, none⟩ = some (.int .i64 a0_1) := (blk_cell BK15601.out 1).trans rfl; have hcz19_2 : w18.cell? ⟨gb15601, 2, none⟩ = some (.slice A0_2 l0_2.length c0_2) := (blk_cell BK15601.out 2).trans rfl; have hcz19_3 : w18.cell? ⟨gb15601, 3, none⟩ = some (.int .i64 a0_3) := (blk_cell BK15601.out 3).trans rfl; have hcz19_4 : w18.cell? ⟨gb15601, 4, none⟩ = some (.int .i64 a0_4) := (blk_cell BK15601.out 4).trans rfl; have hcz19_5 : w18.cell? ⟨gb15601, 5, none⟩ = some (.int .i64 a0_5) := (blk_cell BK15601.out 5).trans rfl; have hfz19_0 := blk_frozen BK15601.out 0; have hfz19_1 := blk_frozen BK15601.out 1; have hfz19_2 := blk_frozen BK15601.out 2; have hfz19_3 := blk_frozen BK15601.out 3; have hfz19_4 := blk_frozen BK15601.out 4; have hfz19_5 := blk_frozen BK15601.out 5))
    go_ret
    exact ⟨_, by first | rfl | (simp [errW_none, errW_some] <;> rfl) | (simp [*, errW_none, errW_some] <;> rfl), by (with_reducible repeat (first | apply Kd.R_alloc | apply Kd.R_drewN | apply Kd.R_drew)); exact HO15607.out, by repeat (first | (with_reducible first | exact HB.out | apply below_alloc | apply pw_below_drewN | apply below_drew1 | refine below_set ?_ GE15601.out) | exact HB.out)⟩
  ·rw [if_neg c4] at H
   exact absurd H (by simp)
 ·rw [if_neg c3] at H
  have c3b0 : (a0_0 == 2) = false := beq_eq_false_iff_ne.mpr c3
  have c3b1 : (a0_0 != 2) = true := bne_iff_ne.mpr c3
  by_cases c20 : a0_4 ≥ 0
  ·rw [if_pos c20] at H
   have c20b0 : decide (0 ≤ a0_4) = true := decide_eq_true c20
   clear c20
   by_cases c21 : t15602.length < 17592186044416
   ·rw [if_pos c21] at H
    have LMc21 := Aside0.mk c21
    clear c21
    obtain ⟨y15611, hy15611⟩ : ∃ y_ : List Int, y_ = (t15602 ++ [wrap64 (64 + a0_4)]) := ⟨_, rfl⟩
    replace H : (some y15611) = some r := by first | (rw [hy15611]; with_reducible exact H) | (have H2_ := (Option.bind_some _ _).symm.trans H; rw [hy15611]; with_reducible exact H2_) | (have H2_ := (Option.bind_some _ _).symm.trans H; with_reducible exact H2_) | with_reducible exact H | (rw [hy15611]; exact H) | exact H
    have Ny15611 := Aside0.mk hy15611
    clear hy15611
    obtain rfl := Option.some.inj H
    go_enter Try.func31, Try.ntmps31
    go_wp2_with (first | ((with_reducible refine gate_dst (N := 1) rfl ?_); refine box_event ?hg (N := 1) ?hd (cs := #[.int .i64 a0_0, .int .i64 a0_1, .slice A0_2 l0_2.length c0_2, .int .i64 a0_3, .int .i64 a0_4, .int .i64 a0_5]) (t := 57) ?hr ?_; (case hd => rfl); (case hg => rfl); (case hr => first | (go_simp; done) | (go_simp; rfl)); intro gb15601 hg w22 hbox hb; have n0_ := Aside0.mk (below_step (by repeat (first | (with_reducible first | exact HB.out | apply below_alloc | apply pw_below_drewN | apply below_drew1) | exact HB.out)) hb); have n1_ := Aside0.mk (hbox); have n2_ := Aside0.mk ((by rw [hg]; exact (below_size (by repeat (first | (with_reducible first | exact HB.out | apply below_alloc | apply pw_below_drewN | apply below_drew1) | exact HB.out))) : w.heap.size ≤ gb15601)); have n3_ := Aside0.mk ((by rw [hg]; exact (below_size (by repeat (first | (with_reducible first | exact HB.out | apply below_alloc | apply pw_below_drewN | apply below_drew1) | exact HB.out))) : w.heap.size ≤ gb15601)); clear HB; have HB := n0_; have BK15601 := n1_; have GW15601 := n2_; have GE15601 := n3_; clear n0_ n1_ n2_ n3_; clear hb hbox hg; have hcz23_0 : w22.cell? ⟨gb15601, 0, none⟩ = some (.int .i64 a0_0) := (blk_cell BK15601.out 0).trans rfl; have hcz23_1 : w22.cell? ⟨gb15601, 1, none⟩ = some (.int .i64 a0_1) := (blk_cell BK15601.out 1).trans rfl; have hcz23_2 : w22.cell? ⟨gb15601, 2, none⟩ = some (.slice A0_2 l0_2.length c0_2) := (blk_cell BK15601.out 2).trans rfl; have hcz23_3 : w22.cell? ⟨gb15601, 3, none⟩ = some (.int .i64 a0_3) := (blk_cell BK15601.out 3).trans rfl; have hcz23_4 : w22.cell? ⟨gb15601, 4, none⟩ = some (.int .i64 a0_4) := (blk_cell BK15601.out 4).trans rfl; have hcz23_5 : w22.cell? ⟨gb15601, 5, none⟩ = some (.int .i64 a0_5) := (blk_cell BK15601.out 5).trans rfl; have hfz23_0 := blk_frozen BK15601.out 0; have hfz23_1 := blk_frozen BK15601.out 1; have hfz23_2 := blk_frozen BK15601.out 2; have hfz23_3 := blk_frozen BK15601.out 3; have hfz23_4 := blk_frozen BK15601.out 4; have hfz23_5 := blk_frozen BK15601.out 5) | ((with_reducible refine gate_callee (f := 46) rfl ?_); refine goesL_ (some 6) rfl rfl Try.func46 (by kernel_rfl) rfl #[.slice A0_2 l0_2.length c0_2] rfl (by (try simp only [List.map_toArray, List.map_cons, List.map_nil]); first | done | rfl | (simp only [List.length_drop, List.length_take]; rfl)) ?_; (with_reducible refine (slices_Clone_int_int.calls _ _ l0_2 t15602 _ ?side1 ?side2 A2.out).mono ?_); (case side1 => repeat (first | exact (Kd.C_below HR0_2.out HB.out) | (with_reducible refine Kd.C_alloc ?_ _) | (with_reducible refine Kd.C_drewN ?_ _) | (with_reducible refine Kd.C_drew ?_))); (case side2 => exact HC0_2.out); rintro e w24 ⟨v15603, rfl, ho0, hb⟩; refine ⟨_, rfl, ?_⟩; have n0_ := Aside0.mk (Kd.R_lower ho0 (below_size (by repeat (first | (with_reducible first | exact HB.out | apply below_alloc | apply pw_below_drewN | apply below_drew1 | refine below_set ?_ GE15601.out) | exact HB.out)))); have n1_ := Aside0.mk (blk_below (g := gb15601) (o := .cells #[.int .i64 a0_0, .int .i64 a0_1, .slice A0_2 l0_2.length c0_2, .int .i64 a0_3, .int .i64 a0_4, .int .i64 a0_5] 57 (0, 0)) (by (with_reducible repeat (first | refine blk_drewN ?_ _ | refine blk_drew ?_ | refine blk_alloc ?_ _)); exact BK15601.out) hb); have n2_ := Aside0.mk (below_step (by repeat (first | (with_reducible first | exact HB.out | apply below_alloc | apply pw_below_drewN | apply below_drew1 | refine below_set ?_ GE15601.out) | exact HB.out)) hb); clear BK15601; clear HB; have HO15604 := n0_; have BK15601 := n1_; have HB := n2_; clear n0_ n1_ n2_; (try clear hb); (try clear hb2); (try clear hk); (try clear hi); (try clear ho0); have hcz25_0 : w24.cell? ⟨gb15601, 0, none⟩ = some (.int .i64 a0_0) := (blk_cell BK15601.out 0).trans rfl; have hcz25_1 : w24.cell? ⟨gb15601, 1, none⟩ = some (.int .i64 a0_1) := (blk_cell BK15601.out 1).trans rfl; have hcz25_2 : w24.cell? ⟨gb15601, 2, none⟩ = some (.slice A0_2 l0_2.length c0_2) := (blk_cell BK15601.out 2).trans rfl; have hcz25_3 : w24.cell? ⟨gb15601, 3, none⟩ = some (.int .i64 a0_3) := (blk_cell BK15601.out 3).trans rfl; have hcz25_4 : w24.cell? ⟨gb15601, 4, none⟩ = some (.int .i64 a0_4) := (blk_cell BK15601.out 4).trans rfl; have hcz25_5 : w24.cell? ⟨gb15601, 5, none⟩ = some (.int .i64 a0_5) := (blk_cell BK15601.out 5).trans rfl; have hfz25_0 := blk_frozen BK15601.out 0; have hfz25_1 := blk_frozen BK15601.out 1; have hfz25_2 := blk_frozen BK15601.out 2; have hfz25_3 := blk_frozen BK15601.out 3; have hfz25_4 := blk_frozen BK15601.out 4; have hfz25_5 := blk_frozen BK15601.out 5) | ((with_reducible refine gate_builtin (b := .append) (xs := #[.tmp 19, .tmp 23]) rfl ?_); at_builtin; refine Kd.R_append (Kd.int .i64) (w0 := w) w.heap.size rfl (.tmp 19) (.tmp 23) 25 3 (.int .i64 0) 8 rfl Try.underlying25 info3 rfl (by decide) (by omega) v15603 t15602 (wrap64 (64 + a0_4)) [.int .i64 (wrap64 (64 + a0_4))] (fun _ => True) (fun _ => False) rfl rfl ?aP (fun _ hk => hk.elim) ?aF ?aO ?aB ?aS ?aL ?_; (case aP => exact rfl); (case aB => exact (by repeat (first | (with_reducible first | exact HB.out | apply below_alloc | apply pw_below_drewN | apply below_drew1 | refine below_set ?_ GE15601.out) | exact HB.out))); (case aF => exact (fun _ _ => trivial)); (case aO => exact (by (with_reducible repeat (first | apply Kd.R_alloc | apply Kd.R_drewN | apply Kd.R_drew)); exact HO15604.out)); (case aS => exact (below_size (by repeat (first | (with_reducible first | exact HB.out | apply below_alloc | apply pw_below_drewN | apply below_drew1 | refine below_set ?_ GE15601.out) | exact HB.out)))); (case aL => have := LMc21.out; omega); intro v15612 w26 ho hb hg hat; rw [← Ny15611.out] at ho; have n0_ := Aside0.mk (blk_grown (g := gb15601) (o := .cells #[.int .i64 a0_0, .int .i64 a0_1, .slice A0_2 l0_2.length c0_2, .int .i64 a0_3, .int .i64 a0_4, .int .i64 a0_5] 57 (0, 0)) (by (with_reducible repeat (first | refine blk_drewN ?_ _ | refine blk_drew ?_ | refine blk_alloc ?_ _)); exact BK15601.out) hg (Kd.R_ne HO15604.out BK15601.out (by decide))); have n1_ := Aside0.mk (hb); have n2_ := Aside0.mk (ho); clear BK15601; clear HB; clear HO15604; have BK15601 := n0_; have HB := n1_; have HO15613 := n2_; clear n0_ n1_ n2_; clear ho hb hg hat))
    go_ret
    exact ⟨_, by first | rfl | (simp [errW_none, errW_some] <;> rfl) | (simp [*, errW_none, errW_some] <;> rfl), by (with_reducible repeat (first | apply Kd.R_alloc | apply Kd.R_drewN | apply Kd.R_drew)); exact HO15613.out, by repeat (first | (with_reducible first | exact HB.out | apply below_alloc | apply pw_below_drewN | apply below_drew1 | refine below_set ?_ GE15601.out) | exact HB.out)⟩
   ·rw [if_neg c21] at H
    exact absurd H (by simp)
  ·rw [if_neg c20] at H
   have c20b0 : decide (0 ≤ a0_4) = false := decide_eq_false c20
   clear c20
   obtain rfl := Option.some.inj H
   go_enter Try.func31, Try.ntmps31
   go_wp2_with (first | ((with_reducible refine gate_dst (N := 1) rfl ?_); refine box_event ?hg (N := 1) ?hd (cs := #[.int .i64 a0_0, .int .i64 a0_1, .slice A0_2 l0_2.length c0_2, .int .i64 a0_3, .int .i64 a0_4, .int .i64 a0_5]) (t := 57) ?hr ?_; (case hd => rfl); (case hg => rfl); (case hr => first | (go_simp; done) | (go_simp; rfl)); intro gb15601 hg w27 hbox hb; have n0_ := Aside0.mk (below_step (by repeat (first | (with_reducible first | exact HB.out | apply below_alloc | apply pw_below_drewN | apply below_drew1) | exact HB.out)) hb); have n1_ := Aside0.mk (hbox); have n2_ := Aside0.mk ((by rw [hg]; exact (below_size (by repeat (first | (with_reducible first | exact HB.out | apply below_alloc | apply pw_below_drewN | apply below_drew1) | exact HB.out))) : w.heap.size ≤ gb15601)); have n3_ := Aside0.mk ((by rw [hg]; exact (below_size (by repeat (first | (with_reducible first | exact HB.out | apply below_alloc | apply pw_below_drewN | apply below_drew1) | exact HB.out))) : w.heap.size ≤ gb15601)); clear HB; have HB := n0_; have BK15601 := n1_; have GW15601 := n2_; have GE15601 := n3_; clear n0_ n1_ n2_ n3_; clear hb hbox hg; have hcz28_0 : w27.cell? ⟨gb15601, 0, none⟩ = some (.int .i64 a0_0) := (blk_cell BK15601.out 0).trans rfl; have hcz28_1 : w27.cell? ⟨gb15601, 1, none⟩ = some (.int .i64 a0_1) := (blk_cell BK15601.out 1).trans rfl; have hcz28_2 : w27.cell? ⟨gb15601, 2, none⟩ = some (.slice A0_2 l0_2.length c0_2) := (blk_cell BK15601.out 2).trans rfl; have hcz28_3 : w27.cell? ⟨gb15601, 3, none⟩ = some (.int .i64 a0_3) := (blk_cell BK15601.out 3).trans rfl; have hcz28_4 : w27.cell? ⟨gb15601, 4, none⟩ = some (.int .i64 a0_4) := (blk_cell BK15601.out 4).trans rfl; have hcz28_5 : w27.cell? ⟨gb15601, 5, none⟩ = some (.int .i64 a0_5) := (blk_cell BK15601.out 5).trans rfl; have hfz28_0 := blk_frozen BK15601.out 0; have hfz28_1 := blk_frozen BK15601.out 1; have hfz28_2 := blk_frozen BK15601.out 2; have hfz28_3 := blk_frozen BK15601.out 3; have hfz28_4 := blk_frozen BK15601.out 4; have hfz28_5 := blk_frozen BK15601.out 5) | ((with_reducible refine gate_callee (f := 46) rfl ?_); refine goesL_ (some 6) rfl rfl Try.func46 (by kernel_rfl) rfl #[.slice A0_2 l0_2.length c0_2] rfl (by (try simp only [List.map_toArray, List.map_cons, List.map_nil]); first | done | rfl | (simp only [List.length_drop, List.length_take]; rfl)) ?_; (with_reducible refine (slices_Clone_int_int.calls _ _ l0_2 t15602 _ ?side1 ?side2 A2.out).mono ?_); (case side1 => repeat (first | exact (Kd.C_below HR0_2.out HB.out) | (with_reducible refine Kd.C_alloc ?_ _) | (with_reducible refine Kd.C_drewN ?_ _) | (with_reducible refine Kd.C_drew ?_))); (case side2 => exact HC0_2.out); rintro e w29 ⟨v15603, rfl, ho0, hb⟩; refine ⟨_, rfl, ?_⟩; have n0_ := Aside0.mk (Kd.R_lower ho0 (below_size (by repeat (first | (with_reducible first | exact HB.out | apply below_alloc | apply pw_below_drewN | apply below_drew1 | refine below_set ?_ GE15601.out) | exact HB.out)))); have n1_ := Aside0.mk (blk_below (g := gb15601) (o := .cells #[.int .i64 a0_0, .int .i64 a0_1, .slice A0_2 l0_2.length c0_2, .int .i64 a0_3, .int .i64 a0_4, .int .i64 a0_5] 57 (0, 0)) (by (with_reducible repeat (first | refine blk_drewN ?_ _ | refine blk_drew ?_ | refine blk_alloc ?_ _)); exact BK15601.out) hb); have n2_ := Aside0.mk (below_step (by repeat (first | (with_reducible first | exact HB.out | apply below_alloc | apply pw_below_drewN | apply below_drew1 | refine below_set ?_ GE15601.out) | exact HB.out)) hb); clear BK15601; clear HB; have HO15604 := n0_; have BK15601 := n1_; have HB := n2_; clear n0_ n1_ n2_; (try clear hb); (try clear hb2); (try clear hk); (try clear hi); (try clear ho0); have hcz30_0 : w29.cell? ⟨gb15601, 0, none⟩ = some (.int .i64 a0_0) := (blk_cell BK15601.out 0).trans rfl; have hcz30_1 : w29.cell? ⟨gb15601, 1, none⟩ = some (.int .i64 a0_1) := (blk_cell BK15601.out 1).trans rfl; have hcz30_2 : w29.cell? ⟨gb15601, 2, none⟩ = some (.slice A0_2 l0_2.length c0_2) := (blk_cell BK15601.out 2).trans rfl; have hcz30_3 : w29.cell? ⟨gb15601, 3, none⟩ = some (.int .i64 a0_3) := (blk_cell BK15601.out 3).trans rfl; have hcz30_4 : w29.cell? ⟨gb15601, 4, none⟩ = some (.int .i64 a0_4) := (blk_cell BK15601.out 4).trans rfl; have hcz30_5 : w29.cell? ⟨gb15601, 5, none⟩ = some (.int .i64 a0_5) := (blk_cell BK15601.out 5).trans rfl; have hfz30_0 := blk_frozen BK15601.out 0; have hfz30_1 := blk_frozen BK15601.out 1; have hfz30_2 := blk_frozen BK15601.out 2; have hfz30_3 := blk_frozen BK15601.out 3; have hfz30_4 := blk_frozen BK15601.out 4; have hfz30_5 := blk_frozen BK15601.out 5))
   go_ret
   exact ⟨_, by first | rfl | (simp [errW_none, errW_some] <;> rfl) | (simp [*, errW_none, errW_some] <;> rfl), by (with_reducible repeat (first | apply Kd.R_alloc | apply Kd.R_drewN | apply Kd.R_drew)); exact HO15604.out, by repeat (first | (with_reducible first | exact HB.out | apply below_alloc | apply pw_below_drewN | apply below_drew1 | refine below_set ?_ GE15601.out) | exact HB.out)⟩
def wire_max (last : List Int) : Int → List Int → Option Int
 | m, [] => some m
 | m, w :: ws => if 0 ≤ w ∧ w < 128 then wire_max last (mx m (rd last w)) ws else none
def wire_set (m : Int) : List Int → List Int → Option (List Int)
 | last, [] => some last
 | last, w :: ws => if 0 ≤ w ∧ w < 128 then wire_set m (last.set w.toNat m) ws else none
def early_m (o : S57) (m : Int) : Int := if o.f0 = 4 then m else wrap64 (m + 1)
def early_go : List Int → List Int → List S57 → Option (List Int)
 | _, out, [] => some out
 | last, out, o :: os => (layers_wires.f o.f0 o.f1 o.f2 o.f3 o.f4 o.f5).bind fun ws => (wire_max last 0 ws).bind fun m => (wire_set (early_m o m) last ws).bind fun last' =>
  if out.length < 17592186044416 then early_go last' (out ++ [early_m o m]) os else none
def layers_early.f (a0_0 : Int) (a0_1 : Int) (l0_2 : List S57) : Option (List Int) := early_go (List.replicate 128 0) [] l0_2
theorem h_drop57 {l : List S57} {x : Int} (h0 : 0 ≤ x) (h : x < l.length) : l.drop x.toNat = rd_T57 l x :: l.drop (x + 1).toNat := by
 have h1 : x.toNat < l.length := by omega
 rw [List.drop_eq_getElem_cons h1, show (x + 1).toNat = x.toNat + 1 by omega]
 unfold rd_T57
 rw [List.getD_eq_getElem?_getD, List.getElem?_eq_getElem h1]
 rfl
theorem h_drop {l : List Int} {x : Int} (h0 : 0 ≤ x) (h : x < l.length) : l.drop x.toNat = rd l x :: l.drop (x + 1).toNat := by
 have h1 : x.toNat < l.length := by omega
 rw [List.drop_eq_getElem_cons h1, show (x + 1).toNat = x.toNat + 1 by omega]
 unfold rd
 rw [List.getD_eq_getElem?_getD, List.getElem?_eq_getElem h1]
 rfl
theorem h_end {α : Type} {l : List α} {x : Int} (h : ¬ x < l.length) : l.drop x.toNat = [] := List.drop_of_length_le (by omega)
theorem h_w1 {x : Int} {n : Nat} (h0 : 0 ≤ x) (h : x < n) (hn : n ≤ 9223372036854775807) : wrap64 (x + 1) = x + 1 := by unfold wrap64; omega
set_option maxHeartbeats 8000000 in
set_option maxRecDepth 100000 in
theorem layers_early.calls (a0_0 : Int) (a0_1 : Int) (A0_2 : Option Addr) (c0_2 : Nat) (l0_2 : List (S57)) (r : List Int) (w : World) (hr0_2 : Kd.C k57 w A0_2 l0_2.length l0_2) (hc0_2 : l0_2.length ≤ c0_2) (h : layers_early.f a0_0 a0_1 l0_2 = some r) :
  Calls Try.prog 27 #[.agg #[.int .i64 a0_0, .int .i64 a0_1, .slice A0_2 l0_2.length c0_2]] w fun e w' => ∃ v0_ : Value, e = .returned v0_ ∧ Kd.R (Kd.int .i64) 3 w' w.heap.size (fun _ => True) v0_ r ∧ Below w.heap.size w w' := by
 have hu24 := Try.underlying24
 have hu57 := Try.underlying57
 have HM := Aside0.mk hr0_2.2.1
 have HR := Aside0.mk hr0_2
 have HC := Aside0.mk hc0_2
 have HB := Aside0.mk (Below.refl w.heap.size w)
 have H' := Aside0.mk (show early_go (List.replicate 128 0) [] l0_2 = some r from h)
 clear hr0_2 hc0_2 h
 go_enter Try.func27, Try.ntmps27
 go_wp2_with (first
  | ((with_reducible refine gate_dst (N := 1) rfl ?_); refine box_event ?hg (N := 1) ?hd (cs := #[.int .i64 a0_0, .int .i64 a0_1, .slice A0_2 l0_2.length c0_2]) (t := 24) ?hr ?_; (case hd => rfl); (case hg => rfl); (case hr => first | (go_simp; done) | (go_simp; rfl)); intro gb1 hg w1 BK1 hb; have G1 := Aside0.mk (show w.heap.size ≤ gb1 by rw [hg]; exact Nat.le_refl _); have HB1 := Aside0.mk (below_step HB.out hb); replace BK1 := Aside0.mk BK1; clear HB; have HB := HB1; clear HB1 hb hg)
  | ((with_reducible refine gate_dst (N := 3) rfl ?_); refine box_event ?hg (N := 3) ?hd (cs := Try.zeroCells63) (t := 63) ?hr ?_; (case hd => rfl); (case hg => rfl); (case hr => first | (go_simp; done) | (go_simp; rfl)); intro gb3 hg w3 BK3 hb; have G3 := Aside0.mk (show w.heap.size ≤ gb3 by rw [hg]; exact HB.out.size); have N13 := Aside0.mk (show gb1 ≠ gb3 by rw [hg]; exact Nat.ne_of_lt (blk_lt BK1.out)); have HB1 := Aside0.mk (below_step HB.out hb); have BK1' := Aside0.mk (blk_below BK1.out hb); have HA := Aside0.mk (h_row (k := .i64) (xs := List.replicate 128 (0 : Int)) (n := 128) (ok := fun k => k = gb3) (base := w.heap.size) (t := 63) (by rw [BK3]; kernel_rfl) G3.out (by simp) (by decide) rfl); clear HB BK1 BK3; have HB := HB1; have BK1 := BK1'; clear HB1 BK1' hb hg; have hcz : w3.cell? ⟨gb1, 2, none⟩ = some (.slice A0_2 l0_2.length c0_2) := (blk_cell BK1.out 2).trans rfl; have hfz := blk_frozen BK1.out 2))
 go_loopg [4, 15] l0_2.length (fun kq v4 v15 w' => ∃ (out last : List Int) (x : Int), v15 = .int .i64 x ∧ Aside0 (0 ≤ x ∧ x + kq = l0_2.length) ∧ Aside0 (early_go last out (l0_2.drop x.toNat) = some r) ∧ Aside0 (Kd.R (Kd.int .i64) 3 w' w.heap.size (fun k => k ≠ gb3) v4 out) ∧ Aside0 (Kd.R (Kd.int .i64) 63 w' w.heap.size (fun k => k = gb3) (.slice (some ⟨gb3, 0, none⟩) 128 128) last) ∧ Aside0 (w'.heap[gb1]? = some (.cells #[.int .i64 a0_0, .int .i64 a0_1, .slice A0_2 l0_2.length c0_2] 24 (0, 0))) ∧ Aside0 (Below w.heap.size w w'))
 case atStart => exact ⟨[], List.replicate 128 0, 0, rfl, ⟨by omega, by omega⟩, H', ⟨Kd.R_nil _ _ _ _ _⟩, HA, BK1, HB⟩
 case round =>
  clear H' HA BK1 HB hcz hfz
  obtain ⟨out, last, x, rfl, HX, H', HO, HA, BK1, HB⟩ := hrel
  obtain ⟨gk0, egk⟩ : ∃ g, g = gk := ⟨_, rfl⟩
  subst egk
  by_cases c1 : x < l0_2.length
  ·have t1 : decide (x < (l0_2.length : Int)) = true := decide_eq_true c1
   have x0 : 0 ≤ x := HX.out.1
   have H := H'.out
   rw [h_drop57 x0 c1] at H
   unfold early_go at H
   obtain ⟨ws, A1_, H_⟩ := Option.bind_eq_some_iff.mp H
   obtain ⟨m, A2_0, H1⟩ := Option.bind_eq_some_iff.mp H_
   obtain ⟨last', A3_, H2⟩ := Option.bind_eq_some_iff.mp H1
   by_cases c2 : out.length < 17592186044416
   ·rw [if_pos c2] at H2
    obtain ⟨ad, A2_, c2_, e_, hx0, hx1, hx2, hx3, hx4, hx5, hl, hi⟩ := at_T57 HR.out x x0 c1
    cases e_
    replace hx0 := (HB.out.cell (World.block_lt_of_cell? w _ hx0)).trans hx0
    replace hx1 := (HB.out.cell (World.block_lt_of_cell? w _ hx1)).trans hx1
    replace hx2 := (HB.out.cell (World.block_lt_of_cell? w _ hx2)).trans hx2
    replace hx3 := (HB.out.cell (World.block_lt_of_cell? w _ hx3)).trans hx3
    replace hx4 := (HB.out.cell (World.block_lt_of_cell? w _ hx4)).trans hx4
    replace hx5 := (HB.out.cell (World.block_lt_of_cell? w _ hx5)).trans hx5
    have A1 := Aside0.mk A1_
    have A2 := Aside0.mk A2_0
    have A3 := Aside0.mk A3_
    have H' := Aside0.mk H2
    have HL := Aside0.mk c2
    have HI := Aside0.mk hi
    have HI2 := Aside0.mk hl
    clear H H_ H1 H2 c2 hi hl
    have q1 := eq_true c1
    have q0 := eq_true x0
    clear c1 x0
    generalize hf0 : (rd_T57 l0_2 x).f0 = f0 at *
    generalize hf1 : (rd_T57 l0_2 x).f1 = f1 at *
    generalize hf2 : (rd_T57 l0_2 x).f2 = f2 at *
    generalize hf3 : (rd_T57 l0_2 x).f3 = f3 at *
    generalize hf4 : (rd_T57 l0_2 x).f4 = f4 at *
    generalize hf5 : (rd_T57 l0_2 x).f5 = f5 at *
    have HF0 := Aside0.mk hf0
    clear hf0 hf1 hf2 hf3 hf4 hf5
    clear A1_ A2_0 A3_
    go_wp2_with (first
     | (go_at_call 31; refine (layers_wires.calls f0 f1 A2_ c2_ f2 f3 f4 f5 ws _ ?s1 ?s2 A1.out).mono ?_; (case s1 => exact Kd.C_below HI.out (below_alloc HB.out _)); (case s2 => exact HI2.out); rintro e w2 ⟨vw, rfl, ho, hb⟩; have GS := Aside0.mk (HB.out.size); have HW := Aside0.mk (Kd.R_lower ho (by simp; exact Nat.le_succ_of_le HB.out.size)); have HWok := Aside0.mk (Kd.R_base ho); have HO' := Aside0.mk (Kd.R_below (Kd.R_alloc HO.out _) hb); have HA' := Aside0.mk (Kd.R_below (Kd.R_alloc HA.out _) hb); have BK1' := Aside0.mk (blk_below (blk_alloc BK1.out _) hb); have BK6 := Aside0.mk (blk_below (blk_new wr _) hb); have HB' := Aside0.mk (below_step (below_alloc HB.out _) hb); have N36 := Aside0.mk (show gb3 < wr.heap.size from h_lt HA.out); clear ho hb HO HA BK1 HB; have HO := HO'; have HA := HA'; have BK1 := BK1'; have HB := HB'; clear HO' HA' BK1' HB'; obtain ⟨Aw, cw, ew⟩ := Kd.R_slice HW.out; subst ew))
    have L128 : last.length = 128 := by
     obtain ⟨_, _, e⟩ := Kd.R_slice HA.out
     injection e with _ e _
     exact e.symm
    have HL128 := Aside0.mk L128
    have HWM := Aside0.mk ((Kd.R_reads' HW.out).2.2).2.1
    clear L128
    go_loop [7, 22] (fun v7 v22 => ∃ (m1 y : Int), v7 = .int .i64 m1 ∧ v22 = .int .i64 y ∧ Aside0 (0 ≤ y ∧ y ≤ ws.length) ∧ Aside0 (wire_max last m1 (ws.drop y.toNat) = some m)) (fun _ i => ws.length - (intOf i).toNat)
    case atStart => exact ⟨0, 0, rfl, rfl, ⟨by omega, by omega⟩, A2⟩
    case round =>
     clear A2
     obtain ⟨m1, y, rfl, rfl, HY, A2⟩ := hrel
     by_cases c3 : y < ws.length
     ·have t2 : decide (y < (ws.length : Int)) = true := decide_eq_true c3
      have y0 : 0 ≤ y := HY.out.1
      have H := A2.out
      rw [h_drop y0 c3] at H
      unfold wire_max at H
      by_cases c4 : 0 ≤ rd ws y ∧ rd ws y < 128
      ·rw [if_pos c4] at H
       obtain ⟨ad2, e2, g2⟩ := Kd.at_int (Kd.R_reads' HW.out).2.2 y y0 c3
       cases e2
       obtain ⟨g3, f3_⟩ := Kd.R_celln 0 HA.out (rd ws y) c4.1 (by have := HL128.out; omega)
       obtain ⟨j, hj⟩ : ∃ j, mx m1 (rd last (rd ws y)) = j := ⟨_, rfl⟩
       have hj_ : (if m1 < rd last (rd ws y) then rd last (rd ws y) else m1) = j := hj
       rw [hj] at H
       have A2' := Aside0.mk H
       have HW1 := Aside0.mk (h_w1 y0 c3 HWM.out)
       have C3 := Aside0.mk c3
       have q2 := eq_true y0
       have q3 := eq_true c3
       have q4 := eq_true c4.1
       have q5 := eq_true c4.2
       clear H A2 hj y0 c3 c4
       replace g3 : w2.cell? ⟨gb3, (rd ws y).toNat, none⟩ = some (.int .i64 (rd last (rd ws y))) := g3
       go_wp2
       refine ⟨⟨j, y + 1, rfl, by rw [HW1.out], ⟨by have := of_eq_true q2; omega, by have := C3.out; omega⟩, A2'⟩, ?_⟩
       have := of_eq_true q2
       have := C3.out
       rw [HW1.out]
       simp [intOf]
       omega
      ·rw [if_neg c4] at H
       exact absurd H (by simp)
     ·have H := A2.out
      rw [h_end c3] at H
      obtain rfl : m1 = m := Option.some.inj H
      have t2 : decide (y < (ws.length : Int)) = false := decide_eq_false c3
      clear H A2 c3
      have hcz0 : w2.cell? ⟨wr.heap.size, 0, none⟩ = some (.int .i64 f0) := (blk_cell BK6.out 0).trans rfl
      have hcz1 : w2.cell? ⟨wr.heap.size, 1, none⟩ = some (.int .i64 f1) := (blk_cell BK6.out 1).trans rfl
      have hcz2 : w2.cell? ⟨wr.heap.size, 2, none⟩ = some (.slice A2_ f2.length c2_) := (blk_cell BK6.out 2).trans rfl
      have hcz3 : w2.cell? ⟨wr.heap.size, 3, none⟩ = some (.int .i64 f3) := (blk_cell BK6.out 3).trans rfl
      have hcz4 : w2.cell? ⟨wr.heap.size, 4, none⟩ = some (.int .i64 f4) := (blk_cell BK6.out 4).trans rfl
      have hcz5 : w2.cell? ⟨wr.heap.size, 5, none⟩ = some (.int .i64 f5) := (blk_cell BK6.out 5).trans rfl
      obtain ⟨mm, hmm⟩ : ∃ mm, early_m (rd_T57 l0_2 x) m1 = mm := ⟨_, rfl⟩
      rw [hmm] at A3 H'
      have HMM := Aside0.mk hmm
      clear hmm
      have key : (f0 = 4 ∧ m1 = mm) ∨ (f0 ≠ 4 ∧ wrap64 (m1 + 1) = mm) := by
       rw [← HMM.out]
       unfold early_m
       rw [HF0.out]
       by_cases c5 : f0 = 4
       ·exact .inl ⟨c5, by rw [if_pos c5]⟩
       ·exact .inr ⟨c5, by rw [if_neg c5]⟩
      rcases key with ⟨c5, e3⟩ | ⟨c5, e3⟩
      ·have t3 : (f0 != 4) = false := bne_eq_false_iff_eq.mpr c5
       obtain rfl : mm = m1 := e3.symm
       clear c5
       go_wp2_with (first
        | (go_at_call 31; refine (layers_wires.calls f0 f1 A2_ c2_ f2 f3 f4 f5 ws _ ?s1 ?s2 A1.out).mono ?_; (case s1 => exact Kd.C_below HI.out HB.out); (case s2 => exact HI2.out); rintro e w4 ⟨vv, rfl, ho, hb⟩; have N34 := Aside0.mk (h_lt HA.out); have HVok := Kd.R_base ho; have HV := Aside0.mk (show Kd.R (Kd.int .i64) 3 w4 w.heap.size (fun k => k ≠ gb3) vv ws from ⟨fun k hk e => by have h1 := HVok k hk; have h2 := N34.out; omega, (Kd.R_lower ho HB.out.size).2⟩); have HO' := Aside0.mk (Kd.R_below HO.out hb); have HA' := Aside0.mk (Kd.R_below HA.out hb); have BK1' := Aside0.mk (blk_below BK1.out hb); have HB' := Aside0.mk (below_step HB.out hb); clear ho hb HO HA BK1 HB HW HWok BK6 HVok; have HO := HO'; have HA := HA'; have BK1 := BK1'; have HB := HB'; clear HO' HA' BK1' HB' hcz0 hcz1 hcz2 hcz3 hcz4 hcz5; obtain ⟨Av, cv, ev⟩ := Kd.R_slice HV.out; subst ev))
       go_loopg [40] ws.length (fun kq v40 w' => ∃ (last2 : List Int) (y2 : Int), v40 = .int .i64 y2 ∧ Aside0 (0 ≤ y2 ∧ y2 + kq = ws.length) ∧ Aside0 (wire_set mm last2 (ws.drop y2.toNat) = some last') ∧ Aside0 (Kd.R (Kd.int .i64) 3 w' w.heap.size (fun k => k ≠ gb3) u4 out) ∧ Aside0 (Kd.R (Kd.int .i64) 63 w' w.heap.size (fun k => k = gb3) (.slice (some ⟨gb3, 0, none⟩) 128 128) last2) ∧ Aside0 (Kd.R (Kd.int .i64) 3 w' w.heap.size (fun k => k ≠ gb3) (.slice Av ws.length cv) ws) ∧ Aside0 (w'.heap[gb1]? = some (.cells #[.int .i64 a0_0, .int .i64 a0_1, .slice (some ad) l0_2.length c0_2] 24 (0, 0))) ∧ Aside0 (Below w.heap.size w w'))
       case atStart => exact ⟨last, 0, rfl, ⟨by omega, by omega⟩, A3, HO, HA, HV, BK1, HB⟩
       case round =>
        clear A3 HO HA HV BK1 HB
        obtain ⟨last2, y2, rfl, HY2, A3, HO, HA, HV, BK1, HB⟩ := hrel
        have HL128 := Aside0.mk (h_len HA.out)
        by_cases c6 : y2 < ws.length
        ·have t4 : decide (y2 < (ws.length : Int)) = true := decide_eq_true c6
         have y0 : 0 ≤ y2 := HY2.out.1
         have H := A3.out
         rw [h_drop y0 c6] at H
         unfold wire_set at H
         by_cases c4 : 0 ≤ rd ws y2 ∧ rd ws y2 < 128
         ·rw [if_pos c4] at H
          obtain ⟨ad2, e2, g2⟩ := Kd.at_int (Kd.R_reads' HV.out).2.2 y2 y0 c6
          cases e2
          obtain ⟨g3, f3_⟩ := Kd.R_celln 0 HA.out (rd ws y2) c4.1 (by have := HL128.out; omega)
          have HP := Kd.R_putg HA.out (rd ws y2) mm
          have A3' := Aside0.mk H
          have HW1 := Aside0.mk (h_w1 y0 c6 HWM.out)
          have C3 := Aside0.mk c6
          have HP1 := Aside0.mk HP.1
          have HP2 := Aside0.mk HP.2
          have q2 := eq_true y0
          have q3 := eq_true c6
          have q4 := eq_true c4.1
          have q5 := eq_true c4.2
          clear H A3 y0 c6 c4 HP
          go_wp2
          go_roundg (gk - 1)
          case measure => have := HY2.out; have := C3.out; omega
          case rel => exact ⟨last2.set (rd ws y2).toNat mm, y2 + 1, by rw [HW1.out], ⟨by have := HY2.out; omega, by have := HY2.out; have := C3.out; omega⟩, A3', ⟨Kd.R_grown HO.out HP2.out (fun k hk e => hk (by injection e))⟩, HP1, ⟨Kd.R_grown HV.out HP2.out (fun k hk e => hk (by injection e))⟩, ⟨blk_far BK1.out N13.out _⟩, ⟨below_set HB.out G3.out⟩⟩
         ·rw [if_neg c4] at H
          exact absurd H (by simp)
        ·have H := A3.out
         rw [h_end c6] at H
         obtain rfl : last2 = last' := Option.some.inj H
         have t4 : decide (y2 < (ws.length : Int)) = false := decide_eq_false c6
         have N3 := Aside0.mk (h_lt HA.out)
         have X1 := Aside0.mk (of_eq_true q1)
         have X0 := Aside0.mk (of_eq_true q0)
         clear H A3 c6
         go_wp2_with (first
          | ((with_reducible refine gate_builtin (b := .append) (xs := #[.tmp 48, .tmp 50]) rfl ?_); at_builtin; refine Kd.R_append (Kd.int .i64) (w0 := w) w.heap.size rfl (.tmp 48) (.tmp 50) 25 3 (.int .i64 0) 8 rfl Try.underlying25 info3 rfl (by decide) (by omega) u4 out mm [.int .i64 mm] (fun k => k ≠ gb3) (fun _ => False) rfl rfl ?aP (fun _ hk => hk.elim) ?aF ?aO ?aB ?aS ?aL ?_; (case aP => exact rfl); (case aB => exact HB.out); (case aF => exact fun k hk e => by have := N3.out; omega); (case aO => exact HO.out); (case aS => exact HB.out.size); (case aL => have := HL.out; omega); intro v9 w9 ho hb hg hat; have HO' := Aside0.mk ho; have HB' := Aside0.mk hb; have HA' := Aside0.mk (Kd.R_grown HA.out hg (fun k hk e => HO.out.1 k e.symm hk)); have BK1' := Aside0.mk (blk_grown BK1.out hg (Kd.R_ne HO.out BK1.out (by decide))); clear ho hb hg hat HO HA HB BK1; have HO := HO'; have HB := HB'; have HA := HA'; have BK1 := BK1'; clear HO' HB' HA' BK1'))
         go_roundg (gk0 - 1)
         case measure => have := HX.out; have := X1.out; omega
         case rel => exact ⟨out ++ [mm], last2, x + 1, by rw [h_w1 X0.out X1.out HM.out], ⟨by have := HX.out; omega, by have := HX.out; have := X1.out; omega⟩, H', HO, HA, BK1, HB⟩
      ·have t3 : (f0 != 4) = true := bne_iff_ne.mpr c5
       clear c5
       go_wp2_with (first
        | (go_at_call 31; refine (layers_wires.calls f0 f1 A2_ c2_ f2 f3 f4 f5 ws _ ?s1 ?s2 A1.out).mono ?_; (case s1 => exact Kd.C_below HI.out HB.out); (case s2 => exact HI2.out); rintro e w4 ⟨vv, rfl, ho, hb⟩; have N34 := Aside0.mk (h_lt HA.out); have HVok := Kd.R_base ho; have HV := Aside0.mk (show Kd.R (Kd.int .i64) 3 w4 w.heap.size (fun k => k ≠ gb3) vv ws from ⟨fun k hk e => by have h1 := HVok k hk; have h2 := N34.out; omega, (Kd.R_lower ho HB.out.size).2⟩); have HO' := Aside0.mk (Kd.R_below HO.out hb); have HA' := Aside0.mk (Kd.R_below HA.out hb); have BK1' := Aside0.mk (blk_below BK1.out hb); have HB' := Aside0.mk (below_step HB.out hb); clear ho hb HO HA BK1 HB HW HWok BK6 HVok; have HO := HO'; have HA := HA'; have BK1 := BK1'; have HB := HB'; clear HO' HA' BK1' HB' hcz0 hcz1 hcz2 hcz3 hcz4 hcz5; obtain ⟨Av, cv, ev⟩ := Kd.R_slice HV.out; subst ev))
       go_loopg [40] ws.length (fun kq v40 w' => ∃ (last2 : List Int) (y2 : Int), v40 = .int .i64 y2 ∧ Aside0 (0 ≤ y2 ∧ y2 + kq = ws.length) ∧ Aside0 (wire_set mm last2 (ws.drop y2.toNat) = some last') ∧ Aside0 (Kd.R (Kd.int .i64) 3 w' w.heap.size (fun k => k ≠ gb3) u4 out) ∧ Aside0 (Kd.R (Kd.int .i64) 63 w' w.heap.size (fun k => k = gb3) (.slice (some ⟨gb3, 0, none⟩) 128 128) last2) ∧ Aside0 (Kd.R (Kd.int .i64) 3 w' w.heap.size (fun k => k ≠ gb3) (.slice Av ws.length cv) ws) ∧ Aside0 (w'.heap[gb1]? = some (.cells #[.int .i64 a0_0, .int .i64 a0_1, .slice (some ad) l0_2.length c0_2] 24 (0, 0))) ∧ Aside0 (Below w.heap.size w w'))
       case atStart => exact ⟨last, 0, rfl, ⟨by omega, by omega⟩, A3, HO, HA, HV, BK1, HB⟩
       case round =>
        clear A3 HO HA HV BK1 HB
        obtain ⟨last2, y2, rfl, HY2, A3, HO, HA, HV, BK1, HB⟩ := hrel
        have HL128 := Aside0.mk (h_len HA.out)
        by_cases c6 : y2 < ws.length
        ·have t4 : decide (y2 < (ws.length : Int)) = true := decide_eq_true c6
         have y0 : 0 ≤ y2 := HY2.out.1
         have H := A3.out
         rw [h_drop y0 c6] at H
         unfold wire_set at H
         by_cases c4 : 0 ≤ rd ws y2 ∧ rd ws y2 < 128
         ·rw [if_pos c4] at H
          obtain ⟨ad2, e2, g2⟩ := Kd.at_int (Kd.R_reads' HV.out).2.2 y2 y0 c6
          cases e2
          obtain ⟨g3, f3_⟩ := Kd.R_celln 0 HA.out (rd ws y2) c4.1 (by have := HL128.out; omega)
          have HP := Kd.R_putg HA.out (rd ws y2) mm
          have A3' := Aside0.mk H
          have HW1 := Aside0.mk (h_w1 y0 c6 HWM.out)
          have C3 := Aside0.mk c6
          have HP1 := Aside0.mk HP.1
          have HP2 := Aside0.mk HP.2
          have q2 := eq_true y0
          have q3 := eq_true c6
          have q4 := eq_true c4.1
          have q5 := eq_true c4.2
          clear H A3 y0 c6 c4 HP
          go_wp2
          go_roundg (gk - 1)
          case measure => have := HY2.out; have := C3.out; omega
          case rel => exact ⟨last2.set (rd ws y2).toNat mm, y2 + 1, by rw [HW1.out], ⟨by have := HY2.out; omega, by have := HY2.out; have := C3.out; omega⟩, A3', ⟨Kd.R_grown HO.out HP2.out (fun k hk e => hk (by injection e))⟩, HP1, ⟨Kd.R_grown HV.out HP2.out (fun k hk e => hk (by injection e))⟩, ⟨blk_far BK1.out N13.out _⟩, ⟨below_set HB.out G3.out⟩⟩
         ·rw [if_neg c4] at H
          exact absurd H (by simp)
        ·have H := A3.out
         rw [h_end c6] at H
         obtain rfl : last2 = last' := Option.some.inj H
         have t4 : decide (y2 < (ws.length : Int)) = false := decide_eq_false c6
         have N3 := Aside0.mk (h_lt HA.out)
         have X1 := Aside0.mk (of_eq_true q1)
         have X0 := Aside0.mk (of_eq_true q0)
         clear H A3 c6
         go_wp2_with (first
          | ((with_reducible refine gate_builtin (b := .append) (xs := #[.tmp 48, .tmp 50]) rfl ?_); at_builtin; refine Kd.R_append (Kd.int .i64) (w0 := w) w.heap.size rfl (.tmp 48) (.tmp 50) 25 3 (.int .i64 0) 8 rfl Try.underlying25 info3 rfl (by decide) (by omega) u4 out mm [.int .i64 mm] (fun k => k ≠ gb3) (fun _ => False) rfl rfl ?aP (fun _ hk => hk.elim) ?aF ?aO ?aB ?aS ?aL ?_; (case aP => exact rfl); (case aB => exact HB.out); (case aF => exact fun k hk e => by have := N3.out; omega); (case aO => exact HO.out); (case aS => exact HB.out.size); (case aL => have := HL.out; omega); intro v9 w9 ho hb hg hat; have HO' := Aside0.mk ho; have HB' := Aside0.mk hb; have HA' := Aside0.mk (Kd.R_grown HA.out hg (fun k hk e => HO.out.1 k e.symm hk)); have BK1' := Aside0.mk (blk_grown BK1.out hg (Kd.R_ne HO.out BK1.out (by decide))); clear ho hb hg hat HO HA HB BK1; have HO := HO'; have HB := HB'; have HA := HA'; have BK1 := BK1'; clear HO' HB' HA' BK1'))
         go_roundg (gk0 - 1)
         case measure => have := HX.out; have := X1.out; omega
         case rel => exact ⟨out ++ [mm], last2, x + 1, by rw [h_w1 X0.out X1.out HM.out], ⟨by have := HX.out; omega, by have := HX.out; have := X1.out; omega⟩, H', HO, HA, BK1, HB⟩
   ·rw [if_neg c2] at H2
    exact absurd H2 (by simp)
  ·have H := H'.out
   rw [h_end c1] at H
   obtain rfl : out = r := Option.some.inj H
   have t1 : decide (x < (l0_2.length : Int)) = false := decide_eq_false c1
   clear H H' c1
   obtain ⟨Ao, co, eo⟩ := Kd.R_slice HO.out
   subst eo
   go_wp2
   go_ret
   exact ⟨_, rfl, Kd.R_mono HO.out (fun _ _ => trivial), HB.out⟩
end Go.Proofs.Ytpnfhddcnnoclaa.Px
