import Derived.Test.YtpnfhddcnnoclaaTell0
namespace Go.Proofs.Ytpnfhddcnnoclaa.Px
open Go.RowKit Go.Proofs.YtpnfhddcnnoclaaW.PrintWords Go.Proofs.YtpnfhddcnnoclaaW.PrintLast Go.Proofs.YtpnfhddcnnoclaaW.PrintMore
attribute [local go_sem] max2_int min2_int max_two min_two max_three min_three max_four min_four
set_option linter.unusedVariables false
set_option linter.unusedSimpArgs false
def layers_Early.f (k : Nat) (a0_0 : Int) (a0_1 : Int) (l0_2 : List (S57)) : Option (List Int × Int) := (layers_checked.f k a0_0 a0_1 l0_2).bind fun t3102 => (if t3102 = 0 then ((layers_early.f a0_0 a0_1 l0_2).bind fun t3103 => (some (t3103, 0))) else (some (([] : List Int), t3102)))
set_option maxHeartbeats 8000000 in
set_option maxRecDepth 100000 in
theorem layers_Early.calls (k : Nat) (a0_0 : Int) (a0_1 : Int) (A0_2 : Option Addr) (c0_2 : Nat) (l0_2 : List (S57)) (r1 : List Int) (r2 : Int) (w : World) (hr0_2 : Kd.C k57 w A0_2 l0_2.length l0_2) (hc0_2 : l0_2.length ≤ c0_2) (h : layers_Early.f k a0_0 a0_1 l0_2 = some (r1, r2)) :
  Calls Try.prog 6 #[.agg #[.int .i64 a0_0, .int .i64 a0_1, .slice A0_2 l0_2.length c0_2]] w fun e w' => ∃ v0_ : Value, e = .returned (.tuple #[v0_, .int .i64 r2]) ∧ Kd.R (Kd.int .i64) 3 w' w.heap.size (fun _ => True) v0_ r1 ∧ Below w.heap.size w w' := by
 have hu24 := Try.underlying24
 have HR0_2 := Aside0.mk hr0_2
 have HC0_2 := Aside0.mk hc0_2
 clear hr0_2 hc0_2
 have HB := Aside0.mk (Below.refl w.heap.size w)
 have H : ((layers_checked.f k a0_0 a0_1 l0_2).bind fun t3102 => (if t3102 = 0 then ((layers_early.f a0_0 a0_1 l0_2).bind fun t3103 => (some (t3103, 0))) else (some (([] : List Int), t3102)))) = some (r1, r2) := h
 clear h
 replace H := Option.bind_eq_some_iff.mp H
 obtain ⟨t3102, A20, H⟩ := H
 replace H : (if t3102 = 0 then ((layers_early.f a0_0 a0_1 l0_2).bind fun t3103 => (some (t3103, 0))) else (some (([] : List Int), t3102))) = some (r1, r2) := H
 have A2 := Aside0.mk A20
 clear A20
 by_cases c3 : t3102 = 0
 ·rw [if_pos c3] at H
  have c3b0 : (t3102 == 0) = true := beq_iff_eq.mpr c3
  have c3b1 : (t3102 != 0) = false := bne_eq_false_iff_eq.mpr c3
  clear c3
  replace H := Option.bind_eq_some_iff.mp H
  obtain ⟨t3103, A40, H⟩ := H
  replace H : (some (t3103, 0)) = some (r1, r2) := H
  have A4 := Aside0.mk A40
  clear A40
  simp only [Option.some.injEq, Prod.mk.injEq] at H
  obtain ⟨rfl, rfl⟩ := H
  go_enter Try.func6, Try.ntmps6
  go_wp2_with (first | ((with_reducible refine gate_dst (N := 1) rfl ?_); refine box_event ?hg (N := 1) ?hd (cs := #[.int .i64 a0_0, .int .i64 a0_1, .slice A0_2 l0_2.length c0_2]) (t := 24) ?hr ?_; (case hd => rfl); (case hg => rfl); (case hr => first | (go_simp; done) | (go_simp; rfl)); intro gb3101 hg w5 hbox hb; have n0_ := Aside0.mk (below_step (by repeat (first | (with_reducible first | exact HB.out | apply below_alloc | apply pw_below_drewN | apply below_drew1) | exact HB.out)) hb); have n1_ := Aside0.mk (hbox); have n2_ := Aside0.mk ((by rw [hg]; exact (below_size (by repeat (first | (with_reducible first | exact HB.out | apply below_alloc | apply pw_below_drewN | apply below_drew1) | exact HB.out))) : w.heap.size ≤ gb3101)); have n3_ := Aside0.mk ((by rw [hg]; exact (below_size (by repeat (first | (with_reducible first | exact HB.out | apply below_alloc | apply pw_below_drewN | apply below_drew1) | exact HB.out))) : w.heap.size ≤ gb3101)); clear HB; have HB := n0_; have BK3101 := n1_; have GW3101 := n2_; have GE3101 := n3_; clear n0_ n1_ n2_ n3_; clear hb hbox hg; have hcz6_0 : w5.cell? ⟨gb3101, 0, none⟩ = some (.int .i64 a0_0) := (blk_cell BK3101.out 0).trans rfl; have hcz6_1 : w5.cell? ⟨gb3101, 1, none⟩ = some (.int .i64 a0_1) := (blk_cell BK3101.out 1).trans rfl; have hcz6_2 : w5.cell? ⟨gb3101, 2, none⟩ = some (.slice A0_2 l0_2.length c0_2) := (blk_cell BK3101.out 2).trans rfl; have hfz6_0 := blk_frozen BK3101.out 0; have hfz6_1 := blk_frozen BK3101.out 1; have hfz6_2 := blk_frozen BK3101.out 2) | ((with_reducible refine gate_callee (f := 26) rfl ?_); refine goesL_ (some 6) rfl rfl Try.func26 (by kernel_rfl) rfl #[.agg #[.int .i64 a0_0, .int .i64 a0_1, .slice A0_2 l0_2.length c0_2]] rfl (by (try simp only [List.map_toArray, List.map_cons, List.map_nil]); first | done | rfl | (simp only [List.length_drop, List.length_take]; rfl)) ?_; (with_reducible refine (layers_checked.calls k a0_0 a0_1 _ _ l0_2 t3102 _ ?side1 ?side2 A2.out).mono ?_); (case side1 => repeat (first | exact (Kd.C_below HR0_2.out HB.out) | (with_reducible refine Kd.C_alloc ?_ _) | (with_reducible refine Kd.C_drewN ?_ _) | (with_reducible refine Kd.C_drew ?_))); (case side2 => exact HC0_2.out); rintro e w7 ⟨rfl, hb⟩; refine ⟨_, rfl, ?_⟩; have n0_ := Aside0.mk (blk_below (g := gb3101) (o := .cells #[.int .i64 a0_0, .int .i64 a0_1, .slice A0_2 l0_2.length c0_2] 24 (0, 0)) (by (with_reducible repeat (first | refine blk_drewN ?_ _ | refine blk_drew ?_ | refine blk_alloc ?_ _)); exact BK3101.out) hb); have n1_ := Aside0.mk (below_step (by repeat (first | (with_reducible first | exact HB.out | apply below_alloc | apply pw_below_drewN | apply below_drew1 | refine below_set ?_ GE3101.out) | exact HB.out)) hb); clear BK3101; clear HB; have BK3101 := n0_; have HB := n1_; clear n0_ n1_; (try clear hb); (try clear hb2); (try clear hk); (try clear hi); have hcz8_0 : w7.cell? ⟨gb3101, 0, none⟩ = some (.int .i64 a0_0) := (blk_cell BK3101.out 0).trans rfl; have hcz8_1 : w7.cell? ⟨gb3101, 1, none⟩ = some (.int .i64 a0_1) := (blk_cell BK3101.out 1).trans rfl; have hcz8_2 : w7.cell? ⟨gb3101, 2, none⟩ = some (.slice A0_2 l0_2.length c0_2) := (blk_cell BK3101.out 2).trans rfl; have hfz8_0 := blk_frozen BK3101.out 0; have hfz8_1 := blk_frozen BK3101.out 1; have hfz8_2 := blk_frozen BK3101.out 2) | ((with_reducible refine gate_callee (f := 27) rfl ?_); refine goesL_ (some 11) rfl rfl Try.func27 (by kernel_rfl) rfl #[.agg #[.int .i64 a0_0, .int .i64 a0_1, .slice A0_2 l0_2.length c0_2]] rfl (by (try simp only [List.map_toArray, List.map_cons, List.map_nil]); first | done | rfl | (simp only [List.length_drop, List.length_take]; rfl)) ?_; (with_reducible refine (layers_early.calls a0_0 a0_1 _ _ l0_2 t3103 _ ?side1 ?side2 A4.out).mono ?_); (case side1 => repeat (first | exact (Kd.C_below HR0_2.out HB.out) | (with_reducible refine Kd.C_alloc ?_ _) | (with_reducible refine Kd.C_drewN ?_ _) | (with_reducible refine Kd.C_drew ?_))); (case side2 => exact HC0_2.out); rintro e w9 ⟨v3104, rfl, ho0, hb⟩; refine ⟨_, rfl, ?_⟩; have n0_ := Aside0.mk (Kd.R_lower ho0 (below_size (by repeat (first | (with_reducible first | exact HB.out | apply below_alloc | apply pw_below_drewN | apply below_drew1 | refine below_set ?_ GE3101.out) | exact HB.out)))); have n1_ := Aside0.mk (blk_below (g := gb3101) (o := .cells #[.int .i64 a0_0, .int .i64 a0_1, .slice A0_2 l0_2.length c0_2] 24 (0, 0)) (by (with_reducible repeat (first | refine blk_drewN ?_ _ | refine blk_drew ?_ | refine blk_alloc ?_ _)); exact BK3101.out) hb); have n2_ := Aside0.mk (below_step (by repeat (first | (with_reducible first | exact HB.out | apply below_alloc | apply pw_below_drewN | apply below_drew1 | refine below_set ?_ GE3101.out) | exact HB.out)) hb); clear BK3101; clear HB; have HO3105 := n0_; have BK3101 := n1_; have HB := n2_; clear n0_ n1_ n2_; (try clear hb); (try clear hb2); (try clear hk); (try clear hi); (try clear ho0)))
  go_ret2
  exact ⟨_, by first | rfl | (simp [errW_none, errW_some] <;> rfl) | (simp [*, errW_none, errW_some] <;> rfl), by (with_reducible repeat (first | apply Kd.R_alloc | apply Kd.R_drewN | apply Kd.R_drew)); exact HO3105.out, by repeat (first | (with_reducible first | exact HB.out | apply below_alloc | apply pw_below_drewN | apply below_drew1 | refine below_set ?_ GE3101.out) | exact HB.out)⟩
 ·rw [if_neg c3] at H
  have c3b0 : (t3102 == 0) = false := beq_eq_false_iff_ne.mpr c3
  have c3b1 : (t3102 != 0) = true := bne_iff_ne.mpr c3
  simp only [Option.some.injEq, Prod.mk.injEq] at H
  obtain ⟨rfl, rfl⟩ := H
  go_enter Try.func6, Try.ntmps6
  go_wp2_with (first | ((with_reducible refine gate_dst (N := 1) rfl ?_); refine box_event ?hg (N := 1) ?hd (cs := #[.int .i64 a0_0, .int .i64 a0_1, .slice A0_2 l0_2.length c0_2]) (t := 24) ?hr ?_; (case hd => rfl); (case hg => rfl); (case hr => first | (go_simp; done) | (go_simp; rfl)); intro gb3101 hg w10 hbox hb; have n0_ := Aside0.mk (below_step (by repeat (first | (with_reducible first | exact HB.out | apply below_alloc | apply pw_below_drewN | apply below_drew1) | exact HB.out)) hb); have n1_ := Aside0.mk (hbox); have n2_ := Aside0.mk ((by rw [hg]; exact (below_size (by repeat (first | (with_reducible first | exact HB.out | apply below_alloc | apply pw_below_drewN | apply below_drew1) | exact HB.out))) : w.heap.size ≤ gb3101)); have n3_ := Aside0.mk ((by rw [hg]; exact (below_size (by repeat (first | (with_reducible first | exact HB.out | apply below_alloc | apply pw_below_drewN | apply below_drew1) | exact HB.out))) : w.heap.size ≤ gb3101)); clear HB; have HB := n0_; have BK3101 := n1_; have GW3101 := n2_; have GE3101 := n3_; clear n0_ n1_ n2_ n3_; clear hb hbox hg; have hcz11_0 : w10.cell? ⟨gb3101, 0, none⟩ = some (.int .i64 a0_0) := (blk_cell BK3101.out 0).trans rfl; have hcz11_1 : w10.cell? ⟨gb3101, 1, none⟩ = some (.int .i64 a0_1) := (blk_cell BK3101.out 1).trans rfl; have hcz11_2 : w10.cell? ⟨gb3101, 2, none⟩ = some (.slice A0_2 l0_2.length c0_2) := (blk_cell BK3101.out 2).trans rfl; have hfz11_0 := blk_frozen BK3101.out 0; have hfz11_1 := blk_frozen BK3101.out 1; have hfz11_2 := blk_frozen BK3101.out 2) | ((with_reducible refine gate_callee (f := 26) rfl ?_); refine goesL_ (some 6) rfl rfl Try.func26 (by kernel_rfl) rfl #[.agg #[.int .i64 a0_0, .int .i64 a0_1, .slice A0_2 l0_2.length c0_2]] rfl (by (try simp only [List.map_toArray, List.map_cons, List.map_nil]); first | done | rfl | (simp only [List.length_drop, List.length_take]; rfl)) ?_; (with_reducible refine (layers_checked.calls k a0_0 a0_1 _ _ l0_2 t3102 _ ?side1 ?side2 A2.out).mono ?_); (case side1 => repeat (first | exact (Kd.C_below HR0_2.out HB.out) | (with_reducible refine Kd.C_alloc ?_ _) | (with_reducible refine Kd.C_drewN ?_ _) | (with_reducible refine Kd.C_drew ?_))); (case side2 => exact HC0_2.out); rintro e w12 ⟨rfl, hb⟩; refine ⟨_, rfl, ?_⟩; have n0_ := Aside0.mk (blk_below (g := gb3101) (o := .cells #[.int .i64 a0_0, .int .i64 a0_1, .slice A0_2 l0_2.length c0_2] 24 (0, 0)) (by (with_reducible repeat (first | refine blk_drewN ?_ _ | refine blk_drew ?_ | refine blk_alloc ?_ _)); exact BK3101.out) hb); have n1_ := Aside0.mk (below_step (by repeat (first | (with_reducible first | exact HB.out | apply below_alloc | apply pw_below_drewN | apply below_drew1 | refine below_set ?_ GE3101.out) | exact HB.out)) hb); clear BK3101; clear HB; have BK3101 := n0_; have HB := n1_; clear n0_ n1_; (try clear hb); (try clear hb2); (try clear hk); (try clear hi)))
  go_ret2
  exact ⟨_, by first | rfl | (simp [errW_none, errW_some] <;> rfl) | (simp [*, errW_none, errW_some] <;> rfl), by first | exact Kd.R_nil _ _ _ _ _ | exact Kd.N_nil _ _ _ _ _ | exact Kd.V_nil _ _ _ _ _ | exact Kd.Q_nil _ _ _ _ _ | exact Kd.S_nil _ _ _ _ _, by repeat (first | (with_reducible first | exact HB.out | apply below_alloc | apply pw_below_drewN | apply below_drew1 | refine below_set ?_ GE3101.out) | exact HB.out)⟩
def phasorlaw19_ints.l0 : Nat → List Int → List Int → Int → Option (Bool)
 | 0, _, _, _ => none
 | k + 1, x0, x1, x5 => if x5 < (x0.length : Int) then (if 0 ≤ x5 then (if x5 < (x1.length : Int) then (if (rd x0 x5) = (rd x1 x5) then (phasorlaw19_ints.l0 k x0 x1 (wrap64 (x5 + 1))) else (some false)) else (none)) else (none)) else (some true)
def phasorlaw19_ints.f (k : Nat) (l0 : List Int) (l1 : List Int) : Option (Bool) := if (l0.length : Int) = (l1.length : Int) then (phasorlaw19_ints.l0 k l0 l1 0) else (some false)
set_option maxHeartbeats 8000000 in
set_option maxRecDepth 100000 in
theorem phasorlaw19_ints.calls (k : Nat) (A0 : Option Addr) (c0 : Nat) (l0 : List Int) (A1 : Option Addr) (c1 : Nat) (l1 : List Int) (r : Bool) (w : World) (hr0 : Kd.C (Kd.int .i64) w A0 l0.length l0) (hc0 : l0.length ≤ c0) (hr1 : Kd.C (Kd.int .i64) w A1 l1.length l1) (hc1 : l1.length ≤ c1) (h : phasorlaw19_ints.f k l0 l1 = some r) :
  Calls Try.prog 17 #[.slice A0 l0.length c0, .slice A1 l1.length c1] w fun e w' => e = .returned (.bool r) ∧ Drawn0 w w' := by
 have HR0 := Aside0.mk hr0
 have HC0 := Aside0.mk hc0
 clear hr0 hc0
 have HR1 := Aside0.mk hr1
 have HC1 := Aside0.mk hc1
 clear hr1 hc1
 have H : (if (l0.length : Int) = (l1.length : Int) then (phasorlaw19_ints.l0 k l0 l1 0) else (some false)) = some r := h
 clear h
 by_cases c3 : (l0.length : Int) = (l1.length : Int)
 ·rw [if_pos c3] at H
  have c3b0 : ((l0.length : Int) == (l1.length : Int)) = true := beq_iff_eq.mpr c3
  have c3b1 : ((l0.length : Int) != (l1.length : Int)) = false := bne_eq_false_iff_eq.mpr c3
  have c3b2 : (l0.length == l1.length) = true := by first | simpa using c3 | (simp at c3 ⊢; omega)
  clear c3
  have H' := Aside0.mk H
  clear H
  go_enter Try.func17, Try.ntmps17
  go_wp2
  repeat (go_quiet (fail); try go_wp2)
  go_loopg [5] k (fun kq v5 w' => ∃ (x5_1 : Int), v5 = .int .i64 x5_1 ∧ Aside0 (phasorlaw19_ints.l0 kq l0 l1 x5_1 = some r) ∧ Aside0 (kq ≤ k) ∧ Drawn0 w w')
  case atStart => exact ⟨(0), (by first | rfl | (simp; done) | (simp [*]; done)), H', ⟨Nat.le_refl _⟩, by repeat (first | exact Drawn0.refl _ | apply Drawn0.step)⟩
  case round =>
   clear H'
   try clear c1
   try clear p2
   try clear c3
   try clear c3b0
   try clear c3b1
   try clear c3b2
   obtain ⟨x5_1, rfl, HA, HK1, ⟨m1, rfl⟩⟩ := hrel
   cases gk with
   | zero => exact absurd HA.out (by simp [phasorlaw19_ints.l0])
   | succ k1 =>
    have H := HA.out
    clear HA
    simp only [phasorlaw19_ints.l0] at H
    by_cases c4 : x5_1 < (l0.length : Int)
    ·rw [if_pos c4] at H
     have c4b0 : decide (x5_1 < (l0.length : Int)) = true := decide_eq_true c4
     clear c4
     by_cases c5 : 0 ≤ x5_1
     ·rw [if_pos c5] at H
      have c5b0 : decide (0 ≤ x5_1) = true := decide_eq_true c5
      clear c5
      by_cases c6 : x5_1 < (l1.length : Int)
      ·rw [if_pos c6] at H
       have c6b0 : decide (x5_1 < (l1.length : Int)) = true := decide_eq_true c6
       clear c6
       by_cases c7 : (rd l0 x5_1) = (rd l1 x5_1)
       ·rw [if_pos c7] at H
        have c7b0 : ((rd l0 x5_1) == (rd l1 x5_1)) = true := beq_iff_eq.mpr c7
        have c7b1 : ((rd l0 x5_1) != (rd l1 x5_1)) = false := bne_eq_false_iff_eq.mpr c7
        clear c7
        have H' := Aside0.mk H
        clear H
        have p8601 : 0 ≤ (x5_1 : Int) := of_decide_eq_true (by first | (with_reducible assumption) | assumption)
        have q8601 : x5_1 < (l0.length : Int) := of_decide_eq_true (by first | (with_reducible assumption) | assumption)
        obtain ⟨ad8601, e8601, hx8601_0⟩ := Kd.at_int HR0.out x5_1 p8601 q8601
        cases e8601
        replace p8601 := eq_true p8601
        replace q8601 := eq_true q8601
        have p8602 : 0 ≤ (x5_1 : Int) := of_decide_eq_true (by first | (with_reducible assumption) | assumption)
        have q8602 : x5_1 < (l1.length : Int) := of_decide_eq_true (by first | (with_reducible assumption) | assumption)
        obtain ⟨ad8602, e8602, hx8602_0⟩ := Kd.at_int HR1.out x5_1 p8602 q8602
        cases e8602
        replace p8602 := eq_true p8602
        replace q8602 := eq_true q8602
        go_wp2
        repeat (go_quiet (fail); try go_wp2)
        go_roundg k1
        case measure => have := HK1.out; omega
        case rel => exact ⟨(wrap64 (x5_1 + 1)), (by first | rfl | (simp; done) | (simp [*]; done)), H', ⟨by have := HK1.out; omega⟩, by repeat (first | exact Drawn0.refl _ | apply Drawn0.step)⟩
       ·rw [if_neg c7] at H
        have c7b0 : ((rd l0 x5_1) == (rd l1 x5_1)) = false := beq_eq_false_iff_ne.mpr c7
        have c7b1 : ((rd l0 x5_1) != (rd l1 x5_1)) = true := bne_iff_ne.mpr c7
        obtain rfl := Option.some.inj H
        have p8601 : 0 ≤ (x5_1 : Int) := of_decide_eq_true (by first | (with_reducible assumption) | assumption)
        have q8601 : x5_1 < (l0.length : Int) := of_decide_eq_true (by first | (with_reducible assumption) | assumption)
        obtain ⟨ad8601, e8601, hx8601_0⟩ := Kd.at_int HR0.out x5_1 p8601 q8601
        cases e8601
        replace p8601 := eq_true p8601
        replace q8601 := eq_true q8601
        have p8602 : 0 ≤ (x5_1 : Int) := of_decide_eq_true (by first | (with_reducible assumption) | assumption)
        have q8602 : x5_1 < (l1.length : Int) := of_decide_eq_true (by first | (with_reducible assumption) | assumption)
        obtain ⟨ad8602, e8602, hx8602_0⟩ := Kd.at_int HR1.out x5_1 p8602 q8602
        cases e8602
        replace p8602 := eq_true p8602
        replace q8602 := eq_true q8602
        go_wp2
        repeat (go_quiet (fail); try go_wp2)
        go_ret
        exact ⟨by first | rfl | (simp; done) | (simp [*]; done), by repeat (first | exact Drawn0.refl _ | apply Drawn0.step)⟩
      ·rw [if_neg c6] at H
       exact absurd H (by simp)
     ·rw [if_neg c5] at H
      exact absurd H (by simp)
    ·rw [if_neg c4] at H
     have c4b0 : decide (x5_1 < (l0.length : Int)) = false := decide_eq_false c4
     clear c4
     obtain rfl := Option.some.inj H
     go_wp2
     repeat (go_quiet (fail); try go_wp2)
     go_ret
     exact ⟨by first | rfl | (simp; done) | (simp [*]; done), by repeat (first | exact Drawn0.refl _ | apply Drawn0.step)⟩
 ·rw [if_neg c3] at H
  have c3b0 : ((l0.length : Int) == (l1.length : Int)) = false := beq_eq_false_iff_ne.mpr c3
  have c3b1 : ((l0.length : Int) != (l1.length : Int)) = true := bne_iff_ne.mpr c3
  have c3b2 : (l0.length == l1.length) = false := by first | simpa using c3 | (simp at c3 ⊢; omega)
  obtain rfl := Option.some.inj H
  go_enter Try.func17, Try.ntmps17
  go_wp2
  repeat (go_quiet (fail); try go_wp2)
  go_ret
  exact ⟨by first | rfl | (simp; done) | (simp [*]; done), by repeat (first | exact Drawn0.refl _ | apply Drawn0.step)⟩
def slices_Max_int_int.l0 : Nat → List Int → Int → Int → Option (Int)
 | 0, _, _, _ => none
 | k + 1, x0, x3, x4 => if x4 < (x0.length : Int) then (if 0 ≤ x4 then (slices_Max_int_int.l0 k x0 (mx x3 (rd x0 x4)) (wrap64 (x4 + 1))) else (none)) else (some x3)
def slices_Max_int_int.f (k : Nat) (l0 : List Int) : Option (Int) := if (l0.length : Int) < 1 then (none) else (if 0 < (l0.length : Int) then (slices_Max_int_int.l0 k l0 (rd l0 0) 1) else (none))
set_option maxHeartbeats 8000000 in
set_option maxRecDepth 100000 in
theorem slices_Max_int_int.calls (k : Nat) (A0 : Option Addr) (c0 : Nat) (l0 : List Int) (r : Int) (w : World) (hr0 : Kd.C (Kd.int .i64) w A0 l0.length l0) (hc0 : l0.length ≤ c0) (h : slices_Max_int_int.f k l0 = some r) :
  Calls Try.prog 34 #[.slice A0 l0.length c0] w fun e w' => e = .returned (.int .i64 r) ∧ Below w.heap.size w w' := by
 have HR0 := Aside0.mk hr0
 have HC0 := Aside0.mk hc0
 clear hr0 hc0
 have HB := Aside0.mk (Below.refl w.heap.size w)
 have H : (if (l0.length : Int) < 1 then (none) else (if 0 < (l0.length : Int) then (slices_Max_int_int.l0 k l0 (rd l0 0) 1) else (none))) = some r := h
 clear h
 by_cases c2 : (l0.length : Int) < 1
 ·rw [if_pos c2] at H
  exact absurd H (by simp)
 ·rw [if_neg c2] at H
  have c2b0 : decide ((l0.length : Int) < 1) = false := decide_eq_false c2
  have c2b1 : decide (l0.length < 1) = false := decide_eq_false (by omega)
  clear c2
  by_cases c3 : 0 < (l0.length : Int)
  ·rw [if_pos c3] at H
   have c3b0 : decide (0 < (l0.length : Int)) = true := decide_eq_true c3
   have c3b1 : decide (0 < l0.length) = true := decide_eq_true (by omega)
   clear c3
   have H' := Aside0.mk H
   clear H
   have p17101 : 0 ≤ (0 : Int) := (by omega)
   have q17101 : 0 < (l0.length : Int) := of_decide_eq_true (by first | (with_reducible assumption) | assumption)
   obtain ⟨ad17101, e17101, hx17101_0⟩ := Kd.at_int HR0.out 0 p17101 q17101
   cases e17101
   have qi17101 : (0 < l0.length) = True := eq_true (by omega)
   (try rw [show ((0 : Int)).toNat = 0 from rfl] at hx17101_0)
   (try rw [Addr.add_zero'] at hx17101_0)
   replace p17101 := eq_true p17101
   replace q17101 := eq_true q17101
   go_enter Try.func34, Try.ntmps34
   go_wp2
   go_loopg [3, 4] k (fun kq v3 v4 w' => ∃ (x3_1 : Int) (x4_1 : Int), v3 = .int .i64 x3_1 ∧ v4 = .int .i64 x4_1 ∧ Aside0 (slices_Max_int_int.l0 kq l0 x3_1 x4_1 = some r) ∧ Aside0 (kq ≤ k) ∧ Aside0 (Below w.heap.size w w'))
   case atStart => exact ⟨(rd l0 0), (1), (by first | rfl | (simp; done) | (simp [*]; done)), (by first | rfl | (simp; done) | (simp [*]; done)), H', ⟨Nat.le_refl _⟩, ⟨by repeat (first | (with_reducible first | exact HB.out | apply below_alloc | apply pw_below_drewN | apply below_drew1) | exact HB.out)⟩⟩
   case round =>
    clear H'
    try clear p1
    try clear q1
    try clear hx1
    try clear qi1
    try clear c2
    try clear c2b0
    try clear c2b1
    try clear p2
    try clear c3
    try clear c3b0
    try clear c3b1
    try clear hx17101_0
    try clear p17101
    try clear q17101
    obtain ⟨x3_1, x4_1, rfl, rfl, HA, HK1, HB⟩ := hrel
    cases gk with
    | zero => exact absurd HA.out (by simp [slices_Max_int_int.l0])
    | succ k1 =>
     have H := HA.out
     clear HA
     simp only [slices_Max_int_int.l0] at H
     by_cases c4 : x4_1 < (l0.length : Int)
     ·rw [if_pos c4] at H
      have c4b0 : decide (x4_1 < (l0.length : Int)) = true := decide_eq_true c4
      clear c4
      by_cases c5 : 0 ≤ x4_1
      ·rw [if_pos c5] at H
       have c5b0 : decide (0 ≤ x4_1) = true := decide_eq_true c5
       clear c5
       obtain ⟨ji6, hji6⟩ : ∃ j_ : Int, (mx x3_1 (rd l0 x4_1)) = j_ := ⟨_, rfl⟩
       replace H : (slices_Max_int_int.l0 k1 l0 ji6 (wrap64 (x4_1 + 1))) = some r := by first | (rw [hji6] at H; exact H) | (simp only [hji6] at H ⊢; exact H)
       have hji6_ : (if x3_1 < (rd l0 x4_1) then (rd l0 x4_1) else x3_1) = ji6 := hji6
       have H' := Aside0.mk H
       clear H
       have p17102 : 0 ≤ (x4_1 : Int) := of_decide_eq_true (by first | (with_reducible assumption) | assumption)
       have q17102 : x4_1 < (l0.length : Int) := of_decide_eq_true (by first | (with_reducible assumption) | assumption)
       obtain ⟨ad17102, e17102, hx17102_0⟩ := Kd.at_int HR0.out x4_1 p17102 q17102
       obtain rfl : ad17101 = ad17102 := (by injection e17102)
       replace hx17102_0 := (HB.out.cell (World.block_lt_of_cell? w _ hx17102_0)).trans hx17102_0
       replace p17102 := eq_true p17102
       replace q17102 := eq_true q17102
       go_wp2
       go_roundg k1
       case measure => have := HK1.out; omega
       case rel => exact ⟨(ji6), (wrap64 (x4_1 + 1)), (by first | rfl | (simp; done) | (simp only [← hji6] <;> (first | rfl | simp)) | (simp [*]; done)), (by first | rfl | (simp; done) | (simp [*]; done)), H', ⟨by have := HK1.out; omega⟩, ⟨by repeat (first | (with_reducible first | exact HB.out | apply below_alloc | apply pw_below_drewN | apply below_drew1) | exact HB.out)⟩⟩
      ·rw [if_neg c5] at H
       exact absurd H (by simp)
     ·rw [if_neg c4] at H
      have c4b0 : decide (x4_1 < (l0.length : Int)) = false := decide_eq_false c4
      clear c4
      obtain rfl := Option.some.inj H
      go_wp2
      go_ret
      exact ⟨by first | rfl | (simp [errW_none, errW_some] <;> rfl) | (simp [*, errW_none, errW_some] <;> rfl), by repeat (first | (with_reducible first | exact HB.out | apply below_alloc | apply pw_below_drewN | apply below_drew1) | exact HB.out)⟩
  ·rw [if_neg c3] at H
   exact absurd H (by simp)
def layers_Depth.f (k : Nat) (a0_0 : Int) (a0_1 : Int) (l0_2 : List (S57)) : Option (Int × Int) := (layers_Early.f k a0_0 a0_1 l0_2).bind fun bt7602 => (if bt7602.2 = 0 then (if (bt7602.1.length : Int) = 0 then (some (0, bt7602.2)) else ((slices_Max_int_int.f k bt7602.1).bind fun t7606 => (some (t7606, 0)))) else (some (0, bt7602.2)))
set_option maxHeartbeats 8000000 in
set_option maxRecDepth 100000 in
theorem layers_Depth.calls (k : Nat) (a0_0 : Int) (a0_1 : Int) (A0_2 : Option Addr) (c0_2 : Nat) (l0_2 : List (S57)) (r1 : Int) (r2 : Int) (w : World) (hr0_2 : Kd.C k57 w A0_2 l0_2.length l0_2) (hc0_2 : l0_2.length ≤ c0_2) (h : layers_Depth.f k a0_0 a0_1 l0_2 = some (r1, r2)) :
  Calls Try.prog 15 #[.agg #[.int .i64 a0_0, .int .i64 a0_1, .slice A0_2 l0_2.length c0_2]] w fun e w' => e = .returned (.tuple #[.int .i64 r1, .int .i64 r2]) ∧ Below w.heap.size w w' := by
 have hu24 := Try.underlying24
 have HR0_2 := Aside0.mk hr0_2
 have HC0_2 := Aside0.mk hc0_2
 clear hr0_2 hc0_2
 have HB := Aside0.mk (Below.refl w.heap.size w)
 have H : ((layers_Early.f k a0_0 a0_1 l0_2).bind fun bt7602 => (if bt7602.2 = 0 then (if (bt7602.1.length : Int) = 0 then (some (0, bt7602.2)) else ((slices_Max_int_int.f k bt7602.1).bind fun t7606 => (some (t7606, 0)))) else (some (0, bt7602.2)))) = some (r1, r2) := h
 clear h
 replace H := Option.bind_eq_some_iff.mp H
 obtain ⟨⟨t7602, t7605⟩, A20, H⟩ := H
 replace H : (if t7605 = 0 then (if (t7602.length : Int) = 0 then (some (0, t7605)) else ((slices_Max_int_int.f k t7602).bind fun t7606 => (some (t7606, 0)))) else (some (0, t7605))) = some (r1, r2) := H
 have A2 := Aside0.mk A20
 clear A20
 by_cases c3 : t7605 = 0
 ·rw [if_pos c3] at H
  have c3b0 : (t7605 == 0) = true := beq_iff_eq.mpr c3
  have c3b1 : (t7605 != 0) = false := bne_eq_false_iff_eq.mpr c3
  clear c3
  by_cases c4 : (t7602.length : Int) = 0
  ·rw [if_pos c4] at H
   have c4b0 : ((t7602.length : Int) == 0) = true := beq_iff_eq.mpr c4
   have c4b1 : ((t7602.length : Int) != 0) = false := bne_eq_false_iff_eq.mpr c4
   clear c4
   simp only [Option.some.injEq, Prod.mk.injEq] at H
   obtain ⟨rfl, rfl⟩ := H
   go_enter Try.func15, Try.ntmps15
   go_wp2_with (first | ((with_reducible refine gate_dst (N := 1) rfl ?_); (try (refine gate_guard (by rfl) ?_; dsimp only)); refine box_event ?hg (N := 1) ?hd (cs := #[.int .i64 a0_0, .int .i64 a0_1, .slice A0_2 l0_2.length c0_2]) (t := 24) ?hr ?_; (case hd => rfl); (case hg => rfl); (case hr => first | (go_simp; done) | (go_simp; rfl)); intro gb7601 hg w5 hbox hb; have n0_ := Aside0.mk (below_step (by repeat (first | (with_reducible first | exact HB.out | apply below_alloc | apply pw_below_drewN | apply below_drew1) | exact HB.out)) hb); have n1_ := Aside0.mk (hbox); have n2_ := Aside0.mk ((by rw [hg]; exact (below_size (by repeat (first | (with_reducible first | exact HB.out | apply below_alloc | apply pw_below_drewN | apply below_drew1) | exact HB.out))) : w.heap.size ≤ gb7601)); have n3_ := Aside0.mk ((by rw [hg]; exact (below_size (by repeat (first | (with_reducible first | exact HB.out | apply below_alloc | apply pw_below_drewN | apply below_drew1) | exact HB.out))) : w.heap.size ≤ gb7601)); clear HB; have HB := n0_; have BK7601 := n1_; have GW7601 := n2_; have GE7601 := n3_; clear n0_ n1_ n2_ n3_; clear hb hbox hg; have hcz6_0 : w5.cell? ⟨gb7601, 0, none⟩ = some (.int .i64 a0_0) := (blk_cell BK7601.out 0).trans rfl; have hcz6_1 : w5.cell? ⟨gb7601, 1, none⟩ = some (.int .i64 a0_1) := (blk_cell BK7601.out 1).trans rfl; have hcz6_2 : w5.cell? ⟨gb7601, 2, none⟩ = some (.slice A0_2 l0_2.length c0_2) := (blk_cell BK7601.out 2).trans rfl; have hfz6_0 := blk_frozen BK7601.out 0; have hfz6_1 := blk_frozen BK7601.out 1; have hfz6_2 := blk_frozen BK7601.out 2) | ((with_reducible refine gate_callee (f := 6) rfl ?_); refine goesL_ (some 8) rfl rfl Try.func6 (by kernel_rfl) rfl #[.agg #[.int .i64 a0_0, .int .i64 a0_1, .slice A0_2 l0_2.length c0_2]] rfl (by (try simp only [List.map_toArray, List.map_cons, List.map_nil]); first | done | rfl | (simp only [List.length_drop, List.length_take]; rfl)) ?_; (with_reducible refine (layers_Early.calls k a0_0 a0_1 _ _ l0_2 t7602 t7605 _ ?side1 ?side2 A2.out).mono ?_); (case side1 => repeat (first | exact (Kd.C_below HR0_2.out HB.out) | (with_reducible refine Kd.C_alloc ?_ _) | (with_reducible refine Kd.C_drewN ?_ _) | (with_reducible refine Kd.C_drew ?_))); (case side2 => exact HC0_2.out); rintro e w7 ⟨v7603, rfl, ho0, hb⟩; refine ⟨_, rfl, ?_⟩; have n0_ := Aside0.mk (Kd.R_lower ho0 (below_size (by repeat (first | (with_reducible first | exact HB.out | apply below_alloc | apply pw_below_drewN | apply below_drew1 | refine below_set ?_ GE7601.out) | exact HB.out)))); have n1_ := Aside0.mk (blk_below (g := gb7601) (o := .cells #[.int .i64 a0_0, .int .i64 a0_1, .slice A0_2 l0_2.length c0_2] 24 (0, 0)) (by (with_reducible repeat (first | refine blk_drewN ?_ _ | refine blk_drew ?_ | refine blk_alloc ?_ _)); exact BK7601.out) hb); have n2_ := Aside0.mk (below_step (by repeat (first | (with_reducible first | exact HB.out | apply below_alloc | apply pw_below_drewN | apply below_drew1 | refine below_set ?_ GE7601.out) | exact HB.out)) hb); clear BK7601; clear HB; have HO7604 := n0_; have BK7601 := n1_; have HB := n2_; clear n0_ n1_ n2_; (try clear hb); (try clear hb2); (try clear hk); (try clear hi); (try clear ho0); obtain ⟨Ao8, co8, eo8⟩ := Kd.R_slice HO7604.out; subst eo8))
   go_ret2
   exact ⟨by first | rfl | (simp [errW_none, errW_some] <;> rfl) | (simp [*, errW_none, errW_some] <;> rfl), by repeat (first | (with_reducible first | exact HB.out | apply below_alloc | apply pw_below_drewN | apply below_drew1 | refine below_set ?_ GE7601.out) | exact HB.out)⟩
  ·rw [if_neg c4] at H
   have c4b0 : ((t7602.length : Int) == 0) = false := beq_eq_false_iff_ne.mpr c4
   have c4b1 : ((t7602.length : Int) != 0) = true := bne_iff_ne.mpr c4
   have c4b2 : ¬ (t7602 = []) := fun h_ => c4 (by rw [h_]; rfl)
   replace H := Option.bind_eq_some_iff.mp H
   obtain ⟨t7606, A90, H⟩ := H
   replace H : (some (t7606, 0)) = some (r1, r2) := H
   have A9 := Aside0.mk A90
   clear A90
   simp only [Option.some.injEq, Prod.mk.injEq] at H
   obtain ⟨rfl, rfl⟩ := H
   go_enter Try.func15, Try.ntmps15
   go_wp2_with (first | ((with_reducible refine gate_dst (N := 1) rfl ?_); (try (refine gate_guard (by rfl) ?_; dsimp only)); refine box_event ?hg (N := 1) ?hd (cs := #[.int .i64 a0_0, .int .i64 a0_1, .slice A0_2 l0_2.length c0_2]) (t := 24) ?hr ?_; (case hd => rfl); (case hg => rfl); (case hr => first | (go_simp; done) | (go_simp; rfl)); intro gb7601 hg w10 hbox hb; have n0_ := Aside0.mk (below_step (by repeat (first | (with_reducible first | exact HB.out | apply below_alloc | apply pw_below_drewN | apply below_drew1) | exact HB.out)) hb); have n1_ := Aside0.mk (hbox); have n2_ := Aside0.mk ((by rw [hg]; exact (below_size (by repeat (first | (with_reducible first | exact HB.out | apply below_alloc | apply pw_below_drewN | apply below_drew1) | exact HB.out))) : w.heap.size ≤ gb7601)); have n3_ := Aside0.mk ((by rw [hg]; exact (below_size (by repeat (first | (with_reducible first | exact HB.out | apply below_alloc | apply pw_below_drewN | apply below_drew1) | exact HB.out))) : w.heap.size ≤ gb7601)); clear HB; have HB := n0_; have BK7601 := n1_; have GW7601 := n2_; have GE7601 := n3_; clear n0_ n1_ n2_ n3_; clear hb hbox hg; have hcz11_0 : w10.cell? ⟨gb7601, 0, none⟩ = some (.int .i64 a0_0) := (blk_cell BK7601.out 0).trans rfl; have hcz11_1 : w10.cell? ⟨gb7601, 1, none⟩ = some (.int .i64 a0_1) := (blk_cell BK7601.out 1).trans rfl; have hcz11_2 : w10.cell? ⟨gb7601, 2, none⟩ = some (.slice A0_2 l0_2.length c0_2) := (blk_cell BK7601.out 2).trans rfl; have hfz11_0 := blk_frozen BK7601.out 0; have hfz11_1 := blk_frozen BK7601.out 1; have hfz11_2 := blk_frozen BK7601.out 2) | ((with_reducible refine gate_callee (f := 6) rfl ?_); refine goesL_ (some 8) rfl rfl Try.func6 (by kernel_rfl) rfl #[.agg #[.int .i64 a0_0, .int .i64 a0_1, .slice A0_2 l0_2.length c0_2]] rfl (by (try simp only [List.map_toArray, List.map_cons, List.map_nil]); first | done | rfl | (simp only [List.length_drop, List.length_take]; rfl)) ?_; (with_reducible refine (layers_Early.calls k a0_0 a0_1 _ _ l0_2 t7602 t7605 _ ?side1 ?side2 A2.out).mono ?_); (case side1 => repeat (first | exact (Kd.C_below HR0_2.out HB.out) | (with_reducible refine Kd.C_alloc ?_ _) | (with_reducible refine Kd.C_drewN ?_ _) | (with_reducible refine Kd.C_drew ?_))); (case side2 => exact HC0_2.out); rintro e w12 ⟨v7603, rfl, ho0, hb⟩; refine ⟨_, rfl, ?_⟩; have n0_ := Aside0.mk (Kd.R_lower ho0 (below_size (by repeat (first | (with_reducible first | exact HB.out | apply below_alloc | apply pw_below_drewN | apply below_drew1 | refine below_set ?_ GE7601.out) | exact HB.out)))); have n1_ := Aside0.mk (blk_below (g := gb7601) (o := .cells #[.int .i64 a0_0, .int .i64 a0_1, .slice A0_2 l0_2.length c0_2] 24 (0, 0)) (by (with_reducible repeat (first | refine blk_drewN ?_ _ | refine blk_drew ?_ | refine blk_alloc ?_ _)); exact BK7601.out) hb); have n2_ := Aside0.mk (below_step (by repeat (first | (with_reducible first | exact HB.out | apply below_alloc | apply pw_below_drewN | apply below_drew1 | refine below_set ?_ GE7601.out) | exact HB.out)) hb); clear BK7601; clear HB; have HO7604 := n0_; have BK7601 := n1_; have HB := n2_; clear n0_ n1_ n2_; (try clear hb); (try clear hb2); (try clear hk); (try clear hi); (try clear ho0); obtain ⟨Ao13, co13, eo13⟩ := Kd.R_slice HO7604.out; subst eo13) | ((with_reducible refine gate_callee (f := 34) rfl ?_); refine goesL_ (some 20) rfl rfl Try.func34 (by kernel_rfl) rfl #[.slice Ao13 t7602.length co13] rfl (by (try simp only [List.map_toArray, List.map_cons, List.map_nil]); first | done | rfl | (simp only [List.length_drop, List.length_take]; rfl)) ?_; (with_reducible refine (slices_Max_int_int.calls k _ _ t7602 t7606 _ ?side1 ?side2 A9.out).mono ?_); (case side1 => repeat (first | exact (Kd.R_reads' HO7604.out).2.2 | (with_reducible refine Kd.C_alloc ?_ _) | (with_reducible refine Kd.C_drewN ?_ _) | (with_reducible refine Kd.C_drew ?_))); (case side2 => exact (Kd.R_reads' HO7604.out).2.1); rintro e w14 ⟨rfl, hb⟩; refine ⟨_, rfl, ?_⟩; have n0_ := Aside0.mk (Kd.R_below (by (with_reducible repeat (first | apply Kd.R_alloc | apply Kd.R_drewN | apply Kd.R_drew)); exact HO7604.out) hb); have n1_ := Aside0.mk (blk_below (g := gb7601) (o := .cells #[.int .i64 a0_0, .int .i64 a0_1, .slice A0_2 l0_2.length c0_2] 24 (0, 0)) (by (with_reducible repeat (first | refine blk_drewN ?_ _ | refine blk_drew ?_ | refine blk_alloc ?_ _)); exact BK7601.out) hb); have n2_ := Aside0.mk (below_step (by repeat (first | (with_reducible first | exact HB.out | apply below_alloc | apply pw_below_drewN | apply below_drew1 | refine below_set ?_ GE7601.out) | exact HB.out)) hb); clear HO7604; clear BK7601; clear HB; have HO7604 := n0_; have BK7601 := n1_; have HB := n2_; clear n0_ n1_ n2_; (try clear hb); (try clear hb2); (try clear hk); (try clear hi)))
   go_ret2
   exact ⟨by first | rfl | (simp [errW_none, errW_some] <;> rfl) | (simp [*, errW_none, errW_some] <;> rfl), by repeat (first | (with_reducible first | exact HB.out | apply below_alloc | apply pw_below_drewN | apply below_drew1 | refine below_set ?_ GE7601.out) | exact HB.out)⟩
 ·rw [if_neg c3] at H
  have c3b0 : (t7605 == 0) = false := beq_eq_false_iff_ne.mpr c3
  have c3b1 : (t7605 != 0) = true := bne_iff_ne.mpr c3
  simp only [Option.some.injEq, Prod.mk.injEq] at H
  obtain ⟨rfl, rfl⟩ := H
  go_enter Try.func15, Try.ntmps15
  go_wp2_with (first | ((with_reducible refine gate_dst (N := 1) rfl ?_); (try (refine gate_guard (by rfl) ?_; dsimp only)); refine box_event ?hg (N := 1) ?hd (cs := #[.int .i64 a0_0, .int .i64 a0_1, .slice A0_2 l0_2.length c0_2]) (t := 24) ?hr ?_; (case hd => rfl); (case hg => rfl); (case hr => first | (go_simp; done) | (go_simp; rfl)); intro gb7601 hg w15 hbox hb; have n0_ := Aside0.mk (below_step (by repeat (first | (with_reducible first | exact HB.out | apply below_alloc | apply pw_below_drewN | apply below_drew1) | exact HB.out)) hb); have n1_ := Aside0.mk (hbox); have n2_ := Aside0.mk ((by rw [hg]; exact (below_size (by repeat (first | (with_reducible first | exact HB.out | apply below_alloc | apply pw_below_drewN | apply below_drew1) | exact HB.out))) : w.heap.size ≤ gb7601)); have n3_ := Aside0.mk ((by rw [hg]; exact (below_size (by repeat (first | (with_reducible first | exact HB.out | apply below_alloc | apply pw_below_drewN | apply below_drew1) | exact HB.out))) : w.heap.size ≤ gb7601)); clear HB; have HB := n0_; have BK7601 := n1_; have GW7601 := n2_; have GE7601 := n3_; clear n0_ n1_ n2_ n3_; clear hb hbox hg; have hcz16_0 : w15.cell? ⟨gb7601, 0, none⟩ = some (.int .i64 a0_0) := (blk_cell BK7601.out 0).trans rfl; have hcz16_1 : w15.cell? ⟨gb7601, 1, none⟩ = some (.int .i64 a0_1) := (blk_cell BK7601.out 1).trans rfl; have hcz16_2 : w15.cell? ⟨gb7601, 2, none⟩ = some (.slice A0_2 l0_2.length c0_2) := (blk_cell BK7601.out 2).trans rfl; have hfz16_0 := blk_frozen BK7601.out 0; have hfz16_1 := blk_frozen BK7601.out 1; have hfz16_2 := blk_frozen BK7601.out 2) | ((with_reducible refine gate_callee (f := 6) rfl ?_); refine goesL_ (some 8) rfl rfl Try.func6 (by kernel_rfl) rfl #[.agg #[.int .i64 a0_0, .int .i64 a0_1, .slice A0_2 l0_2.length c0_2]] rfl (by (try simp only [List.map_toArray, List.map_cons, List.map_nil]); first | done | rfl | (simp only [List.length_drop, List.length_take]; rfl)) ?_; (with_reducible refine (layers_Early.calls k a0_0 a0_1 _ _ l0_2 t7602 t7605 _ ?side1 ?side2 A2.out).mono ?_); (case side1 => repeat (first | exact (Kd.C_below HR0_2.out HB.out) | (with_reducible refine Kd.C_alloc ?_ _) | (with_reducible refine Kd.C_drewN ?_ _) | (with_reducible refine Kd.C_drew ?_))); (case side2 => exact HC0_2.out); rintro e w17 ⟨v7603, rfl, ho0, hb⟩; refine ⟨_, rfl, ?_⟩; have n0_ := Aside0.mk (Kd.R_lower ho0 (below_size (by repeat (first | (with_reducible first | exact HB.out | apply below_alloc | apply pw_below_drewN | apply below_drew1 | refine below_set ?_ GE7601.out) | exact HB.out)))); have n1_ := Aside0.mk (blk_below (g := gb7601) (o := .cells #[.int .i64 a0_0, .int .i64 a0_1, .slice A0_2 l0_2.length c0_2] 24 (0, 0)) (by (with_reducible repeat (first | refine blk_drewN ?_ _ | refine blk_drew ?_ | refine blk_alloc ?_ _)); exact BK7601.out) hb); have n2_ := Aside0.mk (below_step (by repeat (first | (with_reducible first | exact HB.out | apply below_alloc | apply pw_below_drewN | apply below_drew1 | refine below_set ?_ GE7601.out) | exact HB.out)) hb); clear BK7601; clear HB; have HO7604 := n0_; have BK7601 := n1_; have HB := n2_; clear n0_ n1_ n2_; (try clear hb); (try clear hb2); (try clear hk); (try clear hi); (try clear ho0)))
  go_ret2
  exact ⟨by first | rfl | (simp [errW_none, errW_some] <;> rfl) | (simp [*, errW_none, errW_some] <;> rfl), by repeat (first | (with_reducible first | exact HB.out | apply below_alloc | apply pw_below_drewN | apply below_drew1 | refine below_set ?_ GE7601.out) | exact HB.out)⟩
def wire_min (last : List Int) : Int → List Int → Option Int
 | m, [] => some m
 | m, w :: ws => if 0 ≤ w ∧ w < 128 then wire_min last (mn m (rd last w)) ws else none
def late_m (o : S57) (m : Int) : Int := if o.f0 = 4 then m else wrap64 (m - 1)
def late_go (d : Int) (l : List S57) : Nat → List Int → List Int → Option (List Int)
 | 0, _, out => some out
 | i + 1, free, out => (layers_wires.f (rd_T57 l i).f0 (rd_T57 l i).f1 (rd_T57 l i).f2 (rd_T57 l i).f3 (rd_T57 l i).f4 (rd_T57 l i).f5).bind fun ws => (wire_min free d ws).bind fun m =>
  (wire_set (late_m (rd_T57 l i) m) free ws).bind fun free' => late_go d l i free' (out.set i m)
def layers_Late.f (k : Nat) (a0_0 : Int) (a0_1 : Int) (l0_2 : List S57) : Option (List Int × Int) :=
 (layers_Depth.f k a0_0 a0_1 l0_2).bind fun b => if b.2 = 0 then (if l0_2.length < 17592186044416 then (late_go b.1 l0_2 l0_2.length (List.replicate 128 b.1) (List.replicate l0_2.length 0)).bind fun r => some (r, 0) else none) else some ([], b.2)
theorem h_fill (d : Int) (x : Nat) (h : x < 128) : (List.replicate x d ++ List.replicate (128 - x) (0 : Int)).set x d = List.replicate (x + 1) d ++ List.replicate (128 - (x + 1)) 0 := by
 rw [List.set_append_right _ _ (by simp)]
 obtain ⟨m, hm⟩ : ∃ m, 128 - x = m + 1 := ⟨127 - x, by omega⟩
 rw [hm, List.replicate_succ, List.length_replicate, Nat.sub_self, List.set_cons_zero, List.replicate_succ' (n := x), List.append_assoc, show 128 - (x + 1) = m by omega]
 rfl
set_option maxHeartbeats 8000000 in
set_option maxRecDepth 100000 in
theorem layers_Late.calls (k : Nat) (a0_0 : Int) (a0_1 : Int) (A0_2 : Option Addr) (c0_2 : Nat) (l0_2 : List (S57)) (r1 : List Int) (r2 : Int) (w : World) (hr0_2 : Kd.C k57 w A0_2 l0_2.length l0_2) (hc0_2 : l0_2.length ≤ c0_2) (h : layers_Late.f k a0_0 a0_1 l0_2 = some (r1, r2)) :
  Calls Try.prog 9 #[.agg #[.int .i64 a0_0, .int .i64 a0_1, .slice A0_2 l0_2.length c0_2]] w fun e w' => ∃ v0_ : Value, e = .returned (.tuple #[v0_, .int .i64 r2]) ∧ Kd.R (Kd.int .i64) 3 w' w.heap.size (fun _ => True) v0_ r1 ∧ Below w.heap.size w w' := by
 have hu24 := Try.underlying24
 have hu57 := Try.underlying57
 have HM := Aside0.mk hr0_2.2.1
 have HR := Aside0.mk hr0_2
 have HC := Aside0.mk hc0_2
 have HB := Aside0.mk (Below.refl w.heap.size w)
 unfold layers_Late.f at h
 obtain ⟨⟨d, e0⟩, AD0, H1⟩ := Option.bind_eq_some_iff.mp h
 have AD := Aside0.mk AD0
 clear hr0_2 hc0_2 h AD0
 by_cases c0 : e0 = 0
 ·subst c0
  rw [if_pos rfl] at H1
  by_cases cL : l0_2.length < 17592186044416
  ·rw [if_pos cL] at H1
   obtain ⟨r, H2, H3⟩ := Option.bind_eq_some_iff.mp H1
   simp only [Option.some.injEq, Prod.mk.injEq] at H3
   obtain ⟨rfl, rfl⟩ := H3
   have H' := Aside0.mk H2
   have HL := Aside0.mk cL
   clear H1 H2 cL
   go_enter Try.func9, Try.ntmps9
   go_wp2_with (first | ((with_reducible refine gate_dst (N := 1) rfl ?_); refine box_event ?hg (N := 1) ?hd (cs := #[.int .i64 a0_0, .int .i64 a0_1, .slice A0_2 l0_2.length c0_2]) (t := 24) ?hr ?_; (case hd => rfl); (case hg => rfl); (case hr => first | (go_simp; done) | (go_simp; rfl)); intro gb1 hg w1 BK1 hb; have G1 := Aside0.mk (show w.heap.size ≤ gb1 by rw [hg]; exact Nat.le_refl _); have HB1 := Aside0.mk (below_step HB.out hb); replace BK1 := Aside0.mk BK1; clear HB; have HB := HB1; clear HB1 hb hg; have hz0 : w1.cell? ⟨gb1, 0, none⟩ = some (.int .i64 a0_0) := (blk_cell BK1.out 0).trans rfl; have hz1 : w1.cell? ⟨gb1, 1, none⟩ = some (.int .i64 a0_1) := (blk_cell BK1.out 1).trans rfl; have hz2 : w1.cell? ⟨gb1, 2, none⟩ = some (.slice A0_2 l0_2.length c0_2) := (blk_cell BK1.out 2).trans rfl) | (go_at_call 15; refine (layers_Depth.calls k a0_0 a0_1 A0_2 c0_2 l0_2 d _ _ ?s1 ?s2 AD.out).mono ?_; (case s1 => exact Kd.C_below HR.out HB.out); (case s2 => exact HC.out); rintro e w2 ⟨rfl, hb⟩; have HB1 := Aside0.mk (below_step HB.out hb); have BK1' := Aside0.mk (blk_below BK1.out hb); clear HB BK1 hz0 hz1 hz2 hb; have HB := HB1; have BK1 := BK1'; clear HB1 BK1'; have hz2 : w2.cell? ⟨gb1, 2, none⟩ = some (.slice A0_2 l0_2.length c0_2) := (blk_cell BK1.out 2).trans rfl) | ((with_reducible refine gate_dst (N := 27) rfl ?_); refine Kd.R_make (Kd.int .i64) _ 3 rfl (N := 27) rfl 25 _ _ rfl (l0_2.length : Int) rfl rfl Try.underlying25 (.int .i64 0) 8 info3 rfl (by decide) (by omega) 0 (ok := fun _ => True) (okp := fun _ => True) rfl (fun _ hk => hk) trivial (by omega) (by have := HL.out; omega) (Below.refl _ _) (Nat.le_refl _) ?_; intro vo w3 ho hb hg_ hnew_; have HO := Aside0.mk (Kd.R_lower ho HB.out.size); have HOok := Aside0.mk (Kd.R_base ho); have HB1 := Aside0.mk (below_step HB.out hb); have BK1' := Aside0.mk (blk_below BK1.out hb); clear HB BK1 hz2 hb ho hg_ hnew_; have HB := HB1; have BK1 := BK1'; clear HB1 BK1') | ((with_reducible refine gate_dst (N := 7) rfl ?_); refine box_event ?hg (N := 7) ?hd (cs := Try.zeroCells63) (t := 63) ?hr ?_; (case hd => rfl); (case hg => rfl); (case hr => first | (go_simp; done) | (go_simp; rfl)); intro gb3 hg w4 BK3 hb; have G3 := Aside0.mk (show w.heap.size ≤ gb3 by rw [hg]; exact HB.out.size); have N13 := Aside0.mk (show gb1 ≠ gb3 by rw [hg]; exact Nat.ne_of_lt (blk_lt BK1.out)); have HB1 := Aside0.mk (below_step HB.out hb); have BK1' := Aside0.mk (blk_below BK1.out hb); have HA := Aside0.mk (h_row (k := .i64) (xs := List.replicate 128 (0 : Int)) (n := 128) (ok := fun k => k = gb3) (base := w.heap.size) (t := 63) (by rw [BK3]; kernel_rfl) G3.out (by simp) (by decide) rfl); have HO' := Aside0.mk (show Kd.R (Kd.int .i64) 3 w4 w.heap.size (fun k => k ≠ gb3) vo (List.replicate (l0_2.length : Int).toNat 0) from ⟨fun k hk e => by have h1 := own_lt (Kd.own_of_R (h1 := fun _ => rfl) HO.out) k hk; omega, (Kd.R_below HO.out hb).2⟩); clear HO HOok HB BK1 BK3; have HB := HB1; have BK1 := BK1'; have HO := HO'; clear HB1 BK1' HO' hb hg))
   go_loopg [28] 128 (fun kq v28 w' => ∃ (x : Int), v28 = .int .i64 x ∧ Aside0 (0 ≤ x ∧ x + kq = 128) ∧ Aside0 (Kd.R (Kd.int .i64) 3 w' w.heap.size (fun k => k ≠ gb3) vo (List.replicate (l0_2.length : Int).toNat 0)) ∧ Aside0 (Kd.R (Kd.int .i64) 63 w' w.heap.size (fun k => k = gb3) (.slice (some ⟨gb3, 0, none⟩) 128 128) (List.replicate x.toNat d ++ List.replicate (128 - x.toNat) 0)) ∧ Aside0 (w'.heap[gb1]? = some (.cells #[.int .i64 a0_0, .int .i64 a0_1, .slice A0_2 l0_2.length c0_2] 24 (0, 0))) ∧ Aside0 (Below w.heap.size w w'))
   case atStart => exact ⟨0, rfl, ⟨by omega, by omega⟩, HO, HA, BK1, HB⟩
   case round =>
    clear HO HA BK1 HB
    obtain ⟨x, rfl, HX, HO, HA, BK1, HB⟩ := hrel
    by_cases c1 : x < 128
    ·have t1 : decide (x < 128) = true := decide_eq_true c1
     have HP := Kd.R_putg HA.out x d
     have HP1 := Aside0.mk HP.1
     have HP2 := Aside0.mk HP.2
     have hcc := Kd.R_celln 0 HA.out x HX.out.1 (by simp; omega)
     obtain ⟨g3, f3_⟩ := hcc
     have C1 := Aside0.mk c1
     have q0 := eq_true HX.out.1
     have q1 := eq_true c1
     clear c1 HP
     go_wp2
     go_roundg (gk - 1)
     case measure => have := HX.out; have := C1.out; omega
     case rel => exact ⟨x + 1, by have := HX.out; have := C1.out; rw [show wrap64 (x + 1) = x + 1 by unfold wrap64; omega], ⟨by have := HX.out; omega, by have := HX.out; have := C1.out; omega⟩, ⟨Kd.R_grown HO.out HP2.out (fun k hk e => hk (by injection e))⟩, ⟨by have e1 := h_fill d x.toNat (by have := HX.out; have := C1.out; omega); have e2 := HP1.out; rw [e1] at e2; rw [show (x + 1).toNat = x.toNat + 1 by have := HX.out; omega]; exact e2⟩, ⟨blk_far BK1.out N13.out _⟩, ⟨below_set HB.out G3.out⟩⟩
    ·have t1 : decide (x < 128) = false := decide_eq_false c1
     obtain rfl : x = 128 := by have := HX.out; omega
     have HA' : Aside0 (Kd.R (Kd.int .i64) 63 wr w.heap.size (fun k => k = gb3) (.slice (some ⟨gb3, 0, none⟩) 128 128) (List.replicate 128 d)) := ⟨by have := HA.out; simpa using this⟩
     have hcz : wr.cell? ⟨gb1, 2, none⟩ = some (.slice A0_2 l0_2.length c0_2) := (blk_cell BK1.out 2).trans rfl
     clear HA c1 HX
     have n1 : wrap64 ((l0_2.length : Int) - 1) = (l0_2.length : Int) - 1 := by have := HM.out; unfold wrap64; omega
     have HN1 := Aside0.mk n1
     clear n1
     go_wp2
     go_loopg [9] l0_2.length (fun kq v9 w' => ∃ (free out : List Int) (x : Int), v9 = .int .i64 x ∧ Aside0 (x + 1 = kq ∧ kq ≤ l0_2.length ∧ out.length = l0_2.length) ∧ Aside0 (late_go d l0_2 kq free out = some r) ∧ Aside0 (Kd.R (Kd.int .i64) 3 w' w.heap.size (fun k => k ≠ gb3) vo out) ∧ Aside0 (Kd.R (Kd.int .i64) 63 w' w.heap.size (fun k => k = gb3) (.slice (some ⟨gb3, 0, none⟩) 128 128) free) ∧ Aside0 (w'.heap[gb1]? = some (.cells #[.int .i64 a0_0, .int .i64 a0_1, .slice A0_2 l0_2.length c0_2] 24 (0, 0))) ∧ Aside0 (Below w.heap.size w w'))
     case atStart => exact ⟨_, _, _, by rw [HN1.out], ⟨by omega, Nat.le_refl _, by simp⟩, H', HO, HA', BK1, HB⟩
     case round =>
      clear H' HA' HO BK1 HB hcz
      obtain ⟨free, out, x, rfl, HX, H', HO, HA, BK1, HB⟩ := hrel
      obtain ⟨gk0, egk⟩ : ∃ g, g = gk := ⟨_, rfl⟩
      subst egk
      by_cases c1 : 0 ≤ x
      ·have t1 : decide (0 ≤ x) = true := decide_eq_true c1
       obtain ⟨i, rfl⟩ : ∃ i, gk0 = i + 1 := ⟨gk0 - 1, by have := HX.out; omega⟩
       have ei : x.toNat = i := by have := HX.out; omega
       have eix : (i : Int) = x := by omega
       have c1l : x < l0_2.length := by have := HX.out; omega
       have H := H'.out
       unfold late_go at H
       rw [eix] at H
       obtain ⟨ws, A1_, H_⟩ := Option.bind_eq_some_iff.mp H
       obtain ⟨m, A2_0, H1⟩ := Option.bind_eq_some_iff.mp H_
       obtain ⟨free', A3_, H2⟩ := Option.bind_eq_some_iff.mp H1
       obtain ⟨ad, A2_, c2_, e_, hx0, hx1, hx2, hx3, hx4, hx5, hl, hi⟩ := at_T57 HR.out x c1 c1l
       cases e_
       replace hx0 := (HB.out.cell (World.block_lt_of_cell? w _ hx0)).trans hx0
       replace hx1 := (HB.out.cell (World.block_lt_of_cell? w _ hx1)).trans hx1
       replace hx2 := (HB.out.cell (World.block_lt_of_cell? w _ hx2)).trans hx2
       replace hx3 := (HB.out.cell (World.block_lt_of_cell? w _ hx3)).trans hx3
       replace hx4 := (HB.out.cell (World.block_lt_of_cell? w _ hx4)).trans hx4
       replace hx5 := (HB.out.cell (World.block_lt_of_cell? w _ hx5)).trans hx5
       have A1 := Aside0.mk A1_
       have A2 := Aside0.mk A2_0
       have A3 := Aside0.mk A3_
       have H' := Aside0.mk H2
       have HI := Aside0.mk hi
       have HI2 := Aside0.mk hl
       have EI := Aside0.mk ei
       have hcz : wr.cell? ⟨gb1, 2, none⟩ = some (.slice (some ad) l0_2.length c0_2) := (blk_cell BK1.out 2).trans rfl
       obtain ⟨go, co, eo, gbo, glo, clo, HGo⟩ := Kd.R_form HO.out (by have := HX.out; omega)
       subst eo
       have NG := Aside0.mk (show go ≠ gb3 from HO.out.1 go rfl)
       have GO := Aside0.mk gbo
       have NGW := Aside0.mk (h_lt HO.out)
       have HOL := Aside0.mk HX.out.2.2
       have q0 := eq_true c1
       have q1 := eq_true c1l
       clear H H_ H1 H2 hi hl A1_ A2_0 A3_ c1 c1l ei eix gbo glo clo HGo
       generalize hf0 : (rd_T57 l0_2 x).f0 = f0 at *
       generalize hf1 : (rd_T57 l0_2 x).f1 = f1 at *
       generalize hf2 : (rd_T57 l0_2 x).f2 = f2 at *
       generalize hf3 : (rd_T57 l0_2 x).f3 = f3 at *
       generalize hf4 : (rd_T57 l0_2 x).f4 = f4 at *
       generalize hf5 : (rd_T57 l0_2 x).f5 = f5 at *
       have HF0 := Aside0.mk hf0
       clear hf0 hf1 hf2 hf3 hf4 hf5
       go_wp2_with (first | (go_at_call 31; refine (layers_wires.calls f0 f1 A2_ c2_ f2 f3 f4 f5 ws _ ?s1 ?s2 A1.out).mono ?_; (case s1 => exact Kd.C_below HI.out (below_alloc HB.out _)); (case s2 => exact HI2.out); rintro e w5 ⟨vw, rfl, ho, hb⟩; have HW := Aside0.mk (Kd.R_lower ho (by simp; exact Nat.le_succ_of_le HB.out.size)); have HO' := Aside0.mk (Kd.R_below (Kd.R_alloc HO.out _) hb); have HA' := Aside0.mk (Kd.R_below (Kd.R_alloc HA.out _) hb); have BK1' := Aside0.mk (blk_below (blk_alloc BK1.out _) hb); have BK6 := Aside0.mk (blk_below (blk_new wr _) hb); have HB' := Aside0.mk (below_step (below_alloc HB.out _) hb); clear ho hb HO HA BK1 HB; have HO := HO'; have HA := HA'; have BK1 := BK1'; have HB := HB'; clear HO' HA' BK1' HB'; obtain ⟨Aw, cw, ew⟩ := Kd.R_slice HW.out; subst ew))
       have HL128 := Aside0.mk (h_len HA.out)
       have HWM := Aside0.mk ((Kd.R_reads' HW.out).2.2).2.1
       go_loop [11, 52] (fun v7 v22 => ∃ (m1 y : Int), v7 = .int .i64 m1 ∧ v22 = .int .i64 y ∧ Aside0 (0 ≤ y ∧ y ≤ ws.length) ∧ Aside0 (wire_min free m1 (ws.drop y.toNat) = some m)) (fun _ i => ws.length - (intOf i).toNat)
       case atStart => exact ⟨d, 0, rfl, rfl, ⟨by omega, by omega⟩, A2⟩
       case round =>
        clear A2
        obtain ⟨m1, y, rfl, rfl, HY, A2⟩ := hrel
        by_cases c3 : y < ws.length
        ·have t2 : decide (y < (ws.length : Int)) = true := decide_eq_true c3
         have y0 : 0 ≤ y := HY.out.1
         have H := A2.out
         rw [h_drop y0 c3] at H
         unfold wire_min at H
         by_cases c4 : 0 ≤ rd ws y ∧ rd ws y < 128
         ·rw [if_pos c4] at H
          obtain ⟨ad2, e2, g2⟩ := Kd.at_int (Kd.R_reads' HW.out).2.2 y y0 c3
          cases e2
          obtain ⟨g3, f3_⟩ := Kd.R_celln 0 HA.out (rd ws y) c4.1 (by have := HL128.out; omega)
          obtain ⟨j, hj⟩ : ∃ j, mn m1 (rd free (rd ws y)) = j := ⟨_, rfl⟩
          have hj_ : (if rd free (rd ws y) < m1 then rd free (rd ws y) else m1) = j := hj
          rw [hj] at H
          have A2' := Aside0.mk H
          have HW1 := Aside0.mk (h_w1 y0 c3 HWM.out)
          have C3 := Aside0.mk c3
          have q2 := eq_true y0
          have q3 := eq_true c3
          have q4 := eq_true c4.1
          have q5 := eq_true c4.2
          clear H A2 hj y0 c3 c4
          replace g3 : w5.cell? ⟨gb3, (rd ws y).toNat, none⟩ = some (.int .i64 (rd free (rd ws y))) := g3
          go_wp2
          refine ⟨⟨j, y + 1, rfl, by rw [HW1.out], ⟨by have := of_eq_true q2; omega, by have := C3.out; omega⟩, A2'⟩, ?_⟩
          have := of_eq_true q2
          have := C3.out
          rw [HW1.out]
          simp [intOf]
          omega
         ·rw [if_neg c4] at H
          exact absurd H (by simp)
        ·have H := A2.out
         rw [h_end c3] at H
         obtain rfl : m1 = m := Option.some.inj H
         have t2 : decide (y < (ws.length : Int)) = false := decide_eq_false c3
         clear H A2 c3
         have hcz0 : w5.cell? ⟨wr.heap.size, 0, none⟩ = some (.int .i64 f0) := (blk_cell BK6.out 0).trans rfl
         have hcz1 : w5.cell? ⟨wr.heap.size, 1, none⟩ = some (.int .i64 f1) := (blk_cell BK6.out 1).trans rfl
         have hcz2 : w5.cell? ⟨wr.heap.size, 2, none⟩ = some (.slice A2_ f2.length c2_) := (blk_cell BK6.out 2).trans rfl
         have hcz3 : w5.cell? ⟨wr.heap.size, 3, none⟩ = some (.int .i64 f3) := (blk_cell BK6.out 3).trans rfl
         have hcz4 : w5.cell? ⟨wr.heap.size, 4, none⟩ = some (.int .i64 f4) := (blk_cell BK6.out 4).trans rfl
         have hcz5 : w5.cell? ⟨wr.heap.size, 5, none⟩ = some (.int .i64 f5) := (blk_cell BK6.out 5).trans rfl
         obtain ⟨mm, hmm⟩ : ∃ mm, late_m (rd_T57 l0_2 x) m1 = mm := ⟨_, rfl⟩
         rw [hmm] at A3
         have HMM := Aside0.mk hmm
         clear hmm
         have key : (f0 = 4 ∧ m1 = mm) ∨ (f0 ≠ 4 ∧ wrap64 (m1 - 1) = mm) := by
          rw [← HMM.out]
          unfold late_m
          rw [HF0.out]
          by_cases c5 : f0 = 4
          ·exact .inl ⟨c5, by rw [if_pos c5]⟩
          ·exact .inr ⟨c5, by rw [if_neg c5]⟩
         have HP := Kd.R_putg HO.out x m1
         have HP1 := Aside0.mk HP.1
         have HP2 := Aside0.mk HP.2
         obtain ⟨go3, gof3⟩ := Kd.R_celln 0 HO.out x (of_eq_true q0) (by have := HOL.out; have := of_eq_true q1; omega)
         clear HP
         have HKEY := Aside0.mk key
         have qol : (x < (out.length : Int)) = True := eq_true (by have := HOL.out; have := of_eq_true q1; omega)
         have hne1 : go ≠ wr.heap.size := Nat.ne_of_lt NGW.out
         have hne2 : wr.heap.size ≠ go := Nat.ne_of_gt NGW.out
         rcases key with ⟨c5, e3⟩ | ⟨c5, e3⟩
         ·have t3 : (f0 != 4) = false := bne_eq_false_iff_eq.mpr c5
          obtain rfl : mm = m1 := e3.symm
          clear c5
          go_wp2_with (first | (go_at_call 31; refine (layers_wires.calls f0 f1 A2_ c2_ f2 f3 f4 f5 ws _ ?s1 ?s2 A1.out).mono ?_; (case s1 => exact Kd.C_below HI.out (below_set HB.out GO.out)); (case s2 => exact HI2.out); rintro e w6 ⟨vv, rfl, ho, hb⟩; have HA5 := Kd.R_grown HA.out HP2.out (fun k hk e => NG.out (by cases e; exact hk)); have N34 := h_lt HA5; have N35 := h_lt HP1.out; have HVok := Kd.R_base ho; have HV := Aside0.mk (show Kd.R (Kd.int .i64) 3 w6 w.heap.size (fun k => k ≠ gb3 ∧ k ≠ go) vv ws from ⟨fun k hk => by have h1 := HVok k hk; exact ⟨by omega, by omega⟩, (Kd.R_lower ho (below_set HB.out GO.out).size).2⟩); have HO6 := Aside0.mk (Kd.R_below HP1.out hb); have HA6 := Aside0.mk (Kd.R_below HA5 hb); have BK6' := Aside0.mk (blk_below (blk_grown BK1.out HP2.out (fun e => Kd.R_ne HO.out BK1.out (by decide) e)) hb); have HB6 := Aside0.mk (below_step (below_set HB.out GO.out) hb); clear ho hb HA5 N34 N35 HVok HO HA BK1 HB HP1 HP2 hcz hcz0 hcz1 hcz2 hcz3 hcz4 hcz5; obtain ⟨Av, cv, ev⟩ := Kd.R_slice HV.out; subst ev))
          go_loopg [74] ws.length (fun kq v40 w' => ∃ (last2 : List Int) (y2 : Int), v40 = .int .i64 y2 ∧ Aside0 (0 ≤ y2 ∧ y2 + kq = ws.length) ∧ Aside0 (wire_set mm last2 (ws.drop y2.toNat) = some free') ∧ Aside0 (Kd.R (Kd.int .i64) 3 w' w.heap.size (fun k => k ≠ gb3) (.slice (some ⟨go, 0, none⟩) out.length co) (out.set x.toNat mm)) ∧ Aside0 (Kd.R (Kd.int .i64) 63 w' w.heap.size (fun k => k = gb3) (.slice (some ⟨gb3, 0, none⟩) 128 128) last2) ∧ Aside0 (Kd.R (Kd.int .i64) 3 w' w.heap.size (fun k => k ≠ gb3 ∧ k ≠ go) (.slice Av ws.length cv) ws) ∧ Aside0 (w'.heap[gb1]? = some (.cells #[.int .i64 a0_0, .int .i64 a0_1, .slice (some ad) l0_2.length c0_2] 24 (0, 0))) ∧ Aside0 (Below w.heap.size w w'))
          case atStart => exact ⟨free, 0, rfl, ⟨by omega, by omega⟩, A3, HO6, HA6, HV, BK6', HB6⟩
          case round =>
           clear A3 HO6 HA6 HV BK6' HB6
           obtain ⟨last2, y2, rfl, HY2, A3, HO, HA, HV, BK1, HB⟩ := hrel
           have HL128 := Aside0.mk (h_len HA.out)
           by_cases c6 : y2 < ws.length
           ·have t4 : decide (y2 < (ws.length : Int)) = true := decide_eq_true c6
            have y0 : 0 ≤ y2 := HY2.out.1
            have H := A3.out
            rw [h_drop y0 c6] at H
            unfold wire_set at H
            by_cases c4 : 0 ≤ rd ws y2 ∧ rd ws y2 < 128
            ·rw [if_pos c4] at H
             obtain ⟨ad2, e2, g2⟩ := Kd.at_int (Kd.R_reads' HV.out).2.2 y2 y0 c6
             cases e2
             obtain ⟨g3, f3_⟩ := Kd.R_celln 0 HA.out (rd ws y2) c4.1 (by have := HL128.out; omega)
             have HP := Kd.R_putg HA.out (rd ws y2) mm
             have A3' := Aside0.mk H
             have HW1 := Aside0.mk (h_w1 y0 c6 HWM.out)
             have C3 := Aside0.mk c6
             have HP1 := Aside0.mk HP.1
             have HP2 := Aside0.mk HP.2
             have q2 := eq_true y0
             have q3 := eq_true c6
             have q4 := eq_true c4.1
             have q5 := eq_true c4.2
             clear H A3 y0 c6 c4 HP
             go_wp2
             go_roundg (gk - 1)
             case measure => have := HY2.out; have := C3.out; omega
             case rel => exact ⟨last2.set (rd ws y2).toNat mm, y2 + 1, by rw [HW1.out], ⟨by have := HY2.out; omega, by have := HY2.out; have := C3.out; omega⟩, A3', ⟨Kd.R_grown HO.out HP2.out (fun k hk e => hk (by injection e))⟩, HP1, ⟨Kd.R_grown HV.out HP2.out (fun k hk e => hk.1 (by injection e))⟩, ⟨blk_far BK1.out N13.out _⟩, ⟨below_set HB.out G3.out⟩⟩
            ·rw [if_neg c4] at H
             exact absurd H (by simp)
           ·have H := A3.out
            rw [h_end c6] at H
            obtain rfl : last2 = free' := Option.some.inj H
            have t4 : decide (y2 < (ws.length : Int)) = false := decide_eq_false c6
            have X1 := Aside0.mk (of_eq_true q1)
            have X0 := Aside0.mk (of_eq_true q0)
            clear H A3 c6
            go_wp2
            go_roundg i
            case measure => omega
            case rel => exact ⟨last2, out.set x.toNat mm, x - 1, by first | rfl | (have := X0.out; have := X1.out; have := HM.out; rw [show wrap64 (x - 1) = x - 1 by unfold wrap64; omega]), ⟨by have := HX.out; omega, by have := HX.out; omega, by have := HX.out; simp; omega⟩, ⟨by have := H'.out; rw [EI.out]; exact this⟩, HO, HA, BK1, HB⟩
         ·have t3 : (f0 != 4) = true := bne_iff_ne.mpr c5
          clear c5
          go_wp2_with (first | (go_at_call 31; refine (layers_wires.calls f0 f1 A2_ c2_ f2 f3 f4 f5 ws _ ?s1 ?s2 A1.out).mono ?_; (case s1 => exact Kd.C_below HI.out (below_set HB.out GO.out)); (case s2 => exact HI2.out); rintro e w6 ⟨vv, rfl, ho, hb⟩; have HA5 := Kd.R_grown HA.out HP2.out (fun k hk e => NG.out (by cases e; exact hk)); have N34 := h_lt HA5; have N35 := h_lt HP1.out; have HVok := Kd.R_base ho; have HV := Aside0.mk (show Kd.R (Kd.int .i64) 3 w6 w.heap.size (fun k => k ≠ gb3 ∧ k ≠ go) vv ws from ⟨fun k hk => by have h1 := HVok k hk; exact ⟨by omega, by omega⟩, (Kd.R_lower ho (below_set HB.out GO.out).size).2⟩); have HO6 := Aside0.mk (Kd.R_below HP1.out hb); have HA6 := Aside0.mk (Kd.R_below HA5 hb); have BK6' := Aside0.mk (blk_below (blk_grown BK1.out HP2.out (fun e => Kd.R_ne HO.out BK1.out (by decide) e)) hb); have HB6 := Aside0.mk (below_step (below_set HB.out GO.out) hb); clear ho hb HA5 N34 N35 HVok HO HA BK1 HB HP1 HP2 hcz hcz0 hcz1 hcz2 hcz3 hcz4 hcz5; obtain ⟨Av, cv, ev⟩ := Kd.R_slice HV.out; subst ev))
          go_loopg [74] ws.length (fun kq v40 w' => ∃ (last2 : List Int) (y2 : Int), v40 = .int .i64 y2 ∧ Aside0 (0 ≤ y2 ∧ y2 + kq = ws.length) ∧ Aside0 (wire_set mm last2 (ws.drop y2.toNat) = some free') ∧ Aside0 (Kd.R (Kd.int .i64) 3 w' w.heap.size (fun k => k ≠ gb3) (.slice (some ⟨go, 0, none⟩) out.length co) (out.set x.toNat m1)) ∧ Aside0 (Kd.R (Kd.int .i64) 63 w' w.heap.size (fun k => k = gb3) (.slice (some ⟨gb3, 0, none⟩) 128 128) last2) ∧ Aside0 (Kd.R (Kd.int .i64) 3 w' w.heap.size (fun k => k ≠ gb3 ∧ k ≠ go) (.slice Av ws.length cv) ws) ∧ Aside0 (w'.heap[gb1]? = some (.cells #[.int .i64 a0_0, .int .i64 a0_1, .slice (some ad) l0_2.length c0_2] 24 (0, 0))) ∧ Aside0 (Below w.heap.size w w'))
          case atStart => exact ⟨free, 0, rfl, ⟨by omega, by omega⟩, A3, HO6, HA6, HV, BK6', HB6⟩
          case round =>
           clear A3 HO6 HA6 HV BK6' HB6
           obtain ⟨last2, y2, rfl, HY2, A3, HO, HA, HV, BK1, HB⟩ := hrel
           have HL128 := Aside0.mk (h_len HA.out)
           by_cases c6 : y2 < ws.length
           ·have t4 : decide (y2 < (ws.length : Int)) = true := decide_eq_true c6
            have y0 : 0 ≤ y2 := HY2.out.1
            have H := A3.out
            rw [h_drop y0 c6] at H
            unfold wire_set at H
            by_cases c4 : 0 ≤ rd ws y2 ∧ rd ws y2 < 128
            ·rw [if_pos c4] at H
             obtain ⟨ad2, e2, g2⟩ := Kd.at_int (Kd.R_reads' HV.out).2.2 y2 y0 c6
             cases e2
             obtain ⟨g3, f3_⟩ := Kd.R_celln 0 HA.out (rd ws y2) c4.1 (by have := HL128.out; omega)
             have HP := Kd.R_putg HA.out (rd ws y2) mm
             have A3' := Aside0.mk H
             have HW1 := Aside0.mk (h_w1 y0 c6 HWM.out)
             have C3 := Aside0.mk c6
             have HP1 := Aside0.mk HP.1
             have HP2 := Aside0.mk HP.2
             have q2 := eq_true y0
             have q3 := eq_true c6
             have q4 := eq_true c4.1
             have q5 := eq_true c4.2
             clear H A3 y0 c6 c4 HP
             go_wp2
             go_roundg (gk - 1)
             case measure => have := HY2.out; have := C3.out; omega
             case rel => exact ⟨last2.set (rd ws y2).toNat mm, y2 + 1, by rw [HW1.out], ⟨by have := HY2.out; omega, by have := HY2.out; have := C3.out; omega⟩, A3', ⟨Kd.R_grown HO.out HP2.out (fun k hk e => hk (by injection e))⟩, HP1, ⟨Kd.R_grown HV.out HP2.out (fun k hk e => hk.1 (by injection e))⟩, ⟨blk_far BK1.out N13.out _⟩, ⟨below_set HB.out G3.out⟩⟩
            ·rw [if_neg c4] at H
             exact absurd H (by simp)
           ·have H := A3.out
            rw [h_end c6] at H
            obtain rfl : last2 = free' := Option.some.inj H
            have t4 : decide (y2 < (ws.length : Int)) = false := decide_eq_false c6
            have X1 := Aside0.mk (of_eq_true q1)
            have X0 := Aside0.mk (of_eq_true q0)
            clear H A3 c6
            go_wp2
            go_roundg i
            case measure => omega
            case rel => exact ⟨last2, out.set x.toNat m1, x - 1, by first | rfl | (have := X0.out; have := X1.out; have := HM.out; rw [show wrap64 (x - 1) = x - 1 by unfold wrap64; omega]), ⟨by have := HX.out; omega, by have := HX.out; omega, by have := HX.out; simp; omega⟩, ⟨by have := H'.out; rw [EI.out]; exact this⟩, HO, HA, BK1, HB⟩
      ·have t1 : decide (0 ≤ x) = false := decide_eq_false c1
       have H := H'.out
       obtain rfl : gk0 = 0 := by have := HX.out; omega
       unfold late_go at H
       obtain rfl : out = r := Option.some.inj H
       obtain ⟨Ao, co, eo⟩ := Kd.R_slice HO.out
       subst eo
       clear H H' c1
       go_wp2
       go_ret2
       exact ⟨_, rfl, Kd.R_mono HO.out (fun _ _ => trivial), HB.out⟩
  ·rw [if_neg cL] at H1
   exact absurd H1 (by simp)
 ·rw [if_neg c0] at H1
  simp only [Option.some.injEq, Prod.mk.injEq] at H1
  obtain ⟨rfl, rfl⟩ := H1
  have t0 : (e0 != 0) = true := bne_iff_ne.mpr c0
  clear c0
  go_enter Try.func9, Try.ntmps9
  go_wp2_with (first | ((with_reducible refine gate_dst (N := 1) rfl ?_); refine box_event ?hg (N := 1) ?hd (cs := #[.int .i64 a0_0, .int .i64 a0_1, .slice A0_2 l0_2.length c0_2]) (t := 24) ?hr ?_; (case hd => rfl); (case hg => rfl); (case hr => first | (go_simp; done) | (go_simp; rfl)); intro gb1 hg w1 BK1 hb; have G1 := Aside0.mk (show w.heap.size ≤ gb1 by rw [hg]; exact Nat.le_refl _); have HB1 := Aside0.mk (below_step HB.out hb); replace BK1 := Aside0.mk BK1; clear HB; have HB := HB1; clear HB1 hb hg; have hz0 : w1.cell? ⟨gb1, 0, none⟩ = some (.int .i64 a0_0) := (blk_cell BK1.out 0).trans rfl; have hz1 : w1.cell? ⟨gb1, 1, none⟩ = some (.int .i64 a0_1) := (blk_cell BK1.out 1).trans rfl; have hz2 : w1.cell? ⟨gb1, 2, none⟩ = some (.slice A0_2 l0_2.length c0_2) := (blk_cell BK1.out 2).trans rfl) | (go_at_call 15; refine (layers_Depth.calls k a0_0 a0_1 A0_2 c0_2 l0_2 d _ _ ?s1 ?s2 AD.out).mono ?_; (case s1 => exact Kd.C_below HR.out HB.out); (case s2 => exact HC.out); rintro e w2 ⟨rfl, hb⟩; have HB1 := Aside0.mk (below_step HB.out hb); have BK1' := Aside0.mk (blk_below BK1.out hb); clear HB BK1 hz0 hz1 hz2 hb; have HB := HB1; have BK1 := BK1'; clear HB1 BK1'; have hz2 : w2.cell? ⟨gb1, 2, none⟩ = some (.slice A0_2 l0_2.length c0_2) := (blk_cell BK1.out 2).trans rfl))
  go_ret2
  exact ⟨_, rfl, Kd.R_nil _ _ _ _ _, HB.out⟩
def slices_Reverse_int_int.l0 : Nat → List Int → Int → Int → Option (List Int)
 | 0, _, _, _ => none
 | k + 1, x0, x2, x3 => if x2 < x3 then (if 0 ≤ x3 then (if x3 < (x0.length : Int) then (if 0 ≤ x2 then (if x2 < (x0.length : Int) then (slices_Reverse_int_int.l0 k ((x0.set (x2 : Int).toNat (rd x0 x3)).set (x3 : Int).toNat (rd x0 x2)) (wrap64 (x2 + 1)) (wrap64 (x3 - 1))) else (none)) else (none)) else (none)) else (none)) else (some x0)
def slices_Reverse_int_int.f (k : Nat) (l0 : List Int) : Option (List Int) := slices_Reverse_int_int.l0 k l0 0 (wrap64 ((l0.length : Int) - 1))
def slices_Reverse_int_int.T3 : Bool × List (List Nat × List Nat) := (true, [([], []), ([], []), ([], []), ([], []), ([], []), ([], []), ([4, 5], [4, 5]), ([6], [6]), ([], []), ([], []), ([8, 9], [8, 9]), ([10], [10]), ([0, 1, 0, 1, 4, 5, 6, 7, 11], [0, 1]), ([12, 7, 0, 1, 4, 5, 6, 7, 11], [7, 12]), ([2, 3, 0, 1, 2, 3, 4, 5, 6, 7, 8, 9, 10, 11, 12, 13], [2, 3]), ([14, 11, 13, 0, 1, 2, 3, 4, 5, 6, 7, 8, 9, 10, 11, 12, 13], [11, 14])])
def slices_Reverse_int_int.B3 : List Nat := [0, 0, 0, 0, 0, 0, 48, 112, 0, 0, 768, 1792, 4083, 8179, 16383, 32767]
theorem slices_Reverse_int_int.tab3 : rtab .any (opsOf Try.f49 3) = slices_Reverse_int_int.T3 := by kernel_rfl
theorem slices_Reverse_int_int.bits3 : waitsOk slices_Reverse_int_int.T3.2 slices_Reverse_int_int.B3 = true := by kernel_rfl
set_option maxHeartbeats 8000000 in
set_option maxRecDepth 100000 in
theorem slices_Reverse_int_int.calls (k : Nat) (P0_ : Nat → Prop) (u9000_ : Value) (l0 : List Int) (r : List Int) (w0 w : World) (hB : Below w0.heap.size w0 w) (ho0 : Kd.R (Kd.int .i64) 3 w w0.heap.size P0_ u9000_ l0) (h : slices_Reverse_int_int.f k l0 = some r) :
  Calls Try.prog 49 #[u9000_] w fun e w' => e = .returned (.tuple #[]) ∧ Kd.R (Kd.int .i64) 3 w' w0.heap.size (fun k_ => (P0_ k_ ∨ w.heap.size ≤ k_)) u9000_ r ∧ Below w0.heap.size w0 w' ∧ Kept w w' (fun k_ => P0_ k_) := by
 have HO0 := Aside0.mk (show Kd.R (Kd.int .i64) 3 w w0.heap.size (fun k_ => (P0_ k_ ∨ w.heap.size ≤ k_)) u9000_ l0 from Kd.R_mono ho0 (fun k_ hk => (.inl hk)))
 have HK := Aside0.mk (Kept.refl w (fun k_ => P0_ k_))
 have HW0 := Aside0.mk hB.size
 have HB := Aside0.mk hB
 clear hB
 have H : (slices_Reverse_int_int.l0 k l0 0 (wrap64 ((l0.length : Int) - 1))) = some r := h
 clear h
 have H' := Aside0.mk H
 clear H
 obtain ⟨Ao2, co2, eo2⟩ := Kd.R_slice HO0.out
 subst eo2
 go_enter Try.func49, Try.ntmps49
 go_wp2
 go_loopg [2, 3] k (fun kq v2 v3 w' => ∃ (x0_1 : List Int) (x2_1 : Int) (x3_1 : Int), v2 = .int .i64 x2_1 ∧ v3 = .int .i64 x3_1 ∧ Aside0 (slices_Reverse_int_int.l0 kq x0_1 x2_1 x3_1 = some r) ∧ Aside0 (kq ≤ k) ∧ Aside0 (Kd.R (Kd.int .i64) 3 w' w0.heap.size (fun k_ => (P0_ k_ ∨ w.heap.size ≤ k_)) (.slice Ao2 l0.length co2) x0_1) ∧ Aside0 (Kept w w' (fun k_ => P0_ k_)) ∧ Aside0 (Below w0.heap.size w0 w'))
 case atStart => exact ⟨(l0), (0), (wrap64 ((l0.length : Int) - 1)), (by first | rfl | (simp; done) | (simp [*]; done)), (by first | rfl | (simp; done) | (simp [*]; done)), H', ⟨Nat.le_refl _⟩, ⟨by (with_reducible repeat (first | apply Kd.R_alloc | apply Kd.R_drewN | apply Kd.R_drew)); exact HO0.out⟩, ⟨by repeat (first | (with_reducible first | exact HK.out | apply Kept.alloc | apply Kept.drewN | apply Kept.drew) | exact HK.out)⟩, ⟨by repeat (first | (with_reducible first | exact HB.out | apply below_alloc | apply pw_below_drewN | apply below_drew1) | exact HB.out)⟩⟩
 case round =>
  clear H'
  try clear p2
  obtain ⟨x0_1, x2_1, x3_1, rfl, rfl, HA, HK1, HO_0, HK, HB⟩ := hrel
  have hl0_1 := (Kd.R_reads' HO_0.out).1
  rw [hl0_1] at HO_0
  (try simp only [hl0_1])
  cases gk with
  | zero => exact absurd HA.out (by simp [slices_Reverse_int_int.l0])
  | succ k1 =>
   have H := HA.out
   clear HA
   simp only [slices_Reverse_int_int.l0] at H
   by_cases c3 : x2_1 < x3_1
   ·rw [if_pos c3] at H
    have c3b0 : decide (x2_1 < x3_1) = true := decide_eq_true c3
    clear c3
    by_cases c4 : 0 ≤ x3_1
    ·rw [if_pos c4] at H
     have c4b0 : decide (0 ≤ x3_1) = true := decide_eq_true c4
     clear c4
     by_cases c5 : x3_1 < (x0_1.length : Int)
     ·rw [if_pos c5] at H
      have c5b0 : decide (x3_1 < (x0_1.length : Int)) = true := decide_eq_true c5
      clear c5
      by_cases c6 : 0 ≤ x2_1
      ·rw [if_pos c6] at H
       have c6b0 : decide (0 ≤ x2_1) = true := decide_eq_true c6
       clear c6
       by_cases c7 : x2_1 < (x0_1.length : Int)
       ·rw [if_pos c7] at H
        have c7b0 : decide (x2_1 < (x0_1.length : Int)) = true := decide_eq_true c7
        clear c7
        obtain ⟨y24603, hy24603⟩ : ∃ y_ : List Int, y_ = (x0_1.set (x2_1 : Int).toNat (rd x0_1 x3_1)) := ⟨_, rfl⟩
        replace H : (slices_Reverse_int_int.l0 k1 (y24603.set (x3_1 : Int).toNat (rd x0_1 x2_1)) (wrap64 (x2_1 + 1)) (wrap64 (x3_1 - 1))) = some r := by first | (rw [hy24603]; with_reducible exact H) | (have H2_ := (Option.bind_some _ _).symm.trans H; rw [hy24603]; with_reducible exact H2_) | (have H2_ := (Option.bind_some _ _).symm.trans H; with_reducible exact H2_) | with_reducible exact H | (rw [hy24603]; exact H) | exact H
        have Ny24603 := Aside0.mk hy24603
        clear hy24603
        obtain ⟨y24604, hy24604⟩ : ∃ y_ : List Int, y_ = (y24603.set (x3_1 : Int).toNat (rd x0_1 x2_1)) := ⟨_, rfl⟩
        replace H : (slices_Reverse_int_int.l0 k1 y24604 (wrap64 (x2_1 + 1)) (wrap64 (x3_1 - 1))) = some r := by first | (rw [hy24604]; with_reducible exact H) | (have H2_ := (Option.bind_some _ _).symm.trans H; rw [hy24604]; with_reducible exact H2_) | (have H2_ := (Option.bind_some _ _).symm.trans H; with_reducible exact H2_) | with_reducible exact H | (rw [hy24604]; exact H) | exact H
        have Ny24604 := Aside0.mk hy24604
        clear hy24604
        have H' := Aside0.mk H
        clear H
        try go_wp2
        have n0_ := Aside0.mk (Kd.R_drew HO_0.out)
        have n1_ := Aside0.mk (Kept.drew HK.out)
        have n2_ := Aside0.mk (below_drew1 HB.out)
        clear HO_0
        clear HK
        clear HB
        have HO_0 := n0_
        have HK := n1_
        have HB := n2_
        clear n0_ n1_ n2_
        have p24601 : 0 ≤ (x3_1 : Int) := of_decide_eq_true (by first | (with_reducible assumption) | assumption)
        have q24601 : x3_1 < (x0_1.length : Int) := of_decide_eq_true (by first | (with_reducible assumption) | assumption)
        obtain ⟨ad24601, e24601, hx24601_0⟩ := Kd.at_int (Kd.R_reads' HO_0.out).2.2 x3_1 p24601 q24601
        cases e24601
        replace p24601 := eq_true p24601
        replace q24601 := eq_true q24601
        have p24602 : 0 ≤ (x2_1 : Int) := of_decide_eq_true (by first | (with_reducible assumption) | assumption)
        have q24602 : x2_1 < (x0_1.length : Int) := of_decide_eq_true (by first | (with_reducible assumption) | assumption)
        obtain ⟨ad24602, e24602, hx24602_0⟩ := Kd.at_int (Kd.R_reads' HO_0.out).2.2 x2_1 p24602 q24602
        obtain rfl : ad24601 = ad24602 := (by injection e24602)
        replace p24602 := eq_true p24602
        replace q24602 := eq_true q24602
        have p8 : 0 ≤ (x2_1 : Int) := of_decide_eq_true (by first | (with_reducible assumption) | assumption)
        have q8 : (x2_1 : Int) < ((x0_1.length : Int) : Int) := of_decide_eq_true (by first | (with_reducible assumption) | assumption)
        obtain ⟨go8, co8, eo8, gb8, gl8, cl8, HG8⟩ := Kd.R_form HO_0.out (by omega)
        (first | cases eo8 | (injection eo8 with ea_ en_ ec_; (first | subst ea_ | (injection ea_ with ea_; subst ea_)); subst ec_; clear en_))
        have GB8 := Aside0.mk gb8
        have GG8 := Aside0.mk HG8
        clear gb8 gl8 HG8
        have HMgo8 := Aside0.mk (show (P0_ go8 ∨ w.heap.size ≤ go8) from (HO_0.out.1 _ rfl))
        (first | simp only [add_plain] at hx24601_0 | skip)
        (first | simp only [add_plain] at hx24602_0 | skip)
        obtain ⟨hx8_0, hf8_0⟩ := Kd.R_celln 0 HO_0.out (x2_1 : Int) p8 q8
        replace p8 := eq_true p8
        replace q8 := eq_true q8
        have HP11 := Kd.R_putn HO_0.out (x2_1 : Int) (rd x0_1 x3_1)
        rw [← Ny24603.out] at HP11
        have HQ11 := Aside0.mk HP11
        clear HP11
        have p9 : 0 ≤ (x3_1 : Int) := of_decide_eq_true (by first | (with_reducible assumption) | assumption)
        have q9 : (x3_1 : Int) < ((x0_1.length : Int) : Int) := of_decide_eq_true (by first | (with_reducible assumption) | assumption)
        obtain ⟨hx9_0, hf9_0⟩ := Kd.R_celln 0 HQ11.out (x3_1 : Int) p9 q9
        replace p9 := eq_true p9
        replace q9 := eq_true q9
        have HP12 := Kd.R_putn HQ11.out (x3_1 : Int) (rd x0_1 x2_1)
        rw [← Ny24604.out] at HP12
        have HQ12 := Aside0.mk HP12
        clear HP12
        refine start_ (n := 16) (S := fun w' => w'.cell? ⟨go8, (x3_1).toNat, none⟩ = some (.int .i64 (rd x0_1 x3_1)) ∧ w'.cell? ⟨go8, (x2_1).toNat, none⟩ = some (.int .i64 (rd x0_1 x2_1))) (ds := [13, 15]) #[false, false, false, false, false, false, false, false, false, false, false, false, false, false, false, false] (by kernel_rfl) rfl rfl ⟨hx24601_0, hx24602_0⟩ (fun hHeld => ?_); refine with_tabW slices_Reverse_int_int.tab3 slices_Reverse_int_int.bits3 (fun HT_ HW_ => ?_)
        generalize wr.drew = w10 at HO_0 HK HB GG8 HQ11 HQ12 hf8_0 hf9_0 hx24601_0 hx24602_0 hx8_0 hx9_0 hHeld ⊢
        refine pure_ (i := 0) (N := some 14) (v := ?_) (a' := ?_) #[true, false, false, false, false, false, false, false, false, false, false, false, false, false, false, false] rfl rfl (any_of HT_.out (by kernel_rfl)) (fun _ _ _ h => h) (Or.inl ⟨by rfl, ?_⟩) ?_ ?_
        rotate_left
        ·intro w'
         go_simp
         with_reducible rfl
        rotate_left
        ·simp only [Act.put, List.setIfInBounds_toArray, List.set_cons_zero, List.set_cons_succ, i64_w, i32_w]
         rfl
        refine pure_ (i := 1) (N := some 15) (v := ?_) (a' := ?_) #[true, true, false, false, false, false, false, false, false, false, false, false, false, false, false, false] rfl rfl (any_of HT_.out (by kernel_rfl)) (fun _ _ _ h => h) (Or.inl ⟨by rfl, ?_⟩) ?_ ?_
        rotate_left
        ·intro w'
         go_simp
         with_reducible rfl
        rotate_left
        ·simp only [Act.put, List.setIfInBounds_toArray, List.set_cons_zero, List.set_cons_succ, i64_w, i32_w]
         rfl
        refine pure_ (i := 2) (N := some 16) (v := ?_) (a' := ?_) #[true, true, true, false, false, false, false, false, false, false, false, false, false, false, false, false] rfl rfl (any_of HT_.out (by kernel_rfl)) (fun _ _ _ h => h) (Or.inl ⟨by rfl, ?_⟩) ?_ ?_
        rotate_left
        ·intro w'
         go_simp
         with_reducible rfl
        rotate_left
        ·simp only [Act.put, List.setIfInBounds_toArray, List.set_cons_zero, List.set_cons_succ, i64_w, i32_w]
         rfl
        refine pure_ (i := 3) (N := some 17) (v := ?_) (a' := ?_) #[true, true, true, true, false, false, false, false, false, false, false, false, false, false, false, false] rfl rfl (any_of HT_.out (by kernel_rfl)) (fun _ _ _ h => h) (Or.inl ⟨by rfl, ?_⟩) ?_ ?_
        rotate_left
        ·intro w'
         go_simp
         with_reducible rfl
        rotate_left
        ·simp only [Act.put, List.setIfInBounds_toArray, List.set_cons_zero, List.set_cons_succ, i64_w, i32_w]
         rfl
        refine pure_ (i := 4) (N := some 18) (v := ?_) (a' := ?_) #[true, true, true, true, true, false, false, false, false, false, false, false, false, false, false, false] rfl rfl (any_of HT_.out (by kernel_rfl)) (fun _ _ _ h => h) (Or.inl ⟨by rfl, ?_⟩) ?_ ?_
        rotate_left
        ·intro w'
         go_simp
         with_reducible rfl
        rotate_left
        ·simp only [Act.put, List.setIfInBounds_toArray, List.set_cons_zero, List.set_cons_succ, i64_w, i32_w]
         rfl
        refine pure_ (i := 5) (N := some 19) (v := ?_) (a' := ?_) #[true, true, true, true, true, true, false, false, false, false, false, false, false, false, false, false] rfl rfl (any_of HT_.out (by kernel_rfl)) (fun _ _ _ h => h) (Or.inl ⟨by rfl, ?_⟩) ?_ ?_
        rotate_left
        ·intro w'
         go_simp
         with_reducible rfl
        rotate_left
        ·simp only [Act.put, List.setIfInBounds_toArray, List.set_cons_zero, List.set_cons_succ, i64_w, i32_w]
         rfl
        refine pure_ (i := 6) (N := some 20) (v := ?_) (a' := ?_) #[true, true, true, true, true, true, true, false, false, false, false, false, false, false, false, false] rfl rfl (any_of HT_.out (by kernel_rfl)) (fun _ _ _ h => h) (Or.inl ⟨by rfl, ?_⟩) ?_ ?_
        rotate_left
        ·intro w'
         go_simp
         with_reducible rfl
        rotate_left
        ·simp only [Act.put, List.setIfInBounds_toArray, List.set_cons_zero, List.set_cons_succ, i64_w, i32_w]
         rfl
        refine pure_ (i := 8) (N := some 22) (v := ?_) (a' := ?_) #[true, true, true, true, true, true, true, false, true, false, false, false, false, false, false, false] rfl rfl (any_of HT_.out (by kernel_rfl)) (fun _ _ _ h => h) (Or.inl ⟨by rfl, ?_⟩) ?_ ?_
        rotate_left
        ·intro w'
         go_simp
         with_reducible rfl
        rotate_left
        ·simp only [Act.put, List.setIfInBounds_toArray, List.set_cons_zero, List.set_cons_succ, i64_w, i32_w]
         rfl
        refine pure_ (i := 9) (N := some 23) (v := ?_) (a' := ?_) #[true, true, true, true, true, true, true, false, true, true, false, false, false, false, false, false] rfl rfl (any_of HT_.out (by kernel_rfl)) (fun _ _ _ h => h) (Or.inl ⟨by rfl, ?_⟩) ?_ ?_
        rotate_left
        ·intro w'
         go_simp
         with_reducible rfl
        rotate_left
        ·simp only [Act.put, List.setIfInBounds_toArray, List.set_cons_zero, List.set_cons_succ, i64_w, i32_w]
         rfl
        refine pure_ (i := 10) (N := some 24) (v := ?_) (a' := ?_) #[true, true, true, true, true, true, true, false, true, true, true, false, false, false, false, false] rfl rfl (any_of HT_.out (by kernel_rfl)) (fun _ _ _ h => h) (Or.inl ⟨by rfl, ?_⟩) ?_ ?_
        rotate_left
        ·intro w'
         go_simp
         with_reducible rfl
        rotate_left
        ·simp only [Act.put, List.setIfInBounds_toArray, List.set_cons_zero, List.set_cons_succ, i64_w, i32_w]
         rfl
        refine take_ (i := 7) (N := some 21) (v := ?_) (a' := ?_) #[true, true, true, true, true, true, true, true, true, true, true, false, false, false, false, false] rfl rfl (take_ofW HT_.out HW_.out (by kernel_rfl)) (fun _ _ _ h => h) (Or.inl ⟨by rfl, ?_⟩) hHeld ?_ ?_
        rotate_left
        ·rintro w' ⟨s0, s1⟩
         go_simp
         with_reducible rfl
        rotate_left
        ·simp only [Act.put, List.setIfInBounds_toArray, List.set_cons_zero, List.set_cons_succ, i64_w, i32_w]
         rfl
        refine take_ (i := 11) (N := some 25) (v := ?_) (a' := ?_) #[true, true, true, true, true, true, true, true, true, true, true, true, false, false, false, false] rfl rfl (take_ofW HT_.out HW_.out (by kernel_rfl)) (fun _ _ _ h => h) (Or.inl ⟨by rfl, ?_⟩) hHeld ?_ ?_
        rotate_left
        ·rintro w' ⟨s0, s1⟩
         go_simp
         with_reducible rfl
        rotate_left
        ·simp only [Act.put, List.setIfInBounds_toArray, List.set_cons_zero, List.set_cons_succ, i64_w, i32_w]
         rfl
        refine pure_ (i := 12) (N := some 26) (v := ?_) (a' := ?_) #[true, true, true, true, true, true, true, true, true, true, true, true, true, false, false, false] rfl rfl (any_of HT_.out (by kernel_rfl)) (fun _ _ _ h => h) (Or.inl ⟨by rfl, ?_⟩) ?_ ?_
        rotate_left
        ·intro w'
         go_simp
         with_reducible rfl
        rotate_left
        ·simp only [Act.put, List.setIfInBounds_toArray, List.set_cons_zero, List.set_cons_succ, i64_w, i32_w]
         rfl
        refine last_ (i := 13) (N := none) #[true, true, true, true, true, true, true, true, true, true, true, true, true, true, false, false] rfl rfl (one_of HT_.out (by kernel_rfl)) (by decide) (fun K hK => ?_)
        refine skip_ (w1 := ?_) (by rfl) rfl ?_ ?_
        rotate_left
        ·go_simp
         rfl
        refine hK.out _ _ ?_
        clear hK K
        refine pure_ (i := 14) (N := some 27) (v := ?_) (a' := ?_) #[true, true, true, true, true, true, true, true, true, true, true, true, true, true, true, false] rfl rfl (any_of HT_.out (by kernel_rfl)) (fun _ _ _ h => h) (Or.inl ⟨by rfl, ?_⟩) ?_ ?_
        rotate_left
        ·intro w'
         go_simp
         with_reducible rfl
        rotate_left
        ·simp only [Act.put, List.setIfInBounds_toArray, List.set_cons_zero, List.set_cons_succ, i64_w, i32_w]
         rfl
        refine last_ (i := 15) (N := none) #[true, true, true, true, true, true, true, true, true, true, true, true, true, true, true, true] rfl rfl (one_of HT_.out (by kernel_rfl)) (by decide) (fun K hK => ?_)
        refine skip_ (w1 := ?_) (by rfl) rfl ?_ ?_
        rotate_left
        ·go_simp
         rfl
        refine hK.out _ _ ?_
        clear hK K
        refine done_ (done_of HT_.out (by kernel_rfl)) ?_
        try go_wp2
        (try simp only [← hl0_1])
        go_roundg k1
        case measure => have := HK1.out; omega
        case rel => exact ⟨(y24604), (wrap64 (x2_1 + 1)), (wrap64 (x3_1 - 1)), (by first | rfl | (simp; done) | (simp [*]; done)), (by first | rfl | (simp; done) | (simp [*]; done)), H', ⟨by have := HK1.out; omega⟩, ⟨by (try simp only [hl0_1]); (with_reducible repeat (first | apply Kd.R_alloc | apply Kd.R_drewN | apply Kd.R_drew)); exact HQ12.out⟩, ⟨by repeat (first | (with_reducible first | exact HK.out | apply Kept.alloc | apply Kept.drewN | apply Kept.drew | refine Kept.setCell ?_ HMgo8.out _ | refine Kept.setCell ?_ HMgo8.out _) | exact HK.out)⟩, ⟨by repeat (first | (with_reducible first | exact HB.out | apply below_alloc | apply pw_below_drewN | apply below_drew1 | refine below_set ?_ GB8.out | refine below_set ?_ GB8.out) | exact HB.out)⟩⟩
       ·rw [if_neg c7] at H
        exact absurd H (by simp)
      ·rw [if_neg c6] at H
       exact absurd H (by simp)
     ·rw [if_neg c5] at H
      exact absurd H (by simp)
    ·rw [if_neg c4] at H
     exact absurd H (by simp)
   ·rw [if_neg c3] at H
    have c3b0 : decide (x2_1 < x3_1) = false := decide_eq_false c3
    clear c3
    obtain rfl := Option.some.inj H
    go_wp2
    first | go_end0 | ((try simp only [Exit.inBlock, Exit.then]); refine bodyPost_ret (results_none rfl _ _ _) rfl ?_)
    exact ⟨by first | rfl | (simp [errW_none, errW_some] <;> rfl) | (simp [*, errW_none, errW_some] <;> rfl), (by first | exact (by (with_reducible repeat (first | apply Kd.R_alloc | apply Kd.R_drewN | apply Kd.R_drew)); exact HO_0.out) | (simp only [hl0_1]; exact (by (with_reducible repeat (first | apply Kd.R_alloc | apply Kd.R_drewN | apply Kd.R_drew)); exact HO_0.out))), by repeat (first | (with_reducible first | exact HB.out | apply below_alloc | apply pw_below_drewN | apply below_drew1) | exact HB.out), by repeat (first | (with_reducible first | exact HK.out | apply Kept.alloc | apply Kept.drewN | apply Kept.drew) | exact HK.out)⟩
theorem h_rowB {w : World} {g : Nat} {t base n : Nat} {xs : List Bool} {ok : Nat → Prop} (h : w.heap[g]? = some (.cells (bools xs).toArray t (0, 0))) (hb : base ≤ g) (hn : xs.length = n) (hm : n ≤ 9223372036854775807) (hok : ok g) :
  Kd.R Kd.bool t w base ok (.slice (some ⟨g, 0, none⟩) n n) xs := by
 subst hn
 refine Kd.R_of_own (h1 := fun _ => rfl) ⟨by simp [encs], .inr ⟨g, xs.length, _, rfl, hb, h, Nat.le_refl _, hm, by simp [bools], by simp only [bools, encs, Nat.mul_one]; exact List.take_of_length_le (by simp)⟩⟩ ?_
 intro q hq
 obtain rfl : q = g := by simpa [Value.ownBlock] using hq.symm
 exact hok
theorem h_ltB {w : World} {g t base n c : Nat} {xs : List Bool} {ok : Nat → Prop} (h : Kd.R Kd.bool t w base ok (.slice (some ⟨g, 0, none⟩) n c) xs) : g < w.heap.size :=
 own_lt (Kd.own_of_R (h1 := fun _ => rfl) h) g rfl
def wire_at (bs : List Bool) : Int → List Int → Option Int
 | _, [] => some (-1)
 | i, w :: ws => if 0 ≤ w ∧ w < 128 then (if rdOf false bs w = true then some i else wire_at bs (i + 1) ws) else none
theorem cone1_calls (gb : Nat) (bs : List Bool) (x : Int) (base : Nat) (ok : Nat → Prop) (w : World) (h : Kd.R Kd.bool 75 w base ok (.slice (some ⟨gb, 0, none⟩) 128 128) bs) (h0 : 0 ≤ x) (h1 : x < 128) :
  Calls Try.prog 48 #[.int .i64 x, .pointer (some ⟨gb, 0, none⟩)] w fun e w' => e = .returned (.bool (rdOf false bs x)) ∧ w' = w := by
 obtain ⟨g1, g2⟩ := Kd.R_celln false h x h0 (by omega)
 have q0 := eq_true h0
 have q1 := eq_true h1
 clear h h0 h1
 go_enter Try.func48, Try.ntmps48
 go_wp2
 go_ret
 exact ⟨rfl, rfl⟩
set_option maxHeartbeats 2000000 in
set_option maxRecDepth 100000 in
theorem IndexFunc_calls (gb : Nat) (bs : List Bool) (A : Option Addr) (c : Nat) (ws : List Int) (r : Int) (base base' : Nat) (ok ok' : Nat → Prop) (w : World) (h : Kd.R Kd.bool 75 w base ok (.slice (some ⟨gb, 0, none⟩) 128 128) bs) (hw : Kd.R (Kd.int .i64) 3 w base' ok' (.slice A ws.length c) ws)
  (hf : wire_at bs 0 ws = some r) :
  Calls Try.prog 57 #[.slice A ws.length c, .func (.func 48) #[] #[.pointer (some ⟨gb, 0, none⟩)]] w fun e w' => e = .returned (.int .i64 r) ∧ w' = w := by
 have HA := Aside0.mk h
 have HW := Aside0.mk hw
 have HWM := Aside0.mk ((Kd.R_reads' hw).2.2).2.1
 have H' := Aside0.mk hf
 clear h hw hf
 go_enter Try.func57, Try.ntmps57
 go_wp2
 go_loop [8] (fun v => ∃ y : Int, v = .int .i64 y ∧ Aside0 (0 ≤ y ∧ y ≤ ws.length) ∧ Aside0 (wire_at bs y (ws.drop y.toNat) = some r)) (fun i => ws.length - (intOf i).toNat)
 case atStart => exact ⟨0, rfl, ⟨by omega, by omega⟩, H'⟩
 case round =>
  clear H'
  obtain ⟨y, rfl, HY, H'⟩ := hrel
  by_cases c3 : y < ws.length
  ·have t2 : decide (y < (ws.length : Int)) = true := decide_eq_true c3
   have y0 : 0 ≤ y := HY.out.1
   have H := H'.out
   rw [h_drop y0 c3] at H
   unfold wire_at at H
   by_cases c4 : 0 ≤ rd ws y ∧ rd ws y < 128
   ·rw [if_pos c4] at H
    obtain ⟨ad2, e2, g2⟩ := Kd.at_int (Kd.R_reads' HW.out).2.2 y y0 c3
    cases e2
    have hcl := cone1_calls gb bs (rd ws y) base ok w HA.out c4.1 c4.2
    have HW1 := Aside0.mk (h_w1 y0 c3 HWM.out)
    have C3 := Aside0.mk c3
    have q2 := eq_true y0
    have q3 := eq_true c3
    by_cases c5 : rdOf false bs (rd ws y) = true
    ·rw [if_pos c5] at H
     obtain rfl : y = r := Option.some.inj H
     rw [c5] at hcl
     have HCL := Aside0.mk hcl
     clear H H' y0 c3 c4 c5 hcl
     go_wp2_with (first | (go_at_call 48; refine HCL.out.mono ?_; rintro e w2 ⟨rfl, rfl⟩))
     go_ret
     exact ⟨rfl, rfl⟩
    ·rw [if_neg c5] at H
     have A2' := Aside0.mk H
     rw [Bool.eq_false_iff.mpr c5] at hcl
     have HCL := Aside0.mk hcl
     clear H H' y0 c3 c4 c5 hcl
     go_wp2_with (first | (go_at_call 48; refine HCL.out.mono ?_; rintro e w2 ⟨rfl, rfl⟩))
     refine ⟨⟨y + 1, by rw [HW1.out], ⟨by have := of_eq_true q2; omega, by have := C3.out; omega⟩, A2'⟩, ?_⟩
     have := of_eq_true q2
     have := C3.out
     rw [HW1.out]
     simp [intOf]
     omega
   ·rw [if_neg c4] at H
    exact absurd H (by simp)
  ·have H := H'.out
   rw [h_end c3] at H
   obtain rfl : -1 = r := Option.some.inj H
   have t2 : decide (y < (ws.length : Int)) = false := decide_eq_false c3
   clear H H' c3
   go_wp2
   go_ret
   exact ⟨rfl, rfl⟩
theorem ContainsFunc_calls (gb : Nat) (bs : List Bool) (A : Option Addr) (c : Nat) (ws : List Int) (r : Int) (base base' : Nat) (ok ok' : Nat → Prop) (w : World) (h : Kd.R Kd.bool 75 w base ok (.slice (some ⟨gb, 0, none⟩) 128 128) bs) (hw : Kd.R (Kd.int .i64) 3 w base' ok' (.slice A ws.length c) ws)
  (hf : wire_at bs 0 ws = some r) :
  Calls Try.prog 47 #[.slice A ws.length c, .func (.func 48) #[] #[.pointer (some ⟨gb, 0, none⟩)]] w fun e w' => e = .returned (.bool (decide (0 ≤ r))) ∧ w' = w := by
 have HCL := Aside0.mk (IndexFunc_calls gb bs A c ws r base base' ok ok' w h hw hf)
 clear h hw hf
 go_enter Try.func47, Try.ntmps47
 go_wp2_with (first | (go_at_call 57; refine HCL.out.mono ?_; rintro e w2 ⟨rfl, rfl⟩))
 go_ret
 exact ⟨rfl, rfl⟩
def cone_init (n : Int) : List Bool → List Int → Option (Option (List Bool))
 | m, [] => some (some m)
 | m, q :: qs => if q < 0 ∨ n ≤ q then some none else if q < 128 then (if rdOf false m q = true then some none else cone_init n (m.set q.toNat true) qs) else none
def mark_all : List Bool → List Int → Option (List Bool)
 | m, [] => some m
 | m, w :: ws => if 0 ≤ w ∧ w < 128 then mark_all (m.set w.toNat true) ws else none
def cone_i (l : List S57) (back : Bool) (x : Int) : Int := if back = true then (l.length : Int) - 1 - x else x
def cone_go (l : List S57) (back : Bool) : Nat → Int → List Bool → List Int → Option (List Int)
 | 0, _, _, out => some out
 | r + 1, x, m, out =>
  (layers_wires.f (rd_T57 l (cone_i l back x)).f0 (rd_T57 l (cone_i l back x)).f1 (rd_T57 l (cone_i l back x)).f2 (rd_T57 l (cone_i l back x)).f3 (rd_T57 l (cone_i l back x)).f4 (rd_T57 l (cone_i l back x)).f5).bind fun ws =>
  if (rd_T57 l (cone_i l back x)).f0 = 4 then cone_go l back r (x + 1) m out else
  (wire_at m 0 ws).bind fun j => if 0 ≤ j then (mark_all m ws).bind fun m' => if out.length < 17592186044416 then cone_go l back r (x + 1) m' (out ++ [cone_i l back x]) else none else cone_go l back r (x + 1) m out
def cone_rest (k : Nat) (l : List S57) (back : Bool) (b : Option (List Bool)) : Option (List Int × Int) :=
 match b with
 | none => some ([], 190)
 | some m => (cone_go l back l.length 0 m []).bind fun out => if back = true then (slices_Reverse_int_int.f k out).bind fun o => some (o, 0) else some (out, 0)
def layers_cone.f (k : Nat) (a0_0 : Int) (a0_1 : Int) (l0_2 : List S57) (l1 : List Int) (a2 : Bool) : Option (List Int × Int) :=
 (layers_checked.f k a0_0 a0_1 l0_2).bind fun e => if e = 0 then (cone_init a0_0 (List.replicate 128 false) l1).bind fun b => cone_rest k l0_2 a2 b else some ([], e)
set_option maxHeartbeats 8000000 in
set_option maxRecDepth 100000 in
theorem layers_cone.calls (k : Nat) (a0_0 : Int) (a0_1 : Int) (A0_2 : Option Addr) (c0_2 : Nat) (l0_2 : List (S57)) (A1 : Option Addr) (c1 : Nat) (l1 : List Int) (a2 : Bool) (r1 : List Int) (r2 : Int) (w : World) (hr0_2 : Kd.C k57 w A0_2 l0_2.length l0_2) (hc0_2 : l0_2.length ≤ c0_2) (hr1 : Kd.C (Kd.int .i64) w A1 l1.length l1) (hc1 : l1.length ≤ c1) (h : layers_cone.f k a0_0 a0_1 l0_2 l1 a2 = some (r1, r2)) :
  Calls Try.prog 32 #[.agg #[.int .i64 a0_0, .int .i64 a0_1, .slice A0_2 l0_2.length c0_2], .slice A1 l1.length c1, .bool a2] w fun e w' => ∃ v0_ : Value, e = .returned (.tuple #[v0_, .int .i64 r2]) ∧ Kd.R (Kd.int .i64) 3 w' w.heap.size (fun _ => True) v0_ r1 ∧ Below w.heap.size w w' := by
 have hu24 := Try.underlying24
 have hu57 := Try.underlying57
 have HM := Aside0.mk hr0_2.2.1
 have HM1 := Aside0.mk hr1.2.1
 have HR := Aside0.mk hr0_2
 have HR1 := Aside0.mk hr1
 have HC := Aside0.mk hc0_2
 have HB := Aside0.mk (Below.refl w.heap.size w)
 unfold layers_cone.f at h
 obtain ⟨e0, AD0, H1⟩ := Option.bind_eq_some_iff.mp h
 have AD := Aside0.mk AD0
 clear hr0_2 hc0_2 hr1 hc1 h AD0
 by_cases c0 : e0 = 0
 ·subst c0
  rw [if_pos rfl] at H1
  obtain ⟨b, H2, H3⟩ := Option.bind_eq_some_iff.mp H1
  have HI := Aside0.mk H2
  have HJ := Aside0.mk H3
  clear H1 H2 H3
  go_enter Try.func32, Try.ntmps32
  go_wp2_with (first | ((with_reducible refine gate_dst (N := 3) rfl ?_); refine box_event ?hg (N := 3) ?hd (cs := #[.int .i64 a0_0, .int .i64 a0_1, .slice A0_2 l0_2.length c0_2]) (t := 24) ?hr ?_; (case hd => rfl); (case hg => rfl); (case hr => first | (go_simp; done) | (go_simp; rfl)); intro gb3 hg w1 BK3 hb; have G3 := Aside0.mk (show w.heap.size ≤ gb3 by rw [hg]; exact Nat.le_refl _); have HB1 := Aside0.mk (below_step HB.out hb); replace BK3 := Aside0.mk BK3; clear HB; have HB := HB1; clear HB1 hb hg; have hz0 : w1.cell? ⟨gb3, 0, none⟩ = some (.int .i64 a0_0) := (blk_cell BK3.out 0).trans rfl; have hz1 : w1.cell? ⟨gb3, 1, none⟩ = some (.int .i64 a0_1) := (blk_cell BK3.out 1).trans rfl; have hz2 : w1.cell? ⟨gb3, 2, none⟩ = some (.slice A0_2 l0_2.length c0_2) := (blk_cell BK3.out 2).trans rfl) | (go_at_call 26; refine (layers_checked.calls k a0_0 a0_1 A0_2 c0_2 l0_2 _ _ ?s1 ?s2 AD.out).mono ?_; (case s1 => exact Kd.C_below HR.out HB.out); (case s2 => exact HC.out); rintro e w2 ⟨rfl, hb⟩; have HB1 := Aside0.mk (below_step HB.out hb); have BK1' := Aside0.mk (blk_below BK3.out hb); clear HB BK3 hz0 hz1 hz2 hb; have HB := HB1; have BK3 := BK1'; clear HB1 BK1') | ((with_reducible refine gate_dst (N := 9) rfl ?_); refine box_event ?hg (N := 9) ?hd (cs := Try.zeroCells75) (t := 75) ?hr ?_; (case hd => rfl); (case hg => rfl); (case hr => first | (go_simp; done) | (go_simp; rfl)); intro gb9 hg w4 BK9 hb; have G9 := Aside0.mk (show w.heap.size ≤ gb9 by rw [hg]; exact HB.out.size); have N39 := Aside0.mk (show gb3 ≠ gb9 by rw [hg]; exact Nat.ne_of_lt (blk_lt BK3.out)); have HB1 := Aside0.mk (below_step HB.out hb); have BK1' := Aside0.mk (blk_below BK3.out hb); have HA := Aside0.mk (h_rowB (xs := List.replicate 128 false) (n := 128) (ok := fun k => k = gb9) (base := w.heap.size) (t := 75) (by rw [BK9]; kernel_rfl) G9.out (by simp) (by decide) rfl); clear HB BK3 BK9; have HB := HB1; have BK3 := BK1'; clear HB1 BK1' hb hg))
  go_loopg [26] l1.length (fun kq v26 w' => ∃ (m : List Bool) (x : Int), v26 = .int .i64 x ∧ Aside0 (0 ≤ x ∧ x + kq = l1.length) ∧ Aside0 (cone_init a0_0 m (l1.drop x.toNat) = some b) ∧ Aside0 (Kd.R Kd.bool 75 w' w.heap.size (fun k => k = gb9) (.slice (some ⟨gb9, 0, none⟩) 128 128) m) ∧ Aside0 (w'.heap[gb3]? = some (.cells #[.int .i64 a0_0, .int .i64 a0_1, .slice A0_2 l0_2.length c0_2] 24 (0, 0))) ∧ Aside0 (Below w.heap.size w w'))
  case atStart => exact ⟨_, 0, rfl, ⟨by omega, by omega⟩, HI, HA, BK3, HB⟩
  case round =>
   clear HI HA BK3 HB
   obtain ⟨m, x, rfl, HX, HI, HA, BK3, HB⟩ := hrel
   have hz0 : wr.cell? ⟨gb3, 0, none⟩ = some (.int .i64 a0_0) := (blk_cell BK3.out 0).trans rfl
   have hz2 : wr.cell? ⟨gb3, 2, none⟩ = some (.slice A0_2 l0_2.length c0_2) := (blk_cell BK3.out 2).trans rfl
   by_cases cx : x < l1.length
   ·have t1 : decide (x < (l1.length : Int)) = true := decide_eq_true cx
    have x0 : 0 ≤ x := HX.out.1
    have H := HI.out
    rw [h_drop x0 cx] at H
    unfold cone_init at H
    obtain ⟨ad1, e1, g1⟩ := Kd.at_int HR1.out x x0 cx
    cases e1
    replace g1 := (HB.out.cell (World.block_lt_of_cell? w _ g1)).trans g1
    have HW1 := Aside0.mk (h_w1 x0 cx HM1.out)
    have CX := Aside0.mk cx
    have q0 := eq_true x0
    have q1 := eq_true cx
    by_cases c2 : rd l1 x < 0 ∨ a0_0 ≤ rd l1 x
    ·rw [if_pos c2] at H
     obtain rfl : none = b := Option.some.inj H
     simp only [cone_rest, Option.some.injEq, Prod.mk.injEq] at HJ
     obtain ⟨rfl, rfl⟩ := HJ.out
     by_cases c3 : rd l1 x < 0
     ·have t2 : decide (rd l1 x < 0) = true := decide_eq_true c3
      clear H HI HJ cx x0 c2 c3
      go_wp2
      go_ret2
      exact ⟨_, rfl, Kd.R_nil _ _ _ _ _, HB.out⟩
     ·have t2 : decide (rd l1 x < 0) = false := decide_eq_false c3
      have t3 : decide (a0_0 ≤ rd l1 x) = true := decide_eq_true (by omega)
      clear H HI HJ cx x0 c2 c3
      go_wp2
      go_ret2
      exact ⟨_, rfl, Kd.R_nil _ _ _ _ _, HB.out⟩
    ·rw [if_neg c2] at H
     by_cases c3 : rd l1 x < 128
     ·rw [if_pos c3] at H
      have t2 : decide (rd l1 x < 0) = false := decide_eq_false (by omega)
      have t3 : decide (a0_0 ≤ rd l1 x) = false := decide_eq_false (by omega)
      obtain ⟨g2, g2f⟩ := Kd.R_celln false HA.out (rd l1 x) (by omega) (by omega)
      have q2 : (0 ≤ rd l1 x) = True := eq_true (by omega)
      have q3 := eq_true c3
      by_cases c4 : rdOf false m (rd l1 x) = true
      ·rw [if_pos c4] at H
       obtain rfl : none = b := Option.some.inj H
       simp only [cone_rest, Option.some.injEq, Prod.mk.injEq] at HJ
       obtain ⟨rfl, rfl⟩ := HJ.out
       rw [c4] at g2
       clear H HI HJ cx x0 c2 c3 c4
       go_wp2
       go_ret2
       exact ⟨_, rfl, Kd.R_nil _ _ _ _ _, HB.out⟩
      ·rw [if_neg c4] at H
       have HI' := Aside0.mk H
       rw [Bool.eq_false_iff.mpr c4] at g2
       have HP := Kd.R_putg HA.out (rd l1 x) true
       have HP1 := Aside0.mk HP.1
       clear H HI cx x0 c2 c3 c4 HP
       go_wp2
       go_roundg (gk - 1)
       case measure => have := HX.out; have := CX.out; omega
       case rel => exact ⟨m.set (rd l1 x).toNat true, x + 1, by rw [HW1.out], ⟨by have := HX.out; omega, by have := HX.out; have := CX.out; omega⟩, HI', HP1, ⟨blk_far BK3.out N39.out _⟩, ⟨below_set HB.out G9.out⟩⟩
     ·rw [if_neg c3] at H
      exact absurd H (by simp)
   ·have H := HI.out
    rw [h_end cx] at H
    obtain rfl : some m = b := Option.some.inj H
    have t1 : decide (x < (l1.length : Int)) = false := decide_eq_false cx
    have H := HJ.out
    unfold cone_rest at H
    simp only at H
    obtain ⟨out, HG0, HF0⟩ := Option.bind_eq_some_iff.mp H
    have HG := Aside0.mk HG0
    have HF := Aside0.mk HF0
    clear H HI HJ cx HG0 HF0
    have HNN := Aside0.mk (show (0 : Nat) < 1 from Nat.one_pos)
    go_wp2
    go_loopg [12, 49] l0_2.length (fun kq v12 v49 w' => ∃ (m : List Bool) (o : List Int) (x : Int), v49 = .int .i64 x ∧ Aside0 (0 ≤ x ∧ x + kq = l0_2.length) ∧ Aside0 (cone_go l0_2 a2 kq x m o = some out) ∧ Aside0 (Kd.R (Kd.int .i64) 3 w' w.heap.size (fun k => k ≠ gb9) v12 o) ∧ Aside0 (Kd.R Kd.bool 75 w' w.heap.size (fun k => k = gb9) (.slice (some ⟨gb9, 0, none⟩) 128 128) m) ∧ Aside0 (w'.heap[gb3]? = some (.cells #[.int .i64 a0_0, .int .i64 a0_1, .slice A0_2 l0_2.length c0_2] 24 (0, 0))) ∧ Aside0 (Below w.heap.size w w'))
    case atStart => exact ⟨m, [], 0, rfl, ⟨by omega, by omega⟩, HG, ⟨Kd.R_nil _ _ _ _ _⟩, HA, BK3, HB⟩
    case round =>
     clear HG HA BK3 HB hz0 hz2 HX HNN
     obtain ⟨m, o, x, rfl, HX, HG, HO, HA, BK3, HB⟩ := hrel
     obtain ⟨gk0, egk⟩ : ∃ g, g = gk := ⟨_, rfl⟩
     subst egk
     have hz0 : wr.cell? ⟨gb3, 0, none⟩ = some (.int .i64 a0_0) := (blk_cell BK3.out 0).trans rfl
     have hz2 : wr.cell? ⟨gb3, 2, none⟩ = some (.slice A0_2 l0_2.length c0_2) := (blk_cell BK3.out 2).trans rfl
     by_cases cx : x < l0_2.length
     ·have t1 : decide (x < (l0_2.length : Int)) = true := decide_eq_true cx
      have x0 : 0 ≤ x := HX.out.1
      obtain ⟨rr, rfl⟩ : ∃ r, gk0 = r + 1 := ⟨gk0 - 1, by have := HX.out; omega⟩
      cases a2
      ·have HII := Aside0.mk (show cone_i l0_2 false x = x from rfl)
       have i0 := x0
       have i1 := cx
       have H := HG.out
       unfold cone_go at H
       rw [HII.out] at H
       obtain ⟨ws, A1_, H1⟩ := Option.bind_eq_some_iff.mp H
       obtain ⟨ad, A2_, c2_, e_, hx0, hx1, hx2, hx3, hx4, hx5, hl, hi⟩ := at_T57 HR.out x i0 i1
       cases e_
       replace hx0 := (HB.out.cell (World.block_lt_of_cell? w _ hx0)).trans hx0
       replace hx1 := (HB.out.cell (World.block_lt_of_cell? w _ hx1)).trans hx1
       replace hx2 := (HB.out.cell (World.block_lt_of_cell? w _ hx2)).trans hx2
       replace hx3 := (HB.out.cell (World.block_lt_of_cell? w _ hx3)).trans hx3
       replace hx4 := (HB.out.cell (World.block_lt_of_cell? w _ hx4)).trans hx4
       replace hx5 := (HB.out.cell (World.block_lt_of_cell? w _ hx5)).trans hx5
       have A1 := Aside0.mk A1_
       have HI2 := Aside0.mk hi
       have HI3 := Aside0.mk hl
       have HK := Aside0.mk H1
       have hcz : wr.cell? ⟨gb3, 2, none⟩ = some (.slice (some ad) l0_2.length c0_2) := (blk_cell BK3.out 2).trans rfl
       have q0 := eq_true i0
       have q1 := eq_true i1
       have HW1 := Aside0.mk (h_w1 x0 cx HM.out)
       have CX := Aside0.mk cx
       clear H H1 hi hl A1_ HG i0 i1 x0 cx hz0 hz2
       generalize hf0 : (rd_T57 l0_2 x).f0 = f0 at *
       generalize hf1 : (rd_T57 l0_2 x).f1 = f1 at *
       generalize hf2 : (rd_T57 l0_2 x).f2 = f2 at *
       generalize hf3 : (rd_T57 l0_2 x).f3 = f3 at *
       generalize hf4 : (rd_T57 l0_2 x).f4 = f4 at *
       generalize hf5 : (rd_T57 l0_2 x).f5 = f5 at *
       clear hf0 hf1 hf2 hf3 hf4 hf5
       have H := HK.out
       by_cases c5 : f0 = 4
       ·rw [if_pos c5] at H
        have HG := Aside0.mk H
        have t3 : (f0 == 4) = true := beq_iff_eq.mpr c5
        clear H HK c5
        go_wp2_with (first | (go_at_call 31; refine (layers_wires.calls f0 f1 A2_ c2_ f2 f3 f4 f5 ws _ ?s1 ?s2 A1.out).mono ?_; (case s1 => exact Kd.C_below HI2.out (below_alloc HB.out _)); (case s2 => exact HI3.out); rintro e w5 ⟨vw, rfl, ho, hb⟩; have N9 := Aside0.mk (h_ltB HA.out); have HWok := Kd.R_base ho; have HW := Aside0.mk (show Kd.R (Kd.int .i64) 3 w5 w.heap.size (fun k => k ≠ gb9) vw ws from ⟨fun k hk e => by have h1 := HWok k hk; have h2 := N9.out; simp at h1; omega, (Kd.R_lower ho (by simp; exact Nat.le_succ_of_le HB.out.size)).2⟩); have HO' := Aside0.mk (Kd.R_below (Kd.R_alloc HO.out _) hb); have HA' := Aside0.mk (Kd.R_below (Kd.R_alloc HA.out _) hb); have BK1' := Aside0.mk (blk_below (blk_alloc BK3.out _) hb); have BK6 := Aside0.mk (blk_below (blk_new wr _) hb); have HB' := Aside0.mk (below_step (below_alloc HB.out _) hb); clear ho hb HO HA BK3 HB HWok hcz; have HO := HO'; have HA := HA'; have BK3 := BK1'; have HB := HB'; clear HO' HA' BK1' HB'; have hcz0 : w5.cell? ⟨wr.heap.size, 0, none⟩ = some (.int .i64 f0) := (blk_cell BK6.out 0).trans rfl; obtain ⟨Aw, cw, ew⟩ := Kd.R_slice HW.out; subst ew))
        go_roundg rr
        case measure => omega
        case rel => exact ⟨m, o, x + 1, by rw [HW1.out], ⟨by have := HX.out; omega, by have := HX.out; have := CX.out; omega⟩, HG, HO, HA, BK3, HB⟩
       ·rw [if_neg c5] at H
        have t3 : (f0 == 4) = false := beq_eq_false_iff_ne.mpr c5
        obtain ⟨j, AJ0, H1⟩ := Option.bind_eq_some_iff.mp H
        have AJ := Aside0.mk AJ0
        by_cases c6 : 0 ≤ j
        ·rw [if_pos c6] at H1
         obtain ⟨m', AM0, H2⟩ := Option.bind_eq_some_iff.mp H1
         have AM := Aside0.mk AM0
         have t4 : decide (0 ≤ j) = true := decide_eq_true c6
         by_cases c7 : o.length < 17592186044416
         ·rw [if_pos c7] at H2
          have HG := Aside0.mk H2
          have HL := Aside0.mk c7
          clear H H1 H2 HK c5 c6 c7 AJ0 AM0
          go_wp2_with (first | (go_at_call 31; refine (layers_wires.calls f0 f1 A2_ c2_ f2 f3 f4 f5 ws _ ?s1 ?s2 A1.out).mono ?_; (case s1 => exact Kd.C_below HI2.out (below_alloc HB.out _)); (case s2 => exact HI3.out); rintro e w5 ⟨vw, rfl, ho, hb⟩; have N9 := Aside0.mk (h_ltB HA.out); have HWok := Kd.R_base ho; have HW := Aside0.mk (show Kd.R (Kd.int .i64) 3 w5 w.heap.size (fun k => k ≠ gb9) vw ws from ⟨fun k hk e => by have h1 := HWok k hk; have h2 := N9.out; simp at h1; omega, (Kd.R_lower ho (by simp; exact Nat.le_succ_of_le HB.out.size)).2⟩); have HO' := Aside0.mk (Kd.R_below (Kd.R_alloc HO.out _) hb); have HA' := Aside0.mk (Kd.R_below (Kd.R_alloc HA.out _) hb); have BK1' := Aside0.mk (blk_below (blk_alloc BK3.out _) hb); have BK6 := Aside0.mk (blk_below (blk_new wr _) hb); have HB' := Aside0.mk (below_step (below_alloc HB.out _) hb); clear ho hb HO HA BK3 HB HWok hcz; have HO := HO'; have HA := HA'; have BK3 := BK1'; have HB := HB'; clear HO' HA' BK1' HB'; have hcz0 : w5.cell? ⟨wr.heap.size, 0, none⟩ = some (.int .i64 f0) := (blk_cell BK6.out 0).trans rfl; obtain ⟨Aw, cw, ew⟩ := Kd.R_slice HW.out; subst ew) | (go_at_call 47; refine (ContainsFunc_calls gb9 m _ _ ws j _ _ _ _ _ HA.out HW.out AJ.out).mono ?_; rintro e w6 ⟨rfl, rfl⟩))
          have HWM := Aside0.mk ((Kd.R_reads' HW.out).2.2).2.1
          go_loopg [78] ws.length (fun kq v40 w' => ∃ (m2 : List Bool) (y2 : Int), v40 = .int .i64 y2 ∧ Aside0 (0 ≤ y2 ∧ y2 + kq = ws.length) ∧ Aside0 (mark_all m2 (ws.drop y2.toNat) = some m') ∧ Aside0 (Kd.R (Kd.int .i64) 3 w' w.heap.size (fun k => k ≠ gb9) u12 o) ∧ Aside0 (Kd.R Kd.bool 75 w' w.heap.size (fun k => k = gb9) (.slice (some ⟨gb9, 0, none⟩) 128 128) m2) ∧ Aside0 (Kd.R (Kd.int .i64) 3 w' w.heap.size (fun k => k ≠ gb9) (.slice Aw ws.length cw) ws) ∧ Aside0 (w'.heap[gb3]? = some (.cells #[.int .i64 a0_0, .int .i64 a0_1, .slice (some ad) l0_2.length c0_2] 24 (0, 0))) ∧ Aside0 (Below w.heap.size w w'))
          case atStart => exact ⟨m, 0, rfl, ⟨by omega, by omega⟩, AM, HO, HA, HW, BK3, HB⟩
          case round =>
           clear AM HO HA HW BK3 HB AJ hcz0 BK6
           obtain ⟨m2, y2, rfl, HY2, AM, HO, HA, HV, BK3, HB⟩ := hrel
           by_cases c6 : y2 < ws.length
           ·have t5 : decide (y2 < (ws.length : Int)) = true := decide_eq_true c6
            have y0 : 0 ≤ y2 := HY2.out.1
            have H := AM.out
            rw [h_drop y0 c6] at H
            unfold mark_all at H
            by_cases c4 : 0 ≤ rd ws y2 ∧ rd ws y2 < 128
            ·rw [if_pos c4] at H
             obtain ⟨ad2, e2, g2⟩ := Kd.at_int (Kd.R_reads' HV.out).2.2 y2 y0 c6
             cases e2
             obtain ⟨g3, f3_⟩ := Kd.R_celln false HA.out (rd ws y2) c4.1 (by omega)
             have HP := Kd.R_putg HA.out (rd ws y2) true
             have AM' := Aside0.mk H
             have HW2 := Aside0.mk (h_w1 y0 c6 HWM.out)
             have C3 := Aside0.mk c6
             have HP1 := Aside0.mk HP.1
             have HP2 := Aside0.mk HP.2
             have q2 := eq_true y0
             have q3 := eq_true c6
             have q4 := eq_true c4.1
             have q5 := eq_true c4.2
             clear H AM y0 c6 c4 HP
             go_wp2
             go_roundg (gk - 1)
             case measure => have := HY2.out; have := C3.out; omega
             case rel => exact ⟨m2.set (rd ws y2).toNat true, y2 + 1, by rw [HW2.out], ⟨by have := HY2.out; omega, by have := HY2.out; have := C3.out; omega⟩, AM', ⟨Kd.R_grown HO.out HP2.out (fun k hk e => hk (by injection e))⟩, HP1, ⟨Kd.R_grown HV.out HP2.out (fun k hk e => hk (by injection e))⟩, ⟨blk_far BK3.out N39.out _⟩, ⟨below_set HB.out G9.out⟩⟩
            ·rw [if_neg c4] at H
             exact absurd H (by simp)
           ·have H := AM.out
            rw [h_end c6] at H
            obtain rfl : m2 = m' := Option.some.inj H
            have t5 : decide (y2 < (ws.length : Int)) = false := decide_eq_false c6
            have N3 := Aside0.mk (h_ltB HA.out)
            clear H AM c6
            go_wp2_with (first | ((with_reducible refine gate_builtin (b := .append) (xs := #[.tmp 85, .tmp 87]) rfl ?_); at_builtin; refine Kd.R_append (Kd.int .i64) (w0 := w) w.heap.size rfl (.tmp 85) (.tmp 87) 25 3 (.int .i64 0) 8 rfl Try.underlying25 info3 rfl (by decide) (by omega) u12 o x [.int .i64 x] (fun k => k ≠ gb9) (fun _ => False) rfl rfl ?aP (fun _ hk => hk.elim) ?aF ?aO ?aB ?aS ?aL ?_; (case aP => exact rfl); (case aB => exact HB.out); (case aF => exact fun k hk e => by have := N3.out; omega); (case aO => exact HO.out); (case aS => exact HB.out.size); (case aL => have := HL.out; omega); intro v9 w9 ho hb hg hat; have HO' := Aside0.mk ho; have HB' := Aside0.mk hb; have HA' := Aside0.mk (Kd.R_grown HA.out hg (fun k hk e => HO.out.1 k e.symm hk)); have BK1' := Aside0.mk (blk_grown BK3.out hg (Kd.R_ne HO.out BK3.out (by decide))); clear ho hb hg hat HO HA HB BK3; have HO := HO'; have HB := HB'; have HA := HA'; have BK3 := BK1'; clear HO' HB' HA' BK1'))
            go_roundg rr
            case measure => omega
            case rel => exact ⟨m2, o ++ [x], x + 1, by rw [HW1.out], ⟨by have := HX.out; omega, by have := HX.out; have := CX.out; omega⟩, HG, HO, HA, BK3, HB⟩
         ·rw [if_neg c7] at H2
          exact absurd H2 (by simp)
        ·rw [if_neg c6] at H1
         have HG := Aside0.mk H1
         have t4 : decide (0 ≤ j) = false := decide_eq_false c6
         clear H H1 HK c5 c6 AJ0
         go_wp2_with (first | (go_at_call 31; refine (layers_wires.calls f0 f1 A2_ c2_ f2 f3 f4 f5 ws _ ?s1 ?s2 A1.out).mono ?_; (case s1 => exact Kd.C_below HI2.out (below_alloc HB.out _)); (case s2 => exact HI3.out); rintro e w5 ⟨vw, rfl, ho, hb⟩; have N9 := Aside0.mk (h_ltB HA.out); have HWok := Kd.R_base ho; have HW := Aside0.mk (show Kd.R (Kd.int .i64) 3 w5 w.heap.size (fun k => k ≠ gb9) vw ws from ⟨fun k hk e => by have h1 := HWok k hk; have h2 := N9.out; simp at h1; omega, (Kd.R_lower ho (by simp; exact Nat.le_succ_of_le HB.out.size)).2⟩); have HO' := Aside0.mk (Kd.R_below (Kd.R_alloc HO.out _) hb); have HA' := Aside0.mk (Kd.R_below (Kd.R_alloc HA.out _) hb); have BK1' := Aside0.mk (blk_below (blk_alloc BK3.out _) hb); have BK6 := Aside0.mk (blk_below (blk_new wr _) hb); have HB' := Aside0.mk (below_step (below_alloc HB.out _) hb); clear ho hb HO HA BK3 HB HWok hcz; have HO := HO'; have HA := HA'; have BK3 := BK1'; have HB := HB'; clear HO' HA' BK1' HB'; have hcz0 : w5.cell? ⟨wr.heap.size, 0, none⟩ = some (.int .i64 f0) := (blk_cell BK6.out 0).trans rfl; obtain ⟨Aw, cw, ew⟩ := Kd.R_slice HW.out; subst ew) | (go_at_call 47; refine (ContainsFunc_calls gb9 m _ _ ws j _ _ _ _ _ HA.out HW.out AJ.out).mono ?_; rintro e w6 ⟨rfl, rfl⟩))
         go_roundg rr
         case measure => omega
         case rel => exact ⟨m, o, x + 1, by rw [HW1.out], ⟨by have := HX.out; omega, by have := HX.out; have := CX.out; omega⟩, HG, HO, HA, BK3, HB⟩
      ·obtain ⟨n1, hn1⟩ : ∃ n1 : Int, (l0_2.length : Int) - 1 = n1 := ⟨_, rfl⟩
       have e1 : wrap64 ((l0_2.length : Int) - 1) = n1 := by have := HM.out; rw [← hn1]; unfold wrap64; omega
       obtain ⟨ii, hii⟩ : ∃ ii : Int, n1 - x = ii := ⟨_, rfl⟩
       have e2 : wrap64 (n1 - x) = ii := by have := HM.out; rw [← hii, ← hn1]; unfold wrap64; omega
       have HII := Aside0.mk (show cone_i l0_2 true x = ii by rw [← hii, ← hn1]; rfl)
       have i0 : 0 ≤ ii := by omega
       have i1 : ii < l0_2.length := by omega
       clear hn1 hii
       have H := HG.out
       unfold cone_go at H
       rw [HII.out] at H
       obtain ⟨ws, A1_, H1⟩ := Option.bind_eq_some_iff.mp H
       obtain ⟨ad, A2_, c2_, e_, hx0, hx1, hx2, hx3, hx4, hx5, hl, hi⟩ := at_T57 HR.out ii i0 i1
       cases e_
       replace hx0 := (HB.out.cell (World.block_lt_of_cell? w _ hx0)).trans hx0
       replace hx1 := (HB.out.cell (World.block_lt_of_cell? w _ hx1)).trans hx1
       replace hx2 := (HB.out.cell (World.block_lt_of_cell? w _ hx2)).trans hx2
       replace hx3 := (HB.out.cell (World.block_lt_of_cell? w _ hx3)).trans hx3
       replace hx4 := (HB.out.cell (World.block_lt_of_cell? w _ hx4)).trans hx4
       replace hx5 := (HB.out.cell (World.block_lt_of_cell? w _ hx5)).trans hx5
       have A1 := Aside0.mk A1_
       have HI2 := Aside0.mk hi
       have HI3 := Aside0.mk hl
       have HK := Aside0.mk H1
       have hcz : wr.cell? ⟨gb3, 2, none⟩ = some (.slice (some ad) l0_2.length c0_2) := (blk_cell BK3.out 2).trans rfl
       have q0 := eq_true i0
       have q1 := eq_true i1
       have HW1 := Aside0.mk (h_w1 x0 cx HM.out)
       have CX := Aside0.mk cx
       clear H H1 hi hl A1_ HG i0 i1 x0 cx hz0 hz2
       generalize hf0 : (rd_T57 l0_2 ii).f0 = f0 at *
       generalize hf1 : (rd_T57 l0_2 ii).f1 = f1 at *
       generalize hf2 : (rd_T57 l0_2 ii).f2 = f2 at *
       generalize hf3 : (rd_T57 l0_2 ii).f3 = f3 at *
       generalize hf4 : (rd_T57 l0_2 ii).f4 = f4 at *
       generalize hf5 : (rd_T57 l0_2 ii).f5 = f5 at *
       clear hf0 hf1 hf2 hf3 hf4 hf5
       have H := HK.out
       by_cases c5 : f0 = 4
       ·rw [if_pos c5] at H
        have HG := Aside0.mk H
        have t3 : (f0 == 4) = true := beq_iff_eq.mpr c5
        clear H HK c5
        go_wp2_with (first | (go_at_call 31; refine (layers_wires.calls f0 f1 A2_ c2_ f2 f3 f4 f5 ws _ ?s1 ?s2 A1.out).mono ?_; (case s1 => exact Kd.C_below HI2.out (below_alloc HB.out _)); (case s2 => exact HI3.out); rintro e w5 ⟨vw, rfl, ho, hb⟩; have N9 := Aside0.mk (h_ltB HA.out); have HWok := Kd.R_base ho; have HW := Aside0.mk (show Kd.R (Kd.int .i64) 3 w5 w.heap.size (fun k => k ≠ gb9) vw ws from ⟨fun k hk e => by have h1 := HWok k hk; have h2 := N9.out; simp at h1; omega, (Kd.R_lower ho (by simp; exact Nat.le_succ_of_le HB.out.size)).2⟩); have HO' := Aside0.mk (Kd.R_below (Kd.R_alloc HO.out _) hb); have HA' := Aside0.mk (Kd.R_below (Kd.R_alloc HA.out _) hb); have BK1' := Aside0.mk (blk_below (blk_alloc BK3.out _) hb); have BK6 := Aside0.mk (blk_below (blk_new wr _) hb); have HB' := Aside0.mk (below_step (below_alloc HB.out _) hb); clear ho hb HO HA BK3 HB HWok hcz; have HO := HO'; have HA := HA'; have BK3 := BK1'; have HB := HB'; clear HO' HA' BK1' HB'; have hcz0 : w5.cell? ⟨wr.heap.size, 0, none⟩ = some (.int .i64 f0) := (blk_cell BK6.out 0).trans rfl; obtain ⟨Aw, cw, ew⟩ := Kd.R_slice HW.out; subst ew))
        go_roundg rr
        case measure => omega
        case rel => exact ⟨m, o, x + 1, by rw [HW1.out], ⟨by have := HX.out; omega, by have := HX.out; have := CX.out; omega⟩, HG, HO, HA, BK3, HB⟩
       ·rw [if_neg c5] at H
        have t3 : (f0 == 4) = false := beq_eq_false_iff_ne.mpr c5
        obtain ⟨j, AJ0, H1⟩ := Option.bind_eq_some_iff.mp H
        have AJ := Aside0.mk AJ0
        by_cases c6 : 0 ≤ j
        ·rw [if_pos c6] at H1
         obtain ⟨m', AM0, H2⟩ := Option.bind_eq_some_iff.mp H1
         have AM := Aside0.mk AM0
         have t4 : decide (0 ≤ j) = true := decide_eq_true c6
         by_cases c7 : o.length < 17592186044416
         ·rw [if_pos c7] at H2
          have HG := Aside0.mk H2
          have HL := Aside0.mk c7
          clear H H1 H2 HK c5 c6 c7 AJ0 AM0
          go_wp2_with (first | (go_at_call 31; refine (layers_wires.calls f0 f1 A2_ c2_ f2 f3 f4 f5 ws _ ?s1 ?s2 A1.out).mono ?_; (case s1 => exact Kd.C_below HI2.out (below_alloc HB.out _)); (case s2 => exact HI3.out); rintro e w5 ⟨vw, rfl, ho, hb⟩; have N9 := Aside0.mk (h_ltB HA.out); have HWok := Kd.R_base ho; have HW := Aside0.mk (show Kd.R (Kd.int .i64) 3 w5 w.heap.size (fun k => k ≠ gb9) vw ws from ⟨fun k hk e => by have h1 := HWok k hk; have h2 := N9.out; simp at h1; omega, (Kd.R_lower ho (by simp; exact Nat.le_succ_of_le HB.out.size)).2⟩); have HO' := Aside0.mk (Kd.R_below (Kd.R_alloc HO.out _) hb); have HA' := Aside0.mk (Kd.R_below (Kd.R_alloc HA.out _) hb); have BK1' := Aside0.mk (blk_below (blk_alloc BK3.out _) hb); have BK6 := Aside0.mk (blk_below (blk_new wr _) hb); have HB' := Aside0.mk (below_step (below_alloc HB.out _) hb); clear ho hb HO HA BK3 HB HWok hcz; have HO := HO'; have HA := HA'; have BK3 := BK1'; have HB := HB'; clear HO' HA' BK1' HB'; have hcz0 : w5.cell? ⟨wr.heap.size, 0, none⟩ = some (.int .i64 f0) := (blk_cell BK6.out 0).trans rfl; obtain ⟨Aw, cw, ew⟩ := Kd.R_slice HW.out; subst ew) | (go_at_call 47; refine (ContainsFunc_calls gb9 m _ _ ws j _ _ _ _ _ HA.out HW.out AJ.out).mono ?_; rintro e w6 ⟨rfl, rfl⟩))
          have HWM := Aside0.mk ((Kd.R_reads' HW.out).2.2).2.1
          go_loopg [78] ws.length (fun kq v40 w' => ∃ (m2 : List Bool) (y2 : Int), v40 = .int .i64 y2 ∧ Aside0 (0 ≤ y2 ∧ y2 + kq = ws.length) ∧ Aside0 (mark_all m2 (ws.drop y2.toNat) = some m') ∧ Aside0 (Kd.R (Kd.int .i64) 3 w' w.heap.size (fun k => k ≠ gb9) u12 o) ∧ Aside0 (Kd.R Kd.bool 75 w' w.heap.size (fun k => k = gb9) (.slice (some ⟨gb9, 0, none⟩) 128 128) m2) ∧ Aside0 (Kd.R (Kd.int .i64) 3 w' w.heap.size (fun k => k ≠ gb9) (.slice Aw ws.length cw) ws) ∧ Aside0 (w'.heap[gb3]? = some (.cells #[.int .i64 a0_0, .int .i64 a0_1, .slice (some ad) l0_2.length c0_2] 24 (0, 0))) ∧ Aside0 (Below w.heap.size w w'))
          case atStart => exact ⟨m, 0, rfl, ⟨by omega, by omega⟩, AM, HO, HA, HW, BK3, HB⟩
          case round =>
           clear AM HO HA HW BK3 HB AJ hcz0 BK6
           obtain ⟨m2, y2, rfl, HY2, AM, HO, HA, HV, BK3, HB⟩ := hrel
           by_cases c6 : y2 < ws.length
           ·have t5 : decide (y2 < (ws.length : Int)) = true := decide_eq_true c6
            have y0 : 0 ≤ y2 := HY2.out.1
            have H := AM.out
            rw [h_drop y0 c6] at H
            unfold mark_all at H
            by_cases c4 : 0 ≤ rd ws y2 ∧ rd ws y2 < 128
            ·rw [if_pos c4] at H
             obtain ⟨ad2, e2, g2⟩ := Kd.at_int (Kd.R_reads' HV.out).2.2 y2 y0 c6
             cases e2
             obtain ⟨g3, f3_⟩ := Kd.R_celln false HA.out (rd ws y2) c4.1 (by omega)
             have HP := Kd.R_putg HA.out (rd ws y2) true
             have AM' := Aside0.mk H
             have HW2 := Aside0.mk (h_w1 y0 c6 HWM.out)
             have C3 := Aside0.mk c6
             have HP1 := Aside0.mk HP.1
             have HP2 := Aside0.mk HP.2
             have q2 := eq_true y0
             have q3 := eq_true c6
             have q4 := eq_true c4.1
             have q5 := eq_true c4.2
             clear H AM y0 c6 c4 HP
             go_wp2
             go_roundg (gk - 1)
             case measure => have := HY2.out; have := C3.out; omega
             case rel => exact ⟨m2.set (rd ws y2).toNat true, y2 + 1, by rw [HW2.out], ⟨by have := HY2.out; omega, by have := HY2.out; have := C3.out; omega⟩, AM', ⟨Kd.R_grown HO.out HP2.out (fun k hk e => hk (by injection e))⟩, HP1, ⟨Kd.R_grown HV.out HP2.out (fun k hk e => hk (by injection e))⟩, ⟨blk_far BK3.out N39.out _⟩, ⟨below_set HB.out G9.out⟩⟩
            ·rw [if_neg c4] at H
             exact absurd H (by simp)
           ·have H := AM.out
            rw [h_end c6] at H
            obtain rfl : m2 = m' := Option.some.inj H
            have t5 : decide (y2 < (ws.length : Int)) = false := decide_eq_false c6
            have N3 := Aside0.mk (h_ltB HA.out)
            clear H AM c6
            go_wp2_with (first | ((with_reducible refine gate_builtin (b := .append) (xs := #[.tmp 85, .tmp 87]) rfl ?_); at_builtin; refine Kd.R_append (Kd.int .i64) (w0 := w) w.heap.size rfl (.tmp 85) (.tmp 87) 25 3 (.int .i64 0) 8 rfl Try.underlying25 info3 rfl (by decide) (by omega) u12 o ii [.int .i64 ii] (fun k => k ≠ gb9) (fun _ => False) rfl rfl ?aP (fun _ hk => hk.elim) ?aF ?aO ?aB ?aS ?aL ?_; (case aP => exact rfl); (case aB => exact HB.out); (case aF => exact fun k hk e => by have := N3.out; omega); (case aO => exact HO.out); (case aS => exact HB.out.size); (case aL => have := HL.out; omega); intro v9 w9 ho hb hg hat; have HO' := Aside0.mk ho; have HB' := Aside0.mk hb; have HA' := Aside0.mk (Kd.R_grown HA.out hg (fun k hk e => HO.out.1 k e.symm hk)); have BK1' := Aside0.mk (blk_grown BK3.out hg (Kd.R_ne HO.out BK3.out (by decide))); clear ho hb hg hat HO HA HB BK3; have HO := HO'; have HB := HB'; have HA := HA'; have BK3 := BK1'; clear HO' HB' HA' BK1'))
            go_roundg rr
            case measure => omega
            case rel => exact ⟨m2, o ++ [ii], x + 1, by rw [HW1.out], ⟨by have := HX.out; omega, by have := HX.out; have := CX.out; omega⟩, HG, HO, HA, BK3, HB⟩
         ·rw [if_neg c7] at H2
          exact absurd H2 (by simp)
        ·rw [if_neg c6] at H1
         have HG := Aside0.mk H1
         have t4 : decide (0 ≤ j) = false := decide_eq_false c6
         clear H H1 HK c5 c6 AJ0
         go_wp2_with (first | (go_at_call 31; refine (layers_wires.calls f0 f1 A2_ c2_ f2 f3 f4 f5 ws _ ?s1 ?s2 A1.out).mono ?_; (case s1 => exact Kd.C_below HI2.out (below_alloc HB.out _)); (case s2 => exact HI3.out); rintro e w5 ⟨vw, rfl, ho, hb⟩; have N9 := Aside0.mk (h_ltB HA.out); have HWok := Kd.R_base ho; have HW := Aside0.mk (show Kd.R (Kd.int .i64) 3 w5 w.heap.size (fun k => k ≠ gb9) vw ws from ⟨fun k hk e => by have h1 := HWok k hk; have h2 := N9.out; simp at h1; omega, (Kd.R_lower ho (by simp; exact Nat.le_succ_of_le HB.out.size)).2⟩); have HO' := Aside0.mk (Kd.R_below (Kd.R_alloc HO.out _) hb); have HA' := Aside0.mk (Kd.R_below (Kd.R_alloc HA.out _) hb); have BK1' := Aside0.mk (blk_below (blk_alloc BK3.out _) hb); have BK6 := Aside0.mk (blk_below (blk_new wr _) hb); have HB' := Aside0.mk (below_step (below_alloc HB.out _) hb); clear ho hb HO HA BK3 HB HWok hcz; have HO := HO'; have HA := HA'; have BK3 := BK1'; have HB := HB'; clear HO' HA' BK1' HB'; have hcz0 : w5.cell? ⟨wr.heap.size, 0, none⟩ = some (.int .i64 f0) := (blk_cell BK6.out 0).trans rfl; obtain ⟨Aw, cw, ew⟩ := Kd.R_slice HW.out; subst ew) | (go_at_call 47; refine (ContainsFunc_calls gb9 m _ _ ws j _ _ _ _ _ HA.out HW.out AJ.out).mono ?_; rintro e w6 ⟨rfl, rfl⟩))
         go_roundg rr
         case measure => omega
         case rel => exact ⟨m, o, x + 1, by rw [HW1.out], ⟨by have := HX.out; omega, by have := HX.out; have := CX.out; omega⟩, HG, HO, HA, BK3, HB⟩
     ·have H := HG.out
      obtain rfl : gk0 = 0 := by have := HX.out; omega
      unfold cone_go at H
      obtain rfl : o = out := Option.some.inj H
      have t1 : decide (x < (l0_2.length : Int)) = false := decide_eq_false cx
      have H := HF.out
      cases a2
      ·simp only [Bool.false_eq_true, if_false, Option.some.injEq, Prod.mk.injEq] at H
       obtain ⟨rfl, rfl⟩ := H
       obtain ⟨Ao, co, eo⟩ := Kd.R_slice HO.out
       subst eo
       clear HG HF cx
       go_wp2
       go_ret2
       exact ⟨_, rfl, Kd.R_mono HO.out (fun _ _ => trivial), HB.out⟩
      ·simp only [if_true] at H
       obtain ⟨o2, AR0, H2⟩ := Option.bind_eq_some_iff.mp H
       simp only [Option.some.injEq, Prod.mk.injEq] at H2
       obtain ⟨rfl, rfl⟩ := H2
       have AR := Aside0.mk AR0
       clear HG HF cx AR0 H
       go_wp2_with (first | (go_at_call 49; refine (slices_Reverse_int_int.calls k (fun _ => True) u12 o o2 w wr HB.out (Kd.R_mono HO.out (fun _ _ => trivial)) AR.out).mono ?_; rintro e w7 ⟨rfl, ho, hb, hk⟩; have HO2 := Aside0.mk ho; have HB2 := Aside0.mk hb; clear ho hb hk))
       go_ret2
       exact ⟨_, rfl, Kd.R_mono HO2.out (fun _ _ => trivial), HB2.out⟩
 ·rw [if_neg c0] at H1
  simp only [Option.some.injEq, Prod.mk.injEq] at H1
  obtain ⟨rfl, rfl⟩ := H1
  have t0 : (e0 != 0) = true := bne_iff_ne.mpr c0
  clear c0
  go_enter Try.func32, Try.ntmps32
  go_wp2_with (first | ((with_reducible refine gate_dst (N := 3) rfl ?_); refine box_event ?hg (N := 3) ?hd (cs := #[.int .i64 a0_0, .int .i64 a0_1, .slice A0_2 l0_2.length c0_2]) (t := 24) ?hr ?_; (case hd => rfl); (case hg => rfl); (case hr => first | (go_simp; done) | (go_simp; rfl)); intro gb3 hg w1 BK3 hb; have G3 := Aside0.mk (show w.heap.size ≤ gb3 by rw [hg]; exact Nat.le_refl _); have HB1 := Aside0.mk (below_step HB.out hb); replace BK3 := Aside0.mk BK3; clear HB; have HB := HB1; clear HB1 hb hg; have hz0 : w1.cell? ⟨gb3, 0, none⟩ = some (.int .i64 a0_0) := (blk_cell BK3.out 0).trans rfl; have hz1 : w1.cell? ⟨gb3, 1, none⟩ = some (.int .i64 a0_1) := (blk_cell BK3.out 1).trans rfl; have hz2 : w1.cell? ⟨gb3, 2, none⟩ = some (.slice A0_2 l0_2.length c0_2) := (blk_cell BK3.out 2).trans rfl) | (go_at_call 26; refine (layers_checked.calls k a0_0 a0_1 A0_2 c0_2 l0_2 _ _ ?s1 ?s2 AD.out).mono ?_; (case s1 => exact Kd.C_below HR.out HB.out); (case s2 => exact HC.out); rintro e w2 ⟨rfl, hb⟩; have HB1 := Aside0.mk (below_step HB.out hb); have BK1' := Aside0.mk (blk_below BK3.out hb); clear HB BK3 hz0 hz1 hz2 hb; have HB := HB1; have BK3 := BK1'; clear HB1 BK1'))
  go_ret2
  exact ⟨_, rfl, Kd.R_nil _ _ _ _ _, HB.out⟩
def layers_Past.f (k : Nat) (a0_0 : Int) (a0_1 : Int) (l0_2 : List (S57)) (l1 : List Int) : Option (List Int × Int) := (layers_cone.f k a0_0 a0_1 l0_2 l1 true).bind fun bt5602 => (some (bt5602.1, bt5602.2))
set_option maxHeartbeats 8000000 in
set_option maxRecDepth 100000 in
theorem layers_Past.calls (k : Nat) (a0_0 : Int) (a0_1 : Int) (A0_2 : Option Addr) (c0_2 : Nat) (l0_2 : List (S57)) (A1 : Option Addr) (c1 : Nat) (l1 : List Int) (r1 : List Int) (r2 : Int) (w : World) (hr0_2 : Kd.C k57 w A0_2 l0_2.length l0_2) (hc0_2 : l0_2.length ≤ c0_2) (hr1 : Kd.C (Kd.int .i64) w A1 l1.length l1) (hc1 : l1.length ≤ c1) (h : layers_Past.f k a0_0 a0_1 l0_2 l1 = some (r1, r2)) :
  Calls Try.prog 11 #[.agg #[.int .i64 a0_0, .int .i64 a0_1, .slice A0_2 l0_2.length c0_2], .slice A1 l1.length c1] w fun e w' => ∃ v0_ : Value, e = .returned (.tuple #[v0_, .int .i64 r2]) ∧ Kd.R (Kd.int .i64) 3 w' w.heap.size (fun _ => True) v0_ r1 ∧ Below w.heap.size w w' := by
 have hu24 := Try.underlying24
 have HR0_2 := Aside0.mk hr0_2
 have HC0_2 := Aside0.mk hc0_2
 clear hr0_2 hc0_2
 have HR1 := Aside0.mk hr1
 have HC1 := Aside0.mk hc1
 clear hr1 hc1
 have HB := Aside0.mk (Below.refl w.heap.size w)
 have H : ((layers_cone.f k a0_0 a0_1 l0_2 l1 true).bind fun bt5602 => (some (bt5602.1, bt5602.2))) = some (r1, r2) := h
 clear h
 replace H := Option.bind_eq_some_iff.mp H
 obtain ⟨⟨t5602, t5605⟩, A30, H⟩ := H
 replace H : (some (t5602, t5605)) = some (r1, r2) := H
 have A3 := Aside0.mk A30
 clear A30
 simp only [Option.some.injEq, Prod.mk.injEq] at H
 obtain ⟨rfl, rfl⟩ := H
 go_enter Try.func11, Try.ntmps11
 go_wp2_with (first | ((with_reducible refine gate_dst (N := 2) rfl ?_); refine box_event ?hg (N := 2) ?hd (cs := #[.int .i64 a0_0, .int .i64 a0_1, .slice A0_2 l0_2.length c0_2]) (t := 24) ?hr ?_; (case hd => rfl); (case hg => rfl); (case hr => first | (go_simp; done) | (go_simp; rfl)); intro gb5601 hg w4 hbox hb; have n0_ := Aside0.mk (below_step (by repeat (first | (with_reducible first | exact HB.out | apply below_alloc | apply pw_below_drewN | apply below_drew1) | exact HB.out)) hb); have n1_ := Aside0.mk (hbox); have n2_ := Aside0.mk ((by rw [hg]; exact (below_size (by repeat (first | (with_reducible first | exact HB.out | apply below_alloc | apply pw_below_drewN | apply below_drew1) | exact HB.out))) : w.heap.size ≤ gb5601)); have n3_ := Aside0.mk ((by rw [hg]; exact (below_size (by repeat (first | (with_reducible first | exact HB.out | apply below_alloc | apply pw_below_drewN | apply below_drew1) | exact HB.out))) : w.heap.size ≤ gb5601)); clear HB; have HB := n0_; have BK5601 := n1_; have GW5601 := n2_; have GE5601 := n3_; clear n0_ n1_ n2_ n3_; clear hb hbox hg; have hcz5_0 : w4.cell? ⟨gb5601, 0, none⟩ = some (.int .i64 a0_0) := (blk_cell BK5601.out 0).trans rfl; have hcz5_1 : w4.cell? ⟨gb5601, 1, none⟩ = some (.int .i64 a0_1) := (blk_cell BK5601.out 1).trans rfl; have hcz5_2 : w4.cell? ⟨gb5601, 2, none⟩ = some (.slice A0_2 l0_2.length c0_2) := (blk_cell BK5601.out 2).trans rfl; have hfz5_0 := blk_frozen BK5601.out 0; have hfz5_1 := blk_frozen BK5601.out 1; have hfz5_2 := blk_frozen BK5601.out 2) | ((with_reducible refine gate_callee (f := 32) rfl ?_); refine goesL_ (some 8) rfl rfl Try.func32 (by kernel_rfl) rfl #[.agg #[.int .i64 a0_0, .int .i64 a0_1, .slice A0_2 l0_2.length c0_2], .slice A1 l1.length c1, .bool true] rfl (by (try simp only [List.map_toArray, List.map_cons, List.map_nil]); first | done | rfl | (simp only [List.length_drop, List.length_take]; rfl)) ?_; (with_reducible refine (layers_cone.calls k a0_0 a0_1 _ _ l0_2 _ _ l1 true t5602 t5605 _ ?side1 ?side2 ?side3 ?side4 A3.out).mono ?_); (case side1 => repeat (first | exact (Kd.C_below HR0_2.out HB.out) | (with_reducible refine Kd.C_alloc ?_ _) | (with_reducible refine Kd.C_drewN ?_ _) | (with_reducible refine Kd.C_drew ?_))); (case side2 => exact HC0_2.out); (case side3 => repeat (first | exact (Kd.C_below HR1.out HB.out) | (with_reducible refine Kd.C_alloc ?_ _) | (with_reducible refine Kd.C_drewN ?_ _) | (with_reducible refine Kd.C_drew ?_))); (case side4 => exact HC1.out); rintro e w6 ⟨v5603, rfl, ho0, hb⟩; refine ⟨_, rfl, ?_⟩; have n0_ := Aside0.mk (Kd.R_lower ho0 (below_size (by repeat (first | (with_reducible first | exact HB.out | apply below_alloc | apply pw_below_drewN | apply below_drew1 | refine below_set ?_ GE5601.out) | exact HB.out)))); have n1_ := Aside0.mk (blk_below (g := gb5601) (o := .cells #[.int .i64 a0_0, .int .i64 a0_1, .slice A0_2 l0_2.length c0_2] 24 (0, 0)) (by (with_reducible repeat (first | refine blk_drewN ?_ _ | refine blk_drew ?_ | refine blk_alloc ?_ _)); exact BK5601.out) hb); have n2_ := Aside0.mk (below_step (by repeat (first | (with_reducible first | exact HB.out | apply below_alloc | apply pw_below_drewN | apply below_drew1 | refine below_set ?_ GE5601.out) | exact HB.out)) hb); clear BK5601; clear HB; have HO5604 := n0_; have BK5601 := n1_; have HB := n2_; clear n0_ n1_ n2_; (try clear hb); (try clear hb2); (try clear hk); (try clear hi); (try clear ho0)))
 go_ret2
 exact ⟨_, by first | rfl | (simp [errW_none, errW_some] <;> rfl) | (simp [*, errW_none, errW_some] <;> rfl), by (with_reducible repeat (first | apply Kd.R_alloc | apply Kd.R_drewN | apply Kd.R_drew)); exact HO5604.out, by repeat (first | (with_reducible first | exact HB.out | apply below_alloc | apply pw_below_drewN | apply below_drew1 | refine below_set ?_ GE5601.out) | exact HB.out)⟩
def layers_Moments.l0 : Nat → List (List Int) → List Int → Int → Int → Int → Int → List (S57) → Option ((List (List Int)) × Int)
 | 0, _, _, _, _, _, _, _ => none
 | k + 1, x6, x20, x21, x22, x10102000, x10102001, x10102002 => if x22 < x21 then (if 0 ≤ x22 then (if x22 < (x20.length : Int) then (if x22 < (x10102002.length : Int) then (if ((rd_T57 x10102002 x22).f0) = 4 then (layers_Moments.l0 k x6 x20 x21 (wrap64 (x22 + 1)) x10102000 x10102001 x10102002) else (if 0 ≤ (wrap64 ((rd x20 x22) - 1)) then (if (wrap64 ((rd x20 x22) - 1)) < (x6.length : Int) then (if (rd_L1 x6 (wrap64 ((rd x20 x22) - 1))).length < 17592186044416 then (layers_Moments.l0 k (x6.set ((wrap64 ((rd x20 x22) - 1)) : Int).toNat ((rd_L1 x6 (wrap64 ((rd x20 x22) - 1))) ++ [x22])) x20 x21 (wrap64 (x22 + 1)) x10102000 x10102001 x10102002) else (none)) else (none)) else (none))) else (none)) else (none)) else (none)) else (some (x6, 0))
def layers_Moments.f (k : Nat) (a0_0 : Int) (a0_1 : Int) (l0_2 : List (S57)) : Option ((List (List Int)) × Int) := (layers_Depth.f k a0_0 a0_1 l0_2).bind fun bt10102 => (if bt10102.2 = 0 then (if 0 ≤ bt10102.1 then (if (bt10102.1 : Int).toNat ≤ 11728124029610 then ((layers_early.f a0_0 a0_1 l0_2).bind fun t10107 => (layers_Moments.l0 k (List.replicate (bt10102.1 : Int).toNat []) t10107 (t10107.length : Int) 0 a0_0 a0_1 l0_2)) else (none)) else (none)) else (some (([] : List (List Int)), bt10102.2)))
set_option maxHeartbeats 8000000 in
set_option maxRecDepth 100000 in
theorem layers_Moments.calls (k : Nat) (a0_0 : Int) (a0_1 : Int) (A0_2 : Option Addr) (c0_2 : Nat) (l0_2 : List (S57)) (r1 : List (List Int)) (r2 : Int) (w : World) (hr0_2 : Kd.C k57 w A0_2 l0_2.length l0_2) (hc0_2 : l0_2.length ≤ c0_2) (h : layers_Moments.f k a0_0 a0_1 l0_2 = some (r1, r2)) :
  Calls Try.prog 20 #[.agg #[.int .i64 a0_0, .int .i64 a0_1, .slice A0_2 l0_2.length c0_2]] w fun e w' => ∃ v0_ : Value, e = .returned (.tuple #[v0_, .int .i64 r2]) ∧ Kd.S (Kd.slice 3 (Kd.int .i64)) 25 w' w.heap.size (fun _ => True) v0_ r1 ∧ Below w.heap.size w w' := by
 have hu24 := Try.underlying24
 have HR0_2 := Aside0.mk hr0_2
 have HC0_2 := Aside0.mk hc0_2
 clear hr0_2 hc0_2
 have HB := Aside0.mk (Below.refl w.heap.size w)
 have H : ((layers_Depth.f k a0_0 a0_1 l0_2).bind fun bt10102 => (if bt10102.2 = 0 then (if 0 ≤ bt10102.1 then (if (bt10102.1 : Int).toNat ≤ 11728124029610 then ((layers_early.f a0_0 a0_1 l0_2).bind fun t10107 => (layers_Moments.l0 k (List.replicate (bt10102.1 : Int).toNat []) t10107 (t10107.length : Int) 0 a0_0 a0_1 l0_2)) else (none)) else (none)) else (some (([] : List (List Int)), bt10102.2)))) = some (r1, r2) := h
 clear h
 replace H := Option.bind_eq_some_iff.mp H
 obtain ⟨⟨t10102, t10103⟩, A20, H⟩ := H
 replace H : (if t10103 = 0 then (if 0 ≤ t10102 then (if (t10102 : Int).toNat ≤ 11728124029610 then ((layers_early.f a0_0 a0_1 l0_2).bind fun t10107 => (layers_Moments.l0 k (List.replicate (t10102 : Int).toNat []) t10107 (t10107.length : Int) 0 a0_0 a0_1 l0_2)) else (none)) else (none)) else (some (([] : List (List Int)), t10103))) = some (r1, r2) := H
 have A2 := Aside0.mk A20
 clear A20
 by_cases c3 : t10103 = 0
 ·rw [if_pos c3] at H
  have c3b0 : (t10103 == 0) = true := beq_iff_eq.mpr c3
  have c3b1 : (t10103 != 0) = false := bne_eq_false_iff_eq.mpr c3
  clear c3
  by_cases c4 : 0 ≤ t10102
  ·rw [if_pos c4] at H
   have c4b0 := eq_true c4
   have c4b1 : decide (0 ≤ t10102) = true := decide_eq_true c4
   clear c4
   by_cases c5 : (t10102 : Int).toNat ≤ 11728124029610
   ·rw [if_pos c5] at H
    have c5b0 := eq_true c5
    have c5b1 : decide ((t10102 : Int).toNat ≤ 11728124029610) = true := decide_eq_true c5
    clear c5
    obtain ⟨y10104, hy10104⟩ : ∃ y_ : List (List Int), y_ = (List.replicate (t10102 : Int).toNat []) := ⟨_, rfl⟩
    replace H : ((layers_early.f a0_0 a0_1 l0_2).bind fun t10107 => (layers_Moments.l0 k y10104 t10107 (t10107.length : Int) 0 a0_0 a0_1 l0_2)) = some (r1, r2) := by first | (rw [hy10104]; with_reducible exact H) | (have H2_ := (Option.bind_some _ _).symm.trans H; rw [hy10104]; with_reducible exact H2_) | (have H2_ := (Option.bind_some _ _).symm.trans H; with_reducible exact H2_) | with_reducible exact H | (rw [hy10104]; exact H) | exact H
    have Ny10104 := Aside0.mk hy10104
    clear hy10104
    replace H := Option.bind_eq_some_iff.mp H
    obtain ⟨t10107, A60, H⟩ := H
    replace H : (layers_Moments.l0 k y10104 t10107 (t10107.length : Int) 0 a0_0 a0_1 l0_2) = some (r1, r2) := H
    have A6 := Aside0.mk A60
    clear A60
    have H' := Aside0.mk H
    clear H
    go_enter Try.func20, Try.ntmps20
    go_wp2_with (first | ((with_reducible refine gate_dst (N := 1) rfl ?_); refine box_event ?hg (N := 1) ?hd (cs := #[.int .i64 a0_0, .int .i64 a0_1, .slice A0_2 l0_2.length c0_2]) (t := 24) ?hr ?_; (case hd => rfl); (case hg => rfl); (case hr => first | (go_simp; done) | (go_simp; rfl)); intro gb10101 hg w7 hbox hb; have n0_ := Aside0.mk (below_step (by repeat (first | (with_reducible first | exact HB.out | apply below_alloc | apply pw_below_drewN | apply below_drew1) | exact HB.out)) hb); have n1_ := Aside0.mk (hbox); have n2_ := Aside0.mk ((by rw [hg]; exact (below_size (by repeat (first | (with_reducible first | exact HB.out | apply below_alloc | apply pw_below_drewN | apply below_drew1) | exact HB.out))) : w.heap.size ≤ gb10101)); have n3_ := Aside0.mk ((by rw [hg]; exact (below_size (by repeat (first | (with_reducible first | exact HB.out | apply below_alloc | apply pw_below_drewN | apply below_drew1) | exact HB.out))) : w.heap.size ≤ gb10101)); clear HB; have HB := n0_; have BK10101 := n1_; have GW10101 := n2_; have GE10101 := n3_; clear n0_ n1_ n2_ n3_; clear hb hbox hg; have hcz8_0 : w7.cell? ⟨gb10101, 0, none⟩ = some (.int .i64 a0_0) := (blk_cell BK10101.out 0).trans rfl; have hcz8_1 : w7.cell? ⟨gb10101, 1, none⟩ = some (.int .i64 a0_1) := (blk_cell BK10101.out 1).trans rfl; have hcz8_2 : w7.cell? ⟨gb10101, 2, none⟩ = some (.slice A0_2 l0_2.length c0_2) := (blk_cell BK10101.out 2).trans rfl; have hfz8_0 := blk_frozen BK10101.out 0; have hfz8_1 := blk_frozen BK10101.out 1; have hfz8_2 := blk_frozen BK10101.out 2) | ((with_reducible refine gate_callee (f := 15) rfl ?_); refine goesL_ (some 11) rfl rfl Try.func15 (by kernel_rfl) rfl #[.agg #[.int .i64 a0_0, .int .i64 a0_1, .slice A0_2 l0_2.length c0_2]] rfl (by (try simp only [List.map_toArray, List.map_cons, List.map_nil]); first | done | rfl | (simp only [List.length_drop, List.length_take]; rfl)) ?_; (with_reducible refine (layers_Depth.calls k a0_0 a0_1 _ _ l0_2 t10102 t10103 _ ?side1 ?side2 A2.out).mono ?_); (case side1 => repeat (first | exact (Kd.C_below HR0_2.out HB.out) | (with_reducible refine Kd.C_alloc ?_ _) | (with_reducible refine Kd.C_drewN ?_ _) | (with_reducible refine Kd.C_drew ?_))); (case side2 => exact HC0_2.out); rintro e w9 ⟨rfl, hb⟩; refine ⟨_, rfl, ?_⟩; have n0_ := Aside0.mk (blk_below (g := gb10101) (o := .cells #[.int .i64 a0_0, .int .i64 a0_1, .slice A0_2 l0_2.length c0_2] 24 (0, 0)) (by (with_reducible repeat (first | refine blk_drewN ?_ _ | refine blk_drew ?_ | refine blk_alloc ?_ _)); exact BK10101.out) hb); have n1_ := Aside0.mk (below_step (by repeat (first | (with_reducible first | exact HB.out | apply below_alloc | apply pw_below_drewN | apply below_drew1 | refine below_set ?_ GE10101.out) | exact HB.out)) hb); clear BK10101; clear HB; have BK10101 := n0_; have HB := n1_; clear n0_ n1_; (try clear hb); (try clear hb2); (try clear hk); (try clear hi)) | ((with_reducible refine gate_dst (N := 18) rfl ?_); refine Kd.S_make (Kd.slice 3 (Kd.int .i64)) _ 25 rfl (N := 18) rfl 43 _ _ rfl t10102 rfl rfl Try.underlying43 (.slice none 0 0) 24 info25 rfl (by decide) (by omega) [] (ok := fun _ => True) (okp := fun _ => True) ⟨_, rfl, Kd.R_nil _ _ _ _ _⟩ (fun _ hk => hk) trivial (of_decide_eq_true (by first | (with_reducible assumption) | assumption)) (Nat.le_trans (Nat.mul_le_mul_right _ (of_decide_eq_true (by first | (with_reducible assumption) | assumption) : t10102.toNat ≤ 11728124029610)) (by omega)) (Below.refl _ _) (Nat.le_refl _) ?_; intro v10105 w10 ho11 hb hg_ hnew_; clear hg_ hnew_; (first | rw [← Ny10104.out] at ho11 | (simp only [Int.reduceToNat] at ho11; rw [← Ny10104.out] at ho11)); have n0_ := Aside0.mk (Kd.S_lower ho11 (below_size (by repeat (first | (with_reducible first | exact HB.out | apply below_alloc | apply pw_below_drewN | apply below_drew1 | refine below_set ?_ GE10101.out) | exact HB.out)))); have n1_ := Aside0.mk (blk_below (g := gb10101) (o := .cells #[.int .i64 a0_0, .int .i64 a0_1, .slice A0_2 l0_2.length c0_2] 24 (0, 0)) (by (with_reducible repeat (first | refine blk_drewN ?_ _ | refine blk_drew ?_ | refine blk_alloc ?_ _)); exact BK10101.out) hb); have n2_ := Aside0.mk (below_step (by repeat (first | (with_reducible first | exact HB.out | apply below_alloc | apply pw_below_drewN | apply below_drew1 | refine below_set ?_ GE10101.out) | exact HB.out)) hb); clear BK10101; clear HB; have HO10106 := n0_; have BK10101 := n1_; have HB := n2_; clear n0_ n1_ n2_; clear hb ho11; have hcz12_0 : w10.cell? ⟨gb10101, 0, none⟩ = some (.int .i64 a0_0) := (blk_cell BK10101.out 0).trans rfl; have hcz12_1 : w10.cell? ⟨gb10101, 1, none⟩ = some (.int .i64 a0_1) := (blk_cell BK10101.out 1).trans rfl; have hcz12_2 : w10.cell? ⟨gb10101, 2, none⟩ = some (.slice A0_2 l0_2.length c0_2) := (blk_cell BK10101.out 2).trans rfl; have hfz12_0 := blk_frozen BK10101.out 0; have hfz12_1 := blk_frozen BK10101.out 1; have hfz12_2 := blk_frozen BK10101.out 2) | ((with_reducible refine gate_callee (f := 27) rfl ?_); refine goesL_ (some 20) rfl rfl Try.func27 (by kernel_rfl) rfl #[.agg #[.int .i64 a0_0, .int .i64 a0_1, .slice A0_2 l0_2.length c0_2]] rfl (by (try simp only [List.map_toArray, List.map_cons, List.map_nil]); first | done | rfl | (simp only [List.length_drop, List.length_take]; rfl)) ?_; (with_reducible refine (layers_early.calls a0_0 a0_1 _ _ l0_2 t10107 _ ?side1 ?side2 A6.out).mono ?_); (case side1 => repeat (first | exact (Kd.C_below HR0_2.out HB.out) | (with_reducible refine Kd.C_alloc ?_ _) | (with_reducible refine Kd.C_drewN ?_ _) | (with_reducible refine Kd.C_drew ?_))); (case side2 => exact HC0_2.out); rintro e w13 ⟨v10108, rfl, ho0, hb⟩; refine ⟨_, rfl, ?_⟩; have n0_ := Aside0.mk (Kd.S_elder' (by (with_reducible repeat (first | apply Kd.S_alloc | apply Kd.S_drewN | apply Kd.S_drew)); exact HO10106.out) (Kd.R_base ho0) hb); have n1_ := Aside0.mk (Kd.R_lower ho0 (below_size (by repeat (first | (with_reducible first | exact HB.out | apply below_alloc | apply pw_below_drewN | apply below_drew1 | refine below_set ?_ GE10101.out) | exact HB.out)))); have n2_ := Aside0.mk (blk_below (g := gb10101) (o := .cells #[.int .i64 a0_0, .int .i64 a0_1, .slice A0_2 l0_2.length c0_2] 24 (0, 0)) (by (with_reducible repeat (first | refine blk_drewN ?_ _ | refine blk_drew ?_ | refine blk_alloc ?_ _)); exact BK10101.out) hb); have n3_ := Aside0.mk (below_step (by repeat (first | (with_reducible first | exact HB.out | apply below_alloc | apply pw_below_drewN | apply below_drew1 | refine below_set ?_ GE10101.out) | exact HB.out)) hb); clear HO10106; clear BK10101; clear HB; have HO10106 := n0_; have HO10109 := n1_; have BK10101 := n2_; have HB := n3_; clear n0_ n1_ n2_ n3_; (try clear hb); (try clear hb2); (try clear hk); (try clear hi); (try clear ho0); obtain ⟨Ao14, co14, eo14⟩ := Kd.R_slice HO10109.out; subst eo14))
    go_loopg [22] k (fun kq v22 w' => ∃ (x6_1 : List (List Int)) (x22_1 : Int), v22 = .int .i64 x22_1 ∧ Aside0 (layers_Moments.l0 kq x6_1 t10107 (t10107.length : Int) x22_1 a0_0 a0_1 l0_2 = some (r1, r2)) ∧ Aside0 (kq ≤ k) ∧ Aside0 (Kd.S (Kd.slice 3 (Kd.int .i64)) 25 w' w.heap.size (fun k_ => some k_ ≠ ((.slice Ao14 t10107.length co14) : Value).ownBlock) v10105 x6_1) ∧ Aside0 (Kd.R (Kd.int .i64) 3 w' w.heap.size (fun _ => True) (.slice Ao14 t10107.length co14) t10107) ∧ Aside0 (w'.heap[gb10101]? = some (.cells #[.int .i64 a0_0, .int .i64 a0_1, (.slice A0_2 l0_2.length c0_2)] 24 (0, 0))) ∧ Aside0 (Below w.heap.size w w'))
    case atStart => exact ⟨(y10104), (0), (by first | rfl | (simp; done) | (simp [*]; done)), H', ⟨Nat.le_refl _⟩, ⟨by (with_reducible repeat (first | apply Kd.S_alloc | apply Kd.S_drewN | apply Kd.S_drew)); exact Kd.S_mono HO10106.out (fun _ hk => hk.2)⟩, ⟨by (with_reducible repeat (first | apply Kd.R_alloc | apply Kd.R_drewN | apply Kd.R_drew)); exact HO10109.out⟩, ⟨by (with_reducible repeat (first | refine blk_drewN ?_ _ | refine blk_drew ?_ | refine blk_alloc ?_ _)); exact BK10101.out⟩, ⟨by repeat (first | (with_reducible first | exact HB.out | apply below_alloc | apply pw_below_drewN | apply below_drew1 | refine below_set ?_ GE10101.out) | exact HB.out)⟩⟩
    case round =>
     clear H'
     try clear c1
     try clear c2
     try clear p2
     try clear c3
     try clear c3b0
     try clear c3b1
     try clear c4
     try clear c4b0
     try clear c4b1
     try clear c5
     try clear c5b0
     try clear c5b1
     try clear hcz12_0
     try clear hcz12_1
     try clear hcz12_2
     try clear hcz8_0
     try clear hcz8_1
     try clear hcz8_2
     try clear hfz12_0
     try clear hfz12_1
     try clear hfz12_2
     try clear hfz8_0
     try clear hfz8_1
     try clear hfz8_2
     obtain ⟨x6_1, x22_1, rfl, HA, HK1, HO_6, HO_20, BK10101, HB⟩ := hrel
     cases gk with
     | zero => exact absurd HA.out (by simp [layers_Moments.l0])
     | succ k1 =>
      have H := HA.out
      clear HA
      simp only [layers_Moments.l0] at H
      by_cases c15 : x22_1 < (t10107.length : Int)
      ·rw [if_pos c15] at H
       have c15b0 : decide (x22_1 < (t10107.length : Int)) = true := decide_eq_true c15
       clear c15
       by_cases c16 : 0 ≤ x22_1
       ·rw [if_pos c16] at H
        have c16b0 : decide (0 ≤ x22_1) = true := decide_eq_true c16
        clear c16
        by_cases c17 : x22_1 < (t10107.length : Int)
        ·rw [if_pos c17] at H
         have c17b0 : decide (x22_1 < (t10107.length : Int)) = true := decide_eq_true c17
         clear c17
         by_cases c18 : x22_1 < (l0_2.length : Int)
         ·rw [if_pos c18] at H
          have c18b0 : decide (x22_1 < (l0_2.length : Int)) = true := decide_eq_true c18
          clear c18
          by_cases c19 : ((rd_T57 l0_2 x22_1).f0) = 4
          ·rw [if_pos c19] at H
           have c19b0 : (((rd_T57 l0_2 x22_1).f0) == 4) = true := beq_iff_eq.mpr c19
           have c19b1 : (((rd_T57 l0_2 x22_1).f0) != 4) = false := bne_eq_false_iff_eq.mpr c19
           clear c19
           have H' := Aside0.mk H
           clear H
           have p10110 : 0 ≤ (x22_1 : Int) := of_decide_eq_true (by first | (with_reducible assumption) | assumption)
           have q10110 : x22_1 < (t10107.length : Int) := of_decide_eq_true (by first | (with_reducible assumption) | assumption)
           obtain ⟨ad10110, e10110, hx10110_0⟩ := Kd.at_int (Kd.R_reads' HO_20.out).2.2 x22_1 p10110 q10110
           cases e10110
           replace p10110 := eq_true p10110
           replace q10110 := eq_true q10110
           have hcz20_0 : wr.cell? ⟨gb10101, 0, none⟩ = some (.int .i64 a0_0) := (blk_cell BK10101.out 0).trans rfl
           have hcz20_1 : wr.cell? ⟨gb10101, 1, none⟩ = some (.int .i64 a0_1) := (blk_cell BK10101.out 1).trans rfl
           have hcz20_2 : wr.cell? ⟨gb10101, 2, none⟩ = some (.slice A0_2 l0_2.length c0_2) := (blk_cell BK10101.out 2).trans rfl
           have hfz20_0 := blk_frozen BK10101.out 0
           have hfz20_1 := blk_frozen BK10101.out 1
           have hfz20_2 := blk_frozen BK10101.out 2
           have p10111 : 0 ≤ (x22_1 : Int) := of_decide_eq_true (by first | (with_reducible assumption) | assumption)
           have q10111 : x22_1 < (l0_2.length : Int) := of_decide_eq_true (by first | (with_reducible assumption) | assumption)
           obtain ⟨ad10111, A10111_2, c10111_2, e10111, hx10111_0, hx10111_1, hx10111_2, hx10111_3, hx10111_4, hx10111_5, hl10111_2, hi10111_2⟩ := at_T57 HR0_2.out x22_1 p10111 q10111
           cases e10111
           replace hx10111_0 := (HB.out.cell (World.block_lt_of_cell? w _ hx10111_0)).trans hx10111_0
           replace hx10111_1 := (HB.out.cell (World.block_lt_of_cell? w _ hx10111_1)).trans hx10111_1
           replace hx10111_2 := (HB.out.cell (World.block_lt_of_cell? w _ hx10111_2)).trans hx10111_2
           replace hx10111_3 := (HB.out.cell (World.block_lt_of_cell? w _ hx10111_3)).trans hx10111_3
           replace hx10111_4 := (HB.out.cell (World.block_lt_of_cell? w _ hx10111_4)).trans hx10111_4
           replace hx10111_5 := (HB.out.cell (World.block_lt_of_cell? w _ hx10111_5)).trans hx10111_5
           have HR10111_2 := Aside0.mk hi10111_2
           have HC10111_2 := Aside0.mk hl10111_2
           clear hi10111_2 hl10111_2
           replace p10111 := eq_true p10111
           replace q10111 := eq_true q10111
           go_wp2
           go_roundg k1
           case measure => have := HK1.out; omega
           case rel => exact ⟨(x6_1), (wrap64 (x22_1 + 1)), (by first | rfl | (simp; done) | (simp [*]; done)), H', ⟨by have := HK1.out; omega⟩, ⟨by (with_reducible repeat (first | apply Kd.S_alloc | apply Kd.S_drewN | apply Kd.S_drew)); exact HO_6.out⟩, ⟨by (with_reducible repeat (first | apply Kd.R_alloc | apply Kd.R_drewN | apply Kd.R_drew)); exact HO_20.out⟩, ⟨by (with_reducible repeat (first | refine blk_drewN ?_ _ | refine blk_drew ?_ | refine blk_alloc ?_ _)); exact BK10101.out⟩, ⟨by repeat (first | (with_reducible first | exact HB.out | apply below_alloc | apply pw_below_drewN | apply below_drew1 | refine below_set ?_ GE10101.out) | exact HB.out)⟩⟩
          ·rw [if_neg c19] at H
           have c19b0 : (((rd_T57 l0_2 x22_1).f0) == 4) = false := beq_eq_false_iff_ne.mpr c19
           have c19b1 : (((rd_T57 l0_2 x22_1).f0) != 4) = true := bne_iff_ne.mpr c19
           obtain ⟨ji21, hji21⟩ : ∃ j_ : Int, (wrap64 ((rd t10107 x22_1) - 1)) = j_ := ⟨_, rfl⟩
           replace H : (if 0 ≤ (ji21) then (if (ji21) < (x6_1.length : Int) then (if (rd_L1 x6_1 (ji21)).length < 17592186044416 then (layers_Moments.l0 k1 (x6_1.set ((ji21) : Int).toNat ((rd_L1 x6_1 (ji21)) ++ [x22_1])) t10107 (t10107.length : Int) (wrap64 (x22_1 + 1)) a0_0 a0_1 l0_2) else (none)) else (none)) else (none)) = some (r1, r2) := by first | (rw [hji21] at H; exact H) | (simp only [hji21] at H ⊢; exact H)
           have hji21w : (IntKind.i64.wrap ((rd t10107 x22_1) - 1)) = ji21 := (i64_w _).trans hji21
           by_cases c22 : 0 ≤ (ji21)
           ·rw [if_pos c22] at H
            have c22b0 : decide (0 ≤ (ji21)) = true := decide_eq_true c22
            clear c22
            by_cases c23 : (ji21) < (x6_1.length : Int)
            ·rw [if_pos c23] at H
             have c23b0 : decide ((ji21) < (x6_1.length : Int)) = true := decide_eq_true c23
             clear c23
             by_cases c24 : (rd_L1 x6_1 (ji21)).length < 17592186044416
             ·rw [if_pos c24] at H
              have LMc24 := Aside0.mk c24
              clear c24
              obtain ⟨y10113, hy10113⟩ : ∃ y_ : List Int, y_ = ((rd_L1 x6_1 (ji21)) ++ [x22_1]) := ⟨_, rfl⟩
              replace H : (layers_Moments.l0 k1 (x6_1.set ((ji21) : Int).toNat y10113) t10107 (t10107.length : Int) (wrap64 (x22_1 + 1)) a0_0 a0_1 l0_2) = some (r1, r2) := by first | (rw [hy10113]; with_reducible exact H) | (have H2_ := (Option.bind_some _ _).symm.trans H; rw [hy10113]; with_reducible exact H2_) | (have H2_ := (Option.bind_some _ _).symm.trans H; with_reducible exact H2_) | with_reducible exact H | (rw [hy10113]; exact H) | exact H
              have Ny10113 := Aside0.mk hy10113
              clear hy10113
              obtain ⟨y10116, hy10116⟩ : ∃ y_ : List (List Int), y_ = (x6_1.set ((ji21) : Int).toNat y10113) := ⟨_, rfl⟩
              replace H : (layers_Moments.l0 k1 y10116 t10107 (t10107.length : Int) (wrap64 (x22_1 + 1)) a0_0 a0_1 l0_2) = some (r1, r2) := by first | (rw [hy10116]; with_reducible exact H) | (have H2_ := (Option.bind_some _ _).symm.trans H; rw [hy10116]; with_reducible exact H2_) | (have H2_ := (Option.bind_some _ _).symm.trans H; with_reducible exact H2_) | with_reducible exact H | (rw [hy10116]; exact H) | exact H
              have Ny10116 := Aside0.mk hy10116
              clear hy10116
              have H' := Aside0.mk H
              clear H
              have p10110 : 0 ≤ (x22_1 : Int) := of_decide_eq_true (by first | (with_reducible assumption) | assumption)
              have q10110 : x22_1 < (t10107.length : Int) := of_decide_eq_true (by first | (with_reducible assumption) | assumption)
              obtain ⟨ad10110, e10110, hx10110_0⟩ := Kd.at_int (Kd.R_reads' HO_20.out).2.2 x22_1 p10110 q10110
              cases e10110
              replace p10110 := eq_true p10110
              replace q10110 := eq_true q10110
              have hcz26_0 : wr.cell? ⟨gb10101, 0, none⟩ = some (.int .i64 a0_0) := (blk_cell BK10101.out 0).trans rfl
              have hcz26_1 : wr.cell? ⟨gb10101, 1, none⟩ = some (.int .i64 a0_1) := (blk_cell BK10101.out 1).trans rfl
              have hcz26_2 : wr.cell? ⟨gb10101, 2, none⟩ = some (.slice A0_2 l0_2.length c0_2) := (blk_cell BK10101.out 2).trans rfl
              have hfz26_0 := blk_frozen BK10101.out 0
              have hfz26_1 := blk_frozen BK10101.out 1
              have hfz26_2 := blk_frozen BK10101.out 2
              have p10111 : 0 ≤ (x22_1 : Int) := of_decide_eq_true (by first | (with_reducible assumption) | assumption)
              have q10111 : x22_1 < (l0_2.length : Int) := of_decide_eq_true (by first | (with_reducible assumption) | assumption)
              obtain ⟨ad10111, A10111_2, c10111_2, e10111, hx10111_0, hx10111_1, hx10111_2, hx10111_3, hx10111_4, hx10111_5, hl10111_2, hi10111_2⟩ := at_T57 HR0_2.out x22_1 p10111 q10111
              cases e10111
              replace hx10111_0 := (HB.out.cell (World.block_lt_of_cell? w _ hx10111_0)).trans hx10111_0
              replace hx10111_1 := (HB.out.cell (World.block_lt_of_cell? w _ hx10111_1)).trans hx10111_1
              replace hx10111_2 := (HB.out.cell (World.block_lt_of_cell? w _ hx10111_2)).trans hx10111_2
              replace hx10111_3 := (HB.out.cell (World.block_lt_of_cell? w _ hx10111_3)).trans hx10111_3
              replace hx10111_4 := (HB.out.cell (World.block_lt_of_cell? w _ hx10111_4)).trans hx10111_4
              replace hx10111_5 := (HB.out.cell (World.block_lt_of_cell? w _ hx10111_5)).trans hx10111_5
              have HR10111_2 := Aside0.mk hi10111_2
              have HC10111_2 := Aside0.mk hl10111_2
              clear hi10111_2 hl10111_2
              replace p10111 := eq_true p10111
              replace q10111 := eq_true q10111
              obtain ⟨Ao27, co27, eo27⟩ := Kd.S_slice HO_6.out
              subst eo27
              have p10112 : 0 ≤ ((ji21) : Int) := of_decide_eq_true (by first | (with_reducible assumption) | assumption)
              have q10112 : (ji21) < (x6_1.length : Int) := of_decide_eq_true (by first | (with_reducible assumption) | assumption)
              obtain ⟨ad10112, A10112_0, c10112_0, e10112, hx10112_0, hl10112_0, hi10112_0⟩ := at_L1 (Kd.S_reads' HO_6.out).2.2 (ji21) p10112 q10112
              cases e10112
              obtain ⟨ce10112, hce10112, hMe10112, hcc10112⟩ := Kd.S_get HO_6.out [] (ji21) p10112 (by first | exact q10112 | exact of_decide_eq_true (by first | (with_reducible assumption) | assumption) | (have e_ := (Kd.S_reads' HO_6.out).1; omega))
              obtain ⟨ve10112_0, rfl, ge10112_0⟩ := hMe10112
              have hv10112_0 := hcc10112 0 _ rfl
              rw [Nat.add_zero, show ((Kd.slice 3 (Kd.int .i64))).sz = 1 from rfl, Nat.mul_one] at hv10112_0
              replace hv10112_0 := Option.some.inj (hv10112_0.symm.trans hx10112_0)
              rw [hv10112_0] at ge10112_0
              have HL10112_0 := Aside0.mk (show Kd.R (Kd.int .i64) 3 _ _ _ _ (rd_L1 x6_1 (ji21)) from ge10112_0)
              clear hv10112_0 ge10112_0
              have HX10112_0 := Aside0.mk hx10112_0
              clear hcc10112 hce10112
              have HR10112_0 := Aside0.mk hi10112_0
              have HC10112_0 := Aside0.mk hl10112_0
              clear hi10112_0 hl10112_0
              replace p10112 := eq_true p10112
              replace q10112 := eq_true q10112
              obtain ⟨go28, co28, eo28, gb28, gl28, cl28, HG28⟩ := Kd.S_form HO_6.out (by have h_ : ((ji21) : Int) < ((x6_1.length : Int) : Int) := of_decide_eq_true (by first | (with_reducible assumption) | assumption); have h2_ : 0 ≤ ((ji21) : Int) := (of_decide_eq_true (by first | (with_reducible assumption) | assumption)); omega)
              (first | cases eo28 | (injection eo28 with ea_ en_ ec_; (first | subst ea_ | (injection ea_ with ea_; subst ea_)); subst ec_; clear en_))
              have GB28 := Aside0.mk gb28
              have GG28 := Aside0.mk HG28
              clear gb28 gl28 HG28
              (first | simp only [add_plain] at hx10112_0 | skip)
              obtain ⟨oki28, ce28, hcl28, hM28, hcc28, _, _, hH28⟩ := Kd.S_elem HO_6.out [] ((ji21) : Int) (of_decide_eq_true (by first | (with_reducible assumption) | assumption)) (by have h_ : ((ji21) : Int) < ((x6_1.length : Int) : Int) := of_decide_eq_true (by first | (with_reducible assumption) | assumption); first | exact h_ | (have e_ := (Kd.S_reads' HO_6.out).1; omega) | simpa using h_)
              obtain ⟨ve28_0, rfl, ge28_0⟩ := hM28
              have hv28 := hcc28 0 _ rfl
              have hX28 := HX10112_0.out
              (try simp only [add_plain] at hX28)
              (try simp only [Nat.add_zero] at hv28)
              (try rw [show ((Kd.slice 3 (Kd.int .i64))).sz = 1 from rfl, Nat.mul_one] at hv28)
              replace hv28 := Option.some.inj (hv28.symm.trans hX28)
              subst hv28
              clear hX28 hcc28 hcl28
              have UU28 := Aside0.mk (show Kd.R (Kd.int .i64) 3 _ w.heap.size oki28 (.slice A10112_0 (rd_L1 x6_1 (ji21)).length c10112_0) (rd_L1 x6_1 (ji21)) from ge28_0)
              have HH28 := Aside0.mk hH28
              have HN28 := Aside0.mk (Kd.S_reads' HO_6.out).1
              clear hH28 ge28_0
              go_wp2_with (first | ((with_reducible refine gate_builtin (b := .append) (xs := #[.tmp 41, .tmp 43]) rfl ?_); at_builtin; refine Kd.R_append (Kd.int .i64) (w0 := w) w.heap.size rfl (.tmp 41) (.tmp 43) 25 3 (.int .i64 0) 8 rfl Try.underlying25 info3 rfl (by decide) (by omega) (.slice A10112_0 (rd_L1 x6_1 (ji21)).length c10112_0) (rd_L1 x6_1 (ji21)) x22_1 [.int .i64 x22_1] (fun k_ => oki28 k_ ∨ ((fun k_ => some k_ ≠ (.slice (some ad10110) t10107.length co14 : Value).ownBlock)) k_ ∧ wr.heap.size ≤ k_) (fun _ => False) rfl rfl ?aP (fun _ hk => hk.elim) ?aF ?aO ?aB ?aS ?aL ?_; (case aP => exact rfl); (case aB => exact (by repeat (first | (with_reducible first | exact HB.out | apply below_alloc | apply pw_below_drewN | apply below_drew1 | refine below_set ?_ GE10101.out) | exact HB.out))); (case aF => exact (fun k_ hk => .inr ⟨Kd.fresh' (Kd.R_lt (by (with_reducible repeat (first | apply Kd.R_alloc | apply Kd.R_drewN | apply Kd.R_drew)); exact HO_20.out)) k_ hk, hk⟩)); (case aO => exact (by (with_reducible repeat (first | apply Kd.R_alloc | apply Kd.R_drewN | apply Kd.R_drew)); exact Kd.R_mono UU28.out (fun _ hk => .inl hk))); (case aS => exact (below_size (by repeat (first | (with_reducible first | exact HB.out | apply below_alloc | apply pw_below_drewN | apply below_drew1 | refine below_set ?_ GE10101.out) | exact HB.out)))); (case aL => have := LMc24.out; omega); intro v10114 w29 ho hb hg hat; rw [← Ny10113.out] at ho; have n0_ := Aside0.mk (Kd.R_grown2 (by (with_reducible repeat (first | apply Kd.R_alloc | apply Kd.R_drewN | apply Kd.R_drew)); exact HO_20.out) rfl hg (fun k_ e_ => (HL10112_0.out.1 k_ e_).1)); have n1_ := Aside0.mk (blk_grown (g := gb10101) (o := .cells #[.int .i64 a0_0, .int .i64 a0_1, .slice (some ad10111) l0_2.length c0_2] 24 (0, 0)) (by (with_reducible repeat (first | refine blk_drewN ?_ _ | refine blk_drew ?_ | refine blk_alloc ?_ _)); exact BK10101.out) hg (Kd.R_ne HL10112_0.out BK10101.out (by decide))); have n2_ := Aside0.mk (hb); have n3_ := Aside0.mk (Kd.H_grown (Kd.H_widen (by repeat (first | exact HH28.out | refine Kd.H_alloc ?_ _ | refine Kd.H_drewN ?_ _ | refine Kd.H_drew ?_))) hg (fun k_ e_ => .inl (UU28.out.1 k_ e_))); have n4_ := Aside0.mk (ho); clear HO_20; clear BK10101; clear HB; clear HH28; clear HO_6; clear UU28; clear HL10112_0; have HO_20 := n0_; have BK10101 := n1_; have HB := n2_; have HH28 := n3_; have HO10115 := n4_; clear n0_ n1_ n2_ n3_ n4_; clear ho hb hg hat; have p25 : 0 ≤ ((ji21) : Int) := of_decide_eq_true (by first | (with_reducible assumption) | assumption); have q25 : ((ji21) : Int) < ((x6_1.length : Int) : Int) := of_decide_eq_true (by first | (with_reducible assumption) | assumption); replace p25 := eq_true p25; replace q25 := eq_true q25; obtain ⟨Ao32, co32, eo32⟩ := Kd.R_slice HO10115.out; subst eo32; obtain ⟨_, _, hraw30, _, _, hcc30, _⟩ := Kd.H_raw HH28.out (of_decide_eq_true (by first | (with_reducible assumption) | assumption)) (by have h_ : ((ji21) : Int) < ((x6_1.length : Int) : Int) := of_decide_eq_true (by first | (with_reducible assumption) | assumption); first | exact h_ | (have e_ := (HN28.out); omega) | simpa using h_); obtain ⟨_, hfr30⟩ := Kd.H_at HH28.out (of_decide_eq_true (by first | (with_reducible assumption) | assumption)) (by have h_ : ((ji21) : Int) < ((x6_1.length : Int) : Int) := of_decide_eq_true (by first | (with_reducible assumption) | assumption); first | exact h_ | (have e_ := (HN28.out); omega) | simpa using h_); have hx30_0 := hcc30 0 _ rfl; have hf30_0 := hfr30 0; (try simp only [Nat.add_zero] at hx30_0 hf30_0); (try rw [show ((Kd.slice 3 (Kd.int .i64))).sz = 1 from rfl, Nat.mul_one] at hx30_0); (try rw [show ((Kd.slice 3 (Kd.int .i64))).sz = 1 from rfl, Nat.mul_one] at hf30_0); have HP30 := Kd.S_seg0 HH28.out (of_decide_eq_true (by first | (with_reducible assumption) | assumption)) (by have h_ : ((ji21) : Int) < ((x6_1.length : Int) : Int) := of_decide_eq_true (by first | (with_reducible assumption) | assumption); first | exact h_ | (have e_ := (HN28.out); omega) | simpa using h_) (seg := [.slice Ao32 y10113.length co32]) (j := 0) (show 1 ≤ 1 from by decide) (x' := y10113) (Kd.M_row HO10115.out) (fun _ hk => hk); (try simp only [show ((Kd.slice 3 (Kd.int .i64))).sz = 1 from rfl, Nat.mul_one, Nat.add_zero] at HP30); clear hcc30 hfr30) | ((with_reducible refine gate_store (t := 25) (p := 45) rfl ?_); refine store_event (t := 25) (p := 45) (v := ?vo_w31) (w1 := (w29.setCell ⟨go28, ((ji21) : Int).toNat, none⟩ (.slice Ao32 y10113.length co32))) ?hg ?ho ?hn ?hr ?_; (case ho => rfl); (case hg => rfl); (case hn => rfl); (case hr => first | (go_simp; done) | (go_simp; rfl)); intro w31 hw; have hg : w29.grownBy w31 (some go28) := (by rw [hw]; exact HP30.2); have hp_ : Kd.S (Kd.slice 3 (Kd.int .i64)) 25 w31 w.heap.size (fun k_ => some k_ ≠ (.slice (some ad10110) t10107.length co14 : Value).ownBlock) (.slice (some ⟨go28, 0, none⟩) x6_1.length co27) y10116 := (by rw [hw, Ny10116.out]; exact HP30.1); clear HP30; have n0_ := Aside0.mk (Kd.R_over' (v := (.slice (some ⟨go28, 0, none⟩) x6_1.length co27)) (by (with_reducible repeat (first | apply Kd.R_alloc | apply Kd.R_drewN | apply Kd.R_drew)); exact HO_20.out) (Kd.R_typed hraw30) (by decide) hg); have n1_ := Aside0.mk (blk_grown (g := gb10101) (o := .cells #[.int .i64 a0_0, .int .i64 a0_1, .slice (some ad10111) l0_2.length c0_2] 24 (0, 0)) (by (with_reducible repeat (first | refine blk_drewN ?_ _ | refine blk_drew ?_ | refine blk_alloc ?_ _)); exact BK10101.out) hg (Kd.R_ne hraw30 BK10101.out (by decide))); have n2_ := Aside0.mk ((by rw [hw]; exact below_set HB.out GB28.out : Below w.heap.size w w31)); have n3_ := Aside0.mk (hp_); clear HO_20; clear BK10101; clear HB; clear HO10115; clear HH28; have HO_20 := n0_; have BK10101 := n1_; have HB := n2_; have HO_6 := n3_; clear n0_ n1_ n2_ n3_; clear hg hw hp_ hraw30))
              go_roundg k1
              case measure => have := HK1.out; omega
              case rel => exact ⟨(y10116), (wrap64 (x22_1 + 1)), (by first | rfl | (simp; done) | (simp [*]; done)), H', ⟨by have := HK1.out; omega⟩, ⟨by (with_reducible repeat (first | apply Kd.S_alloc | apply Kd.S_drewN | apply Kd.S_drew)); exact HO_6.out⟩, ⟨by (with_reducible repeat (first | apply Kd.R_alloc | apply Kd.R_drewN | apply Kd.R_drew)); exact HO_20.out⟩, ⟨by (with_reducible repeat (first | refine blk_drewN ?_ _ | refine blk_drew ?_ | refine blk_alloc ?_ _)); exact BK10101.out⟩, ⟨by repeat (first | (with_reducible first | exact HB.out | apply below_alloc | apply pw_below_drewN | apply below_drew1 | refine below_set ?_ GE10101.out) | exact HB.out)⟩⟩
             ·rw [if_neg c24] at H
              exact absurd H (by simp)
            ·rw [if_neg c23] at H
             exact absurd H (by simp)
           ·rw [if_neg c22] at H
            exact absurd H (by simp)
         ·rw [if_neg c18] at H
          exact absurd H (by simp)
        ·rw [if_neg c17] at H
         exact absurd H (by simp)
       ·rw [if_neg c16] at H
        exact absurd H (by simp)
      ·rw [if_neg c15] at H
       have c15b0 : decide (x22_1 < (t10107.length : Int)) = false := decide_eq_false c15
       clear c15
       simp only [Option.some.injEq, Prod.mk.injEq] at H
       obtain ⟨rfl, rfl⟩ := H
       go_wp2
       go_ret2
       exact ⟨_, by first | rfl | (simp [errW_none, errW_some] <;> rfl) | (simp [*, errW_none, errW_some] <;> rfl), by (with_reducible repeat (first | apply Kd.S_alloc | apply Kd.S_drewN | apply Kd.S_drew)); exact Kd.S_mono HO_6.out (fun _ hk => trivial), by repeat (first | (with_reducible first | exact HB.out | apply below_alloc | apply pw_below_drewN | apply below_drew1 | refine below_set ?_ GE10101.out) | exact HB.out)⟩
   ·rw [if_neg c5] at H
    exact absurd H (by simp)
  ·rw [if_neg c4] at H
   exact absurd H (by simp)
 ·rw [if_neg c3] at H
  have c3b0 : (t10103 == 0) = false := beq_eq_false_iff_ne.mpr c3
  have c3b1 : (t10103 != 0) = true := bne_iff_ne.mpr c3
  simp only [Option.some.injEq, Prod.mk.injEq] at H
  obtain ⟨rfl, rfl⟩ := H
  go_enter Try.func20, Try.ntmps20
  go_wp2_with (first | ((with_reducible refine gate_dst (N := 1) rfl ?_); refine box_event ?hg (N := 1) ?hd (cs := #[.int .i64 a0_0, .int .i64 a0_1, .slice A0_2 l0_2.length c0_2]) (t := 24) ?hr ?_; (case hd => rfl); (case hg => rfl); (case hr => first | (go_simp; done) | (go_simp; rfl)); intro gb10101 hg w33 hbox hb; have n0_ := Aside0.mk (below_step (by repeat (first | (with_reducible first | exact HB.out | apply below_alloc | apply pw_below_drewN | apply below_drew1) | exact HB.out)) hb); have n1_ := Aside0.mk (hbox); have n2_ := Aside0.mk ((by rw [hg]; exact (below_size (by repeat (first | (with_reducible first | exact HB.out | apply below_alloc | apply pw_below_drewN | apply below_drew1) | exact HB.out))) : w.heap.size ≤ gb10101)); have n3_ := Aside0.mk ((by rw [hg]; exact (below_size (by repeat (first | (with_reducible first | exact HB.out | apply below_alloc | apply pw_below_drewN | apply below_drew1) | exact HB.out))) : w.heap.size ≤ gb10101)); clear HB; have HB := n0_; have BK10101 := n1_; have GW10101 := n2_; have GE10101 := n3_; clear n0_ n1_ n2_ n3_; clear hb hbox hg; have hcz34_0 : w33.cell? ⟨gb10101, 0, none⟩ = some (.int .i64 a0_0) := (blk_cell BK10101.out 0).trans rfl; have hcz34_1 : w33.cell? ⟨gb10101, 1, none⟩ = some (.int .i64 a0_1) := (blk_cell BK10101.out 1).trans rfl; have hcz34_2 : w33.cell? ⟨gb10101, 2, none⟩ = some (.slice A0_2 l0_2.length c0_2) := (blk_cell BK10101.out 2).trans rfl; have hfz34_0 := blk_frozen BK10101.out 0; have hfz34_1 := blk_frozen BK10101.out 1; have hfz34_2 := blk_frozen BK10101.out 2) | ((with_reducible refine gate_callee (f := 15) rfl ?_); refine goesL_ (some 11) rfl rfl Try.func15 (by kernel_rfl) rfl #[.agg #[.int .i64 a0_0, .int .i64 a0_1, .slice A0_2 l0_2.length c0_2]] rfl (by (try simp only [List.map_toArray, List.map_cons, List.map_nil]); first | done | rfl | (simp only [List.length_drop, List.length_take]; rfl)) ?_; (with_reducible refine (layers_Depth.calls k a0_0 a0_1 _ _ l0_2 t10102 t10103 _ ?side1 ?side2 A2.out).mono ?_); (case side1 => repeat (first | exact (Kd.C_below HR0_2.out HB.out) | (with_reducible refine Kd.C_alloc ?_ _) | (with_reducible refine Kd.C_drewN ?_ _) | (with_reducible refine Kd.C_drew ?_))); (case side2 => exact HC0_2.out); rintro e w35 ⟨rfl, hb⟩; refine ⟨_, rfl, ?_⟩; have n0_ := Aside0.mk (blk_below (g := gb10101) (o := .cells #[.int .i64 a0_0, .int .i64 a0_1, .slice A0_2 l0_2.length c0_2] 24 (0, 0)) (by (with_reducible repeat (first | refine blk_drewN ?_ _ | refine blk_drew ?_ | refine blk_alloc ?_ _)); exact BK10101.out) hb); have n1_ := Aside0.mk (below_step (by repeat (first | (with_reducible first | exact HB.out | apply below_alloc | apply pw_below_drewN | apply below_drew1 | refine below_set ?_ GE10101.out) | exact HB.out)) hb); clear BK10101; clear HB; have BK10101 := n0_; have HB := n1_; clear n0_ n1_; (try clear hb); (try clear hb2); (try clear hk); (try clear hi)))
  go_ret2
  exact ⟨_, by first | rfl | (simp [errW_none, errW_some] <;> rfl) | (simp [*, errW_none, errW_some] <;> rfl), by first | exact Kd.S_nil _ _ _ _ _ | exact Kd.N_nil _ _ _ _ _ | exact Kd.V_nil _ _ _ _ _ | exact Kd.Q_nil _ _ _ _ _ | exact Kd.R_nil _ _ _ _ _, by repeat (first | (with_reducible first | exact HB.out | apply below_alloc | apply pw_below_drewN | apply below_drew1 | refine below_set ?_ GE10101.out) | exact HB.out)⟩
end Go.Proofs.Ytpnfhddcnnoclaa.Px
