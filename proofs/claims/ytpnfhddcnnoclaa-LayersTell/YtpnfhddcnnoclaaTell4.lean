import Derived.Test.YtpnfhddcnnoclaaTell3
namespace Go.Proofs.Ytpnfhddcnnoclaa.Px
open Go.RowKit Go.Proofs.YtpnfhddcnnoclaaW.PrintWords Go.Proofs.YtpnfhddcnnoclaaW.PrintLast Go.Proofs.YtpnfhddcnnoclaaW.PrintMore
attribute [local go_sem] max2_int min2_int max_two min_two max_three min_three max_four min_four
set_option linter.unusedVariables false
set_option linter.unusedSimpArgs false
def phasorref08_May.f (k : Nat) (a0_0 : Int) (a0_1 : Int) (l0_2 : List (S57)) : Option (Bool) := (phasorref08_Check.f k a0_0 a0_1 l0_2).bind fun bt14102 => (some (bt14102.2 == 0))
set_option maxHeartbeats 8000000 in
set_option maxRecDepth 100000 in
theorem phasorref08_May.calls (k : Nat) (a0_0 : Int) (a0_1 : Int) (A0_2 : Option Addr) (c0_2 : Nat) (l0_2 : List (S57)) (r : Bool) (w : World) (hr0_2 : Kd.C k57 w A0_2 l0_2.length l0_2) (hc0_2 : l0_2.length ≤ c0_2) (h : phasorref08_May.f k a0_0 a0_1 l0_2 = some r) :
  Calls Try.prog 28 #[.agg #[.int .i64 a0_0, .int .i64 a0_1, .slice A0_2 l0_2.length c0_2]] w fun e w' => e = .returned (.bool r) ∧ Below w.heap.size w w' := by
 have hu24 := Try.underlying24
 have HR0_2 := Aside0.mk hr0_2
 have HC0_2 := Aside0.mk hc0_2
 clear hr0_2 hc0_2
 have HB := Aside0.mk (Below.refl w.heap.size w)
 have H : ((phasorref08_Check.f k a0_0 a0_1 l0_2).bind fun bt14102 => (some (bt14102.2 == 0))) = some r := h
 clear h
 replace H := Option.bind_eq_some_iff.mp H
 obtain ⟨⟨t14102, t14103⟩, A20, H⟩ := H
 replace H : (some (t14103 == 0)) = some r := H
 have A2 := Aside0.mk A20
 clear A20
 obtain rfl := Option.some.inj H
 go_enter Try.func28, Try.ntmps28
 go_wp2_with (first | ((with_reducible refine gate_dst (N := 1) rfl ?_); refine box_event ?hg (N := 1) ?hd (cs := #[.int .i64 a0_0, .int .i64 a0_1, .slice A0_2 l0_2.length c0_2]) (t := 24) ?hr ?_; (case hd => rfl); (case hg => rfl); (case hr => first | (go_simp; done) | (go_simp; rfl)); intro gb14101 hg w3 hbox hb; have n0_ := Aside0.mk (below_step (by repeat (first | (with_reducible first | exact HB.out | apply below_alloc | apply pw_below_drewN | apply below_drew1) | exact HB.out)) hb); have n1_ := Aside0.mk (hbox); have n2_ := Aside0.mk ((by rw [hg]; exact (below_size (by repeat (first | (with_reducible first | exact HB.out | apply below_alloc | apply pw_below_drewN | apply below_drew1) | exact HB.out))) : w.heap.size ≤ gb14101)); have n3_ := Aside0.mk ((by rw [hg]; exact (below_size (by repeat (first | (with_reducible first | exact HB.out | apply below_alloc | apply pw_below_drewN | apply below_drew1) | exact HB.out))) : w.heap.size ≤ gb14101)); clear HB; have HB := n0_; have BK14101 := n1_; have GW14101 := n2_; have GE14101 := n3_; clear n0_ n1_ n2_ n3_; clear hb hbox hg; have hcz4_0 : w3.cell? ⟨gb14101, 0, none⟩ = some (.int .i64 a0_0) := (blk_cell BK14101.out 0).trans rfl; have hcz4_1 : w3.cell? ⟨gb14101, 1, none⟩ = some (.int .i64 a0_1) := (blk_cell BK14101.out 1).trans rfl; have hcz4_2 : w3.cell? ⟨gb14101, 2, none⟩ = some (.slice A0_2 l0_2.length c0_2) := (blk_cell BK14101.out 2).trans rfl; have hfz4_0 := blk_frozen BK14101.out 0; have hfz4_1 := blk_frozen BK14101.out 1; have hfz4_2 := blk_frozen BK14101.out 2) | ((with_reducible refine gate_callee (f := 43) rfl ?_); refine goesL_ (some 7) rfl rfl Try.func43 (by kernel_rfl) rfl #[.agg #[.int .i64 a0_0, .int .i64 a0_1, .slice A0_2 l0_2.length c0_2]] rfl (by (try simp only [List.map_toArray, List.map_cons, List.map_nil]); first | done | rfl | (simp only [List.length_drop, List.length_take]; rfl)) ?_; (with_reducible refine (phasorref08_Check.calls k a0_0 a0_1 _ _ l0_2 t14102 t14103 _ ?side1 ?side2 A2.out).mono ?_); (case side1 => repeat (first | exact (Kd.C_below HR0_2.out HB.out) | (with_reducible refine Kd.C_alloc ?_ _) | (with_reducible refine Kd.C_drewN ?_ _) | (with_reducible refine Kd.C_drew ?_))); (case side2 => exact HC0_2.out); rintro e w5 ⟨rfl, hb⟩; refine ⟨_, rfl, ?_⟩; have n0_ := Aside0.mk (blk_below (g := gb14101) (o := .cells #[.int .i64 a0_0, .int .i64 a0_1, .slice A0_2 l0_2.length c0_2] 24 (0, 0)) (by (with_reducible repeat (first | refine blk_drewN ?_ _ | refine blk_drew ?_ | refine blk_alloc ?_ _)); exact BK14101.out) hb); have n1_ := Aside0.mk (below_step (by repeat (first | (with_reducible first | exact HB.out | apply below_alloc | apply pw_below_drewN | apply below_drew1 | refine below_set ?_ GE14101.out) | exact HB.out)) hb); clear BK14101; clear HB; have BK14101 := n0_; have HB := n1_; clear n0_ n1_; (try clear hb); (try clear hb2); (try clear hk); (try clear hi)))
 go_ret
 exact ⟨by first | rfl | (simp [errW_none, errW_some] <;> rfl) | (simp [*, errW_none, errW_some] <;> rfl), by repeat (first | (with_reducible first | exact HB.out | apply below_alloc | apply pw_below_drewN | apply below_drew1 | refine below_set ?_ GE14101.out) | exact HB.out)⟩
mutual
def phasorref19_meet.l0 : Nat → List Int → List Int → Int → Option (Bool)
 | 0, _, _, _ => none
 | k + 1, x0, x1, x5 => if x5 < (x0.length : Int) then (phasorref19_meet.l1 k x0 x1 x5 0) else (some false)
def phasorref19_meet.l1 : Nat → List Int → List Int → Int → Int → Option (Bool)
 | 0, _, _, _, _ => none
 | k + 1, x0, x1, x5, x6 => if x6 < (x1.length : Int) then (if 0 ≤ x5 then (if x5 < (x0.length : Int) then (if 0 ≤ x6 then (if (rd x0 x5) = (rd x1 x6) then (some true) else (phasorref19_meet.l1 k x0 x1 x5 (wrap64 (x6 + 1)))) else (none)) else (none)) else (none)) else (phasorref19_meet.l0 k x0 x1 (wrap64 (x5 + 1)))
end
def phasorref19_meet.f (k : Nat) (l0 : List Int) (l1 : List Int) : Option (Bool) := phasorref19_meet.l0 k l0 l1 0
set_option maxHeartbeats 8000000 in
set_option maxRecDepth 100000 in
theorem phasorref19_meet.calls (k : Nat) (A0 : Option Addr) (c0 : Nat) (l0 : List Int) (A1 : Option Addr) (c1 : Nat) (l1 : List Int) (r : Bool) (w : World) (hr0 : Kd.C (Kd.int .i64) w A0 l0.length l0) (hc0 : l0.length ≤ c0) (hr1 : Kd.C (Kd.int .i64) w A1 l1.length l1) (hc1 : l1.length ≤ c1) (h : phasorref19_meet.f k l0 l1 = some r) :
  Calls Try.prog 44 #[.slice A0 l0.length c0, .slice A1 l1.length c1] w fun e w' => e = .returned (.bool r) ∧ Drawn0 w w' := by
 have HR0 := Aside0.mk hr0
 have HC0 := Aside0.mk hc0
 clear hr0 hc0
 have HR1 := Aside0.mk hr1
 have HC1 := Aside0.mk hc1
 clear hr1 hc1
 have H : (phasorref19_meet.l0 k l0 l1 0) = some r := h
 clear h
 have H' := Aside0.mk H
 clear H
 go_enter Try.func44, Try.ntmps44
 go_wp2
 repeat (go_quiet (fail); try go_wp2)
 go_loopg [5] k (fun kq v5 w' => ∃ (x5_1 : Int), v5 = .int .i64 x5_1 ∧ Aside0 (phasorref19_meet.l0 kq l0 l1 x5_1 = some r) ∧ Aside0 (kq ≤ k) ∧ Drawn0 w w')
 case atStart => exact ⟨(0), (by first | rfl | (simp; done) | (simp [*]; done)), H', ⟨Nat.le_refl _⟩, by repeat (first | exact Drawn0.refl _ | apply Drawn0.step)⟩
 case round =>
  clear H'
  try clear c1
  try clear p2
  obtain ⟨x5_1, rfl, HA, HK1, ⟨m1, rfl⟩⟩ := hrel
  cases gk with
  | zero => exact absurd HA.out (by simp [phasorref19_meet.l0])
  | succ k1 =>
   have H := HA.out
   clear HA
   simp only [phasorref19_meet.l0] at H
   by_cases c3 : x5_1 < (l0.length : Int)
   ·rw [if_pos c3] at H
    have c3b0 : decide (x5_1 < (l0.length : Int)) = true := decide_eq_true c3
    clear c3
    have H' := Aside0.mk H
    clear H
    go_wp2
    repeat (go_quiet (fail); try go_wp2)
    go_loopg [6] k1 (fun kq v6 w' => ∃ (x6_2 : Int), v6 = .int .i64 x6_2 ∧ Aside0 (phasorref19_meet.l1 kq l0 l1 x5_1 x6_2 = some r) ∧ Aside0 (kq ≤ k1) ∧ Drawn0 w w')
    case atStart => exact ⟨(0), (by first | rfl | (simp; done) | (simp [*]; done)), H', ⟨Nat.le_refl _⟩, by repeat (first | exact Drawn0.refl _ | apply Drawn0.step)⟩
    case round =>
     clear H'
     try clear c1
     try clear p2
     try clear c3
     try clear c3b0
     try clear p2
     obtain ⟨x6_2, rfl, HA, HK2, ⟨m2, rfl⟩⟩ := hrel
     cases gk with
     | zero => exact absurd HA.out (by simp [phasorref19_meet.l1])
     | succ k2 =>
      have H := HA.out
      clear HA
      simp only [phasorref19_meet.l1] at H
      by_cases c4 : x6_2 < (l1.length : Int)
      ·rw [if_pos c4] at H
       have c4b0 : decide (x6_2 < (l1.length : Int)) = true := decide_eq_true c4
       clear c4
       by_cases c5 : 0 ≤ x5_1
       ·rw [if_pos c5] at H
        have c5b0 : decide (0 ≤ x5_1) = true := decide_eq_true c5
        clear c5
        by_cases c6 : x5_1 < (l0.length : Int)
        ·rw [if_pos c6] at H
         have c6b0 : decide (x5_1 < (l0.length : Int)) = true := decide_eq_true c6
         clear c6
         by_cases c7 : 0 ≤ x6_2
         ·rw [if_pos c7] at H
          have c7b0 : decide (0 ≤ x6_2) = true := decide_eq_true c7
          clear c7
          by_cases c8 : (rd l0 x5_1) = (rd l1 x6_2)
          ·rw [if_pos c8] at H
           have c8b0 : ((rd l0 x5_1) == (rd l1 x6_2)) = true := beq_iff_eq.mpr c8
           have c8b1 : ((rd l0 x5_1) != (rd l1 x6_2)) = false := bne_eq_false_iff_eq.mpr c8
           clear c8
           obtain rfl := Option.some.inj H
           have p22101 : 0 ≤ (x5_1 : Int) := of_decide_eq_true (by first | (with_reducible assumption) | assumption)
           have q22101 : x5_1 < (l0.length : Int) := of_decide_eq_true (by first | (with_reducible assumption) | assumption)
           obtain ⟨ad22101, e22101, hx22101_0⟩ := Kd.at_int HR0.out x5_1 p22101 q22101
           cases e22101
           replace p22101 := eq_true p22101
           replace q22101 := eq_true q22101
           have p22102 : 0 ≤ (x6_2 : Int) := of_decide_eq_true (by first | (with_reducible assumption) | assumption)
           have q22102 : x6_2 < (l1.length : Int) := of_decide_eq_true (by first | (with_reducible assumption) | assumption)
           obtain ⟨ad22102, e22102, hx22102_0⟩ := Kd.at_int HR1.out x6_2 p22102 q22102
           cases e22102
           replace p22102 := eq_true p22102
           replace q22102 := eq_true q22102
           go_wp2
           repeat (go_quiet (fail); try go_wp2)
           go_ret
           exact ⟨by first | rfl | (simp; done) | (simp [*]; done), by repeat (first | exact Drawn0.refl _ | apply Drawn0.step)⟩
          ·rw [if_neg c8] at H
           have c8b0 : ((rd l0 x5_1) == (rd l1 x6_2)) = false := beq_eq_false_iff_ne.mpr c8
           have c8b1 : ((rd l0 x5_1) != (rd l1 x6_2)) = true := bne_iff_ne.mpr c8
           have H' := Aside0.mk H
           clear H
           have p22101 : 0 ≤ (x5_1 : Int) := of_decide_eq_true (by first | (with_reducible assumption) | assumption)
           have q22101 : x5_1 < (l0.length : Int) := of_decide_eq_true (by first | (with_reducible assumption) | assumption)
           obtain ⟨ad22101, e22101, hx22101_0⟩ := Kd.at_int HR0.out x5_1 p22101 q22101
           cases e22101
           replace p22101 := eq_true p22101
           replace q22101 := eq_true q22101
           have p22102 : 0 ≤ (x6_2 : Int) := of_decide_eq_true (by first | (with_reducible assumption) | assumption)
           have q22102 : x6_2 < (l1.length : Int) := of_decide_eq_true (by first | (with_reducible assumption) | assumption)
           obtain ⟨ad22102, e22102, hx22102_0⟩ := Kd.at_int HR1.out x6_2 p22102 q22102
           cases e22102
           replace p22102 := eq_true p22102
           replace q22102 := eq_true q22102
           go_wp2
           repeat (go_quiet (fail); try go_wp2)
           go_roundg k2
           case measure => have := HK1.out; have := HK2.out; omega
           case rel => exact ⟨(wrap64 (x6_2 + 1)), (by first | rfl | (simp; done) | (simp [*]; done)), H', ⟨by have := HK1.out; have := HK2.out; omega⟩, by repeat (first | exact Drawn0.refl _ | apply Drawn0.step)⟩
         ·rw [if_neg c7] at H
          exact absurd H (by simp)
        ·rw [if_neg c6] at H
         exact absurd H (by simp)
       ·rw [if_neg c5] at H
        exact absurd H (by simp)
      ·rw [if_neg c4] at H
       have c4b0 : decide (x6_2 < (l1.length : Int)) = false := decide_eq_false c4
       clear c4
       have H' := Aside0.mk H
       clear H
       go_wp2
       repeat (go_quiet (fail); try go_wp2)
       go_roundg k2
       case measure => have := HK1.out; have := HK2.out; omega
       case rel => exact ⟨(wrap64 (x5_1 + 1)), (by first | rfl | (simp; done) | (simp [*]; done)), H', ⟨by have := HK1.out; have := HK2.out; omega⟩, by repeat (first | exact Drawn0.refl _ | apply Drawn0.step)⟩
   ·rw [if_neg c3] at H
    have c3b0 : decide (x5_1 < (l0.length : Int)) = false := decide_eq_false c3
    clear c3
    obtain rfl := Option.some.inj H
    go_wp2
    repeat (go_quiet (fail); try go_wp2)
    go_ret
    exact ⟨by first | rfl | (simp; done) | (simp [*]; done), by repeat (first | exact Drawn0.refl _ | apply Drawn0.step)⟩
def phasorref19_wires.f (a0_0 : Int) (a0_1 : Int) (l0_2 : List Int) (a0_3 : Int) (a0_4 : Int) (a0_5 : Int) : Option (List Int) := (some (([] : List Int) : List Int)).bind fun y22602 => (if y22602.length + l0_2.length < 17592186044416 then ((some (y22602 ++ l0_2 : List Int)).bind fun y22605 => (if a0_0 = 2 then (if y22605.length < 17592186044416 then ((some (y22605 ++ [wrap64 (100 + a0_3)] : List Int)).bind fun y22608 => (if a0_4 ≥ 0 then (if y22608.length < 17592186044416 then (some (y22608 ++ [wrap64 (100 + a0_4)])) else (none)) else (some y22608))) else (none)) else (if a0_4 ≥ 0 then (if y22605.length < 17592186044416 then (some (y22605 ++ [wrap64 (100 + a0_4)])) else (none)) else (some y22605)))) else (none))
set_option maxHeartbeats 8000000 in
set_option maxRecDepth 100000 in
theorem phasorref19_wires.calls (a0_0 : Int) (a0_1 : Int) (A0_2 : Option Addr) (c0_2 : Nat) (l0_2 : List Int) (a0_3 : Int) (a0_4 : Int) (a0_5 : Int) (r : List Int) (w : World) (hr0_2 : Kd.C (Kd.int .i64) w A0_2 l0_2.length l0_2) (hc0_2 : l0_2.length ≤ c0_2) (h : phasorref19_wires.f a0_0 a0_1 l0_2 a0_3 a0_4 a0_5 = some r) :
  Calls Try.prog 45 #[.agg #[.int .i64 a0_0, .int .i64 a0_1, .slice A0_2 l0_2.length c0_2, .int .i64 a0_3, .int .i64 a0_4, .int .i64 a0_5]] w fun e w' => ∃ v0_ : Value, e = .returned (v0_) ∧ Kd.R (Kd.int .i64) 3 w' w.heap.size (fun _ => True) v0_ r ∧ Below w.heap.size w w' := by
 have hu57 := Try.underlying57
 have HR0_2 := Aside0.mk hr0_2
 have HC0_2 := Aside0.mk hc0_2
 clear hr0_2 hc0_2
 have HB := Aside0.mk (Below.refl w.heap.size w)
 have H : ((some (([] : List Int) : List Int)).bind fun y22602 => (if y22602.length + l0_2.length < 17592186044416 then ((some (y22602 ++ l0_2 : List Int)).bind fun y22605 => (if a0_0 = 2 then (if y22605.length < 17592186044416 then ((some (y22605 ++ [wrap64 (100 + a0_3)] : List Int)).bind fun y22608 => (if a0_4 ≥ 0 then (if y22608.length < 17592186044416 then (some (y22608 ++ [wrap64 (100 + a0_4)])) else (none)) else (some y22608))) else (none)) else (if a0_4 ≥ 0 then (if y22605.length < 17592186044416 then (some (y22605 ++ [wrap64 (100 + a0_4)])) else (none)) else (some y22605)))) else (none))) = some r := h
 clear h
 obtain ⟨y22602, hy22602⟩ : ∃ y_ : List Int, y_ = (([] : List Int)) := ⟨_, rfl⟩
 replace H : (if y22602.length + l0_2.length < 17592186044416 then ((some (y22602 ++ l0_2 : List Int)).bind fun y22605 => (if a0_0 = 2 then (if y22605.length < 17592186044416 then ((some (y22605 ++ [wrap64 (100 + a0_3)] : List Int)).bind fun y22608 => (if a0_4 ≥ 0 then (if y22608.length < 17592186044416 then (some (y22608 ++ [wrap64 (100 + a0_4)])) else (none)) else (some y22608))) else (none)) else (if a0_4 ≥ 0 then (if y22605.length < 17592186044416 then (some (y22605 ++ [wrap64 (100 + a0_4)])) else (none)) else (some y22605)))) else (none)) = some r := by first | (rw [hy22602]; with_reducible exact H) | (have H2_ := (Option.bind_some _ _).symm.trans H; rw [hy22602]; with_reducible exact H2_) | (have H2_ := (Option.bind_some _ _).symm.trans H; with_reducible exact H2_) | with_reducible exact H | (rw [hy22602]; exact H) | exact H
 have Ny22602 := Aside0.mk hy22602
 clear hy22602
 by_cases c2 : y22602.length + l0_2.length < 17592186044416
 ·rw [if_pos c2] at H
  have LMc2 := Aside0.mk c2
  clear c2
  obtain ⟨y22605, hy22605⟩ : ∃ y_ : List Int, y_ = (y22602 ++ l0_2) := ⟨_, rfl⟩
  replace H : (if a0_0 = 2 then (if y22605.length < 17592186044416 then ((some (y22605 ++ [wrap64 (100 + a0_3)] : List Int)).bind fun y22608 => (if a0_4 ≥ 0 then (if y22608.length < 17592186044416 then (some (y22608 ++ [wrap64 (100 + a0_4)])) else (none)) else (some y22608))) else (none)) else (if a0_4 ≥ 0 then (if y22605.length < 17592186044416 then (some (y22605 ++ [wrap64 (100 + a0_4)])) else (none)) else (some y22605))) = some r := by first | (rw [hy22605]; with_reducible exact H) | (have H2_ := (Option.bind_some _ _).symm.trans H; rw [hy22605]; with_reducible exact H2_) | (have H2_ := (Option.bind_some _ _).symm.trans H; with_reducible exact H2_) | with_reducible exact H | (rw [hy22605]; exact H) | exact H
  have Ny22605 := Aside0.mk hy22605
  clear hy22605
  by_cases c3 : a0_0 = 2
  ·rw [if_pos c3] at H
   have c3b0 : (a0_0 == 2) = true := beq_iff_eq.mpr c3
   have c3b1 : (a0_0 != 2) = false := bne_eq_false_iff_eq.mpr c3
   clear c3
   by_cases c4 : y22605.length < 17592186044416
   ·rw [if_pos c4] at H
    have LMc4 := Aside0.mk c4
    clear c4
    obtain ⟨y22608, hy22608⟩ : ∃ y_ : List Int, y_ = (y22605 ++ [wrap64 (100 + a0_3)]) := ⟨_, rfl⟩
    replace H : (if a0_4 ≥ 0 then (if y22608.length < 17592186044416 then (some (y22608 ++ [wrap64 (100 + a0_4)])) else (none)) else (some y22608)) = some r := by first | (rw [hy22608]; with_reducible exact H) | (have H2_ := (Option.bind_some _ _).symm.trans H; rw [hy22608]; with_reducible exact H2_) | (have H2_ := (Option.bind_some _ _).symm.trans H; with_reducible exact H2_) | with_reducible exact H | (rw [hy22608]; exact H) | exact H
    have Ny22608 := Aside0.mk hy22608
    clear hy22608
    by_cases c5 : a0_4 ≥ 0
    ·rw [if_pos c5] at H
     have c5b0 : decide (0 ≤ a0_4) = true := decide_eq_true c5
     clear c5
     by_cases c6 : y22608.length < 17592186044416
     ·rw [if_pos c6] at H
      have LMc6 := Aside0.mk c6
      clear c6
      obtain ⟨y22611, hy22611⟩ : ∃ y_ : List Int, y_ = (y22608 ++ [wrap64 (100 + a0_4)]) := ⟨_, rfl⟩
      replace H : (some y22611) = some r := by first | (rw [hy22611]; with_reducible exact H) | (have H2_ := (Option.bind_some _ _).symm.trans H; rw [hy22611]; with_reducible exact H2_) | (have H2_ := (Option.bind_some _ _).symm.trans H; with_reducible exact H2_) | with_reducible exact H | (rw [hy22611]; exact H) | exact H
      have Ny22611 := Aside0.mk hy22611
      clear hy22611
      obtain rfl := Option.some.inj H
      go_enter Try.func45, Try.ntmps45
      go_wp2_with (first | ((with_reducible refine gate_dst (N := 1) rfl ?_); refine box_event ?hg (N := 1) ?hd (cs := #[.int .i64 a0_0, .int .i64 a0_1, .slice A0_2 l0_2.length c0_2, .int .i64 a0_3, .int .i64 a0_4, .int .i64 a0_5]) (t := 57) ?hr ?_; (case hd => rfl); (case hg => rfl); (case hr => first | (go_simp; done) | (go_simp; rfl)); intro gb22601 hg w7 hbox hb; have n0_ := Aside0.mk (below_step (by repeat (first | (with_reducible first | exact HB.out | apply below_alloc | apply pw_below_drewN | apply below_drew1) | exact HB.out)) hb); have n1_ := Aside0.mk (hbox); have n2_ := Aside0.mk ((by rw [hg]; exact (below_size (by repeat (first | (with_reducible first | exact HB.out | apply below_alloc | apply pw_below_drewN | apply below_drew1) | exact HB.out))) : w.heap.size ≤ gb22601)); have n3_ := Aside0.mk ((by rw [hg]; exact (below_size (by repeat (first | (with_reducible first | exact HB.out | apply below_alloc | apply pw_below_drewN | apply below_drew1) | exact HB.out))) : w.heap.size ≤ gb22601)); clear HB; have HB := n0_; have BK22601 := n1_; have GW22601 := n2_; have GE22601 := n3_; clear n0_ n1_ n2_ n3_; clear hb hbox hg) | ((with_reducible refine gate_dst (N := 4) rfl ?_); refine Kd.R_lit (Kd.int .i64) _ 3 ?hg (N := 4) ?hd (xs := ([] : List Int)) (inner := []) (ok := fun _ => True) (okp := fun _ => True) ?hr ?hp (fun _ hk => hk) trivial (Below.refl _ _) (Nat.le_refl _) (by simp) ?_; (case hd => rfl); (case hg => rfl); (case hr => first | (go_simp; done) | (go_simp; rfl)); (case hp => exact (Reps.none _ _)); intro v22603 w8 ho9 hb hg_ hnew_; clear hg_ hnew_; (first | rw [← Ny22602.out] at ho9 | (simp only [Int.reduceToNat] at ho9; rw [← Ny22602.out] at ho9)); have n0_ := Aside0.mk (Kd.R_lower ho9 (below_size (by repeat (first | (with_reducible first | exact HB.out | apply below_alloc | apply pw_below_drewN | apply below_drew1 | refine below_set ?_ GE22601.out) | exact HB.out)))); have n1_ := Aside0.mk (blk_below (g := gb22601) (o := .cells #[.int .i64 a0_0, .int .i64 a0_1, .slice A0_2 l0_2.length c0_2, .int .i64 a0_3, .int .i64 a0_4, .int .i64 a0_5] 57 (0, 0)) (by (with_reducible repeat (first | refine blk_drewN ?_ _ | refine blk_drew ?_ | refine blk_alloc ?_ _)); exact BK22601.out) hb); have n2_ := Aside0.mk (below_step (by repeat (first | (with_reducible first | exact HB.out | apply below_alloc | apply pw_below_drewN | apply below_drew1 | refine below_set ?_ GE22601.out) | exact HB.out)) hb); clear BK22601; clear HB; have HO22604 := n0_; have BK22601 := n1_; have HB := n2_; clear n0_ n1_ n2_; clear hb ho9; have hcz10_0 : w8.cell? ⟨gb22601, 0, none⟩ = some (.int .i64 a0_0) := (blk_cell BK22601.out 0).trans rfl; have hcz10_1 : w8.cell? ⟨gb22601, 1, none⟩ = some (.int .i64 a0_1) := (blk_cell BK22601.out 1).trans rfl; have hcz10_2 : w8.cell? ⟨gb22601, 2, none⟩ = some (.slice A0_2 l0_2.length c0_2) := (blk_cell BK22601.out 2).trans rfl; have hcz10_3 : w8.cell? ⟨gb22601, 3, none⟩ = some (.int .i64 a0_3) := (blk_cell BK22601.out 3).trans rfl; have hcz10_4 : w8.cell? ⟨gb22601, 4, none⟩ = some (.int .i64 a0_4) := (blk_cell BK22601.out 4).trans rfl; have hcz10_5 : w8.cell? ⟨gb22601, 5, none⟩ = some (.int .i64 a0_5) := (blk_cell BK22601.out 5).trans rfl; have hfz10_0 := blk_frozen BK22601.out 0; have hfz10_1 := blk_frozen BK22601.out 1; have hfz10_2 := blk_frozen BK22601.out 2; have hfz10_3 := blk_frozen BK22601.out 3; have hfz10_4 := blk_frozen BK22601.out 4; have hfz10_5 := blk_frozen BK22601.out 5) | ((with_reducible refine gate_builtin (b := .append) (xs := #[.tmp 4, .tmp 6]) rfl ?_); at_builtin; refine Kd.R_append_rows (Kd.int .i64) (w0 := w) w.heap.size rfl (.tmp 4) (.tmp 6) 25 3 (.int .i64 0) 8 rfl Try.underlying25 info3 rfl (by decide) (by omega) v22603 y22602 l0_2 _ _ _ (fun _ => True) (fun _ => False) rfl rfl ?aO ?aR (fun _ _ h => h) (fun _ h => h.elim) ?aF ?aB ?aS ?aL ?_; (case aR => repeat (first | exact (Kd.C_below HR0_2.out HB.out) | (with_reducible refine Kd.C_alloc ?_ _) | (with_reducible refine Kd.C_drewN ?_ _) | (with_reducible refine Kd.C_drew ?_))); (case aB => exact (by repeat (first | (with_reducible first | exact HB.out | apply below_alloc | apply pw_below_drewN | apply below_drew1 | refine below_set ?_ GE22601.out) | exact HB.out))); (case aF => exact (fun _ _ => trivial)); (case aO => exact (by (with_reducible repeat (first | apply Kd.R_alloc | apply Kd.R_drewN | apply Kd.R_drew)); exact HO22604.out)); (case aS => exact (below_size (by repeat (first | (with_reducible first | exact HB.out | apply below_alloc | apply pw_below_drewN | apply below_drew1 | refine below_set ?_ GE22601.out) | exact HB.out)))); (case aL => have := LMc2.out; omega); intro v22606 w11 ho hb hg hat; rw [← Ny22605.out] at ho; have n0_ := Aside0.mk (blk_grown (g := gb22601) (o := .cells #[.int .i64 a0_0, .int .i64 a0_1, .slice A0_2 l0_2.length c0_2, .int .i64 a0_3, .int .i64 a0_4, .int .i64 a0_5] 57 (0, 0)) (by (with_reducible repeat (first | refine blk_drewN ?_ _ | refine blk_drew ?_ | refine blk_alloc ?_ _)); exact BK22601.out) hg (Kd.R_ne HO22604.out BK22601.out (by decide))); have n1_ := Aside0.mk (hb); have n2_ := Aside0.mk (ho); clear BK22601; clear HB; clear HO22604; have BK22601 := n0_; have HB := n1_; have HO22607 := n2_; clear n0_ n1_ n2_; clear ho hb hg hat; have hcz12_0 : w11.cell? ⟨gb22601, 0, none⟩ = some (.int .i64 a0_0) := (blk_cell BK22601.out 0).trans rfl; have hcz12_1 : w11.cell? ⟨gb22601, 1, none⟩ = some (.int .i64 a0_1) := (blk_cell BK22601.out 1).trans rfl; have hcz12_2 : w11.cell? ⟨gb22601, 2, none⟩ = some (.slice A0_2 l0_2.length c0_2) := (blk_cell BK22601.out 2).trans rfl; have hcz12_3 : w11.cell? ⟨gb22601, 3, none⟩ = some (.int .i64 a0_3) := (blk_cell BK22601.out 3).trans rfl; have hcz12_4 : w11.cell? ⟨gb22601, 4, none⟩ = some (.int .i64 a0_4) := (blk_cell BK22601.out 4).trans rfl; have hcz12_5 : w11.cell? ⟨gb22601, 5, none⟩ = some (.int .i64 a0_5) := (blk_cell BK22601.out 5).trans rfl; have hfz12_0 := blk_frozen BK22601.out 0; have hfz12_1 := blk_frozen BK22601.out 1; have hfz12_2 := blk_frozen BK22601.out 2; have hfz12_3 := blk_frozen BK22601.out 3; have hfz12_4 := blk_frozen BK22601.out 4; have hfz12_5 := blk_frozen BK22601.out 5) | ((with_reducible refine gate_builtin (b := .append) (xs := #[.tmp 11, .tmp 15]) rfl ?_); at_builtin; refine Kd.R_append (Kd.int .i64) (w0 := w) w.heap.size rfl (.tmp 11) (.tmp 15) 25 3 (.int .i64 0) 8 rfl Try.underlying25 info3 rfl (by decide) (by omega) v22606 y22605 (wrap64 (100 + a0_3)) [.int .i64 (wrap64 (100 + a0_3))] (fun _ => True) (fun _ => False) rfl rfl ?aP (fun _ hk => hk.elim) ?aF ?aO ?aB ?aS ?aL ?_; (case aP => exact rfl); (case aB => exact (by repeat (first | (with_reducible first | exact HB.out | apply below_alloc | apply pw_below_drewN | apply below_drew1 | refine below_set ?_ GE22601.out) | exact HB.out))); (case aF => exact (fun _ _ => trivial)); (case aO => exact (by (with_reducible repeat (first | apply Kd.R_alloc | apply Kd.R_drewN | apply Kd.R_drew)); exact HO22607.out)); (case aS => exact (below_size (by repeat (first | (with_reducible first | exact HB.out | apply below_alloc | apply pw_below_drewN | apply below_drew1 | refine below_set ?_ GE22601.out) | exact HB.out)))); (case aL => have := LMc4.out; omega); intro v22609 w13 ho hb hg hat; rw [← Ny22608.out] at ho; have n0_ := Aside0.mk (blk_grown (g := gb22601) (o := .cells #[.int .i64 a0_0, .int .i64 a0_1, .slice A0_2 l0_2.length c0_2, .int .i64 a0_3, .int .i64 a0_4, .int .i64 a0_5] 57 (0, 0)) (by (with_reducible repeat (first | refine blk_drewN ?_ _ | refine blk_drew ?_ | refine blk_alloc ?_ _)); exact BK22601.out) hg (Kd.R_ne HO22607.out BK22601.out (by decide))); have n1_ := Aside0.mk (hb); have n2_ := Aside0.mk (ho); clear BK22601; clear HB; clear HO22607; have BK22601 := n0_; have HB := n1_; have HO22610 := n2_; clear n0_ n1_ n2_; clear ho hb hg hat; have hcz14_0 : w13.cell? ⟨gb22601, 0, none⟩ = some (.int .i64 a0_0) := (blk_cell BK22601.out 0).trans rfl; have hcz14_1 : w13.cell? ⟨gb22601, 1, none⟩ = some (.int .i64 a0_1) := (blk_cell BK22601.out 1).trans rfl; have hcz14_2 : w13.cell? ⟨gb22601, 2, none⟩ = some (.slice A0_2 l0_2.length c0_2) := (blk_cell BK22601.out 2).trans rfl; have hcz14_3 : w13.cell? ⟨gb22601, 3, none⟩ = some (.int .i64 a0_3) := (blk_cell BK22601.out 3).trans rfl; have hcz14_4 : w13.cell? ⟨gb22601, 4, none⟩ = some (.int .i64 a0_4) := (blk_cell BK22601.out 4).trans rfl; have hcz14_5 : w13.cell? ⟨gb22601, 5, none⟩ = some (.int .i64 a0_5) := (blk_cell BK22601.out 5).trans rfl; have hfz14_0 := blk_frozen BK22601.out 0; have hfz14_1 := blk_frozen BK22601.out 1; have hfz14_2 := blk_frozen BK22601.out 2; have hfz14_3 := blk_frozen BK22601.out 3; have hfz14_4 := blk_frozen BK22601.out 4; have hfz14_5 := blk_frozen BK22601.out 5) | ((with_reducible refine gate_builtin (b := .append) (xs := #[.tmp 20, .tmp 24]) rfl ?_); at_builtin; refine Kd.R_append (Kd.int .i64) (w0 := w) w.heap.size rfl (.tmp 20) (.tmp 24) 25 3 (.int .i64 0) 8 rfl Try.underlying25 info3 rfl (by decide) (by omega) v22609 y22608 (wrap64 (100 + a0_4)) [.int .i64 (wrap64 (100 + a0_4))] (fun _ => True) (fun _ => False) rfl rfl ?aP (fun _ hk => hk.elim) ?aF ?aO ?aB ?aS ?aL ?_; (case aP => exact rfl); (case aB => exact (by repeat (first | (with_reducible first | exact HB.out | apply below_alloc | apply pw_below_drewN | apply below_drew1 | refine below_set ?_ GE22601.out) | exact HB.out))); (case aF => exact (fun _ _ => trivial)); (case aO => exact (by (with_reducible repeat (first | apply Kd.R_alloc | apply Kd.R_drewN | apply Kd.R_drew)); exact HO22610.out)); (case aS => exact (below_size (by repeat (first | (with_reducible first | exact HB.out | apply below_alloc | apply pw_below_drewN | apply below_drew1 | refine below_set ?_ GE22601.out) | exact HB.out)))); (case aL => have := LMc6.out; omega); intro v22612 w15 ho hb hg hat; rw [← Ny22611.out] at ho; have n0_ := Aside0.mk (blk_grown (g := gb22601) (o := .cells #[.int .i64 a0_0, .int .i64 a0_1, .slice A0_2 l0_2.length c0_2, .int .i64 a0_3, .int .i64 a0_4, .int .i64 a0_5] 57 (0, 0)) (by (with_reducible repeat (first | refine blk_drewN ?_ _ | refine blk_drew ?_ | refine blk_alloc ?_ _)); exact BK22601.out) hg (Kd.R_ne HO22610.out BK22601.out (by decide))); have n1_ := Aside0.mk (hb); have n2_ := Aside0.mk (ho); clear BK22601; clear HB; clear HO22610; have BK22601 := n0_; have HB := n1_; have HO22613 := n2_; clear n0_ n1_ n2_; clear ho hb hg hat))
      go_ret
      exact ⟨_, by first | rfl | (simp [errW_none, errW_some] <;> rfl) | (simp [*, errW_none, errW_some] <;> rfl), by (with_reducible repeat (first | apply Kd.R_alloc | apply Kd.R_drewN | apply Kd.R_drew)); exact HO22613.out, by repeat (first | (with_reducible first | exact HB.out | apply below_alloc | apply pw_below_drewN | apply below_drew1 | refine below_set ?_ GE22601.out) | exact HB.out)⟩
     ·rw [if_neg c6] at H
      exact absurd H (by simp)
    ·rw [if_neg c5] at H
     have c5b0 : decide (0 ≤ a0_4) = false := decide_eq_false c5
     clear c5
     obtain rfl := Option.some.inj H
     go_enter Try.func45, Try.ntmps45
     go_wp2_with (first | ((with_reducible refine gate_dst (N := 1) rfl ?_); refine box_event ?hg (N := 1) ?hd (cs := #[.int .i64 a0_0, .int .i64 a0_1, .slice A0_2 l0_2.length c0_2, .int .i64 a0_3, .int .i64 a0_4, .int .i64 a0_5]) (t := 57) ?hr ?_; (case hd => rfl); (case hg => rfl); (case hr => first | (go_simp; done) | (go_simp; rfl)); intro gb22601 hg w16 hbox hb; have n0_ := Aside0.mk (below_step (by repeat (first | (with_reducible first | exact HB.out | apply below_alloc | apply pw_below_drewN | apply below_drew1) | exact HB.out)) hb); have n1_ := Aside0.mk (hbox); have n2_ := Aside0.mk ((by rw [hg]; exact (below_size (by repeat (first | (with_reducible first | exact HB.out | apply below_alloc | apply pw_below_drewN | apply below_drew1) | exact HB.out))) : w.heap.size ≤ gb22601)); have n3_ := Aside0.mk ((by rw [hg]; exact (below_size (by repeat (first | (with_reducible first | exact HB.out | apply below_alloc | apply pw_below_drewN | apply below_drew1) | exact HB.out))) : w.heap.size ≤ gb22601)); clear HB; have HB := n0_; have BK22601 := n1_; have GW22601 := n2_; have GE22601 := n3_; clear n0_ n1_ n2_ n3_; clear hb hbox hg) | ((with_reducible refine gate_dst (N := 4) rfl ?_); refine Kd.R_lit (Kd.int .i64) _ 3 ?hg (N := 4) ?hd (xs := ([] : List Int)) (inner := []) (ok := fun _ => True) (okp := fun _ => True) ?hr ?hp (fun _ hk => hk) trivial (Below.refl _ _) (Nat.le_refl _) (by simp) ?_; (case hd => rfl); (case hg => rfl); (case hr => first | (go_simp; done) | (go_simp; rfl)); (case hp => exact (Reps.none _ _)); intro v22603 w17 ho18 hb hg_ hnew_; clear hg_ hnew_; (first | rw [← Ny22602.out] at ho18 | (simp only [Int.reduceToNat] at ho18; rw [← Ny22602.out] at ho18)); have n0_ := Aside0.mk (Kd.R_lower ho18 (below_size (by repeat (first | (with_reducible first | exact HB.out | apply below_alloc | apply pw_below_drewN | apply below_drew1 | refine below_set ?_ GE22601.out) | exact HB.out)))); have n1_ := Aside0.mk (blk_below (g := gb22601) (o := .cells #[.int .i64 a0_0, .int .i64 a0_1, .slice A0_2 l0_2.length c0_2, .int .i64 a0_3, .int .i64 a0_4, .int .i64 a0_5] 57 (0, 0)) (by (with_reducible repeat (first | refine blk_drewN ?_ _ | refine blk_drew ?_ | refine blk_alloc ?_ _)); exact BK22601.out) hb); have n2_ := Aside0.mk (below_step (by repeat (first | (with_reducible first | exact HB.out | apply below_alloc | apply pw_below_drewN | apply below_drew1 | refine below_set ?_ GE22601.out) | exact HB.out)) hb); clear BK22601; clear HB; have HO22604 := n0_; have BK22601 := n1_; have HB := n2_; clear n0_ n1_ n2_; clear hb ho18; have hcz19_0 : w17.cell? ⟨gb22601, 0, none⟩ = some (.int .i64 a0_0) := (blk_cell BK22601.out 0).trans rfl; have hcz19_1 : w17.cell? ⟨gb22601, 1, none⟩ = some (.int .i64 a0_1) := (blk_cell BK22601.out 1).trans rfl; have hcz19_2 : w17.cell? ⟨gb22601, 2, none⟩ = some (.slice A0_2 l0_2.length c0_2) := (blk_cell BK22601.out 2).trans rfl; have hcz19_3 : w17.cell? ⟨gb22601, 3, none⟩ = some (.int .i64 a0_3) := (blk_cell BK22601.out 3).trans rfl; have hcz19_4 : w17.cell? ⟨gb22601, 4, none⟩ = some (.int .i64 a0_4) := (blk_cell BK22601.out 4).trans rfl; have hcz19_5 : w17.cell? ⟨gb22601, 5, none⟩ = some (.int .i64 a0_5) := (blk_cell BK22601.out 5).trans rfl; have hfz19_0 := blk_frozen BK22601.out 0; have hfz19_1 := blk_frozen BK22601.out 1; have hfz19_2 := blk_frozen BK22601.out 2; have hfz19_3 := blk_frozen BK22601.out 3; have hfz19_4 := blk_frozen BK22601.out 4; have hfz19_5 := blk_frozen BK22601.out 5) | ((with_reducible refine gate_builtin (b := .append) (xs := #[.tmp 4, .tmp 6]) rfl ?_); at_builtin; refine Kd.R_append_rows (Kd.int .i64) (w0 := w) w.heap.size rfl (.tmp 4) (.tmp 6) 25 3 (.int .i64 0) 8 rfl Try.underlying25 info3 rfl (by decide) (by omega) v22603 y22602 l0_2 _ _ _ (fun _ => True) (fun _ => False) rfl rfl ?aO ?aR (fun _ _ h => h) (fun _ h => h.elim) ?aF ?aB ?aS ?aL ?_; (case aR => repeat (first | exact (Kd.C_below HR0_2.out HB.out) | (with_reducible refine Kd.C_alloc ?_ _) | (with_reducible refine Kd.C_drewN ?_ _) | (with_reducible refine Kd.C_drew ?_))); (case aB => exact (by repeat (first | (with_reducible first | exact HB.out | apply below_alloc | apply pw_below_drewN | apply below_drew1 | refine below_set ?_ GE22601.out) | exact HB.out))); (case aF => exact (fun _ _ => trivial)); (case aO => exact (by (with_reducible repeat (first | apply Kd.R_alloc | apply Kd.R_drewN | apply Kd.R_drew)); exact HO22604.out)); (case aS => exact (below_size (by repeat (first | (with_reducible first | exact HB.out | apply below_alloc | apply pw_below_drewN | apply below_drew1 | refine below_set ?_ GE22601.out) | exact HB.out)))); (case aL => have := LMc2.out; omega); intro v22606 w20 ho hb hg hat; rw [← Ny22605.out] at ho; have n0_ := Aside0.mk (blk_grown (g := gb22601) (o := .cells #[.int .i64 a0_0, .int .i64 a0_1, .slice A0_2 l0_2.length c0_2, .int .i64 a0_3, .int .i64 a0_4, .int .i64 a0_5] 57 (0, 0)) (by (with_reducible repeat (first | refine blk_drewN ?_ _ | refine blk_drew ?_ | refine blk_alloc ?_ _)); exact BK22601.out) hg (Kd.R_ne HO22604.out BK22601.out (by decide))); have n1_ := Aside0.mk (hb); have n2_ := Aside0.mk (ho); clear BK22601; clear HB; clear HO22604; have BK22601 := n0_; have HB := n1_; have HO22607 := n2_; clear n0_ n1_ n2_; clear ho hb hg hat; have hcz21_0 : w20.cell? ⟨gb22601, 0, none⟩ = some (.int .i64 a0_0) := (blk_cell BK22601.out 0).trans rfl; have hcz21_1 : w20.cell? ⟨gb22601, 1, none⟩ = some (.int .i64 a0_1) := (blk_cell BK22601.out 1).trans rfl; have hcz21_2 : w20.cell? ⟨gb22601, 2, none⟩ = some (.slice A0_2 l0_2.length c0_2) := (blk_cell BK22601.out 2).trans rfl; have hcz21_3 : w20.cell? ⟨gb22601, 3, none⟩ = some (.int .i64 a0_3) := (blk_cell BK22601.out 3).trans rfl; have hcz21_4 : w20.cell? ⟨gb22601, 4, none⟩ = some (.int .i64 a0_4) := (blk_cell BK22601.out 4).trans rfl; have hcz21_5 : w20.cell? ⟨gb22601, 5, none⟩ = some (.int .i64 a0_5) := (blk_cell BK22601.out 5).trans rfl; have hfz21_0 := blk_frozen BK22601.out 0; have hfz21_1 := blk_frozen BK22601.out 1; have hfz21_2 := blk_frozen BK22601.out 2; have hfz21_3 := blk_frozen BK22601.out 3; have hfz21_4 := blk_frozen BK22601.out 4; have hfz21_5 := blk_frozen BK22601.out 5) | ((with_reducible refine gate_builtin (b := .append) (xs := #[.tmp 11, .tmp 15]) rfl ?_); at_builtin; refine Kd.R_append (Kd.int .i64) (w0 := w) w.heap.size rfl (.tmp 11) (.tmp 15) 25 3 (.int .i64 0) 8 rfl Try.underlying25 info3 rfl (by decide) (by omega) v22606 y22605 (wrap64 (100 + a0_3)) [.int .i64 (wrap64 (100 + a0_3))] (fun _ => True) (fun _ => False) rfl rfl ?aP (fun _ hk => hk.elim) ?aF ?aO ?aB ?aS ?aL ?_; (case aP => exact rfl); (case aB => exact (by repeat (first | (with_reducible first | exact HB.out | apply below_alloc | apply pw_below_drewN | apply below_drew1 | refine below_set ?_ GE22601.out) | exact HB.out))); (case aF => exact (fun _ _ => trivial)); (case aO => exact (by (with_reducible repeat (first | apply Kd.R_alloc | apply Kd.R_drewN | apply Kd.R_drew)); exact HO22607.out)); (case aS => exact (below_size (by repeat (first | (with_reducible first | exact HB.out | apply below_alloc | apply pw_below_drewN | apply below_drew1 | refine below_set ?_ GE22601.out) | exact HB.out)))); (case aL => have := LMc4.out; omega); intro v22609 w22 ho hb hg hat; rw [← Ny22608.out] at ho; have n0_ := Aside0.mk (blk_grown (g := gb22601) (o := .cells #[.int .i64 a0_0, .int .i64 a0_1, .slice A0_2 l0_2.length c0_2, .int .i64 a0_3, .int .i64 a0_4, .int .i64 a0_5] 57 (0, 0)) (by (with_reducible repeat (first | refine blk_drewN ?_ _ | refine blk_drew ?_ | refine blk_alloc ?_ _)); exact BK22601.out) hg (Kd.R_ne HO22607.out BK22601.out (by decide))); have n1_ := Aside0.mk (hb); have n2_ := Aside0.mk (ho); clear BK22601; clear HB; clear HO22607; have BK22601 := n0_; have HB := n1_; have HO22610 := n2_; clear n0_ n1_ n2_; clear ho hb hg hat; have hcz23_0 : w22.cell? ⟨gb22601, 0, none⟩ = some (.int .i64 a0_0) := (blk_cell BK22601.out 0).trans rfl; have hcz23_1 : w22.cell? ⟨gb22601, 1, none⟩ = some (.int .i64 a0_1) := (blk_cell BK22601.out 1).trans rfl; have hcz23_2 : w22.cell? ⟨gb22601, 2, none⟩ = some (.slice A0_2 l0_2.length c0_2) := (blk_cell BK22601.out 2).trans rfl; have hcz23_3 : w22.cell? ⟨gb22601, 3, none⟩ = some (.int .i64 a0_3) := (blk_cell BK22601.out 3).trans rfl; have hcz23_4 : w22.cell? ⟨gb22601, 4, none⟩ = some (.int .i64 a0_4) := (blk_cell BK22601.out 4).trans rfl; have hcz23_5 : w22.cell? ⟨gb22601, 5, none⟩ = some (.int .i64 a0_5) := (blk_cell BK22601.out 5).trans rfl; have hfz23_0 := blk_frozen BK22601.out 0; have hfz23_1 := blk_frozen BK22601.out 1; have hfz23_2 := blk_frozen BK22601.out 2; have hfz23_3 := blk_frozen BK22601.out 3; have hfz23_4 := blk_frozen BK22601.out 4; have hfz23_5 := blk_frozen BK22601.out 5))
     go_ret
     exact ⟨_, by first | rfl | (simp [errW_none, errW_some] <;> rfl) | (simp [*, errW_none, errW_some] <;> rfl), by (with_reducible repeat (first | apply Kd.R_alloc | apply Kd.R_drewN | apply Kd.R_drew)); exact HO22610.out, by repeat (first | (with_reducible first | exact HB.out | apply below_alloc | apply pw_below_drewN | apply below_drew1 | refine below_set ?_ GE22601.out) | exact HB.out)⟩
   ·rw [if_neg c4] at H
    exact absurd H (by simp)
  ·rw [if_neg c3] at H
   have c3b0 : (a0_0 == 2) = false := beq_eq_false_iff_ne.mpr c3
   have c3b1 : (a0_0 != 2) = true := bne_iff_ne.mpr c3
   by_cases c24 : a0_4 ≥ 0
   ·rw [if_pos c24] at H
    have c24b0 : decide (0 ≤ a0_4) = true := decide_eq_true c24
    clear c24
    by_cases c25 : y22605.length < 17592186044416
    ·rw [if_pos c25] at H
     have LMc25 := Aside0.mk c25
     clear c25
     obtain ⟨y22614, hy22614⟩ : ∃ y_ : List Int, y_ = (y22605 ++ [wrap64 (100 + a0_4)]) := ⟨_, rfl⟩
     replace H : (some y22614) = some r := by first | (rw [hy22614]; with_reducible exact H) | (have H2_ := (Option.bind_some _ _).symm.trans H; rw [hy22614]; with_reducible exact H2_) | (have H2_ := (Option.bind_some _ _).symm.trans H; with_reducible exact H2_) | with_reducible exact H | (rw [hy22614]; exact H) | exact H
     have Ny22614 := Aside0.mk hy22614
     clear hy22614
     obtain rfl := Option.some.inj H
     go_enter Try.func45, Try.ntmps45
     go_wp2_with (first | ((with_reducible refine gate_dst (N := 1) rfl ?_); refine box_event ?hg (N := 1) ?hd (cs := #[.int .i64 a0_0, .int .i64 a0_1, .slice A0_2 l0_2.length c0_2, .int .i64 a0_3, .int .i64 a0_4, .int .i64 a0_5]) (t := 57) ?hr ?_; (case hd => rfl); (case hg => rfl); (case hr => first | (go_simp; done) | (go_simp; rfl)); intro gb22601 hg w26 hbox hb; have n0_ := Aside0.mk (below_step (by repeat (first | (with_reducible first | exact HB.out | apply below_alloc | apply pw_below_drewN | apply below_drew1) | exact HB.out)) hb); have n1_ := Aside0.mk (hbox); have n2_ := Aside0.mk ((by rw [hg]; exact (below_size (by repeat (first | (with_reducible first | exact HB.out | apply below_alloc | apply pw_below_drewN | apply below_drew1) | exact HB.out))) : w.heap.size ≤ gb22601)); have n3_ := Aside0.mk ((by rw [hg]; exact (below_size (by repeat (first | (with_reducible first | exact HB.out | apply below_alloc | apply pw_below_drewN | apply below_drew1) | exact HB.out))) : w.heap.size ≤ gb22601)); clear HB; have HB := n0_; have BK22601 := n1_; have GW22601 := n2_; have GE22601 := n3_; clear n0_ n1_ n2_ n3_; clear hb hbox hg) | ((with_reducible refine gate_dst (N := 4) rfl ?_); refine Kd.R_lit (Kd.int .i64) _ 3 ?hg (N := 4) ?hd (xs := ([] : List Int)) (inner := []) (ok := fun _ => True) (okp := fun _ => True) ?hr ?hp (fun _ hk => hk) trivial (Below.refl _ _) (Nat.le_refl _) (by simp) ?_; (case hd => rfl); (case hg => rfl); (case hr => first | (go_simp; done) | (go_simp; rfl)); (case hp => exact (Reps.none _ _)); intro v22603 w27 ho28 hb hg_ hnew_; clear hg_ hnew_; (first | rw [← Ny22602.out] at ho28 | (simp only [Int.reduceToNat] at ho28; rw [← Ny22602.out] at ho28)); have n0_ := Aside0.mk (Kd.R_lower ho28 (below_size (by repeat (first | (with_reducible first | exact HB.out | apply below_alloc | apply pw_below_drewN | apply below_drew1 | refine below_set ?_ GE22601.out) | exact HB.out)))); have n1_ := Aside0.mk (blk_below (g := gb22601) (o := .cells #[.int .i64 a0_0, .int .i64 a0_1, .slice A0_2 l0_2.length c0_2, .int .i64 a0_3, .int .i64 a0_4, .int .i64 a0_5] 57 (0, 0)) (by (with_reducible repeat (first | refine blk_drewN ?_ _ | refine blk_drew ?_ | refine blk_alloc ?_ _)); exact BK22601.out) hb); have n2_ := Aside0.mk (below_step (by repeat (first | (with_reducible first | exact HB.out | apply below_alloc | apply pw_below_drewN | apply below_drew1 | refine below_set ?_ GE22601.out) | exact HB.out)) hb); clear BK22601; clear HB; have HO22604 := n0_; have BK22601 := n1_; have HB := n2_; clear n0_ n1_ n2_; clear hb ho28; have hcz29_0 : w27.cell? ⟨gb22601, 0, none⟩ = some (.int .i64 a0_0) := (blk_cell BK22601.out 0).trans rfl; have hcz29_1 : w27.cell? ⟨gb22601, 1, none⟩ = some (.int .i64 a0_1) := (blk_cell BK22601.out 1).trans rfl; have hcz29_2 : w27.cell? ⟨gb22601, 2, none⟩ = some (.slice A0_2 l0_2.length c0_2) := (blk_cell BK22601.out 2).trans rfl; have hcz29_3 : w27.cell? ⟨gb22601, 3, none⟩ = some (.int .i64 a0_3) := (blk_cell BK22601.out 3).trans rfl; have hcz29_4 : w27.cell? ⟨gb22601, 4, none⟩ = some (.int .i64 a0_4) := (blk_cell BK22601.out 4).trans rfl; have hcz29_5 : w27.cell? ⟨gb22601, 5, none⟩ = some (.int .i64 a0_5) := (blk_cell BK22601.out 5).trans rfl; have hfz29_0 := blk_frozen BK22601.out 0; have hfz29_1 := blk_frozen BK22601.out 1; have hfz29_2 := blk_frozen BK22601.out 2; have hfz29_3 := blk_frozen BK22601.out 3; have hfz29_4 := blk_frozen BK22601.out 4; have hfz29_5 := blk_frozen BK22601.out 5) | ((with_reducible refine gate_builtin (b := .append) (xs := #[.tmp 4, .tmp 6]) rfl ?_); at_builtin; refine Kd.R_append_rows (Kd.int .i64) (w0 := w) w.heap.size rfl (.tmp 4) (.tmp 6) 25 3 (.int .i64 0) 8 rfl Try.underlying25 info3 rfl (by decide) (by omega) v22603 y22602 l0_2 _ _ _ (fun _ => True) (fun _ => False) rfl rfl ?aO ?aR (fun _ _ h => h) (fun _ h => h.elim) ?aF ?aB ?aS ?aL ?_; (case aR => repeat (first | exact (Kd.C_below HR0_2.out HB.out) | (with_reducible refine Kd.C_alloc ?_ _) | (with_reducible refine Kd.C_drewN ?_ _) | (with_reducible refine Kd.C_drew ?_))); (case aB => exact (by repeat (first | (with_reducible first | exact HB.out | apply below_alloc | apply pw_below_drewN | apply below_drew1 | refine below_set ?_ GE22601.out) | exact HB.out))); (case aF => exact (fun _ _ => trivial)); (case aO => exact (by (with_reducible repeat (first | apply Kd.R_alloc | apply Kd.R_drewN | apply Kd.R_drew)); exact HO22604.out)); (case aS => exact (below_size (by repeat (first | (with_reducible first | exact HB.out | apply below_alloc | apply pw_below_drewN | apply below_drew1 | refine below_set ?_ GE22601.out) | exact HB.out)))); (case aL => have := LMc2.out; omega); intro v22606 w30 ho hb hg hat; rw [← Ny22605.out] at ho; have n0_ := Aside0.mk (blk_grown (g := gb22601) (o := .cells #[.int .i64 a0_0, .int .i64 a0_1, .slice A0_2 l0_2.length c0_2, .int .i64 a0_3, .int .i64 a0_4, .int .i64 a0_5] 57 (0, 0)) (by (with_reducible repeat (first | refine blk_drewN ?_ _ | refine blk_drew ?_ | refine blk_alloc ?_ _)); exact BK22601.out) hg (Kd.R_ne HO22604.out BK22601.out (by decide))); have n1_ := Aside0.mk (hb); have n2_ := Aside0.mk (ho); clear BK22601; clear HB; clear HO22604; have BK22601 := n0_; have HB := n1_; have HO22607 := n2_; clear n0_ n1_ n2_; clear ho hb hg hat; have hcz31_0 : w30.cell? ⟨gb22601, 0, none⟩ = some (.int .i64 a0_0) := (blk_cell BK22601.out 0).trans rfl; have hcz31_1 : w30.cell? ⟨gb22601, 1, none⟩ = some (.int .i64 a0_1) := (blk_cell BK22601.out 1).trans rfl; have hcz31_2 : w30.cell? ⟨gb22601, 2, none⟩ = some (.slice A0_2 l0_2.length c0_2) := (blk_cell BK22601.out 2).trans rfl; have hcz31_3 : w30.cell? ⟨gb22601, 3, none⟩ = some (.int .i64 a0_3) := (blk_cell BK22601.out 3).trans rfl; have hcz31_4 : w30.cell? ⟨gb22601, 4, none⟩ = some (.int .i64 a0_4) := (blk_cell BK22601.out 4).trans rfl; have hcz31_5 : w30.cell? ⟨gb22601, 5, none⟩ = some (.int .i64 a0_5) := (blk_cell BK22601.out 5).trans rfl; have hfz31_0 := blk_frozen BK22601.out 0; have hfz31_1 := blk_frozen BK22601.out 1; have hfz31_2 := blk_frozen BK22601.out 2; have hfz31_3 := blk_frozen BK22601.out 3; have hfz31_4 := blk_frozen BK22601.out 4; have hfz31_5 := blk_frozen BK22601.out 5) | ((with_reducible refine gate_builtin (b := .append) (xs := #[.tmp 20, .tmp 24]) rfl ?_); at_builtin; refine Kd.R_append (Kd.int .i64) (w0 := w) w.heap.size rfl (.tmp 20) (.tmp 24) 25 3 (.int .i64 0) 8 rfl Try.underlying25 info3 rfl (by decide) (by omega) v22606 y22605 (wrap64 (100 + a0_4)) [.int .i64 (wrap64 (100 + a0_4))] (fun _ => True) (fun _ => False) rfl rfl ?aP (fun _ hk => hk.elim) ?aF ?aO ?aB ?aS ?aL ?_; (case aP => exact rfl); (case aB => exact (by repeat (first | (with_reducible first | exact HB.out | apply below_alloc | apply pw_below_drewN | apply below_drew1 | refine below_set ?_ GE22601.out) | exact HB.out))); (case aF => exact (fun _ _ => trivial)); (case aO => exact (by (with_reducible repeat (first | apply Kd.R_alloc | apply Kd.R_drewN | apply Kd.R_drew)); exact HO22607.out)); (case aS => exact (below_size (by repeat (first | (with_reducible first | exact HB.out | apply below_alloc | apply pw_below_drewN | apply below_drew1 | refine below_set ?_ GE22601.out) | exact HB.out)))); (case aL => have := LMc25.out; omega); intro v22615 w32 ho hb hg hat; rw [← Ny22614.out] at ho; have n0_ := Aside0.mk (blk_grown (g := gb22601) (o := .cells #[.int .i64 a0_0, .int .i64 a0_1, .slice A0_2 l0_2.length c0_2, .int .i64 a0_3, .int .i64 a0_4, .int .i64 a0_5] 57 (0, 0)) (by (with_reducible repeat (first | refine blk_drewN ?_ _ | refine blk_drew ?_ | refine blk_alloc ?_ _)); exact BK22601.out) hg (Kd.R_ne HO22607.out BK22601.out (by decide))); have n1_ := Aside0.mk (hb); have n2_ := Aside0.mk (ho); clear BK22601; clear HB; clear HO22607; have BK22601 := n0_; have HB := n1_; have HO22616 := n2_; clear n0_ n1_ n2_; clear ho hb hg hat))
     go_ret
     exact ⟨_, by first | rfl | (simp [errW_none, errW_some] <;> rfl) | (simp [*, errW_none, errW_some] <;> rfl), by (with_reducible repeat (first | apply Kd.R_alloc | apply Kd.R_drewN | apply Kd.R_drew)); exact HO22616.out, by repeat (first | (with_reducible first | exact HB.out | apply below_alloc | apply pw_below_drewN | apply below_drew1 | refine below_set ?_ GE22601.out) | exact HB.out)⟩
    ·rw [if_neg c25] at H
     exact absurd H (by simp)
   ·rw [if_neg c24] at H
    have c24b0 : decide (0 ≤ a0_4) = false := decide_eq_false c24
    clear c24
    obtain rfl := Option.some.inj H
    go_enter Try.func45, Try.ntmps45
    go_wp2_with (first | ((with_reducible refine gate_dst (N := 1) rfl ?_); refine box_event ?hg (N := 1) ?hd (cs := #[.int .i64 a0_0, .int .i64 a0_1, .slice A0_2 l0_2.length c0_2, .int .i64 a0_3, .int .i64 a0_4, .int .i64 a0_5]) (t := 57) ?hr ?_; (case hd => rfl); (case hg => rfl); (case hr => first | (go_simp; done) | (go_simp; rfl)); intro gb22601 hg w33 hbox hb; have n0_ := Aside0.mk (below_step (by repeat (first | (with_reducible first | exact HB.out | apply below_alloc | apply pw_below_drewN | apply below_drew1) | exact HB.out)) hb); have n1_ := Aside0.mk (hbox); have n2_ := Aside0.mk ((by rw [hg]; exact (below_size (by repeat (first | (with_reducible first | exact HB.out | apply below_alloc | apply pw_below_drewN | apply below_drew1) | exact HB.out))) : w.heap.size ≤ gb22601)); have n3_ := Aside0.mk ((by rw [hg]; exact (below_size (by repeat (first | (with_reducible first | exact HB.out | apply below_alloc | apply pw_below_drewN | apply below_drew1) | exact HB.out))) : w.heap.size ≤ gb22601)); clear HB; have HB := n0_; have BK22601 := n1_; have GW22601 := n2_; have GE22601 := n3_; clear n0_ n1_ n2_ n3_; clear hb hbox hg) | ((with_reducible refine gate_dst (N := 4) rfl ?_); refine Kd.R_lit (Kd.int .i64) _ 3 ?hg (N := 4) ?hd (xs := ([] : List Int)) (inner := []) (ok := fun _ => True) (okp := fun _ => True) ?hr ?hp (fun _ hk => hk) trivial (Below.refl _ _) (Nat.le_refl _) (by simp) ?_; (case hd => rfl); (case hg => rfl); (case hr => first | (go_simp; done) | (go_simp; rfl)); (case hp => exact (Reps.none _ _)); intro v22603 w34 ho35 hb hg_ hnew_; clear hg_ hnew_; (first | rw [← Ny22602.out] at ho35 | (simp only [Int.reduceToNat] at ho35; rw [← Ny22602.out] at ho35)); have n0_ := Aside0.mk (Kd.R_lower ho35 (below_size (by repeat (first | (with_reducible first | exact HB.out | apply below_alloc | apply pw_below_drewN | apply below_drew1 | refine below_set ?_ GE22601.out) | exact HB.out)))); have n1_ := Aside0.mk (blk_below (g := gb22601) (o := .cells #[.int .i64 a0_0, .int .i64 a0_1, .slice A0_2 l0_2.length c0_2, .int .i64 a0_3, .int .i64 a0_4, .int .i64 a0_5] 57 (0, 0)) (by (with_reducible repeat (first | refine blk_drewN ?_ _ | refine blk_drew ?_ | refine blk_alloc ?_ _)); exact BK22601.out) hb); have n2_ := Aside0.mk (below_step (by repeat (first | (with_reducible first | exact HB.out | apply below_alloc | apply pw_below_drewN | apply below_drew1 | refine below_set ?_ GE22601.out) | exact HB.out)) hb); clear BK22601; clear HB; have HO22604 := n0_; have BK22601 := n1_; have HB := n2_; clear n0_ n1_ n2_; clear hb ho35; have hcz36_0 : w34.cell? ⟨gb22601, 0, none⟩ = some (.int .i64 a0_0) := (blk_cell BK22601.out 0).trans rfl; have hcz36_1 : w34.cell? ⟨gb22601, 1, none⟩ = some (.int .i64 a0_1) := (blk_cell BK22601.out 1).trans rfl; have hcz36_2 : w34.cell? ⟨gb22601, 2, none⟩ = some (.slice A0_2 l0_2.length c0_2) := (blk_cell BK22601.out 2).trans rfl; have hcz36_3 : w34.cell? ⟨gb22601, 3, none⟩ = some (.int .i64 a0_3) := (blk_cell BK22601.out 3).trans rfl; have hcz36_4 : w34.cell? ⟨gb22601, 4, none⟩ = some (.int .i64 a0_4) := (blk_cell BK22601.out 4).trans rfl; have hcz36_5 : w34.cell? ⟨gb22601, 5, none⟩ = some (.int .i64 a0_5) := (blk_cell BK22601.out 5).trans rfl; have hfz36_0 := blk_frozen BK22601.out 0; have hfz36_1 := blk_frozen BK22601.out 1; have hfz36_2 := blk_frozen BK22601.out 2; have hfz36_3 := blk_frozen BK22601.out 3; have hfz36_4 := blk_frozen BK22601.out 4; have hfz36_5 := blk_frozen BK22601.out 5) | ((with_reducible refine gate_builtin (b := .append) (xs := #[.tmp 4, .tmp 6]) rfl ?_); at_builtin; refine Kd.R_append_rows (Kd.int .i64) (w0 := w) w.heap.size rfl (.tmp 4) (.tmp 6) 25 3 (.int .i64 0) 8 rfl Try.underlying25 info3 rfl (by decide) (by omega) v22603 y22602 l0_2 _ _ _ (fun _ => True) (fun _ => False) rfl rfl ?aO ?aR (fun _ _ h => h) (fun _ h => h.elim) ?aF ?aB ?aS ?aL ?_; (case aR => repeat (first | exact (Kd.C_below HR0_2.out HB.out) | (with_reducible refine Kd.C_alloc ?_ _) | (with_reducible refine Kd.C_drewN ?_ _) | (with_reducible refine Kd.C_drew ?_))); (case aB => exact (by repeat (first | (with_reducible first | exact HB.out | apply below_alloc | apply pw_below_drewN | apply below_drew1 | refine below_set ?_ GE22601.out) | exact HB.out))); (case aF => exact (fun _ _ => trivial)); (case aO => exact (by (with_reducible repeat (first | apply Kd.R_alloc | apply Kd.R_drewN | apply Kd.R_drew)); exact HO22604.out)); (case aS => exact (below_size (by repeat (first | (with_reducible first | exact HB.out | apply below_alloc | apply pw_below_drewN | apply below_drew1 | refine below_set ?_ GE22601.out) | exact HB.out)))); (case aL => have := LMc2.out; omega); intro v22606 w37 ho hb hg hat; rw [← Ny22605.out] at ho; have n0_ := Aside0.mk (blk_grown (g := gb22601) (o := .cells #[.int .i64 a0_0, .int .i64 a0_1, .slice A0_2 l0_2.length c0_2, .int .i64 a0_3, .int .i64 a0_4, .int .i64 a0_5] 57 (0, 0)) (by (with_reducible repeat (first | refine blk_drewN ?_ _ | refine blk_drew ?_ | refine blk_alloc ?_ _)); exact BK22601.out) hg (Kd.R_ne HO22604.out BK22601.out (by decide))); have n1_ := Aside0.mk (hb); have n2_ := Aside0.mk (ho); clear BK22601; clear HB; clear HO22604; have BK22601 := n0_; have HB := n1_; have HO22607 := n2_; clear n0_ n1_ n2_; clear ho hb hg hat; have hcz38_0 : w37.cell? ⟨gb22601, 0, none⟩ = some (.int .i64 a0_0) := (blk_cell BK22601.out 0).trans rfl; have hcz38_1 : w37.cell? ⟨gb22601, 1, none⟩ = some (.int .i64 a0_1) := (blk_cell BK22601.out 1).trans rfl; have hcz38_2 : w37.cell? ⟨gb22601, 2, none⟩ = some (.slice A0_2 l0_2.length c0_2) := (blk_cell BK22601.out 2).trans rfl; have hcz38_3 : w37.cell? ⟨gb22601, 3, none⟩ = some (.int .i64 a0_3) := (blk_cell BK22601.out 3).trans rfl; have hcz38_4 : w37.cell? ⟨gb22601, 4, none⟩ = some (.int .i64 a0_4) := (blk_cell BK22601.out 4).trans rfl; have hcz38_5 : w37.cell? ⟨gb22601, 5, none⟩ = some (.int .i64 a0_5) := (blk_cell BK22601.out 5).trans rfl; have hfz38_0 := blk_frozen BK22601.out 0; have hfz38_1 := blk_frozen BK22601.out 1; have hfz38_2 := blk_frozen BK22601.out 2; have hfz38_3 := blk_frozen BK22601.out 3; have hfz38_4 := blk_frozen BK22601.out 4; have hfz38_5 := blk_frozen BK22601.out 5))
    go_ret
    exact ⟨_, by first | rfl | (simp [errW_none, errW_some] <;> rfl) | (simp [*, errW_none, errW_some] <;> rfl), by (with_reducible repeat (first | apply Kd.R_alloc | apply Kd.R_drewN | apply Kd.R_drew)); exact HO22607.out, by repeat (first | (with_reducible first | exact HB.out | apply below_alloc | apply pw_below_drewN | apply below_drew1 | refine below_set ?_ GE22601.out) | exact HB.out)⟩
 ·rw [if_neg c2] at H
  exact absurd H (by simp)
def phasorref19_bar.f (a0_0 : Int) (a0_1 : Int) (l0_2 : List (S57)) (a1 : Int) : Option (Bool) := if 0 ≤ a1 then (if a1 < (l0_2.length : Int) then (some (((rd_T57 l0_2 a1).f0) == 4)) else (none)) else (none)
set_option maxHeartbeats 8000000 in
set_option maxRecDepth 100000 in
theorem phasorref19_bar.calls (a0_0 : Int) (a0_1 : Int) (A0_2 : Option Addr) (c0_2 : Nat) (l0_2 : List (S57)) (a1 : Int) (r : Bool) (w : World) (hr0_2 : Kd.C k57 w A0_2 l0_2.length l0_2) (hc0_2 : l0_2.length ≤ c0_2) (h : phasorref19_bar.f a0_0 a0_1 l0_2 a1 = some r) :
  Calls Try.prog 30 #[.agg #[.int .i64 a0_0, .int .i64 a0_1, .slice A0_2 l0_2.length c0_2], .int .i64 a1] w fun e w' => e = .returned (.bool r) ∧ Below w.heap.size w w' := by
 have hu24 := Try.underlying24
 have HR0_2 := Aside0.mk hr0_2
 have HC0_2 := Aside0.mk hc0_2
 clear hr0_2 hc0_2
 have HB := Aside0.mk (Below.refl w.heap.size w)
 have H : (if 0 ≤ a1 then (if a1 < (l0_2.length : Int) then (some (((rd_T57 l0_2 a1).f0) == 4)) else (none)) else (none)) = some r := h
 clear h
 by_cases c3 : 0 ≤ a1
 ·rw [if_pos c3] at H
  have c3b0 : decide (0 ≤ a1) = true := decide_eq_true c3
  clear c3
  by_cases c4 : a1 < (l0_2.length : Int)
  ·rw [if_pos c4] at H
   have c4b0 : decide (a1 < (l0_2.length : Int)) = true := decide_eq_true c4
   clear c4
   obtain rfl := Option.some.inj H
   go_enter Try.func30, Try.ntmps30
   go_wp2_with (first | ((with_reducible refine gate_dst (N := 2) rfl ?_); refine box_event ?hg (N := 2) ?hd (cs := #[.int .i64 a0_0, .int .i64 a0_1, .slice A0_2 l0_2.length c0_2]) (t := 24) ?hr ?_; (case hd => rfl); (case hg => rfl); (case hr => first | (go_simp; done) | (go_simp; rfl)); intro gb15101 hg w5 hbox hb; have n0_ := Aside0.mk (below_step (by repeat (first | (with_reducible first | exact HB.out | apply below_alloc | apply pw_below_drewN | apply below_drew1) | exact HB.out)) hb); have n1_ := Aside0.mk (hbox); have n2_ := Aside0.mk ((by rw [hg]; exact (below_size (by repeat (first | (with_reducible first | exact HB.out | apply below_alloc | apply pw_below_drewN | apply below_drew1) | exact HB.out))) : w.heap.size ≤ gb15101)); have n3_ := Aside0.mk ((by rw [hg]; exact (below_size (by repeat (first | (with_reducible first | exact HB.out | apply below_alloc | apply pw_below_drewN | apply below_drew1) | exact HB.out))) : w.heap.size ≤ gb15101)); clear HB; have HB := n0_; have BK15101 := n1_; have GW15101 := n2_; have GE15101 := n3_; clear n0_ n1_ n2_ n3_; clear hb hbox hg; have hcz6_0 : w5.cell? ⟨gb15101, 0, none⟩ = some (.int .i64 a0_0) := (blk_cell BK15101.out 0).trans rfl; have hcz6_1 : w5.cell? ⟨gb15101, 1, none⟩ = some (.int .i64 a0_1) := (blk_cell BK15101.out 1).trans rfl; have hcz6_2 : w5.cell? ⟨gb15101, 2, none⟩ = some (.slice A0_2 l0_2.length c0_2) := (blk_cell BK15101.out 2).trans rfl; have hfz6_0 := blk_frozen BK15101.out 0; have hfz6_1 := blk_frozen BK15101.out 1; have hfz6_2 := blk_frozen BK15101.out 2; have p15102 : 0 ≤ (a1 : Int) := of_decide_eq_true (by first | (with_reducible assumption) | assumption); have q15102 : a1 < (l0_2.length : Int) := of_decide_eq_true (by first | (with_reducible assumption) | assumption); obtain ⟨ad15102, A15102_2, c15102_2, e15102, hx15102_0, hx15102_1, hx15102_2, hx15102_3, hx15102_4, hx15102_5, hl15102_2, hi15102_2⟩ := at_T57 HR0_2.out a1 p15102 q15102; cases e15102; replace hx15102_0 := (HB.out.cell (World.block_lt_of_cell? w _ hx15102_0)).trans hx15102_0; replace hx15102_1 := (HB.out.cell (World.block_lt_of_cell? w _ hx15102_1)).trans hx15102_1; replace hx15102_2 := (HB.out.cell (World.block_lt_of_cell? w _ hx15102_2)).trans hx15102_2; replace hx15102_3 := (HB.out.cell (World.block_lt_of_cell? w _ hx15102_3)).trans hx15102_3; replace hx15102_4 := (HB.out.cell (World.block_lt_of_cell? w _ hx15102_4)).trans hx15102_4; replace hx15102_5 := (HB.out.cell (World.block_lt_of_cell? w _ hx15102_5)).trans hx15102_5; have HR15102_2 := Aside0.mk hi15102_2; have HC15102_2 := Aside0.mk hl15102_2; clear hi15102_2 hl15102_2; replace p15102 := eq_true p15102; replace q15102 := eq_true q15102))
   go_ret
   exact ⟨by first | rfl | (simp [errW_none, errW_some] <;> rfl) | (simp [*, errW_none, errW_some] <;> rfl), by repeat (first | (with_reducible first | exact HB.out | apply below_alloc | apply pw_below_drewN | apply below_drew1 | refine below_set ?_ GE15101.out) | exact HB.out)⟩
  ·rw [if_neg c4] at H
   exact absurd H (by simp)
 ·rw [if_neg c3] at H
  exact absurd H (by simp)
mutual
def phasorref19_cone.l0 : Nat → Bool → List Int → List Bool → Int → Int → Int → List (S57) → Option (List Int × Int)
 | 0, _, _, _, _, _, _, _ => none
 | k + 1, x2, x8, x9, x10, x16602000, x16602001, x16602002 => if x10 < (x16602002.length : Int) then (if x2 = true then (phasorref19_cone.j1 k x2 x8 x9 x10 (wrap64 ((wrap64 ((x16602002.length : Int) - 1)) - x10)) x16602000 x16602001 x16602002) else (phasorref19_cone.j1 k x2 x8 x9 x10 x10 x16602000 x16602001 x16602002)) else (phasorref19_cone.l1 k x9 ([] : List Int) 0)
def phasorref19_cone.j1 : Nat → Bool → List Int → List Bool → Int → Int → Int → Int → List (S57) → Option (List Int × Int)
 | 0, _, _, _, _, _, _, _, _ => none
 | k + 1, x2, x8, x9, x10, x11, x16602000, x16602001, x16602002 => if 0 ≤ x11 then (if x11 < (x16602002.length : Int) then ((phasorref19_wires.f ((rd_T57 x16602002 x11).f0) ((rd_T57 x16602002 x11).f1) ((rd_T57 x16602002 x11).f2) ((rd_T57 x16602002 x11).f3) ((rd_T57 x16602002 x11).f4) ((rd_T57 x16602002 x11).f5)).bind fun t16614 => ((phasorref19_bar.f x16602000 x16602001 x16602002 x11).bind fun t16617 => (if t16617 = true then (phasorref19_cone.l0 k x2 x8 x9 (wrap64 (x10 + 1)) x16602000 x16602001 x16602002) else ((phasorref19_meet.f k x8 t16614).bind fun t16618 => (if t16618 = true then (if x11 < (x9.length : Int) then (if x8.length + t16614.length < 17592186044416 then (phasorref19_cone.l0 k x2 (x8 ++ t16614) (x9.set (x11 : Int).toNat true) (wrap64 (x10 + 1)) x16602000 x16602001 x16602002) else (none)) else (none)) else (phasorref19_cone.l0 k x2 x8 x9 (wrap64 (x10 + 1)) x16602000 x16602001 x16602002)))))) else (none)) else (none)
def phasorref19_cone.l1 : Nat → List Bool → List Int → Int → Option (List Int × Int)
 | 0, _, _, _ => none
 | k + 1, x9, x13, x14 => if x14 < (x9.length : Int) then (if 0 ≤ x14 then (if rdOf false x9 x14 = true then (if x13.length < 17592186044416 then (phasorref19_cone.l1 k x9 (x13 ++ [x14]) (wrap64 (x14 + 1))) else (none)) else (phasorref19_cone.l1 k x9 x13 (wrap64 (x14 + 1)))) else (none)) else (some (x13, 0))
end
def phasorref19_cone.f (k : Nat) (a0_0 : Int) (a0_1 : Int) (l0_2 : List (S57)) (l1 : List Int) (a2 : Bool) : Option (List Int × Int) := (phasorref08_May.f k a0_0 a0_1 l0_2).bind fun t16602 => (if t16602 = true then ((phasorref07_Qubits.f k l1 a0_0).bind fun t16603 => (if t16603 = true then ((some (([] : List Int) : List Int)).bind fun y16604 => (if y16604.length + l1.length < 17592186044416 then (if 0 ≤ (l0_2.length : Int) then (if ((l0_2.length : Int) : Int).toNat ≤ 281474976710656 then (phasorref19_cone.l0 k a2 (y16604 ++ l1) (List.replicate ((l0_2.length : Int) : Int).toNat false) 0 a0_0 a0_1 l0_2) else (none)) else (none)) else (none))) else (some (([] : List Int), 190)))) else (some (([] : List Int), 80)))
set_option maxHeartbeats 8000000 in
set_option maxRecDepth 100000 in
theorem phasorref19_cone.calls (k : Nat) (a0_0 : Int) (a0_1 : Int) (A0_2 : Option Addr) (c0_2 : Nat) (l0_2 : List (S57)) (A1 : Option Addr) (c1 : Nat) (l1 : List Int) (a2 : Bool) (r1 : List Int) (r2 : Int) (w : World) (hr0_2 : Kd.C k57 w A0_2 l0_2.length l0_2) (hc0_2 : l0_2.length ≤ c0_2) (hr1 : Kd.C (Kd.int .i64) w A1 l1.length l1) (hc1 : l1.length ≤ c1) (h : phasorref19_cone.f k a0_0 a0_1 l0_2 l1 a2 = some (r1, r2)) :
  Calls Try.prog 33 #[.agg #[.int .i64 a0_0, .int .i64 a0_1, .slice A0_2 l0_2.length c0_2], .slice A1 l1.length c1, .bool a2] w fun e w' => ∃ v0_ : Value, e = .returned (.tuple #[v0_, .int .i64 r2]) ∧ Kd.R (Kd.int .i64) 3 w' w.heap.size (fun _ => True) v0_ r1 ∧ Below w.heap.size w w' := by
 have hu24 := Try.underlying24
 have hu57 := Try.underlying57
 have HR0_2 := Aside0.mk hr0_2
 have HC0_2 := Aside0.mk hc0_2
 clear hr0_2 hc0_2
 have HR1 := Aside0.mk hr1
 have HC1 := Aside0.mk hc1
 clear hr1 hc1
 have HB := Aside0.mk (Below.refl w.heap.size w)
 have H : ((phasorref08_May.f k a0_0 a0_1 l0_2).bind fun t16602 => (if t16602 = true then ((phasorref07_Qubits.f k l1 a0_0).bind fun t16603 => (if t16603 = true then ((some (([] : List Int) : List Int)).bind fun y16604 => (if y16604.length + l1.length < 17592186044416 then (if 0 ≤ (l0_2.length : Int) then (if ((l0_2.length : Int) : Int).toNat ≤ 281474976710656 then (phasorref19_cone.l0 k a2 (y16604 ++ l1) (List.replicate ((l0_2.length : Int) : Int).toNat false) 0 a0_0 a0_1 l0_2) else (none)) else (none)) else (none))) else (some (([] : List Int), 190)))) else (some (([] : List Int), 80)))) = some (r1, r2) := h
 clear h
 replace H := Option.bind_eq_some_iff.mp H
 obtain ⟨t16602, A40, H⟩ := H
 replace H : (if t16602 = true then ((phasorref07_Qubits.f k l1 a0_0).bind fun t16603 => (if t16603 = true then ((some (([] : List Int) : List Int)).bind fun y16604 => (if y16604.length + l1.length < 17592186044416 then (if 0 ≤ (l0_2.length : Int) then (if ((l0_2.length : Int) : Int).toNat ≤ 281474976710656 then (phasorref19_cone.l0 k a2 (y16604 ++ l1) (List.replicate ((l0_2.length : Int) : Int).toNat false) 0 a0_0 a0_1 l0_2) else (none)) else (none)) else (none))) else (some (([] : List Int), 190)))) else (some (([] : List Int), 80))) = some (r1, r2) := H
 have A4 := Aside0.mk A40
 clear A40
 by_cases c5 : t16602 = true
 ·subst c5
  have H1 : ((phasorref07_Qubits.f k l1 a0_0).bind fun t16603 => (if t16603 = true then ((some (([] : List Int) : List Int)).bind fun y16604 => (if y16604.length + l1.length < 17592186044416 then (if 0 ≤ (l0_2.length : Int) then (if ((l0_2.length : Int) : Int).toNat ≤ 281474976710656 then (phasorref19_cone.l0 k a2 (y16604 ++ l1) (List.replicate ((l0_2.length : Int) : Int).toNat false) 0 a0_0 a0_1 l0_2) else (none)) else (none)) else (none))) else (some (([] : List Int), 190)))) = some (r1, r2) := by rw [if_pos rfl] at H; exact H
  clear H
  have H := H1
  clear H1
  replace H := Option.bind_eq_some_iff.mp H
  obtain ⟨t16603, A60, H⟩ := H
  replace H : (if t16603 = true then ((some (([] : List Int) : List Int)).bind fun y16604 => (if y16604.length + l1.length < 17592186044416 then (if 0 ≤ (l0_2.length : Int) then (if ((l0_2.length : Int) : Int).toNat ≤ 281474976710656 then (phasorref19_cone.l0 k a2 (y16604 ++ l1) (List.replicate ((l0_2.length : Int) : Int).toNat false) 0 a0_0 a0_1 l0_2) else (none)) else (none)) else (none))) else (some (([] : List Int), 190))) = some (r1, r2) := H
  have A6 := Aside0.mk A60
  clear A60
  by_cases c7 : t16603 = true
  ·subst c7
   have H1 : ((some (([] : List Int) : List Int)).bind fun y16604 => (if y16604.length + l1.length < 17592186044416 then (if 0 ≤ (l0_2.length : Int) then (if ((l0_2.length : Int) : Int).toNat ≤ 281474976710656 then (phasorref19_cone.l0 k a2 (y16604 ++ l1) (List.replicate ((l0_2.length : Int) : Int).toNat false) 0 a0_0 a0_1 l0_2) else (none)) else (none)) else (none))) = some (r1, r2) := by rw [if_pos rfl] at H; exact H
   clear H
   have H := H1
   clear H1
   obtain ⟨y16604, hy16604⟩ : ∃ y_ : List Int, y_ = (([] : List Int)) := ⟨_, rfl⟩
   replace H : (if y16604.length + l1.length < 17592186044416 then (if 0 ≤ (l0_2.length : Int) then (if ((l0_2.length : Int) : Int).toNat ≤ 281474976710656 then (phasorref19_cone.l0 k a2 (y16604 ++ l1) (List.replicate ((l0_2.length : Int) : Int).toNat false) 0 a0_0 a0_1 l0_2) else (none)) else (none)) else (none)) = some (r1, r2) := by first | (rw [hy16604]; with_reducible exact H) | (have H2_ := (Option.bind_some _ _).symm.trans H; rw [hy16604]; with_reducible exact H2_) | (have H2_ := (Option.bind_some _ _).symm.trans H; with_reducible exact H2_) | with_reducible exact H | (rw [hy16604]; exact H) | exact H
   have Ny16604 := Aside0.mk hy16604
   clear hy16604
   by_cases c8 : y16604.length + l1.length < 17592186044416
   ·rw [if_pos c8] at H
    have LMc8 := Aside0.mk c8
    clear c8
    obtain ⟨y16607, hy16607⟩ : ∃ y_ : List Int, y_ = (y16604 ++ l1) := ⟨_, rfl⟩
    replace H : (if 0 ≤ (l0_2.length : Int) then (if ((l0_2.length : Int) : Int).toNat ≤ 281474976710656 then (phasorref19_cone.l0 k a2 y16607 (List.replicate ((l0_2.length : Int) : Int).toNat false) 0 a0_0 a0_1 l0_2) else (none)) else (none)) = some (r1, r2) := by first | (rw [hy16607]; with_reducible exact H) | (have H2_ := (Option.bind_some _ _).symm.trans H; rw [hy16607]; with_reducible exact H2_) | (have H2_ := (Option.bind_some _ _).symm.trans H; with_reducible exact H2_) | with_reducible exact H | (rw [hy16607]; exact H) | exact H
    have Ny16607 := Aside0.mk hy16607
    clear hy16607
    by_cases c9 : 0 ≤ (l0_2.length : Int)
    ·rw [if_pos c9] at H
     have c9b0 := eq_true c9
     have c9b1 : decide (0 ≤ (l0_2.length : Int)) = true := decide_eq_true c9
     clear c9
     by_cases c10 : ((l0_2.length : Int) : Int).toNat ≤ 281474976710656
     ·rw [if_pos c10] at H
      have c10b0 := eq_true c10
      have c10b1 : decide (((l0_2.length : Int) : Int).toNat ≤ 281474976710656) = true := decide_eq_true c10
      clear c10
      obtain ⟨y16610, hy16610⟩ : ∃ y_ : List Bool, y_ = (List.replicate ((l0_2.length : Int) : Int).toNat false) := ⟨_, rfl⟩
      replace H : (phasorref19_cone.l0 k a2 y16607 y16610 0 a0_0 a0_1 l0_2) = some (r1, r2) := by first | (rw [hy16610]; with_reducible exact H) | (have H2_ := (Option.bind_some _ _).symm.trans H; rw [hy16610]; with_reducible exact H2_) | (have H2_ := (Option.bind_some _ _).symm.trans H; with_reducible exact H2_) | with_reducible exact H | (rw [hy16610]; exact H) | exact H
      have Ny16610 := Aside0.mk hy16610
      clear hy16610
      have H' := Aside0.mk H
      clear H
      go_enter Try.func33, Try.ntmps33
      go_wp2_with (first | ((with_reducible refine gate_dst (N := 3) rfl ?_); refine box_event ?hg (N := 3) ?hd (cs := #[.int .i64 a0_0, .int .i64 a0_1, .slice A0_2 l0_2.length c0_2]) (t := 24) ?hr ?_; (case hd => rfl); (case hg => rfl); (case hr => first | (go_simp; done) | (go_simp; rfl)); intro gb16601 hg w11 hbox hb; have n0_ := Aside0.mk (below_step (by repeat (first | (with_reducible first | exact HB.out | apply below_alloc | apply pw_below_drewN | apply below_drew1) | exact HB.out)) hb); have n1_ := Aside0.mk (hbox); have n2_ := Aside0.mk ((by rw [hg]; exact (below_size (by repeat (first | (with_reducible first | exact HB.out | apply below_alloc | apply pw_below_drewN | apply below_drew1) | exact HB.out))) : w.heap.size ≤ gb16601)); have n3_ := Aside0.mk ((by rw [hg]; exact (below_size (by repeat (first | (with_reducible first | exact HB.out | apply below_alloc | apply pw_below_drewN | apply below_drew1) | exact HB.out))) : w.heap.size ≤ gb16601)); clear HB; have HB := n0_; have BK16601 := n1_; have GW16601 := n2_; have GE16601 := n3_; clear n0_ n1_ n2_ n3_; clear hb hbox hg; have hcz12_0 : w11.cell? ⟨gb16601, 0, none⟩ = some (.int .i64 a0_0) := (blk_cell BK16601.out 0).trans rfl; have hcz12_1 : w11.cell? ⟨gb16601, 1, none⟩ = some (.int .i64 a0_1) := (blk_cell BK16601.out 1).trans rfl; have hcz12_2 : w11.cell? ⟨gb16601, 2, none⟩ = some (.slice A0_2 l0_2.length c0_2) := (blk_cell BK16601.out 2).trans rfl; have hfz12_0 := blk_frozen BK16601.out 0; have hfz12_1 := blk_frozen BK16601.out 1; have hfz12_2 := blk_frozen BK16601.out 2) | ((with_reducible refine gate_callee (f := 28) rfl ?_); refine goesL_ (some 16) rfl rfl Try.func28 (by kernel_rfl) rfl #[.agg #[.int .i64 a0_0, .int .i64 a0_1, .slice A0_2 l0_2.length c0_2]] rfl (by (try simp only [List.map_toArray, List.map_cons, List.map_nil]); first | done | rfl | (simp only [List.length_drop, List.length_take]; rfl)) ?_; (with_reducible refine (phasorref08_May.calls k a0_0 a0_1 _ _ l0_2 true _ ?side1 ?side2 A4.out).mono ?_); (case side1 => repeat (first | exact (Kd.C_below HR0_2.out HB.out) | (with_reducible refine Kd.C_alloc ?_ _) | (with_reducible refine Kd.C_drewN ?_ _) | (with_reducible refine Kd.C_drew ?_))); (case side2 => exact HC0_2.out); rintro e w13 ⟨rfl, hb⟩; refine ⟨_, rfl, ?_⟩; have n0_ := Aside0.mk (blk_below (g := gb16601) (o := .cells #[.int .i64 a0_0, .int .i64 a0_1, .slice A0_2 l0_2.length c0_2] 24 (0, 0)) (by (with_reducible repeat (first | refine blk_drewN ?_ _ | refine blk_drew ?_ | refine blk_alloc ?_ _)); exact BK16601.out) hb); have n1_ := Aside0.mk (below_step (by repeat (first | (with_reducible first | exact HB.out | apply below_alloc | apply pw_below_drewN | apply below_drew1 | refine below_set ?_ GE16601.out) | exact HB.out)) hb); clear BK16601; clear HB; have BK16601 := n0_; have HB := n1_; clear n0_ n1_; (try clear hb); (try clear hb2); (try clear hk); (try clear hi); have hcz14_0 : w13.cell? ⟨gb16601, 0, none⟩ = some (.int .i64 a0_0) := (blk_cell BK16601.out 0).trans rfl; have hcz14_1 : w13.cell? ⟨gb16601, 1, none⟩ = some (.int .i64 a0_1) := (blk_cell BK16601.out 1).trans rfl; have hcz14_2 : w13.cell? ⟨gb16601, 2, none⟩ = some (.slice A0_2 l0_2.length c0_2) := (blk_cell BK16601.out 2).trans rfl; have hfz14_0 := blk_frozen BK16601.out 0; have hfz14_1 := blk_frozen BK16601.out 1; have hfz14_2 := blk_frozen BK16601.out 2) | ((with_reducible refine gate_callee (f := 50) rfl ?_); refine goesL_ (some 21) rfl rfl Try.func50 (by kernel_rfl) rfl #[.slice A1 l1.length c1, .int .i64 a0_0] rfl (by (try simp only [List.map_toArray, List.map_cons, List.map_nil]); first | done | rfl | (simp only [List.length_drop, List.length_take]; rfl)) ?_; (with_reducible refine (phasorref07_Qubits.calls k _ _ l1 a0_0 true _ ?side1 ?side2 A6.out).mono ?_); (case side1 => repeat (first | exact (Kd.C_below HR1.out HB.out) | (with_reducible refine Kd.C_alloc ?_ _) | (with_reducible refine Kd.C_drewN ?_ _) | (with_reducible refine Kd.C_drew ?_))); (case side2 => exact HC1.out); rintro e w' ⟨rfl, ⟨nd, rfl⟩⟩; refine ⟨_, rfl, ?_⟩) | ((with_reducible refine gate_dst (N := 23) rfl ?_); refine Kd.R_lit (Kd.int .i64) _ 3 ?hg (N := 23) ?hd (xs := ([] : List Int)) (inner := []) (ok := fun _ => True) (okp := fun _ => True) ?hr ?hp (fun _ hk => hk) trivial (Below.refl _ _) (Nat.le_refl _) (by simp) ?_; (case hd => rfl); (case hg => rfl); (case hr => first | (go_simp; done) | (go_simp; rfl)); (case hp => exact (Reps.none _ _)); intro v16605 w15 ho16 hb hg_ hnew_; clear hg_ hnew_; (first | rw [← Ny16604.out] at ho16 | (simp only [Int.reduceToNat] at ho16; rw [← Ny16604.out] at ho16)); have n0_ := Aside0.mk (Kd.R_lower ho16 (below_size (by repeat (first | (with_reducible first | exact HB.out | apply below_alloc | apply pw_below_drewN | apply below_drew1 | refine below_set ?_ GE16601.out) | exact HB.out)))); have n1_ := Aside0.mk (blk_below (g := gb16601) (o := .cells #[.int .i64 a0_0, .int .i64 a0_1, .slice A0_2 l0_2.length c0_2] 24 (0, 0)) (by (with_reducible repeat (first | refine blk_drewN ?_ _ | refine blk_drew ?_ | refine blk_alloc ?_ _)); exact BK16601.out) hb); have n2_ := Aside0.mk (below_step (by repeat (first | (with_reducible first | exact HB.out | apply below_alloc | apply pw_below_drewN | apply below_drew1 | refine below_set ?_ GE16601.out) | exact HB.out)) hb); clear BK16601; clear HB; have HO16606 := n0_; have BK16601 := n1_; have HB := n2_; clear n0_ n1_ n2_; clear hb ho16) | ((with_reducible refine gate_builtin (b := .append) (xs := #[.tmp 23, .tmp 24]) rfl ?_); at_builtin; refine Kd.R_append_rows (Kd.int .i64) (w0 := w) w.heap.size rfl (.tmp 23) (.tmp 24) 25 3 (.int .i64 0) 8 rfl Try.underlying25 info3 rfl (by decide) (by omega) v16605 y16604 l1 _ _ _ (fun _ => True) (fun _ => False) rfl rfl ?aO ?aR (fun _ _ h => h) (fun _ h => h.elim) ?aF ?aB ?aS ?aL ?_; (case aR => repeat (first | exact (Kd.C_below HR1.out HB.out) | (with_reducible refine Kd.C_alloc ?_ _) | (with_reducible refine Kd.C_drewN ?_ _) | (with_reducible refine Kd.C_drew ?_))); (case aB => exact (by repeat (first | (with_reducible first | exact HB.out | apply below_alloc | apply pw_below_drewN | apply below_drew1 | refine below_set ?_ GE16601.out) | exact HB.out))); (case aF => exact (fun _ _ => trivial)); (case aO => exact (by (with_reducible repeat (first | apply Kd.R_alloc | apply Kd.R_drewN | apply Kd.R_drew)); exact HO16606.out)); (case aS => exact (below_size (by repeat (first | (with_reducible first | exact HB.out | apply below_alloc | apply pw_below_drewN | apply below_drew1 | refine below_set ?_ GE16601.out) | exact HB.out)))); (case aL => have := LMc8.out; omega); intro v16608 w17 ho hb hg hat; rw [← Ny16607.out] at ho; have n0_ := Aside0.mk (blk_grown (g := gb16601) (o := .cells #[.int .i64 a0_0, .int .i64 a0_1, .slice A0_2 l0_2.length c0_2] 24 (0, 0)) (by (with_reducible repeat (first | refine blk_drewN ?_ _ | refine blk_drew ?_ | refine blk_alloc ?_ _)); exact BK16601.out) hg (Kd.R_ne HO16606.out BK16601.out (by decide))); have n1_ := Aside0.mk (hb); have n2_ := Aside0.mk (ho); clear BK16601; clear HB; clear HO16606; have BK16601 := n0_; have HB := n1_; have HO16609 := n2_; clear n0_ n1_ n2_; clear ho hb hg hat; have hcz18_0 : w17.cell? ⟨gb16601, 0, none⟩ = some (.int .i64 a0_0) := (blk_cell BK16601.out 0).trans rfl; have hcz18_1 : w17.cell? ⟨gb16601, 1, none⟩ = some (.int .i64 a0_1) := (blk_cell BK16601.out 1).trans rfl; have hcz18_2 : w17.cell? ⟨gb16601, 2, none⟩ = some (.slice A0_2 l0_2.length c0_2) := (blk_cell BK16601.out 2).trans rfl; have hfz18_0 := blk_frozen BK16601.out 0; have hfz18_1 := blk_frozen BK16601.out 1; have hfz18_2 := blk_frozen BK16601.out 2) | ((with_reducible refine gate_dst (N := 29) rfl ?_); refine Kd.R_make Kd.bool _ 4 rfl (N := 29) rfl 80 _ _ rfl (l0_2.length : Int) rfl rfl Try.underlying80 (.bool false) 1 info4 rfl (by decide) (by omega) false (ok := fun _ => True) (okp := fun _ => True) rfl (fun _ hk => hk) trivial (of_decide_eq_true (by first | (with_reducible assumption) | assumption)) (Nat.le_trans (Nat.mul_le_mul_right _ (of_decide_eq_true (by first | (with_reducible assumption) | assumption) : (l0_2.length : Int).toNat ≤ 281474976710656)) (by omega)) (Below.refl _ _) (Nat.le_refl _) ?_; intro v16611 w19 ho20 hb hg_ hnew_; clear hg_ hnew_; (first | rw [← Ny16610.out] at ho20 | (simp only [Int.reduceToNat] at ho20; rw [← Ny16610.out] at ho20)); have n0_ := Aside0.mk (Kd.R_below (by (with_reducible repeat (first | apply Kd.R_alloc | apply Kd.R_drewN | apply Kd.R_drew)); exact HO16609.out) hb); have n1_ := Aside0.mk (Kd.R_lower ho20 (below_size (by repeat (first | (with_reducible first | exact HB.out | apply below_alloc | apply pw_below_drewN | apply below_drew1 | refine below_set ?_ GE16601.out) | exact HB.out)))); have n2_ := Aside0.mk (blk_below (g := gb16601) (o := .cells #[.int .i64 a0_0, .int .i64 a0_1, .slice A0_2 l0_2.length c0_2] 24 (0, 0)) (by (with_reducible repeat (first | refine blk_drewN ?_ _ | refine blk_drew ?_ | refine blk_alloc ?_ _)); exact BK16601.out) hb); have n3_ := Aside0.mk (below_step (by repeat (first | (with_reducible first | exact HB.out | apply below_alloc | apply pw_below_drewN | apply below_drew1 | refine below_set ?_ GE16601.out) | exact HB.out)) hb); clear HO16609; clear BK16601; clear HB; have HO16609 := n0_; have HO16612 := n1_; have BK16601 := n2_; have HB := n3_; clear n0_ n1_ n2_ n3_; clear hb ho20))
      go_loopg [8, 10] k (fun kq v8 v10 w' => ∃ (x8_1 : List Int) (x9_1 : List Bool) (x10_1 : Int), v10 = .int .i64 x10_1 ∧ Aside0 (phasorref19_cone.l0 kq a2 x8_1 x9_1 x10_1 a0_0 a0_1 l0_2 = some (r1, r2)) ∧ Aside0 (kq ≤ k) ∧ Aside0 (Kd.R (Kd.int .i64) 3 w' w.heap.size (fun _ => True) v8 x8_1) ∧ Aside0 (Kd.R Kd.bool 4 w' w.heap.size (fun _ => True) v16611 x9_1) ∧ Aside0 (w'.heap[gb16601]? = some (.cells #[.int .i64 a0_0, .int .i64 a0_1, (.slice A0_2 l0_2.length c0_2)] 24 (0, 0))) ∧ Aside0 (Below w.heap.size w w'))
      case atStart => exact ⟨(y16607), (y16610), (0), (by first | rfl | (simp; done) | (simp [*]; done)), H', ⟨Nat.le_refl _⟩, ⟨by (with_reducible repeat (first | apply Kd.R_alloc | apply Kd.R_drewN | apply Kd.R_drew)); exact HO16609.out⟩, ⟨by (with_reducible repeat (first | apply Kd.R_alloc | apply Kd.R_drewN | apply Kd.R_drew)); exact HO16612.out⟩, ⟨by (with_reducible repeat (first | refine blk_drewN ?_ _ | refine blk_drew ?_ | refine blk_alloc ?_ _)); exact BK16601.out⟩, ⟨by repeat (first | (with_reducible first | exact HB.out | apply below_alloc | apply pw_below_drewN | apply below_drew1 | refine below_set ?_ GE16601.out) | exact HB.out)⟩⟩
      case round =>
       clear H'
       try clear c1
       try clear c2
       try clear p2
       try clear c3
       try clear c5
       try clear c7
       try clear c8
       try clear c9
       try clear c9b0
       try clear c9b1
       try clear c10
       try clear c10b0
       try clear c10b1
       try clear hcz12_0
       try clear hcz12_1
       try clear hcz12_2
       try clear hcz14_0
       try clear hcz14_1
       try clear hcz14_2
       try clear hcz18_0
       try clear hcz18_1
       try clear hcz18_2
       try clear hfz12_0
       try clear hfz12_1
       try clear hfz12_2
       try clear hfz14_0
       try clear hfz14_1
       try clear hfz14_2
       try clear hfz18_0
       try clear hfz18_1
       try clear hfz18_2
       obtain ⟨x8_1, x9_1, x10_1, rfl, HA, HK1, HO_8, HO_9, BK16601, HB⟩ := hrel
       cases gk with
       | zero => exact absurd HA.out (by simp [phasorref19_cone.l0])
       | succ k1 =>
        have H := HA.out
        clear HA
        simp only [phasorref19_cone.l0] at H
        by_cases c21 : x10_1 < (l0_2.length : Int)
        ·rw [if_pos c21] at H
         have c21b0 : decide (x10_1 < (l0_2.length : Int)) = true := decide_eq_true c21
         clear c21
         have HC22 := Aside0.mk H
         clear H
         have hcz23_0 : wr.cell? ⟨gb16601, 0, none⟩ = some (.int .i64 a0_0) := (blk_cell BK16601.out 0).trans rfl
         have hcz23_1 : wr.cell? ⟨gb16601, 1, none⟩ = some (.int .i64 a0_1) := (blk_cell BK16601.out 1).trans rfl
         have hcz23_2 : wr.cell? ⟨gb16601, 2, none⟩ = some (.slice A0_2 l0_2.length c0_2) := (blk_cell BK16601.out 2).trans rfl
         have hfz23_0 := blk_frozen BK16601.out 0
         have hfz23_1 := blk_frozen BK16601.out 1
         have hfz23_2 := blk_frozen BK16601.out 2
         go_upto_if 38 with (fail)
         go_cut [11] (fun v11 wc => ∃ (kq : Nat) (x11_21 : Int), v11 = .int .i64 x11_21 ∧ Aside0 (phasorref19_cone.j1 kq a2 x8_1 x9_1 x10_1 x11_21 a0_0 a0_1 l0_2 = some (r1, r2)) ∧ Aside0 (kq ≤ k1) ∧ Aside0 (Kd.R (Kd.int .i64) 3 wc w.heap.size (fun _ => True) u8 x8_1) ∧ Aside0 (Kd.R Kd.bool 4 wc w.heap.size (fun _ => True) v16611 x9_1) ∧ Aside0 (wc.heap[gb16601]? = some (.cells #[.int .i64 a0_0, .int .i64 a0_1, (.slice A0_2 l0_2.length c0_2)] 24 (0, 0))) ∧ Aside0 (Below w.heap.size w wc))
         case first =>
          have H := HC22.out
          clear HC22
          by_cases c24 : a2 = true
          ·subst c24
           have H1 : (phasorref19_cone.j1 k1 true x8_1 x9_1 x10_1 (wrap64 ((wrap64 ((l0_2.length : Int) - 1)) - x10_1)) a0_0 a0_1 l0_2) = some (r1, r2) := by rw [if_pos rfl] at H; exact H
           clear H
           have H := H1
           clear H1
           have H' := Aside0.mk H
           clear H
           have hcz25_0 : wr.cell? ⟨gb16601, 0, none⟩ = some (.int .i64 a0_0) := (blk_cell BK16601.out 0).trans rfl
           have hcz25_1 : wr.cell? ⟨gb16601, 1, none⟩ = some (.int .i64 a0_1) := (blk_cell BK16601.out 1).trans rfl
           have hcz25_2 : wr.cell? ⟨gb16601, 2, none⟩ = some (.slice A0_2 l0_2.length c0_2) := (blk_cell BK16601.out 2).trans rfl
           have hfz25_0 := blk_frozen BK16601.out 0
           have hfz25_1 := blk_frozen BK16601.out 1
           have hfz25_2 := blk_frozen BK16601.out 2
           go_wp2
           go_meet
           case rel => exact ⟨_, (wrap64 ((wrap64 ((l0_2.length : Int) - 1)) - x10_1)), (by first | rfl | (simp; done) | (simp [*]; done)), H', ⟨by have := HK1.out; first | omega | exact Nat.le_refl _⟩, ⟨by (with_reducible repeat (first | apply Kd.R_alloc | apply Kd.R_drewN | apply Kd.R_drew)); exact HO_8.out⟩, ⟨by (with_reducible repeat (first | apply Kd.R_alloc | apply Kd.R_drewN | apply Kd.R_drew)); exact HO_9.out⟩, ⟨by (with_reducible repeat (first | refine blk_drewN ?_ _ | refine blk_drew ?_ | refine blk_alloc ?_ _)); exact BK16601.out⟩, ⟨by repeat (first | (with_reducible first | exact HB.out | apply below_alloc | apply pw_below_drewN | apply below_drew1 | refine below_set ?_ GE16601.out) | exact HB.out)⟩⟩
          ·replace c24 := Bool.eq_false_iff.mpr c24
           subst c24
           have H1 : (phasorref19_cone.j1 k1 false x8_1 x9_1 x10_1 x10_1 a0_0 a0_1 l0_2) = some (r1, r2) := by rw [if_neg (show ¬ (false = true) by decide)] at H; exact H
           clear H
           have H := H1
           clear H1
           have H' := Aside0.mk H
           clear H
           go_wp2
           go_meet
           case rel => exact ⟨_, (x10_1), (by first | rfl | (simp; done) | (simp [*]; done)), H', ⟨by have := HK1.out; first | omega | exact Nat.le_refl _⟩, ⟨by (with_reducible repeat (first | apply Kd.R_alloc | apply Kd.R_drewN | apply Kd.R_drew)); exact HO_8.out⟩, ⟨by (with_reducible repeat (first | apply Kd.R_alloc | apply Kd.R_drewN | apply Kd.R_drew)); exact HO_9.out⟩, ⟨by (with_reducible repeat (first | refine blk_drewN ?_ _ | refine blk_drew ?_ | refine blk_alloc ?_ _)); exact BK16601.out⟩, ⟨by repeat (first | (with_reducible first | exact HB.out | apply below_alloc | apply pw_below_drewN | apply below_drew1 | refine below_set ?_ GE16601.out) | exact HB.out)⟩⟩
         case rest =>
          clear HC22
          try clear c1
          try clear c2
          try clear p2
          try clear c3
          try clear c5
          try clear p6
          try clear c7
          try clear c8
          try clear c9
          try clear c9b0
          try clear c9b1
          try clear c10
          try clear c10b0
          try clear c10b1
          try clear c21
          try clear c21b0
          try clear c24
          try clear hcz12_0
          try clear hcz12_1
          try clear hcz12_2
          try clear hcz14_0
          try clear hcz14_1
          try clear hcz14_2
          try clear hcz18_0
          try clear hcz18_1
          try clear hcz18_2
          try clear hcz23_0
          try clear hcz23_1
          try clear hcz23_2
          try clear hcz25_0
          try clear hcz25_1
          try clear hcz25_2
          try clear hfz12_0
          try clear hfz12_1
          try clear hfz12_2
          try clear hfz14_0
          try clear hfz14_1
          try clear hfz14_2
          try clear hfz18_0
          try clear hfz18_1
          try clear hfz18_2
          try clear hfz23_0
          try clear hfz23_1
          try clear hfz23_2
          try clear hfz25_0
          try clear hfz25_1
          try clear hfz25_2
          try clear p2
          obtain ⟨kq, x11_21, rfl, HA, HJ21, HO_8, HO_9, BK16601, HB⟩ := hcut
          cases kq with
          | zero => exact absurd HA.out (by simp [phasorref19_cone.j1])
          | succ kj21 =>
           have H := HA.out
           clear HA
           simp only [phasorref19_cone.j1] at H
           by_cases c26 : 0 ≤ x11_21
           ·rw [if_pos c26] at H
            have c26b0 : decide (0 ≤ x11_21) = true := decide_eq_true c26
            clear c26
            by_cases c27 : x11_21 < (l0_2.length : Int)
            ·rw [if_pos c27] at H
             have c27b0 : decide (x11_21 < (l0_2.length : Int)) = true := decide_eq_true c27
             clear c27
             replace H := Option.bind_eq_some_iff.mp H
             obtain ⟨t16614, A280, H⟩ := H
             replace H : ((phasorref19_bar.f a0_0 a0_1 l0_2 x11_21).bind fun t16617 => (if t16617 = true then (phasorref19_cone.l0 kj21 a2 x8_1 x9_1 (wrap64 (x10_1 + 1)) a0_0 a0_1 l0_2) else ((phasorref19_meet.f kj21 x8_1 t16614).bind fun t16618 => (if t16618 = true then (if x11_21 < (x9_1.length : Int) then (if x8_1.length + t16614.length < 17592186044416 then (phasorref19_cone.l0 kj21 a2 (x8_1 ++ t16614) (x9_1.set (x11_21 : Int).toNat true) (wrap64 (x10_1 + 1)) a0_0 a0_1 l0_2) else (none)) else (none)) else (phasorref19_cone.l0 kj21 a2 x8_1 x9_1 (wrap64 (x10_1 + 1)) a0_0 a0_1 l0_2))))) = some (r1, r2) := H
             have A28 := Aside0.mk A280
             clear A280
             replace H := Option.bind_eq_some_iff.mp H
             obtain ⟨t16617, A290, H⟩ := H
             replace H : (if t16617 = true then (phasorref19_cone.l0 kj21 a2 x8_1 x9_1 (wrap64 (x10_1 + 1)) a0_0 a0_1 l0_2) else ((phasorref19_meet.f kj21 x8_1 t16614).bind fun t16618 => (if t16618 = true then (if x11_21 < (x9_1.length : Int) then (if x8_1.length + t16614.length < 17592186044416 then (phasorref19_cone.l0 kj21 a2 (x8_1 ++ t16614) (x9_1.set (x11_21 : Int).toNat true) (wrap64 (x10_1 + 1)) a0_0 a0_1 l0_2) else (none)) else (none)) else (phasorref19_cone.l0 kj21 a2 x8_1 x9_1 (wrap64 (x10_1 + 1)) a0_0 a0_1 l0_2)))) = some (r1, r2) := H
             have A29 := Aside0.mk A290
             clear A290
             by_cases c30 : t16617 = true
             ·subst c30
              have H1 : (phasorref19_cone.l0 kj21 a2 x8_1 x9_1 (wrap64 (x10_1 + 1)) a0_0 a0_1 l0_2) = some (r1, r2) := by rw [if_pos rfl] at H; exact H
              clear H
              have H := H1
              clear H1
              have H' := Aside0.mk H
              clear H
              have hcz31_0 : wc.cell? ⟨gb16601, 0, none⟩ = some (.int .i64 a0_0) := (blk_cell BK16601.out 0).trans rfl
              have hcz31_1 : wc.cell? ⟨gb16601, 1, none⟩ = some (.int .i64 a0_1) := (blk_cell BK16601.out 1).trans rfl
              have hcz31_2 : wc.cell? ⟨gb16601, 2, none⟩ = some (.slice A0_2 l0_2.length c0_2) := (blk_cell BK16601.out 2).trans rfl
              have hfz31_0 := blk_frozen BK16601.out 0
              have hfz31_1 := blk_frozen BK16601.out 1
              have hfz31_2 := blk_frozen BK16601.out 2
              have p16613 : 0 ≤ (x11_21 : Int) := of_decide_eq_true (by first | (with_reducible assumption) | assumption)
              have q16613 : x11_21 < (l0_2.length : Int) := of_decide_eq_true (by first | (with_reducible assumption) | assumption)
              obtain ⟨ad16613, A16613_2, c16613_2, e16613, hx16613_0, hx16613_1, hx16613_2, hx16613_3, hx16613_4, hx16613_5, hl16613_2, hi16613_2⟩ := at_T57 HR0_2.out x11_21 p16613 q16613
              cases e16613
              replace hx16613_0 := (HB.out.cell (World.block_lt_of_cell? w _ hx16613_0)).trans hx16613_0
              replace hx16613_1 := (HB.out.cell (World.block_lt_of_cell? w _ hx16613_1)).trans hx16613_1
              replace hx16613_2 := (HB.out.cell (World.block_lt_of_cell? w _ hx16613_2)).trans hx16613_2
              replace hx16613_3 := (HB.out.cell (World.block_lt_of_cell? w _ hx16613_3)).trans hx16613_3
              replace hx16613_4 := (HB.out.cell (World.block_lt_of_cell? w _ hx16613_4)).trans hx16613_4
              replace hx16613_5 := (HB.out.cell (World.block_lt_of_cell? w _ hx16613_5)).trans hx16613_5
              have HR16613_2 := Aside0.mk hi16613_2
              have HC16613_2 := Aside0.mk hl16613_2
              clear hi16613_2 hl16613_2
              replace p16613 := eq_true p16613
              replace q16613 := eq_true q16613
              go_wp2_with (first | ((with_reducible refine gate_callee (f := 45) rfl ?_); refine goesL_ (some 50) rfl rfl Try.func45 (by kernel_rfl) rfl #[.agg #[.int .i64 ((rd_T57 l0_2 x11_21).f0), .int .i64 ((rd_T57 l0_2 x11_21).f1), .slice A16613_2 ((rd_T57 l0_2 x11_21).f2).length c16613_2, .int .i64 ((rd_T57 l0_2 x11_21).f3), .int .i64 ((rd_T57 l0_2 x11_21).f4), .int .i64 ((rd_T57 l0_2 x11_21).f5)]] rfl (by (try simp only [List.map_toArray, List.map_cons, List.map_nil]); first | done | rfl | (simp only [List.length_drop, List.length_take]; rfl)) ?_; (with_reducible refine (phasorref19_wires.calls ((rd_T57 l0_2 x11_21).f0) ((rd_T57 l0_2 x11_21).f1) _ _ ((rd_T57 l0_2 x11_21).f2) ((rd_T57 l0_2 x11_21).f3) ((rd_T57 l0_2 x11_21).f4) ((rd_T57 l0_2 x11_21).f5) t16614 _ ?side1 ?side2 A28.out).mono ?_); (case side1 => repeat (first | exact (Kd.C_below HR16613_2.out HB.out) | (with_reducible refine Kd.C_alloc ?_ _) | (with_reducible refine Kd.C_drewN ?_ _) | (with_reducible refine Kd.C_drew ?_))); (case side2 => exact HC16613_2.out); rintro e w32 ⟨v16615, rfl, ho0, hb⟩; refine ⟨_, rfl, ?_⟩; have n0_ := Aside0.mk (Kd.R_elder' (by (with_reducible repeat (first | apply Kd.R_alloc | apply Kd.R_drewN | apply Kd.R_drew)); exact HO_8.out) (Kd.R_base ho0) hb); have n1_ := Aside0.mk (Kd.R_below (by (with_reducible repeat (first | apply Kd.R_alloc | apply Kd.R_drewN | apply Kd.R_drew)); exact HO_9.out) hb); have n2_ := Aside0.mk (Kd.R_lower (Kd.R_new' ho0 (Kd.R_lt (by (with_reducible repeat (first | apply Kd.R_alloc | apply Kd.R_drewN | apply Kd.R_drew)); exact HO_8.out))) (below_size (by repeat (first | (with_reducible first | exact HB.out | apply below_alloc | apply pw_below_drewN | apply below_drew1 | refine below_set ?_ GE16601.out) | exact HB.out)))); have n3_ := Aside0.mk (blk_below (g := gb16601) (o := .cells #[.int .i64 a0_0, .int .i64 a0_1, .slice (some ad16613) l0_2.length c0_2] 24 (0, 0)) (by (with_reducible repeat (first | refine blk_drewN ?_ _ | refine blk_drew ?_ | refine blk_alloc ?_ _)); exact BK16601.out) hb); have n4_ := Aside0.mk (below_step (by repeat (first | (with_reducible first | exact HB.out | apply below_alloc | apply pw_below_drewN | apply below_drew1 | refine below_set ?_ GE16601.out) | exact HB.out)) hb); clear HO_8; clear HO_9; clear BK16601; clear HB; have HO_8 := n0_; have HO_9 := n1_; have HO16616 := n2_; have BK16601 := n3_; have HB := n4_; clear n0_ n1_ n2_ n3_ n4_; (try clear hb); (try clear hb2); (try clear hk); (try clear hi); (try clear ho0); have hcz33_0 : w32.cell? ⟨gb16601, 0, none⟩ = some (.int .i64 a0_0) := (blk_cell BK16601.out 0).trans rfl; have hcz33_1 : w32.cell? ⟨gb16601, 1, none⟩ = some (.int .i64 a0_1) := (blk_cell BK16601.out 1).trans rfl; have hcz33_2 : w32.cell? ⟨gb16601, 2, none⟩ = some (.slice (some ad16613) l0_2.length c0_2) := (blk_cell BK16601.out 2).trans rfl; have hfz33_0 := blk_frozen BK16601.out 0; have hfz33_1 := blk_frozen BK16601.out 1; have hfz33_2 := blk_frozen BK16601.out 2) | ((with_reducible refine gate_callee (f := 30) rfl ?_); refine goesL_ (some 53) rfl rfl Try.func30 (by kernel_rfl) rfl #[.agg #[.int .i64 a0_0, .int .i64 a0_1, .slice (some ad16613) l0_2.length c0_2], .int .i64 x11_21] rfl (by (try simp only [List.map_toArray, List.map_cons, List.map_nil]); first | done | rfl | (simp only [List.length_drop, List.length_take]; rfl)) ?_; (with_reducible refine (phasorref19_bar.calls a0_0 a0_1 _ _ l0_2 x11_21 true _ ?side1 ?side2 A29.out).mono ?_); (case side1 => repeat (first | exact (Kd.C_below HR0_2.out HB.out) | (with_reducible refine Kd.C_alloc ?_ _) | (with_reducible refine Kd.C_drewN ?_ _) | (with_reducible refine Kd.C_drew ?_))); (case side2 => exact HC0_2.out); rintro e w34 ⟨rfl, hb⟩; refine ⟨_, rfl, ?_⟩; have n0_ := Aside0.mk (Kd.R_below (by (with_reducible repeat (first | apply Kd.R_alloc | apply Kd.R_drewN | apply Kd.R_drew)); exact HO_8.out) hb); have n1_ := Aside0.mk (Kd.R_below (by (with_reducible repeat (first | apply Kd.R_alloc | apply Kd.R_drewN | apply Kd.R_drew)); exact HO_9.out) hb); have n2_ := Aside0.mk (Kd.R_below (by (with_reducible repeat (first | apply Kd.R_alloc | apply Kd.R_drewN | apply Kd.R_drew)); exact HO16616.out) hb); have n3_ := Aside0.mk (blk_below (g := gb16601) (o := .cells #[.int .i64 a0_0, .int .i64 a0_1, .slice (some ad16613) l0_2.length c0_2] 24 (0, 0)) (by (with_reducible repeat (first | refine blk_drewN ?_ _ | refine blk_drew ?_ | refine blk_alloc ?_ _)); exact BK16601.out) hb); have n4_ := Aside0.mk (below_step (by repeat (first | (with_reducible first | exact HB.out | apply below_alloc | apply pw_below_drewN | apply below_drew1 | refine below_set ?_ GE16601.out) | exact HB.out)) hb); clear HO_8; clear HO_9; clear HO16616; clear BK16601; clear HB; have HO_8 := n0_; have HO_9 := n1_; have HO16616 := n2_; have BK16601 := n3_; have HB := n4_; clear n0_ n1_ n2_ n3_ n4_; (try clear hb); (try clear hb2); (try clear hk); (try clear hi)))
              go_roundg kj21
              case measure => have := HK1.out; have := HJ21.out; omega
              case rel => exact ⟨(x8_1), (x9_1), (wrap64 (x10_1 + 1)), (by first | rfl | (simp; done) | (simp [*]; done)), H', ⟨by have := HK1.out; have := HJ21.out; omega⟩, ⟨by (with_reducible repeat (first | apply Kd.R_alloc | apply Kd.R_drewN | apply Kd.R_drew)); exact Kd.R_mono HO_8.out (fun _ hk => trivial)⟩, ⟨by (with_reducible repeat (first | apply Kd.R_alloc | apply Kd.R_drewN | apply Kd.R_drew)); exact HO_9.out⟩, ⟨by (with_reducible repeat (first | refine blk_drewN ?_ _ | refine blk_drew ?_ | refine blk_alloc ?_ _)); exact BK16601.out⟩, ⟨by repeat (first | (with_reducible first | exact HB.out | apply below_alloc | apply pw_below_drewN | apply below_drew1 | refine below_set ?_ GE16601.out) | exact HB.out)⟩⟩
             ·replace c30 := Bool.eq_false_iff.mpr c30
              subst c30
              have H1 : ((phasorref19_meet.f kj21 x8_1 t16614).bind fun t16618 => (if t16618 = true then (if x11_21 < (x9_1.length : Int) then (if x8_1.length + t16614.length < 17592186044416 then (phasorref19_cone.l0 kj21 a2 (x8_1 ++ t16614) (x9_1.set (x11_21 : Int).toNat true) (wrap64 (x10_1 + 1)) a0_0 a0_1 l0_2) else (none)) else (none)) else (phasorref19_cone.l0 kj21 a2 x8_1 x9_1 (wrap64 (x10_1 + 1)) a0_0 a0_1 l0_2))) = some (r1, r2) := by rw [if_neg (show ¬ (false = true) by decide)] at H; exact H
              clear H
              have H := H1
              clear H1
              replace H := Option.bind_eq_some_iff.mp H
              obtain ⟨t16618, A350, H⟩ := H
              replace H : (if t16618 = true then (if x11_21 < (x9_1.length : Int) then (if x8_1.length + t16614.length < 17592186044416 then (phasorref19_cone.l0 kj21 a2 (x8_1 ++ t16614) (x9_1.set (x11_21 : Int).toNat true) (wrap64 (x10_1 + 1)) a0_0 a0_1 l0_2) else (none)) else (none)) else (phasorref19_cone.l0 kj21 a2 x8_1 x9_1 (wrap64 (x10_1 + 1)) a0_0 a0_1 l0_2)) = some (r1, r2) := H
              have A35 := Aside0.mk A350
              clear A350
              by_cases c36 : t16618 = true
              ·subst c36
               have H1 : (if x11_21 < (x9_1.length : Int) then (if x8_1.length + t16614.length < 17592186044416 then (phasorref19_cone.l0 kj21 a2 (x8_1 ++ t16614) (x9_1.set (x11_21 : Int).toNat true) (wrap64 (x10_1 + 1)) a0_0 a0_1 l0_2) else (none)) else (none)) = some (r1, r2) := by rw [if_pos rfl] at H; exact H
               clear H
               have H := H1
               clear H1
               by_cases c37 : x11_21 < (x9_1.length : Int)
               ·rw [if_pos c37] at H
                have c37b0 : decide (x11_21 < (x9_1.length : Int)) = true := decide_eq_true c37
                clear c37
                obtain ⟨y16619, hy16619⟩ : ∃ y_ : List Bool, y_ = (x9_1.set (x11_21 : Int).toNat true) := ⟨_, rfl⟩
                replace H : (if x8_1.length + t16614.length < 17592186044416 then (phasorref19_cone.l0 kj21 a2 (x8_1 ++ t16614) y16619 (wrap64 (x10_1 + 1)) a0_0 a0_1 l0_2) else (none)) = some (r1, r2) := by first | (rw [hy16619]; with_reducible exact H) | (have H2_ := (Option.bind_some _ _).symm.trans H; rw [hy16619]; with_reducible exact H2_) | (have H2_ := (Option.bind_some _ _).symm.trans H; with_reducible exact H2_) | with_reducible exact H | (rw [hy16619]; exact H) | exact H
                have Ny16619 := Aside0.mk hy16619
                clear hy16619
                by_cases c39 : x8_1.length + t16614.length < 17592186044416
                ·rw [if_pos c39] at H
                 have LMc39 := Aside0.mk c39
                 clear c39
                 obtain ⟨y16620, hy16620⟩ : ∃ y_ : List Int, y_ = (x8_1 ++ t16614) := ⟨_, rfl⟩
                 replace H : (phasorref19_cone.l0 kj21 a2 y16620 y16619 (wrap64 (x10_1 + 1)) a0_0 a0_1 l0_2) = some (r1, r2) := by first | (rw [hy16620]; with_reducible exact H) | (have H2_ := (Option.bind_some _ _).symm.trans H; rw [hy16620]; with_reducible exact H2_) | (have H2_ := (Option.bind_some _ _).symm.trans H; with_reducible exact H2_) | with_reducible exact H | (rw [hy16620]; exact H) | exact H
                 have Ny16620 := Aside0.mk hy16620
                 clear hy16620
                 have H' := Aside0.mk H
                 clear H
                 have hcz40_0 : wc.cell? ⟨gb16601, 0, none⟩ = some (.int .i64 a0_0) := (blk_cell BK16601.out 0).trans rfl
                 have hcz40_1 : wc.cell? ⟨gb16601, 1, none⟩ = some (.int .i64 a0_1) := (blk_cell BK16601.out 1).trans rfl
                 have hcz40_2 : wc.cell? ⟨gb16601, 2, none⟩ = some (.slice A0_2 l0_2.length c0_2) := (blk_cell BK16601.out 2).trans rfl
                 have hfz40_0 := blk_frozen BK16601.out 0
                 have hfz40_1 := blk_frozen BK16601.out 1
                 have hfz40_2 := blk_frozen BK16601.out 2
                 have p16613 : 0 ≤ (x11_21 : Int) := of_decide_eq_true (by first | (with_reducible assumption) | assumption)
                 have q16613 : x11_21 < (l0_2.length : Int) := of_decide_eq_true (by first | (with_reducible assumption) | assumption)
                 obtain ⟨ad16613, A16613_2, c16613_2, e16613, hx16613_0, hx16613_1, hx16613_2, hx16613_3, hx16613_4, hx16613_5, hl16613_2, hi16613_2⟩ := at_T57 HR0_2.out x11_21 p16613 q16613
                 cases e16613
                 replace hx16613_0 := (HB.out.cell (World.block_lt_of_cell? w _ hx16613_0)).trans hx16613_0
                 replace hx16613_1 := (HB.out.cell (World.block_lt_of_cell? w _ hx16613_1)).trans hx16613_1
                 replace hx16613_2 := (HB.out.cell (World.block_lt_of_cell? w _ hx16613_2)).trans hx16613_2
                 replace hx16613_3 := (HB.out.cell (World.block_lt_of_cell? w _ hx16613_3)).trans hx16613_3
                 replace hx16613_4 := (HB.out.cell (World.block_lt_of_cell? w _ hx16613_4)).trans hx16613_4
                 replace hx16613_5 := (HB.out.cell (World.block_lt_of_cell? w _ hx16613_5)).trans hx16613_5
                 have HR16613_2 := Aside0.mk hi16613_2
                 have HC16613_2 := Aside0.mk hl16613_2
                 clear hi16613_2 hl16613_2
                 replace p16613 := eq_true p16613
                 replace q16613 := eq_true q16613
                 go_wp2_with (first | ((with_reducible refine gate_callee (f := 45) rfl ?_); refine goesL_ (some 50) rfl rfl Try.func45 (by kernel_rfl) rfl #[.agg #[.int .i64 ((rd_T57 l0_2 x11_21).f0), .int .i64 ((rd_T57 l0_2 x11_21).f1), .slice A16613_2 ((rd_T57 l0_2 x11_21).f2).length c16613_2, .int .i64 ((rd_T57 l0_2 x11_21).f3), .int .i64 ((rd_T57 l0_2 x11_21).f4), .int .i64 ((rd_T57 l0_2 x11_21).f5)]] rfl (by (try simp only [List.map_toArray, List.map_cons, List.map_nil]); first | done | rfl | (simp only [List.length_drop, List.length_take]; rfl)) ?_; (with_reducible refine (phasorref19_wires.calls ((rd_T57 l0_2 x11_21).f0) ((rd_T57 l0_2 x11_21).f1) _ _ ((rd_T57 l0_2 x11_21).f2) ((rd_T57 l0_2 x11_21).f3) ((rd_T57 l0_2 x11_21).f4) ((rd_T57 l0_2 x11_21).f5) t16614 _ ?side1 ?side2 A28.out).mono ?_); (case side1 => repeat (first | exact (Kd.C_below HR16613_2.out HB.out) | (with_reducible refine Kd.C_alloc ?_ _) | (with_reducible refine Kd.C_drewN ?_ _) | (with_reducible refine Kd.C_drew ?_))); (case side2 => exact HC16613_2.out); rintro e w41 ⟨v16615, rfl, ho0, hb⟩; refine ⟨_, rfl, ?_⟩; have n0_ := Aside0.mk (Kd.R_elder' (by (with_reducible repeat (first | apply Kd.R_alloc | apply Kd.R_drewN | apply Kd.R_drew)); exact HO_8.out) (Kd.R_base ho0) hb); have n1_ := Aside0.mk (Kd.R_below (by (with_reducible repeat (first | apply Kd.R_alloc | apply Kd.R_drewN | apply Kd.R_drew)); exact HO_9.out) hb); have n2_ := Aside0.mk (Kd.R_lower (Kd.R_new' ho0 (Kd.R_lt (by (with_reducible repeat (first | apply Kd.R_alloc | apply Kd.R_drewN | apply Kd.R_drew)); exact HO_8.out))) (below_size (by repeat (first | (with_reducible first | exact HB.out | apply below_alloc | apply pw_below_drewN | apply below_drew1 | refine below_set ?_ GE16601.out) | exact HB.out)))); have n3_ := Aside0.mk (blk_below (g := gb16601) (o := .cells #[.int .i64 a0_0, .int .i64 a0_1, .slice (some ad16613) l0_2.length c0_2] 24 (0, 0)) (by (with_reducible repeat (first | refine blk_drewN ?_ _ | refine blk_drew ?_ | refine blk_alloc ?_ _)); exact BK16601.out) hb); have n4_ := Aside0.mk (below_step (by repeat (first | (with_reducible first | exact HB.out | apply below_alloc | apply pw_below_drewN | apply below_drew1 | refine below_set ?_ GE16601.out) | exact HB.out)) hb); clear HO_8; clear HO_9; clear BK16601; clear HB; have HO_8 := n0_; have HO_9 := n1_; have HO16616 := n2_; have BK16601 := n3_; have HB := n4_; clear n0_ n1_ n2_ n3_ n4_; (try clear hb); (try clear hb2); (try clear hk); (try clear hi); (try clear ho0); have hcz42_0 : w41.cell? ⟨gb16601, 0, none⟩ = some (.int .i64 a0_0) := (blk_cell BK16601.out 0).trans rfl; have hcz42_1 : w41.cell? ⟨gb16601, 1, none⟩ = some (.int .i64 a0_1) := (blk_cell BK16601.out 1).trans rfl; have hcz42_2 : w41.cell? ⟨gb16601, 2, none⟩ = some (.slice (some ad16613) l0_2.length c0_2) := (blk_cell BK16601.out 2).trans rfl; have hfz42_0 := blk_frozen BK16601.out 0; have hfz42_1 := blk_frozen BK16601.out 1; have hfz42_2 := blk_frozen BK16601.out 2) | ((with_reducible refine gate_callee (f := 30) rfl ?_); refine goesL_ (some 53) rfl rfl Try.func30 (by kernel_rfl) rfl #[.agg #[.int .i64 a0_0, .int .i64 a0_1, .slice (some ad16613) l0_2.length c0_2], .int .i64 x11_21] rfl (by (try simp only [List.map_toArray, List.map_cons, List.map_nil]); first | done | rfl | (simp only [List.length_drop, List.length_take]; rfl)) ?_; (with_reducible refine (phasorref19_bar.calls a0_0 a0_1 _ _ l0_2 x11_21 false _ ?side1 ?side2 A29.out).mono ?_); (case side1 => repeat (first | exact (Kd.C_below HR0_2.out HB.out) | (with_reducible refine Kd.C_alloc ?_ _) | (with_reducible refine Kd.C_drewN ?_ _) | (with_reducible refine Kd.C_drew ?_))); (case side2 => exact HC0_2.out); rintro e w43 ⟨rfl, hb⟩; refine ⟨_, rfl, ?_⟩; have n0_ := Aside0.mk (Kd.R_below (by (with_reducible repeat (first | apply Kd.R_alloc | apply Kd.R_drewN | apply Kd.R_drew)); exact HO_8.out) hb); have n1_ := Aside0.mk (Kd.R_below (by (with_reducible repeat (first | apply Kd.R_alloc | apply Kd.R_drewN | apply Kd.R_drew)); exact HO_9.out) hb); have n2_ := Aside0.mk (Kd.R_below (by (with_reducible repeat (first | apply Kd.R_alloc | apply Kd.R_drewN | apply Kd.R_drew)); exact HO16616.out) hb); have n3_ := Aside0.mk (blk_below (g := gb16601) (o := .cells #[.int .i64 a0_0, .int .i64 a0_1, .slice (some ad16613) l0_2.length c0_2] 24 (0, 0)) (by (with_reducible repeat (first | refine blk_drewN ?_ _ | refine blk_drew ?_ | refine blk_alloc ?_ _)); exact BK16601.out) hb); have n4_ := Aside0.mk (below_step (by repeat (first | (with_reducible first | exact HB.out | apply below_alloc | apply pw_below_drewN | apply below_drew1 | refine below_set ?_ GE16601.out) | exact HB.out)) hb); clear HO_8; clear HO_9; clear HO16616; clear BK16601; clear HB; have HO_8 := n0_; have HO_9 := n1_; have HO16616 := n2_; have BK16601 := n3_; have HB := n4_; clear n0_ n1_ n2_ n3_ n4_; (try clear hb); (try clear hb2); (try clear hk); (try clear hi); obtain ⟨Ao44, co44, eo44⟩ := Kd.R_slice HO_8.out; subst eo44; obtain ⟨Ao45, co45, eo45⟩ := Kd.R_slice HO16616.out; subst eo45) | (go_at_call 44; (with_reducible refine (phasorref19_meet.calls kj21 _ _ x8_1 _ _ t16614 true _ ?side1 ?side2 ?side3 ?side4 A35.out).mono ?_); (case side1 => repeat (first | exact (Kd.R_reads' HO_8.out).2.2 | (with_reducible refine Kd.C_alloc ?_ _) | (with_reducible refine Kd.C_drewN ?_ _) | (with_reducible refine Kd.C_drew ?_))); (case side2 => exact (Kd.R_reads' HO_8.out).2.1); (case side3 => repeat (first | exact (Kd.R_reads' HO16616.out).2.2 | (with_reducible refine Kd.C_alloc ?_ _) | (with_reducible refine Kd.C_drewN ?_ _) | (with_reducible refine Kd.C_drew ?_))); (case side4 => exact (Kd.R_reads' HO16616.out).2.1); rintro e w' ⟨rfl, ⟨nd, rfl⟩⟩; (try (rw [drewN_self w43]; generalize hq_ : World.drewN w43 _ = w43; have n0_ : Aside0 (Kd.R (Kd.int .i64) 3 w43 w.heap.size (fun k_ => some k_ ≠ (.slice Ao44 x8_1.length co44 : Value).ownBlock) (.slice Ao45 t16614.length co45) t16614) := ⟨by rw [← hq_]; exact (by (with_reducible repeat (first | apply Kd.R_alloc | apply Kd.R_drewN | apply Kd.R_drew)); exact Kd.R_mono HO16616.out (fun _ hk => hk.2))⟩; have n1_ : Aside0 (Kd.R (Kd.int .i64) 3 w43 w.heap.size (fun k_ => some k_ ≠ (.slice Ao45 t16614.length co45 : Value).ownBlock) (.slice Ao44 x8_1.length co44) x8_1) := ⟨by rw [← hq_]; exact (by (with_reducible repeat (first | apply Kd.R_alloc | apply Kd.R_drewN | apply Kd.R_drew)); (first | exact Kd.R_mono HO_8.out (fun _ hk => hk.2) | exact Kd.R_mono HO_8.out (fun _ hk => hk)))⟩; have n2_ : Aside0 (Kd.R Kd.bool 4 w43 w.heap.size (fun _ => True) v16611 x9_1) := ⟨by rw [← hq_]; exact (by (with_reducible repeat (first | apply Kd.R_alloc | apply Kd.R_drewN | apply Kd.R_drew)); exact HO_9.out)⟩; have n3_ : Aside0 (w43.heap[gb16601]? = some (.cells #[.int .i64 a0_0, .int .i64 a0_1, .slice (some ad16613) l0_2.length c0_2] 24 (0, 0))) := ⟨by rw [← hq_]; exact (by (with_reducible repeat (first | refine blk_drewN ?_ _ | refine blk_drew ?_ | refine blk_alloc ?_ _)); exact BK16601.out)⟩; have n4_ : Aside0 (Below w.heap.size w w43) := ⟨by rw [← hq_]; exact (by repeat (first | (with_reducible first | exact HB.out | apply below_alloc | apply pw_below_drewN | apply below_drew1 | refine below_set ?_ GE16601.out) | exact HB.out))⟩; clear HO16616 HO_8 HO_9 BK16601 HB hq_; have HO16616 := n0_; have HO_8 := n1_; have HO_9 := n2_; have BK16601 := n3_; have HB := n4_; clear n0_ n1_ n2_ n3_ n4_)); have p38 : 0 ≤ (x11_21 : Int) := of_decide_eq_true (by first | (with_reducible assumption) | assumption); have q38 : (x11_21 : Int) < ((x9_1.length : Int) : Int) := of_decide_eq_true (by first | (with_reducible assumption) | assumption); obtain ⟨go38, co38, eo38, gb38, gl38, cl38, HG38⟩ := Kd.R_form HO_9.out (by omega); (first | cases eo38 | (injection eo38 with ea_ en_ ec_; (first | subst ea_ | (injection ea_ with ea_; subst ea_)); subst ec_; clear en_)); have GB38 := Aside0.mk gb38; have GG38 := Aside0.mk HG38; clear gb38 gl38 HG38; obtain ⟨hx38_0, hf38_0⟩ := Kd.R_celln false HO_9.out (x11_21 : Int) p38 q38; replace p38 := eq_true p38; replace q38 := eq_true q38; obtain ⟨hy46_, hz46_⟩ := Kd.R_celln false HO_9.out (x11_21 : Int) (of_decide_eq_true (by first | (with_reducible assumption) | assumption)) (of_decide_eq_true (by first | (with_reducible assumption) | assumption)); have HP46 := Kd.R_putg HO_9.out (x11_21 : Int) true) | ((with_reducible refine gate_store (t := 4) (p := 62) rfl ?_); refine store_event (t := 4) (p := 62) (v := ?vo_w47) (w1 := (w43.setCell ⟨go38, (x11_21 : Int).toNat, none⟩ (.bool true))) ?hg ?ho ?hn ?hr ?_; (case ho => rfl); (case hg => rfl); (case hn => rfl); (case hr => first | (go_simp; done) | (go_simp; rfl)); intro w47 hw; have hg : w43.grownBy w47 (some go38) := (by rw [hw]; exact HP46.2); have hp_ : Kd.R Kd.bool 4 w47 w.heap.size (fun _ => True) (.slice (some ⟨go38, 0, none⟩) x9_1.length co38) y16619 := (by rw [hw, Ny16619.out]; exact HP46.1); clear HP46; have n0_ := Aside0.mk (Kd.R_over' (v := (.slice (some ⟨go38, 0, none⟩) x9_1.length co38)) (by (with_reducible repeat (first | apply Kd.R_alloc | apply Kd.R_drewN | apply Kd.R_drew)); exact HO_8.out) (Kd.R_typed HO_9.out) (by decide) hg); have n1_ := Aside0.mk (hp_); have n2_ := Aside0.mk (blk_grown (g := gb16601) (o := .cells #[.int .i64 a0_0, .int .i64 a0_1, .slice (some ad16613) l0_2.length c0_2] 24 (0, 0)) (by (with_reducible repeat (first | refine blk_drewN ?_ _ | refine blk_drew ?_ | refine blk_alloc ?_ _)); exact BK16601.out) hg (Kd.R_ne HO_9.out BK16601.out (by decide))); have n3_ := Aside0.mk (Kd.R_over' (v := (.slice (some ⟨go38, 0, none⟩) x9_1.length co38)) (by (with_reducible repeat (first | apply Kd.R_alloc | apply Kd.R_drewN | apply Kd.R_drew)); exact HO16616.out) (Kd.R_typed HO_9.out) (by decide) hg); have n4_ := Aside0.mk ((by rw [hw]; exact below_set (HB.out) GB38.out : Below w.heap.size w w47)); clear HO_8; clear HO_9; clear BK16601; clear HO16616; clear HB; have HO_8 := n0_; have HO_9 := n1_; have BK16601 := n2_; have HO16616 := n3_; have HB := n4_; clear n0_ n1_ n2_ n3_ n4_; clear hg hw hp_) | ((with_reducible refine gate_builtin (b := .append) (xs := #[.tmp 63, .tmp 64]) rfl ?_); at_builtin; refine Kd.R_append_rows (Kd.int .i64) (w0 := w) w.heap.size rfl (.tmp 63) (.tmp 64) 25 3 (.int .i64 0) 8 rfl Try.underlying25 info3 rfl (by decide) (by omega) (.slice Ao44 x8_1.length co44) x8_1 t16614 _ _ _ (fun k_ => some k_ ≠ (.slice Ao45 t16614.length co45 : Value).ownBlock) (fun _ => False) rfl rfl ?aO ?aR (fun _ _ h => h) (fun _ h => h.elim) ?aF ?aB ?aS ?aL ?_; (case aR => repeat (first | exact (Kd.R_reads' HO16616.out).2.2 | (with_reducible refine Kd.C_alloc ?_ _) | (with_reducible refine Kd.C_drewN ?_ _) | (with_reducible refine Kd.C_drew ?_))); (case aB => exact (by repeat (first | (with_reducible first | exact HB.out | apply below_alloc | apply pw_below_drewN | apply below_drew1 | refine below_set ?_ GE16601.out) | exact HB.out))); (case aF => exact (fun k_ hk => Kd.fresh' (Kd.R_lt (by (with_reducible repeat (first | apply Kd.R_alloc | apply Kd.R_drewN | apply Kd.R_drew)); exact HO16616.out)) k_ hk)); (case aO => exact (by (with_reducible repeat (first | apply Kd.R_alloc | apply Kd.R_drewN | apply Kd.R_drew)); (first | exact Kd.R_mono HO_8.out (fun _ hk => hk.2) | exact Kd.R_mono HO_8.out (fun _ hk => hk)))); (case aS => exact (below_size (by repeat (first | (with_reducible first | exact HB.out | apply below_alloc | apply pw_below_drewN | apply below_drew1 | refine below_set ?_ GE16601.out) | exact HB.out)))); (case aL => have := LMc39.out; omega); intro v16621 w48 ho hb hg hat; rw [← Ny16620.out] at ho; have n0_ := Aside0.mk (Kd.R_over' (by (with_reducible repeat (first | apply Kd.R_alloc | apply Kd.R_drewN | apply Kd.R_drew)); exact HO_9.out) (Kd.R_typed (by (with_reducible repeat (first | apply Kd.R_alloc | apply Kd.R_drewN | apply Kd.R_drew)); exact HO_8.out)) (by decide) hg); have n1_ := Aside0.mk (blk_grown (g := gb16601) (o := .cells #[.int .i64 a0_0, .int .i64 a0_1, .slice (some ad16613) l0_2.length c0_2] 24 (0, 0)) (by (with_reducible repeat (first | refine blk_drewN ?_ _ | refine blk_drew ?_ | refine blk_alloc ?_ _)); exact BK16601.out) hg (Kd.R_ne HO_8.out BK16601.out (by decide))); have n2_ := Aside0.mk (Kd.R_after (ok := (fun _ => True)) (by (with_reducible repeat (first | apply Kd.R_alloc | apply Kd.R_drewN | apply Kd.R_drew)); (first | exact HO16616.out | exact Kd.R_mono HO16616.out (fun _ hk => ⟨trivial, hk⟩))) hg hat); have n3_ := Aside0.mk (hb); have n4_ := Aside0.mk (ho); clear HO_9; clear BK16601; clear HO16616; clear HB; clear HO_8; have HO_9 := n0_; have BK16601 := n1_; have HO16616 := n2_; have HB := n3_; have HO16622 := n4_; clear n0_ n1_ n2_ n3_ n4_; clear ho hb hg hat))
                 go_roundg kj21
                 case measure => have := HK1.out; have := HJ21.out; omega
                 case rel => exact ⟨(y16620), (y16619), (wrap64 (x10_1 + 1)), (by first | rfl | (simp; done) | (simp [*]; done)), H', ⟨by have := HK1.out; have := HJ21.out; omega⟩, ⟨by (with_reducible repeat (first | apply Kd.R_alloc | apply Kd.R_drewN | apply Kd.R_drew)); exact Kd.R_mono HO16622.out (fun _ hk => trivial)⟩, ⟨by (with_reducible repeat (first | apply Kd.R_alloc | apply Kd.R_drewN | apply Kd.R_drew)); exact HO_9.out⟩, ⟨by (with_reducible repeat (first | refine blk_drewN ?_ _ | refine blk_drew ?_ | refine blk_alloc ?_ _)); exact BK16601.out⟩, ⟨by repeat (first | (with_reducible first | exact HB.out | apply below_alloc | apply pw_below_drewN | apply below_drew1 | refine below_set ?_ GE16601.out) | exact HB.out)⟩⟩
                ·rw [if_neg c39] at H
                 exact absurd H (by simp)
               ·rw [if_neg c37] at H
                exact absurd H (by simp)
              ·replace c36 := Bool.eq_false_iff.mpr c36
               subst c36
               have H1 : (phasorref19_cone.l0 kj21 a2 x8_1 x9_1 (wrap64 (x10_1 + 1)) a0_0 a0_1 l0_2) = some (r1, r2) := by rw [if_neg (show ¬ (false = true) by decide)] at H; exact H
               clear H
               have H := H1
               clear H1
               have H' := Aside0.mk H
               clear H
               have hcz49_0 : wc.cell? ⟨gb16601, 0, none⟩ = some (.int .i64 a0_0) := (blk_cell BK16601.out 0).trans rfl
               have hcz49_1 : wc.cell? ⟨gb16601, 1, none⟩ = some (.int .i64 a0_1) := (blk_cell BK16601.out 1).trans rfl
               have hcz49_2 : wc.cell? ⟨gb16601, 2, none⟩ = some (.slice A0_2 l0_2.length c0_2) := (blk_cell BK16601.out 2).trans rfl
               have hfz49_0 := blk_frozen BK16601.out 0
               have hfz49_1 := blk_frozen BK16601.out 1
               have hfz49_2 := blk_frozen BK16601.out 2
               have p16613 : 0 ≤ (x11_21 : Int) := of_decide_eq_true (by first | (with_reducible assumption) | assumption)
               have q16613 : x11_21 < (l0_2.length : Int) := of_decide_eq_true (by first | (with_reducible assumption) | assumption)
               obtain ⟨ad16613, A16613_2, c16613_2, e16613, hx16613_0, hx16613_1, hx16613_2, hx16613_3, hx16613_4, hx16613_5, hl16613_2, hi16613_2⟩ := at_T57 HR0_2.out x11_21 p16613 q16613
               cases e16613
               replace hx16613_0 := (HB.out.cell (World.block_lt_of_cell? w _ hx16613_0)).trans hx16613_0
               replace hx16613_1 := (HB.out.cell (World.block_lt_of_cell? w _ hx16613_1)).trans hx16613_1
               replace hx16613_2 := (HB.out.cell (World.block_lt_of_cell? w _ hx16613_2)).trans hx16613_2
               replace hx16613_3 := (HB.out.cell (World.block_lt_of_cell? w _ hx16613_3)).trans hx16613_3
               replace hx16613_4 := (HB.out.cell (World.block_lt_of_cell? w _ hx16613_4)).trans hx16613_4
               replace hx16613_5 := (HB.out.cell (World.block_lt_of_cell? w _ hx16613_5)).trans hx16613_5
               have HR16613_2 := Aside0.mk hi16613_2
               have HC16613_2 := Aside0.mk hl16613_2
               clear hi16613_2 hl16613_2
               replace p16613 := eq_true p16613
               replace q16613 := eq_true q16613
               go_wp2_with (first | ((with_reducible refine gate_callee (f := 45) rfl ?_); refine goesL_ (some 50) rfl rfl Try.func45 (by kernel_rfl) rfl #[.agg #[.int .i64 ((rd_T57 l0_2 x11_21).f0), .int .i64 ((rd_T57 l0_2 x11_21).f1), .slice A16613_2 ((rd_T57 l0_2 x11_21).f2).length c16613_2, .int .i64 ((rd_T57 l0_2 x11_21).f3), .int .i64 ((rd_T57 l0_2 x11_21).f4), .int .i64 ((rd_T57 l0_2 x11_21).f5)]] rfl (by (try simp only [List.map_toArray, List.map_cons, List.map_nil]); first | done | rfl | (simp only [List.length_drop, List.length_take]; rfl)) ?_; (with_reducible refine (phasorref19_wires.calls ((rd_T57 l0_2 x11_21).f0) ((rd_T57 l0_2 x11_21).f1) _ _ ((rd_T57 l0_2 x11_21).f2) ((rd_T57 l0_2 x11_21).f3) ((rd_T57 l0_2 x11_21).f4) ((rd_T57 l0_2 x11_21).f5) t16614 _ ?side1 ?side2 A28.out).mono ?_); (case side1 => repeat (first | exact (Kd.C_below HR16613_2.out HB.out) | (with_reducible refine Kd.C_alloc ?_ _) | (with_reducible refine Kd.C_drewN ?_ _) | (with_reducible refine Kd.C_drew ?_))); (case side2 => exact HC16613_2.out); rintro e w50 ⟨v16615, rfl, ho0, hb⟩; refine ⟨_, rfl, ?_⟩; have n0_ := Aside0.mk (Kd.R_elder' (by (with_reducible repeat (first | apply Kd.R_alloc | apply Kd.R_drewN | apply Kd.R_drew)); exact HO_8.out) (Kd.R_base ho0) hb); have n1_ := Aside0.mk (Kd.R_below (by (with_reducible repeat (first | apply Kd.R_alloc | apply Kd.R_drewN | apply Kd.R_drew)); exact HO_9.out) hb); have n2_ := Aside0.mk (Kd.R_lower (Kd.R_new' ho0 (Kd.R_lt (by (with_reducible repeat (first | apply Kd.R_alloc | apply Kd.R_drewN | apply Kd.R_drew)); exact HO_8.out))) (below_size (by repeat (first | (with_reducible first | exact HB.out | apply below_alloc | apply pw_below_drewN | apply below_drew1 | refine below_set ?_ GE16601.out) | exact HB.out)))); have n3_ := Aside0.mk (blk_below (g := gb16601) (o := .cells #[.int .i64 a0_0, .int .i64 a0_1, .slice (some ad16613) l0_2.length c0_2] 24 (0, 0)) (by (with_reducible repeat (first | refine blk_drewN ?_ _ | refine blk_drew ?_ | refine blk_alloc ?_ _)); exact BK16601.out) hb); have n4_ := Aside0.mk (below_step (by repeat (first | (with_reducible first | exact HB.out | apply below_alloc | apply pw_below_drewN | apply below_drew1 | refine below_set ?_ GE16601.out) | exact HB.out)) hb); clear HO_8; clear HO_9; clear BK16601; clear HB; have HO_8 := n0_; have HO_9 := n1_; have HO16616 := n2_; have BK16601 := n3_; have HB := n4_; clear n0_ n1_ n2_ n3_ n4_; (try clear hb); (try clear hb2); (try clear hk); (try clear hi); (try clear ho0); have hcz51_0 : w50.cell? ⟨gb16601, 0, none⟩ = some (.int .i64 a0_0) := (blk_cell BK16601.out 0).trans rfl; have hcz51_1 : w50.cell? ⟨gb16601, 1, none⟩ = some (.int .i64 a0_1) := (blk_cell BK16601.out 1).trans rfl; have hcz51_2 : w50.cell? ⟨gb16601, 2, none⟩ = some (.slice (some ad16613) l0_2.length c0_2) := (blk_cell BK16601.out 2).trans rfl; have hfz51_0 := blk_frozen BK16601.out 0; have hfz51_1 := blk_frozen BK16601.out 1; have hfz51_2 := blk_frozen BK16601.out 2) | ((with_reducible refine gate_callee (f := 30) rfl ?_); refine goesL_ (some 53) rfl rfl Try.func30 (by kernel_rfl) rfl #[.agg #[.int .i64 a0_0, .int .i64 a0_1, .slice (some ad16613) l0_2.length c0_2], .int .i64 x11_21] rfl (by (try simp only [List.map_toArray, List.map_cons, List.map_nil]); first | done | rfl | (simp only [List.length_drop, List.length_take]; rfl)) ?_; (with_reducible refine (phasorref19_bar.calls a0_0 a0_1 _ _ l0_2 x11_21 false _ ?side1 ?side2 A29.out).mono ?_); (case side1 => repeat (first | exact (Kd.C_below HR0_2.out HB.out) | (with_reducible refine Kd.C_alloc ?_ _) | (with_reducible refine Kd.C_drewN ?_ _) | (with_reducible refine Kd.C_drew ?_))); (case side2 => exact HC0_2.out); rintro e w52 ⟨rfl, hb⟩; refine ⟨_, rfl, ?_⟩; have n0_ := Aside0.mk (Kd.R_below (by (with_reducible repeat (first | apply Kd.R_alloc | apply Kd.R_drewN | apply Kd.R_drew)); exact HO_8.out) hb); have n1_ := Aside0.mk (Kd.R_below (by (with_reducible repeat (first | apply Kd.R_alloc | apply Kd.R_drewN | apply Kd.R_drew)); exact HO_9.out) hb); have n2_ := Aside0.mk (Kd.R_below (by (with_reducible repeat (first | apply Kd.R_alloc | apply Kd.R_drewN | apply Kd.R_drew)); exact HO16616.out) hb); have n3_ := Aside0.mk (blk_below (g := gb16601) (o := .cells #[.int .i64 a0_0, .int .i64 a0_1, .slice (some ad16613) l0_2.length c0_2] 24 (0, 0)) (by (with_reducible repeat (first | refine blk_drewN ?_ _ | refine blk_drew ?_ | refine blk_alloc ?_ _)); exact BK16601.out) hb); have n4_ := Aside0.mk (below_step (by repeat (first | (with_reducible first | exact HB.out | apply below_alloc | apply pw_below_drewN | apply below_drew1 | refine below_set ?_ GE16601.out) | exact HB.out)) hb); clear HO_8; clear HO_9; clear HO16616; clear BK16601; clear HB; have HO_8 := n0_; have HO_9 := n1_; have HO16616 := n2_; have BK16601 := n3_; have HB := n4_; clear n0_ n1_ n2_ n3_ n4_; (try clear hb); (try clear hb2); (try clear hk); (try clear hi); obtain ⟨Ao53, co53, eo53⟩ := Kd.R_slice HO_8.out; subst eo53; obtain ⟨Ao54, co54, eo54⟩ := Kd.R_slice HO16616.out; subst eo54) | (go_at_call 44; (with_reducible refine (phasorref19_meet.calls kj21 _ _ x8_1 _ _ t16614 false _ ?side1 ?side2 ?side3 ?side4 A35.out).mono ?_); (case side1 => repeat (first | exact (Kd.R_reads' HO_8.out).2.2 | (with_reducible refine Kd.C_alloc ?_ _) | (with_reducible refine Kd.C_drewN ?_ _) | (with_reducible refine Kd.C_drew ?_))); (case side2 => exact (Kd.R_reads' HO_8.out).2.1); (case side3 => repeat (first | exact (Kd.R_reads' HO16616.out).2.2 | (with_reducible refine Kd.C_alloc ?_ _) | (with_reducible refine Kd.C_drewN ?_ _) | (with_reducible refine Kd.C_drew ?_))); (case side4 => exact (Kd.R_reads' HO16616.out).2.1); rintro e w' ⟨rfl, ⟨nd, rfl⟩⟩))
               go_roundg kj21
               case measure => have := HK1.out; have := HJ21.out; omega
               case rel => exact ⟨(x8_1), (x9_1), (wrap64 (x10_1 + 1)), (by first | rfl | (simp; done) | (simp [*]; done)), H', ⟨by have := HK1.out; have := HJ21.out; omega⟩, ⟨by (with_reducible repeat (first | apply Kd.R_alloc | apply Kd.R_drewN | apply Kd.R_drew)); exact Kd.R_mono HO_8.out (fun _ hk => trivial)⟩, ⟨by (with_reducible repeat (first | apply Kd.R_alloc | apply Kd.R_drewN | apply Kd.R_drew)); exact HO_9.out⟩, ⟨by (with_reducible repeat (first | refine blk_drewN ?_ _ | refine blk_drew ?_ | refine blk_alloc ?_ _)); exact BK16601.out⟩, ⟨by repeat (first | (with_reducible first | exact HB.out | apply below_alloc | apply pw_below_drewN | apply below_drew1 | refine below_set ?_ GE16601.out) | exact HB.out)⟩⟩
            ·rw [if_neg c27] at H
             exact absurd H (by simp)
           ·rw [if_neg c26] at H
            exact absurd H (by simp)
        ·rw [if_neg c21] at H
         have c21b0 : decide (x10_1 < (l0_2.length : Int)) = false := decide_eq_false c21
         clear c21
         have H' := Aside0.mk H
         clear H
         have hcz55_0 : wr.cell? ⟨gb16601, 0, none⟩ = some (.int .i64 a0_0) := (blk_cell BK16601.out 0).trans rfl
         have hcz55_1 : wr.cell? ⟨gb16601, 1, none⟩ = some (.int .i64 a0_1) := (blk_cell BK16601.out 1).trans rfl
         have hcz55_2 : wr.cell? ⟨gb16601, 2, none⟩ = some (.slice A0_2 l0_2.length c0_2) := (blk_cell BK16601.out 2).trans rfl
         have hfz55_0 := blk_frozen BK16601.out 0
         have hfz55_1 := blk_frozen BK16601.out 1
         have hfz55_2 := blk_frozen BK16601.out 2
         go_wp2
         go_loopg [13, 14] k1 (fun kq v13 v14 w' => ∃ (x13_2 : List Int) (x14_2 : Int), v14 = .int .i64 x14_2 ∧ Aside0 (phasorref19_cone.l1 kq x9_1 x13_2 x14_2 = some (r1, r2)) ∧ Aside0 (kq ≤ k1) ∧ Aside0 (Kd.R Kd.bool 4 w' w.heap.size (fun _ => True) v16611 x9_1) ∧ Aside0 (Kd.R (Kd.int .i64) 3 w' w.heap.size (fun _ => True) v13 x13_2) ∧ Aside0 (w'.heap[gb16601]? = some (.cells #[.int .i64 a0_0, .int .i64 a0_1, (.slice A0_2 l0_2.length c0_2)] 24 (0, 0))) ∧ Aside0 (Below w.heap.size w w'))
         case atStart => exact ⟨(([] : List Int)), (0), (by first | rfl | (simp; done) | (simp [*]; done)), H', ⟨Nat.le_refl _⟩, ⟨by (with_reducible repeat (first | apply Kd.R_alloc | apply Kd.R_drewN | apply Kd.R_drew)); exact HO_9.out⟩, ⟨by first | exact Kd.R_nil _ _ _ _ _ | exact Kd.N_nil _ _ _ _ _ | exact Kd.V_nil _ _ _ _ _ | exact Kd.Q_nil _ _ _ _ _ | exact Kd.S_nil _ _ _ _ _⟩, ⟨by (with_reducible repeat (first | refine blk_drewN ?_ _ | refine blk_drew ?_ | refine blk_alloc ?_ _)); exact BK16601.out⟩, ⟨by repeat (first | (with_reducible first | exact HB.out | apply below_alloc | apply pw_below_drewN | apply below_drew1 | refine below_set ?_ GE16601.out) | exact HB.out)⟩⟩
         case round =>
          clear H'
          try clear c1
          try clear p1
          try clear q1
          try clear hx1
          try clear c2
          try clear p2
          try clear c3
          try clear p3
          try clear q3
          try clear hx3
          try clear hf3
          try clear c4
          try clear c5
          try clear p6
          try clear c7
          try clear c8
          try clear c9
          try clear c9b0
          try clear c9b1
          try clear c10
          try clear c10b0
          try clear c10b1
          try clear c16
          try clear p16
          try clear q16
          try clear hx16
          try clear c21
          try clear c21b0
          try clear c24
          try clear c26
          try clear c26b0
          try clear c27
          try clear c27b0
          try clear c28
          try clear c30
          try clear c33
          try clear c36
          try clear c37
          try clear c37b0
          try clear p38
          try clear q38
          try clear hx38
          try clear hf38
          try clear c39
          try clear c45
          try clear c50
          try clear hcz12_0
          try clear hcz12_1
          try clear hcz12_2
          try clear hcz14_0
          try clear hcz14_1
          try clear hcz14_2
          try clear hcz18_0
          try clear hcz18_1
          try clear hcz18_2
          try clear hcz23_0
          try clear hcz23_1
          try clear hcz23_2
          try clear hcz25_0
          try clear hcz25_1
          try clear hcz25_2
          try clear hcz31_0
          try clear hcz31_1
          try clear hcz31_2
          try clear hcz33_0
          try clear hcz33_1
          try clear hcz33_2
          try clear hcz40_0
          try clear hcz40_1
          try clear hcz40_2
          try clear hcz42_0
          try clear hcz42_1
          try clear hcz42_2
          try clear hcz49_0
          try clear hcz49_1
          try clear hcz49_2
          try clear hcz51_0
          try clear hcz51_1
          try clear hcz51_2
          try clear hcz55_0
          try clear hcz55_1
          try clear hcz55_2
          try clear hfz12_0
          try clear hfz12_1
          try clear hfz12_2
          try clear hfz14_0
          try clear hfz14_1
          try clear hfz14_2
          try clear hfz18_0
          try clear hfz18_1
          try clear hfz18_2
          try clear hfz23_0
          try clear hfz23_1
          try clear hfz23_2
          try clear hfz25_0
          try clear hfz25_1
          try clear hfz25_2
          try clear hfz31_0
          try clear hfz31_1
          try clear hfz31_2
          try clear hfz33_0
          try clear hfz33_1
          try clear hfz33_2
          try clear hfz40_0
          try clear hfz40_1
          try clear hfz40_2
          try clear hfz42_0
          try clear hfz42_1
          try clear hfz42_2
          try clear hfz49_0
          try clear hfz49_1
          try clear hfz49_2
          try clear hfz51_0
          try clear hfz51_1
          try clear hfz51_2
          try clear hfz55_0
          try clear hfz55_1
          try clear hfz55_2
          try clear hx16613_0
          try clear hx16613_1
          try clear hx16613_2
          try clear hx16613_3
          try clear hx16613_4
          try clear hx16613_5
          try clear hx38_0
          try clear p16613
          try clear p2
          try clear p38
          try clear p6
          try clear q16613
          try clear q38
          obtain ⟨x13_2, x14_2, rfl, HA, HK2, HO_9, HO_13, BK16601, HB⟩ := hrel
          cases gk with
          | zero => exact absurd HA.out (by simp [phasorref19_cone.l1])
          | succ k2 =>
           have H := HA.out
           clear HA
           simp only [phasorref19_cone.l1] at H
           by_cases c56 : x14_2 < (x9_1.length : Int)
           ·rw [if_pos c56] at H
            have c56b0 : decide (x14_2 < (x9_1.length : Int)) = true := decide_eq_true c56
            clear c56
            by_cases c57 : 0 ≤ x14_2
            ·rw [if_pos c57] at H
             have c57b0 : decide (0 ≤ x14_2) = true := decide_eq_true c57
             clear c57
             obtain ⟨bq58, hbq58⟩ : ∃ b_ : Bool, b_ = (rdOf false x9_1 x14_2) := ⟨_, rfl⟩
             replace H : (if bq58 = true then (if x13_2.length < 17592186044416 then (phasorref19_cone.l1 k2 x9_1 (x13_2 ++ [x14_2]) (wrap64 (x14_2 + 1))) else (none)) else (phasorref19_cone.l1 k2 x9_1 x13_2 (wrap64 (x14_2 + 1)))) = some (r1, r2) := by rw [← hbq58] at H; exact H
             have Nbq58 := Aside0.mk hbq58
             clear hbq58
             by_cases c59 : bq58 = true
             ·subst c59
              have H1 : (if x13_2.length < 17592186044416 then (phasorref19_cone.l1 k2 x9_1 (x13_2 ++ [x14_2]) (wrap64 (x14_2 + 1))) else (none)) = some (r1, r2) := by rw [if_pos rfl] at H; exact H
              clear H
              have H := H1
              clear H1
              by_cases c60 : x13_2.length < 17592186044416
              ·rw [if_pos c60] at H
               have LMc60 := Aside0.mk c60
               clear c60
               obtain ⟨y16624, hy16624⟩ : ∃ y_ : List Int, y_ = (x13_2 ++ [x14_2]) := ⟨_, rfl⟩
               replace H : (phasorref19_cone.l1 k2 x9_1 y16624 (wrap64 (x14_2 + 1))) = some (r1, r2) := by first | (rw [hy16624]; with_reducible exact H) | (have H2_ := (Option.bind_some _ _).symm.trans H; rw [hy16624]; with_reducible exact H2_) | (have H2_ := (Option.bind_some _ _).symm.trans H; with_reducible exact H2_) | with_reducible exact H | (rw [hy16624]; exact H) | exact H
               have Ny16624 := Aside0.mk hy16624
               clear hy16624
               have H' := Aside0.mk H
               clear H
               obtain ⟨Ao61, co61, eo61⟩ := Kd.R_slice HO_9.out
               subst eo61
               have p16623 : 0 ≤ (x14_2 : Int) := of_decide_eq_true (by first | (with_reducible assumption) | assumption)
               have q16623 : x14_2 < (x9_1.length : Int) := of_decide_eq_true (by first | (with_reducible assumption) | assumption)
               obtain ⟨ad16623, e16623, hx16623_0⟩ := Kd.at_bool (Kd.R_reads' HO_9.out).2.2 x14_2 p16623 q16623
               (try rw [← Nbq58.out] at hx16623_0)
               cases e16623
               replace p16623 := eq_true p16623
               replace q16623 := eq_true q16623
               go_wp2_with (first | ((with_reducible refine gate_builtin (b := .append) (xs := #[.tmp 76, .tmp 78]) rfl ?_); at_builtin; refine Kd.R_append (Kd.int .i64) (w0 := w) w.heap.size rfl (.tmp 76) (.tmp 78) 25 3 (.int .i64 0) 8 rfl Try.underlying25 info3 rfl (by decide) (by omega) u13 x13_2 x14_2 [.int .i64 x14_2] (fun _ => True) (fun _ => False) rfl rfl ?aP (fun _ hk => hk.elim) ?aF ?aO ?aB ?aS ?aL ?_; (case aP => exact rfl); (case aB => exact (by repeat (first | (with_reducible first | exact HB.out | apply below_alloc | apply pw_below_drewN | apply below_drew1 | refine below_set ?_ GE16601.out) | exact HB.out))); (case aF => exact (fun _ _ => trivial)); (case aO => exact (by (with_reducible repeat (first | apply Kd.R_alloc | apply Kd.R_drewN | apply Kd.R_drew)); exact HO_13.out)); (case aS => exact (below_size (by repeat (first | (with_reducible first | exact HB.out | apply below_alloc | apply pw_below_drewN | apply below_drew1 | refine below_set ?_ GE16601.out) | exact HB.out)))); (case aL => have := LMc60.out; omega); intro v16625 w62 ho hb hg hat; rw [← Ny16624.out] at ho; have n0_ := Aside0.mk (Kd.R_over' (by (with_reducible repeat (first | apply Kd.R_alloc | apply Kd.R_drewN | apply Kd.R_drew)); exact HO_9.out) (Kd.R_typed (by (with_reducible repeat (first | apply Kd.R_alloc | apply Kd.R_drewN | apply Kd.R_drew)); exact HO_13.out)) (by decide) hg); have n1_ := Aside0.mk (blk_grown (g := gb16601) (o := .cells #[.int .i64 a0_0, .int .i64 a0_1, .slice A0_2 l0_2.length c0_2] 24 (0, 0)) (by (with_reducible repeat (first | refine blk_drewN ?_ _ | refine blk_drew ?_ | refine blk_alloc ?_ _)); exact BK16601.out) hg (Kd.R_ne HO_13.out BK16601.out (by decide))); have n2_ := Aside0.mk (hb); have n3_ := Aside0.mk (ho); clear HO_9; clear BK16601; clear HB; clear HO_13; have HO_9 := n0_; have BK16601 := n1_; have HB := n2_; have HO16626 := n3_; clear n0_ n1_ n2_ n3_; clear ho hb hg hat))
               go_roundg k2
               case measure => have := HK1.out; have := HK2.out; omega
               case rel => exact ⟨(y16624), (wrap64 (x14_2 + 1)), (by first | rfl | (simp; done) | (simp [*]; done)), H', ⟨by have := HK1.out; have := HK2.out; omega⟩, ⟨by (with_reducible repeat (first | apply Kd.R_alloc | apply Kd.R_drewN | apply Kd.R_drew)); exact HO_9.out⟩, ⟨by (with_reducible repeat (first | apply Kd.R_alloc | apply Kd.R_drewN | apply Kd.R_drew)); exact HO16626.out⟩, ⟨by (with_reducible repeat (first | refine blk_drewN ?_ _ | refine blk_drew ?_ | refine blk_alloc ?_ _)); exact BK16601.out⟩, ⟨by repeat (first | (with_reducible first | exact HB.out | apply below_alloc | apply pw_below_drewN | apply below_drew1 | refine below_set ?_ GE16601.out) | exact HB.out)⟩⟩
              ·rw [if_neg c60] at H
               exact absurd H (by simp)
             ·replace c59 := Bool.eq_false_iff.mpr c59
              subst c59
              have H1 : (phasorref19_cone.l1 k2 x9_1 x13_2 (wrap64 (x14_2 + 1))) = some (r1, r2) := by rw [if_neg (show ¬ (false = true) by decide)] at H; exact H
              clear H
              have H := H1
              clear H1
              have H' := Aside0.mk H
              clear H
              obtain ⟨Ao63, co63, eo63⟩ := Kd.R_slice HO_9.out
              subst eo63
              have p16623 : 0 ≤ (x14_2 : Int) := of_decide_eq_true (by first | (with_reducible assumption) | assumption)
              have q16623 : x14_2 < (x9_1.length : Int) := of_decide_eq_true (by first | (with_reducible assumption) | assumption)
              obtain ⟨ad16623, e16623, hx16623_0⟩ := Kd.at_bool (Kd.R_reads' HO_9.out).2.2 x14_2 p16623 q16623
              (try rw [← Nbq58.out] at hx16623_0)
              cases e16623
              replace p16623 := eq_true p16623
              replace q16623 := eq_true q16623
              go_wp2
              go_roundg k2
              case measure => have := HK1.out; have := HK2.out; omega
              case rel => exact ⟨(x13_2), (wrap64 (x14_2 + 1)), (by first | rfl | (simp; done) | (simp [*]; done)), H', ⟨by have := HK1.out; have := HK2.out; omega⟩, ⟨by (with_reducible repeat (first | apply Kd.R_alloc | apply Kd.R_drewN | apply Kd.R_drew)); exact HO_9.out⟩, ⟨by (with_reducible repeat (first | apply Kd.R_alloc | apply Kd.R_drewN | apply Kd.R_drew)); exact HO_13.out⟩, ⟨by (with_reducible repeat (first | refine blk_drewN ?_ _ | refine blk_drew ?_ | refine blk_alloc ?_ _)); exact BK16601.out⟩, ⟨by repeat (first | (with_reducible first | exact HB.out | apply below_alloc | apply pw_below_drewN | apply below_drew1 | refine below_set ?_ GE16601.out) | exact HB.out)⟩⟩
            ·rw [if_neg c57] at H
             exact absurd H (by simp)
           ·rw [if_neg c56] at H
            have c56b0 : decide (x14_2 < (x9_1.length : Int)) = false := decide_eq_false c56
            clear c56
            simp only [Option.some.injEq, Prod.mk.injEq] at H
            obtain ⟨rfl, rfl⟩ := H
            obtain ⟨Ao64, co64, eo64⟩ := Kd.R_slice HO_9.out
            subst eo64
            go_wp2
            go_ret2
            exact ⟨_, by first | rfl | (simp [errW_none, errW_some] <;> rfl) | (simp [*, errW_none, errW_some] <;> rfl), by (with_reducible repeat (first | apply Kd.R_alloc | apply Kd.R_drewN | apply Kd.R_drew)); exact HO_13.out, by repeat (first | (with_reducible first | exact HB.out | apply below_alloc | apply pw_below_drewN | apply below_drew1 | refine below_set ?_ GE16601.out) | exact HB.out)⟩
     ·rw [if_neg c10] at H
      exact absurd H (by simp)
    ·rw [if_neg c9] at H
     exact absurd H (by simp)
   ·rw [if_neg c8] at H
    exact absurd H (by simp)
  ·replace c7 := Bool.eq_false_iff.mpr c7
   subst c7
   have H1 : (some (([] : List Int), 190)) = some (r1, r2) := by rw [if_neg (show ¬ (false = true) by decide)] at H; exact H
   clear H
   have H := H1
   clear H1
   simp only [Option.some.injEq, Prod.mk.injEq] at H
   obtain ⟨rfl, rfl⟩ := H
   go_enter Try.func33, Try.ntmps33
   go_wp2_with (first | ((with_reducible refine gate_dst (N := 3) rfl ?_); refine box_event ?hg (N := 3) ?hd (cs := #[.int .i64 a0_0, .int .i64 a0_1, .slice A0_2 l0_2.length c0_2]) (t := 24) ?hr ?_; (case hd => rfl); (case hg => rfl); (case hr => first | (go_simp; done) | (go_simp; rfl)); intro gb16601 hg w65 hbox hb; have n0_ := Aside0.mk (below_step (by repeat (first | (with_reducible first | exact HB.out | apply below_alloc | apply pw_below_drewN | apply below_drew1) | exact HB.out)) hb); have n1_ := Aside0.mk (hbox); have n2_ := Aside0.mk ((by rw [hg]; exact (below_size (by repeat (first | (with_reducible first | exact HB.out | apply below_alloc | apply pw_below_drewN | apply below_drew1) | exact HB.out))) : w.heap.size ≤ gb16601)); have n3_ := Aside0.mk ((by rw [hg]; exact (below_size (by repeat (first | (with_reducible first | exact HB.out | apply below_alloc | apply pw_below_drewN | apply below_drew1) | exact HB.out))) : w.heap.size ≤ gb16601)); clear HB; have HB := n0_; have BK16601 := n1_; have GW16601 := n2_; have GE16601 := n3_; clear n0_ n1_ n2_ n3_; clear hb hbox hg; have hcz66_0 : w65.cell? ⟨gb16601, 0, none⟩ = some (.int .i64 a0_0) := (blk_cell BK16601.out 0).trans rfl; have hcz66_1 : w65.cell? ⟨gb16601, 1, none⟩ = some (.int .i64 a0_1) := (blk_cell BK16601.out 1).trans rfl; have hcz66_2 : w65.cell? ⟨gb16601, 2, none⟩ = some (.slice A0_2 l0_2.length c0_2) := (blk_cell BK16601.out 2).trans rfl; have hfz66_0 := blk_frozen BK16601.out 0; have hfz66_1 := blk_frozen BK16601.out 1; have hfz66_2 := blk_frozen BK16601.out 2) | ((with_reducible refine gate_callee (f := 28) rfl ?_); refine goesL_ (some 16) rfl rfl Try.func28 (by kernel_rfl) rfl #[.agg #[.int .i64 a0_0, .int .i64 a0_1, .slice A0_2 l0_2.length c0_2]] rfl (by (try simp only [List.map_toArray, List.map_cons, List.map_nil]); first | done | rfl | (simp only [List.length_drop, List.length_take]; rfl)) ?_; (with_reducible refine (phasorref08_May.calls k a0_0 a0_1 _ _ l0_2 true _ ?side1 ?side2 A4.out).mono ?_); (case side1 => repeat (first | exact (Kd.C_below HR0_2.out HB.out) | (with_reducible refine Kd.C_alloc ?_ _) | (with_reducible refine Kd.C_drewN ?_ _) | (with_reducible refine Kd.C_drew ?_))); (case side2 => exact HC0_2.out); rintro e w67 ⟨rfl, hb⟩; refine ⟨_, rfl, ?_⟩; have n0_ := Aside0.mk (blk_below (g := gb16601) (o := .cells #[.int .i64 a0_0, .int .i64 a0_1, .slice A0_2 l0_2.length c0_2] 24 (0, 0)) (by (with_reducible repeat (first | refine blk_drewN ?_ _ | refine blk_drew ?_ | refine blk_alloc ?_ _)); exact BK16601.out) hb); have n1_ := Aside0.mk (below_step (by repeat (first | (with_reducible first | exact HB.out | apply below_alloc | apply pw_below_drewN | apply below_drew1 | refine below_set ?_ GE16601.out) | exact HB.out)) hb); clear BK16601; clear HB; have BK16601 := n0_; have HB := n1_; clear n0_ n1_; (try clear hb); (try clear hb2); (try clear hk); (try clear hi); have hcz68_0 : w67.cell? ⟨gb16601, 0, none⟩ = some (.int .i64 a0_0) := (blk_cell BK16601.out 0).trans rfl; have hcz68_1 : w67.cell? ⟨gb16601, 1, none⟩ = some (.int .i64 a0_1) := (blk_cell BK16601.out 1).trans rfl; have hcz68_2 : w67.cell? ⟨gb16601, 2, none⟩ = some (.slice A0_2 l0_2.length c0_2) := (blk_cell BK16601.out 2).trans rfl; have hfz68_0 := blk_frozen BK16601.out 0; have hfz68_1 := blk_frozen BK16601.out 1; have hfz68_2 := blk_frozen BK16601.out 2) | ((with_reducible refine gate_callee (f := 50) rfl ?_); refine goesL_ (some 21) rfl rfl Try.func50 (by kernel_rfl) rfl #[.slice A1 l1.length c1, .int .i64 a0_0] rfl (by (try simp only [List.map_toArray, List.map_cons, List.map_nil]); first | done | rfl | (simp only [List.length_drop, List.length_take]; rfl)) ?_; (with_reducible refine (phasorref07_Qubits.calls k _ _ l1 a0_0 false _ ?side1 ?side2 A6.out).mono ?_); (case side1 => repeat (first | exact (Kd.C_below HR1.out HB.out) | (with_reducible refine Kd.C_alloc ?_ _) | (with_reducible refine Kd.C_drewN ?_ _) | (with_reducible refine Kd.C_drew ?_))); (case side2 => exact HC1.out); rintro e w' ⟨rfl, ⟨nd, rfl⟩⟩; refine ⟨_, rfl, ?_⟩))
   go_ret2
   exact ⟨_, by first | rfl | (simp [errW_none, errW_some] <;> rfl) | (simp [*, errW_none, errW_some] <;> rfl), by first | exact Kd.R_nil _ _ _ _ _ | exact Kd.N_nil _ _ _ _ _ | exact Kd.V_nil _ _ _ _ _ | exact Kd.Q_nil _ _ _ _ _ | exact Kd.S_nil _ _ _ _ _, by repeat (first | (with_reducible first | exact HB.out | apply below_alloc | apply pw_below_drewN | apply below_drew1 | refine below_set ?_ GE16601.out) | exact HB.out)⟩
 ·replace c5 := Bool.eq_false_iff.mpr c5
  subst c5
  have H1 : (some (([] : List Int), 80)) = some (r1, r2) := by rw [if_neg (show ¬ (false = true) by decide)] at H; exact H
  clear H
  have H := H1
  clear H1
  simp only [Option.some.injEq, Prod.mk.injEq] at H
  obtain ⟨rfl, rfl⟩ := H
  go_enter Try.func33, Try.ntmps33
  go_wp2_with (first | ((with_reducible refine gate_dst (N := 3) rfl ?_); refine box_event ?hg (N := 3) ?hd (cs := #[.int .i64 a0_0, .int .i64 a0_1, .slice A0_2 l0_2.length c0_2]) (t := 24) ?hr ?_; (case hd => rfl); (case hg => rfl); (case hr => first | (go_simp; done) | (go_simp; rfl)); intro gb16601 hg w69 hbox hb; have n0_ := Aside0.mk (below_step (by repeat (first | (with_reducible first | exact HB.out | apply below_alloc | apply pw_below_drewN | apply below_drew1) | exact HB.out)) hb); have n1_ := Aside0.mk (hbox); have n2_ := Aside0.mk ((by rw [hg]; exact (below_size (by repeat (first | (with_reducible first | exact HB.out | apply below_alloc | apply pw_below_drewN | apply below_drew1) | exact HB.out))) : w.heap.size ≤ gb16601)); have n3_ := Aside0.mk ((by rw [hg]; exact (below_size (by repeat (first | (with_reducible first | exact HB.out | apply below_alloc | apply pw_below_drewN | apply below_drew1) | exact HB.out))) : w.heap.size ≤ gb16601)); clear HB; have HB := n0_; have BK16601 := n1_; have GW16601 := n2_; have GE16601 := n3_; clear n0_ n1_ n2_ n3_; clear hb hbox hg; have hcz70_0 : w69.cell? ⟨gb16601, 0, none⟩ = some (.int .i64 a0_0) := (blk_cell BK16601.out 0).trans rfl; have hcz70_1 : w69.cell? ⟨gb16601, 1, none⟩ = some (.int .i64 a0_1) := (blk_cell BK16601.out 1).trans rfl; have hcz70_2 : w69.cell? ⟨gb16601, 2, none⟩ = some (.slice A0_2 l0_2.length c0_2) := (blk_cell BK16601.out 2).trans rfl; have hfz70_0 := blk_frozen BK16601.out 0; have hfz70_1 := blk_frozen BK16601.out 1; have hfz70_2 := blk_frozen BK16601.out 2) | ((with_reducible refine gate_callee (f := 28) rfl ?_); refine goesL_ (some 16) rfl rfl Try.func28 (by kernel_rfl) rfl #[.agg #[.int .i64 a0_0, .int .i64 a0_1, .slice A0_2 l0_2.length c0_2]] rfl (by (try simp only [List.map_toArray, List.map_cons, List.map_nil]); first | done | rfl | (simp only [List.length_drop, List.length_take]; rfl)) ?_; (with_reducible refine (phasorref08_May.calls k a0_0 a0_1 _ _ l0_2 false _ ?side1 ?side2 A4.out).mono ?_); (case side1 => repeat (first | exact (Kd.C_below HR0_2.out HB.out) | (with_reducible refine Kd.C_alloc ?_ _) | (with_reducible refine Kd.C_drewN ?_ _) | (with_reducible refine Kd.C_drew ?_))); (case side2 => exact HC0_2.out); rintro e w71 ⟨rfl, hb⟩; refine ⟨_, rfl, ?_⟩; have n0_ := Aside0.mk (blk_below (g := gb16601) (o := .cells #[.int .i64 a0_0, .int .i64 a0_1, .slice A0_2 l0_2.length c0_2] 24 (0, 0)) (by (with_reducible repeat (first | refine blk_drewN ?_ _ | refine blk_drew ?_ | refine blk_alloc ?_ _)); exact BK16601.out) hb); have n1_ := Aside0.mk (below_step (by repeat (first | (with_reducible first | exact HB.out | apply below_alloc | apply pw_below_drewN | apply below_drew1 | refine below_set ?_ GE16601.out) | exact HB.out)) hb); clear BK16601; clear HB; have BK16601 := n0_; have HB := n1_; clear n0_ n1_; (try clear hb); (try clear hb2); (try clear hk); (try clear hi)))
  go_ret2
  exact ⟨_, by first | rfl | (simp [errW_none, errW_some] <;> rfl) | (simp [*, errW_none, errW_some] <;> rfl), by first | exact Kd.R_nil _ _ _ _ _ | exact Kd.N_nil _ _ _ _ _ | exact Kd.V_nil _ _ _ _ _ | exact Kd.Q_nil _ _ _ _ _ | exact Kd.S_nil _ _ _ _ _, by repeat (first | (with_reducible first | exact HB.out | apply below_alloc | apply pw_below_drewN | apply below_drew1 | refine below_set ?_ GE16601.out) | exact HB.out)⟩
def phasorref19_Past.f (k : Nat) (a0_0 : Int) (a0_1 : Int) (l0_2 : List (S57)) (l1 : List Int) : Option (List Int × Int) := (phasorref19_cone.f k a0_0 a0_1 l0_2 l1 true).bind fun bt6102 => (some (bt6102.1, bt6102.2))
set_option maxHeartbeats 8000000 in
set_option maxRecDepth 100000 in
theorem phasorref19_Past.calls (k : Nat) (a0_0 : Int) (a0_1 : Int) (A0_2 : Option Addr) (c0_2 : Nat) (l0_2 : List (S57)) (A1 : Option Addr) (c1 : Nat) (l1 : List Int) (r1 : List Int) (r2 : Int) (w : World) (hr0_2 : Kd.C k57 w A0_2 l0_2.length l0_2) (hc0_2 : l0_2.length ≤ c0_2) (hr1 : Kd.C (Kd.int .i64) w A1 l1.length l1) (hc1 : l1.length ≤ c1) (h : phasorref19_Past.f k a0_0 a0_1 l0_2 l1 = some (r1, r2)) :
  Calls Try.prog 12 #[.agg #[.int .i64 a0_0, .int .i64 a0_1, .slice A0_2 l0_2.length c0_2], .slice A1 l1.length c1] w fun e w' => ∃ v0_ : Value, e = .returned (.tuple #[v0_, .int .i64 r2]) ∧ Kd.R (Kd.int .i64) 3 w' w.heap.size (fun _ => True) v0_ r1 ∧ Below w.heap.size w w' := by
 have hu24 := Try.underlying24
 have HR0_2 := Aside0.mk hr0_2
 have HC0_2 := Aside0.mk hc0_2
 clear hr0_2 hc0_2
 have HR1 := Aside0.mk hr1
 have HC1 := Aside0.mk hc1
 clear hr1 hc1
 have HB := Aside0.mk (Below.refl w.heap.size w)
 have H : ((phasorref19_cone.f k a0_0 a0_1 l0_2 l1 true).bind fun bt6102 => (some (bt6102.1, bt6102.2))) = some (r1, r2) := h
 clear h
 replace H := Option.bind_eq_some_iff.mp H
 obtain ⟨⟨t6102, t6105⟩, A30, H⟩ := H
 replace H : (some (t6102, t6105)) = some (r1, r2) := H
 have A3 := Aside0.mk A30
 clear A30
 simp only [Option.some.injEq, Prod.mk.injEq] at H
 obtain ⟨rfl, rfl⟩ := H
 go_enter Try.func12, Try.ntmps12
 go_wp2_with (first | ((with_reducible refine gate_dst (N := 2) rfl ?_); refine box_event ?hg (N := 2) ?hd (cs := #[.int .i64 a0_0, .int .i64 a0_1, .slice A0_2 l0_2.length c0_2]) (t := 24) ?hr ?_; (case hd => rfl); (case hg => rfl); (case hr => first | (go_simp; done) | (go_simp; rfl)); intro gb6101 hg w4 hbox hb; have n0_ := Aside0.mk (below_step (by repeat (first | (with_reducible first | exact HB.out | apply below_alloc | apply pw_below_drewN | apply below_drew1) | exact HB.out)) hb); have n1_ := Aside0.mk (hbox); have n2_ := Aside0.mk ((by rw [hg]; exact (below_size (by repeat (first | (with_reducible first | exact HB.out | apply below_alloc | apply pw_below_drewN | apply below_drew1) | exact HB.out))) : w.heap.size ≤ gb6101)); have n3_ := Aside0.mk ((by rw [hg]; exact (below_size (by repeat (first | (with_reducible first | exact HB.out | apply below_alloc | apply pw_below_drewN | apply below_drew1) | exact HB.out))) : w.heap.size ≤ gb6101)); clear HB; have HB := n0_; have BK6101 := n1_; have GW6101 := n2_; have GE6101 := n3_; clear n0_ n1_ n2_ n3_; clear hb hbox hg; have hcz5_0 : w4.cell? ⟨gb6101, 0, none⟩ = some (.int .i64 a0_0) := (blk_cell BK6101.out 0).trans rfl; have hcz5_1 : w4.cell? ⟨gb6101, 1, none⟩ = some (.int .i64 a0_1) := (blk_cell BK6101.out 1).trans rfl; have hcz5_2 : w4.cell? ⟨gb6101, 2, none⟩ = some (.slice A0_2 l0_2.length c0_2) := (blk_cell BK6101.out 2).trans rfl; have hfz5_0 := blk_frozen BK6101.out 0; have hfz5_1 := blk_frozen BK6101.out 1; have hfz5_2 := blk_frozen BK6101.out 2) | ((with_reducible refine gate_callee (f := 33) rfl ?_); refine goesL_ (some 8) rfl rfl Try.func33 (by kernel_rfl) rfl #[.agg #[.int .i64 a0_0, .int .i64 a0_1, .slice A0_2 l0_2.length c0_2], .slice A1 l1.length c1, .bool true] rfl (by (try simp only [List.map_toArray, List.map_cons, List.map_nil]); first | done | rfl | (simp only [List.length_drop, List.length_take]; rfl)) ?_; (with_reducible refine (phasorref19_cone.calls k a0_0 a0_1 _ _ l0_2 _ _ l1 true t6102 t6105 _ ?side1 ?side2 ?side3 ?side4 A3.out).mono ?_); (case side1 => repeat (first | exact (Kd.C_below HR0_2.out HB.out) | (with_reducible refine Kd.C_alloc ?_ _) | (with_reducible refine Kd.C_drewN ?_ _) | (with_reducible refine Kd.C_drew ?_))); (case side2 => exact HC0_2.out); (case side3 => repeat (first | exact (Kd.C_below HR1.out HB.out) | (with_reducible refine Kd.C_alloc ?_ _) | (with_reducible refine Kd.C_drewN ?_ _) | (with_reducible refine Kd.C_drew ?_))); (case side4 => exact HC1.out); rintro e w6 ⟨v6103, rfl, ho0, hb⟩; refine ⟨_, rfl, ?_⟩; have n0_ := Aside0.mk (Kd.R_lower ho0 (below_size (by repeat (first | (with_reducible first | exact HB.out | apply below_alloc | apply pw_below_drewN | apply below_drew1 | refine below_set ?_ GE6101.out) | exact HB.out)))); have n1_ := Aside0.mk (blk_below (g := gb6101) (o := .cells #[.int .i64 a0_0, .int .i64 a0_1, .slice A0_2 l0_2.length c0_2] 24 (0, 0)) (by (with_reducible repeat (first | refine blk_drewN ?_ _ | refine blk_drew ?_ | refine blk_alloc ?_ _)); exact BK6101.out) hb); have n2_ := Aside0.mk (below_step (by repeat (first | (with_reducible first | exact HB.out | apply below_alloc | apply pw_below_drewN | apply below_drew1 | refine below_set ?_ GE6101.out) | exact HB.out)) hb); clear BK6101; clear HB; have HO6104 := n0_; have BK6101 := n1_; have HB := n2_; clear n0_ n1_ n2_; (try clear hb); (try clear hb2); (try clear hk); (try clear hi); (try clear ho0)))
 go_ret2
 exact ⟨_, by first | rfl | (simp [errW_none, errW_some] <;> rfl) | (simp [*, errW_none, errW_some] <;> rfl), by (with_reducible repeat (first | apply Kd.R_alloc | apply Kd.R_drewN | apply Kd.R_drew)); exact HO6104.out, by repeat (first | (with_reducible first | exact HB.out | apply below_alloc | apply pw_below_drewN | apply below_drew1 | refine below_set ?_ GE6101.out) | exact HB.out)⟩
end Go.Proofs.Ytpnfhddcnnoclaa.Px
