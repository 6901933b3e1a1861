import Derived.Test.YtpnfhddcnnoclaaTell5
namespace Go.Proofs.Ytpnfhddcnnoclaa.Px
open Go.RowKit Go.Proofs.YtpnfhddcnnoclaaW.PrintWords Go.Proofs.YtpnfhddcnnoclaaW.PrintLast Go.Proofs.YtpnfhddcnnoclaaW.PrintMore
attribute [local go_sem] max2_int min2_int max_two min_two max_three min_three max_four min_four
set_option linter.unusedVariables false
set_option linter.unusedSimpArgs false
def phasorref08_SameOp.f (k : Nat) (a0_0 : Int) (a0_1 : Int) (l0_2 : List Int) (a0_3 : Int) (a0_4 : Int) (a0_5 : Int) (a1_0 : Int) (a1_1 : Int) (l1_2 : List Int) (a1_3 : Int) (a1_4 : Int) (a1_5 : Int) : Option (Bool) := if a0_0 = a1_0 then (if a0_1 = a1_1 then (if a0_3 = a1_3 then (if a0_4 = a1_4 then (if a0_5 = a1_5 then ((phasorref08_ints.f k l0_2 l1_2).bind fun t17603 => (some t17603)) else (some false)) else (some false)) else (some false)) else (some false)) else (some false)
set_option maxHeartbeats 8000000 in
set_option maxRecDepth 100000 in
theorem phasorref08_SameOp.calls (k : Nat) (a0_0 : Int) (a0_1 : Int) (A0_2 : Option Addr) (c0_2 : Nat) (l0_2 : List Int) (a0_3 : Int) (a0_4 : Int) (a0_5 : Int) (a1_0 : Int) (a1_1 : Int) (A1_2 : Option Addr) (c1_2 : Nat) (l1_2 : List Int) (a1_3 : Int) (a1_4 : Int) (a1_5 : Int) (r : Bool) (w : World) (hr0_2 : Kd.C (Kd.int .i64) w A0_2 l0_2.length l0_2) (hc0_2 : l0_2.length ≤ c0_2) (hr1_2 : Kd.C (Kd.int .i64) w A1_2 l1_2.length l1_2) (hc1_2 : l1_2.length ≤ c1_2) (h : phasorref08_SameOp.f k a0_0 a0_1 l0_2 a0_3 a0_4 a0_5 a1_0 a1_1 l1_2 a1_3 a1_4 a1_5 = some r) :
  Calls Try.prog 35 #[.agg #[.int .i64 a0_0, .int .i64 a0_1, .slice A0_2 l0_2.length c0_2, .int .i64 a0_3, .int .i64 a0_4, .int .i64 a0_5], .agg #[.int .i64 a1_0, .int .i64 a1_1, .slice A1_2 l1_2.length c1_2, .int .i64 a1_3, .int .i64 a1_4, .int .i64 a1_5]] w fun e w' => e = .returned (.bool r) ∧ Below w.heap.size w w' := by
 have hu57 := Try.underlying57
 have HR0_2 := Aside0.mk hr0_2
 have HC0_2 := Aside0.mk hc0_2
 clear hr0_2 hc0_2
 have HR1_2 := Aside0.mk hr1_2
 have HC1_2 := Aside0.mk hc1_2
 clear hr1_2 hc1_2
 have HB := Aside0.mk (Below.refl w.heap.size w)
 have H : (if a0_0 = a1_0 then (if a0_1 = a1_1 then (if a0_3 = a1_3 then (if a0_4 = a1_4 then (if a0_5 = a1_5 then ((phasorref08_ints.f k l0_2 l1_2).bind fun t17603 => (some t17603)) else (some false)) else (some false)) else (some false)) else (some false)) else (some false)) = some r := h
 clear h
 by_cases c3 : a0_0 = a1_0
 ·rw [if_pos c3] at H
  have c3b0 : (a0_0 == a1_0) = true := beq_iff_eq.mpr c3
  have c3b1 : (a0_0 != a1_0) = false := bne_eq_false_iff_eq.mpr c3
  clear c3
  by_cases c4 : a0_1 = a1_1
  ·rw [if_pos c4] at H
   have c4b0 : (a0_1 == a1_1) = true := beq_iff_eq.mpr c4
   have c4b1 : (a0_1 != a1_1) = false := bne_eq_false_iff_eq.mpr c4
   clear c4
   by_cases c5 : a0_3 = a1_3
   ·rw [if_pos c5] at H
    have c5b0 : (a0_3 == a1_3) = true := beq_iff_eq.mpr c5
    have c5b1 : (a0_3 != a1_3) = false := bne_eq_false_iff_eq.mpr c5
    clear c5
    by_cases c6 : a0_4 = a1_4
    ·rw [if_pos c6] at H
     have c6b0 : (a0_4 == a1_4) = true := beq_iff_eq.mpr c6
     have c6b1 : (a0_4 != a1_4) = false := bne_eq_false_iff_eq.mpr c6
     clear c6
     by_cases c7 : a0_5 = a1_5
     ·rw [if_pos c7] at H
      have c7b0 : (a0_5 == a1_5) = true := beq_iff_eq.mpr c7
      have c7b1 : (a0_5 != a1_5) = false := bne_eq_false_iff_eq.mpr c7
      clear c7
      replace H := Option.bind_eq_some_iff.mp H
      obtain ⟨t17603, A80, H⟩ := H
      replace H : (some t17603) = some r := H
      have A8 := Aside0.mk A80
      clear A80
      obtain rfl := Option.some.inj H
      go_enter Try.func35, Try.ntmps35
      go_wp2_with (first | ((with_reducible refine gate_dst (N := 2) rfl ?_); refine box_event ?hg (N := 2) ?hd (cs := #[.int .i64 a0_0, .int .i64 a0_1, .slice A0_2 l0_2.length c0_2, .int .i64 a0_3, .int .i64 a0_4, .int .i64 a0_5]) (t := 57) ?hr ?_; (case hd => rfl); (case hg => rfl); (case hr => first | (go_simp; done) | (go_simp; rfl)); intro gb17601 hg w9 hbox hb; have n0_ := Aside0.mk (below_step (by repeat (first | (with_reducible first | exact HB.out | apply below_alloc | apply pw_below_drewN | apply below_drew1) | exact HB.out)) hb); have n1_ := Aside0.mk (hbox); have n2_ := Aside0.mk ((by rw [hg]; exact (below_size (by repeat (first | (with_reducible first | exact HB.out | apply below_alloc | apply pw_below_drewN | apply below_drew1) | exact HB.out))) : w.heap.size ≤ gb17601)); have n3_ := Aside0.mk ((by rw [hg]; exact (below_size (by repeat (first | (with_reducible first | exact HB.out | apply below_alloc | apply pw_below_drewN | apply below_drew1) | exact HB.out))) : w.heap.size ≤ gb17601)); clear HB; have HB := n0_; have BK17601 := n1_; have GW17601 := n2_; have GE17601 := n3_; clear n0_ n1_ n2_ n3_; clear hb hbox hg) | ((with_reducible refine gate_dst (N := 3) rfl ?_); refine box_event ?hg (N := 3) ?hd (cs := #[.int .i64 a1_0, .int .i64 a1_1, .slice A1_2 l1_2.length c1_2, .int .i64 a1_3, .int .i64 a1_4, .int .i64 a1_5]) (t := 57) ?hr ?_; (case hd => rfl); (case hg => rfl); (case hr => first | (go_simp; done) | (go_simp; rfl)); intro gb17602 hg w10 hbox hb; have n0_ := Aside0.mk (blk_below (g := gb17601) (o := .cells #[.int .i64 a0_0, .int .i64 a0_1, .slice A0_2 l0_2.length c0_2, .int .i64 a0_3, .int .i64 a0_4, .int .i64 a0_5] 57 (0, 0)) (by (with_reducible repeat (first | refine blk_drewN ?_ _ | refine blk_drew ?_ | refine blk_alloc ?_ _)); exact BK17601.out) hb); have n1_ := Aside0.mk (below_step (by repeat (first | (with_reducible first | exact HB.out | apply below_alloc | apply pw_below_drewN | apply below_drew1 | refine below_set ?_ GE17601.out) | exact HB.out)) hb); have n2_ := Aside0.mk (hbox); have n3_ := Aside0.mk ((by rw [hg]; exact (below_size (by repeat (first | (with_reducible first | exact HB.out | apply below_alloc | apply pw_below_drewN | apply below_drew1 | refine below_set ?_ GE17601.out) | exact HB.out))) : w.heap.size ≤ gb17602)); have n4_ := Aside0.mk ((by rw [hg]; exact (below_size (by repeat (first | (with_reducible first | exact HB.out | apply below_alloc | apply pw_below_drewN | apply below_drew1 | refine below_set ?_ GE17601.out) | exact HB.out))) : w.heap.size ≤ gb17602)); have n5_ := Aside0.mk ((by rw [hg]; exact Nat.ne_of_lt (blk_lt (g := gb17601) (o := .cells #[.int .i64 a0_0, .int .i64 a0_1, .slice A0_2 l0_2.length c0_2, .int .i64 a0_3, .int .i64 a0_4, .int .i64 a0_5] 57 (0, 0)) (by (with_reducible repeat (first | refine blk_drewN ?_ _ | refine blk_drew ?_ | refine blk_alloc ?_ _)); exact BK17601.out)) : gb17601 ≠ gb17602)); have n6_ := Aside0.mk ((by rw [hg]; exact Nat.ne_of_gt (blk_lt (g := gb17601) (o := .cells #[.int .i64 a0_0, .int .i64 a0_1, .slice A0_2 l0_2.length c0_2, .int .i64 a0_3, .int .i64 a0_4, .int .i64 a0_5] 57 (0, 0)) (by (with_reducible repeat (first | refine blk_drewN ?_ _ | refine blk_drew ?_ | refine blk_alloc ?_ _)); exact BK17601.out)) : gb17602 ≠ gb17601)); clear BK17601; clear HB; have BK17601 := n0_; have HB := n1_; have BK17602 := n2_; have GW17602 := n3_; have GE17602 := n4_; have NB17601_17602 := n5_; have NB17602_17601 := n6_; clear n0_ n1_ n2_ n3_ n4_ n5_ n6_; clear hb hbox hg; have hnb11 := NB17601_17602.out; have hnc11 := NB17602_17601.out; have hcz12_0 : w10.cell? ⟨gb17601, 0, none⟩ = some (.int .i64 a0_0) := (blk_cell BK17601.out 0).trans rfl; have hcz12_1 : w10.cell? ⟨gb17601, 1, none⟩ = some (.int .i64 a0_1) := (blk_cell BK17601.out 1).trans rfl; have hcz12_2 : w10.cell? ⟨gb17601, 2, none⟩ = some (.slice A0_2 l0_2.length c0_2) := (blk_cell BK17601.out 2).trans rfl; have hcz12_3 : w10.cell? ⟨gb17601, 3, none⟩ = some (.int .i64 a0_3) := (blk_cell BK17601.out 3).trans rfl; have hcz12_4 : w10.cell? ⟨gb17601, 4, none⟩ = some (.int .i64 a0_4) := (blk_cell BK17601.out 4).trans rfl; have hcz12_5 : w10.cell? ⟨gb17601, 5, none⟩ = some (.int .i64 a0_5) := (blk_cell BK17601.out 5).trans rfl; have hfz12_0 := blk_frozen BK17601.out 0; have hfz12_1 := blk_frozen BK17601.out 1; have hfz12_2 := blk_frozen BK17601.out 2; have hfz12_3 := blk_frozen BK17601.out 3; have hfz12_4 := blk_frozen BK17601.out 4; have hfz12_5 := blk_frozen BK17601.out 5; have hcz13_0 : w10.cell? ⟨gb17602, 0, none⟩ = some (.int .i64 a1_0) := (blk_cell BK17602.out 0).trans rfl; have hcz13_1 : w10.cell? ⟨gb17602, 1, none⟩ = some (.int .i64 a1_1) := (blk_cell BK17602.out 1).trans rfl; have hcz13_2 : w10.cell? ⟨gb17602, 2, none⟩ = some (.slice A1_2 l1_2.length c1_2) := (blk_cell BK17602.out 2).trans rfl; have hcz13_3 : w10.cell? ⟨gb17602, 3, none⟩ = some (.int .i64 a1_3) := (blk_cell BK17602.out 3).trans rfl; have hcz13_4 : w10.cell? ⟨gb17602, 4, none⟩ = some (.int .i64 a1_4) := (blk_cell BK17602.out 4).trans rfl; have hcz13_5 : w10.cell? ⟨gb17602, 5, none⟩ = some (.int .i64 a1_5) := (blk_cell BK17602.out 5).trans rfl; have hfz13_0 := blk_frozen BK17602.out 0; have hfz13_1 := blk_frozen BK17602.out 1; have hfz13_2 := blk_frozen BK17602.out 2; have hfz13_3 := blk_frozen BK17602.out 3; have hfz13_4 := blk_frozen BK17602.out 4; have hfz13_5 := blk_frozen BK17602.out 5) | (go_at_call 51; (with_reducible refine (phasorref08_ints.calls k _ _ l0_2 _ _ l1_2 t17603 _ ?side1 ?side2 ?side3 ?side4 A8.out).mono ?_); (case side1 => repeat (first | exact (Kd.C_below HR0_2.out HB.out) | (with_reducible refine Kd.C_alloc ?_ _) | (with_reducible refine Kd.C_drewN ?_ _) | (with_reducible refine Kd.C_drew ?_))); (case side2 => exact HC0_2.out); (case side3 => repeat (first | exact (Kd.C_below HR1_2.out HB.out) | (with_reducible refine Kd.C_alloc ?_ _) | (with_reducible refine Kd.C_drewN ?_ _) | (with_reducible refine Kd.C_drew ?_))); (case side4 => exact HC1_2.out); rintro e w' ⟨rfl, ⟨nd, rfl⟩⟩))
      go_ret
      exact ⟨by first | rfl | (simp [errW_none, errW_some] <;> rfl) | (simp [*, errW_none, errW_some] <;> rfl), by repeat (first | (with_reducible first | exact HB.out | apply below_alloc | apply pw_below_drewN | apply below_drew1 | refine below_set ?_ GE17601.out | refine below_set ?_ GE17602.out) | exact HB.out)⟩
     ·rw [if_neg c7] at H
      have c7b0 : (a0_5 == a1_5) = false := beq_eq_false_iff_ne.mpr c7
      have c7b1 : (a0_5 != a1_5) = true := bne_iff_ne.mpr c7
      obtain rfl := Option.some.inj H
      go_enter Try.func35, Try.ntmps35
      go_wp2_with (first | ((with_reducible refine gate_dst (N := 2) rfl ?_); refine box_event ?hg (N := 2) ?hd (cs := #[.int .i64 a0_0, .int .i64 a0_1, .slice A0_2 l0_2.length c0_2, .int .i64 a0_3, .int .i64 a0_4, .int .i64 a0_5]) (t := 57) ?hr ?_; (case hd => rfl); (case hg => rfl); (case hr => first | (go_simp; done) | (go_simp; rfl)); intro gb17601 hg w14 hbox hb; have n0_ := Aside0.mk (below_step (by repeat (first | (with_reducible first | exact HB.out | apply below_alloc | apply pw_below_drewN | apply below_drew1) | exact HB.out)) hb); have n1_ := Aside0.mk (hbox); have n2_ := Aside0.mk ((by rw [hg]; exact (below_size (by repeat (first | (with_reducible first | exact HB.out | apply below_alloc | apply pw_below_drewN | apply below_drew1) | exact HB.out))) : w.heap.size ≤ gb17601)); have n3_ := Aside0.mk ((by rw [hg]; exact (below_size (by repeat (first | (with_reducible first | exact HB.out | apply below_alloc | apply pw_below_drewN | apply below_drew1) | exact HB.out))) : w.heap.size ≤ gb17601)); clear HB; have HB := n0_; have BK17601 := n1_; have GW17601 := n2_; have GE17601 := n3_; clear n0_ n1_ n2_ n3_; clear hb hbox hg) | ((with_reducible refine gate_dst (N := 3) rfl ?_); refine box_event ?hg (N := 3) ?hd (cs := #[.int .i64 a1_0, .int .i64 a1_1, .slice A1_2 l1_2.length c1_2, .int .i64 a1_3, .int .i64 a1_4, .int .i64 a1_5]) (t := 57) ?hr ?_; (case hd => rfl); (case hg => rfl); (case hr => first | (go_simp; done) | (go_simp; rfl)); intro gb17602 hg w15 hbox hb; have n0_ := Aside0.mk (blk_below (g := gb17601) (o := .cells #[.int .i64 a0_0, .int .i64 a0_1, .slice A0_2 l0_2.length c0_2, .int .i64 a0_3, .int .i64 a0_4, .int .i64 a0_5] 57 (0, 0)) (by (with_reducible repeat (first | refine blk_drewN ?_ _ | refine blk_drew ?_ | refine blk_alloc ?_ _)); exact BK17601.out) hb); have n1_ := Aside0.mk (below_step (by repeat (first | (with_reducible first | exact HB.out | apply below_alloc | apply pw_below_drewN | apply below_drew1 | refine below_set ?_ GE17601.out) | exact HB.out)) hb); have n2_ := Aside0.mk (hbox); have n3_ := Aside0.mk ((by rw [hg]; exact (below_size (by repeat (first | (with_reducible first | exact HB.out | apply below_alloc | apply pw_below_drewN | apply below_drew1 | refine below_set ?_ GE17601.out) | exact HB.out))) : w.heap.size ≤ gb17602)); have n4_ := Aside0.mk ((by rw [hg]; exact (below_size (by repeat (first | (with_reducible first | exact HB.out | apply below_alloc | apply pw_below_drewN | apply below_drew1 | refine below_set ?_ GE17601.out) | exact HB.out))) : w.heap.size ≤ gb17602)); have n5_ := Aside0.mk ((by rw [hg]; exact Nat.ne_of_lt (blk_lt (g := gb17601) (o := .cells #[.int .i64 a0_0, .int .i64 a0_1, .slice A0_2 l0_2.length c0_2, .int .i64 a0_3, .int .i64 a0_4, .int .i64 a0_5] 57 (0, 0)) (by (with_reducible repeat (first | refine blk_drewN ?_ _ | refine blk_drew ?_ | refine blk_alloc ?_ _)); exact BK17601.out)) : gb17601 ≠ gb17602)); have n6_ := Aside0.mk ((by rw [hg]; exact Nat.ne_of_gt (blk_lt (g := gb17601) (o := .cells #[.int .i64 a0_0, .int .i64 a0_1, .slice A0_2 l0_2.length c0_2, .int .i64 a0_3, .int .i64 a0_4, .int .i64 a0_5] 57 (0, 0)) (by (with_reducible repeat (first | refine blk_drewN ?_ _ | refine blk_drew ?_ | refine blk_alloc ?_ _)); exact BK17601.out)) : gb17602 ≠ gb17601)); clear BK17601; clear HB; have BK17601 := n0_; have HB := n1_; have BK17602 := n2_; have GW17602 := n3_; have GE17602 := n4_; have NB17601_17602 := n5_; have NB17602_17601 := n6_; clear n0_ n1_ n2_ n3_ n4_ n5_ n6_; clear hb hbox hg; have hnb16 := NB17601_17602.out; have hnc16 := NB17602_17601.out; have hcz17_0 : w15.cell? ⟨gb17601, 0, none⟩ = some (.int .i64 a0_0) := (blk_cell BK17601.out 0).trans rfl; have hcz17_1 : w15.cell? ⟨gb17601, 1, none⟩ = some (.int .i64 a0_1) := (blk_cell BK17601.out 1).trans rfl; have hcz17_2 : w15.cell? ⟨gb17601, 2, none⟩ = some (.slice A0_2 l0_2.length c0_2) := (blk_cell BK17601.out 2).trans rfl; have hcz17_3 : w15.cell? ⟨gb17601, 3, none⟩ = some (.int .i64 a0_3) := (blk_cell BK17601.out 3).trans rfl; have hcz17_4 : w15.cell? ⟨gb17601, 4, none⟩ = some (.int .i64 a0_4) := (blk_cell BK17601.out 4).trans rfl; have hcz17_5 : w15.cell? ⟨gb17601, 5, none⟩ = some (.int .i64 a0_5) := (blk_cell BK17601.out 5).trans rfl; have hfz17_0 := blk_frozen BK17601.out 0; have hfz17_1 := blk_frozen BK17601.out 1; have hfz17_2 := blk_frozen BK17601.out 2; have hfz17_3 := blk_frozen BK17601.out 3; have hfz17_4 := blk_frozen BK17601.out 4; have hfz17_5 := blk_frozen BK17601.out 5; have hcz18_0 : w15.cell? ⟨gb17602, 0, none⟩ = some (.int .i64 a1_0) := (blk_cell BK17602.out 0).trans rfl; have hcz18_1 : w15.cell? ⟨gb17602, 1, none⟩ = some (.int .i64 a1_1) := (blk_cell BK17602.out 1).trans rfl; have hcz18_2 : w15.cell? ⟨gb17602, 2, none⟩ = some (.slice A1_2 l1_2.length c1_2) := (blk_cell BK17602.out 2).trans rfl; have hcz18_3 : w15.cell? ⟨gb17602, 3, none⟩ = some (.int .i64 a1_3) := (blk_cell BK17602.out 3).trans rfl; have hcz18_4 : w15.cell? ⟨gb17602, 4, none⟩ = some (.int .i64 a1_4) := (blk_cell BK17602.out 4).trans rfl; have hcz18_5 : w15.cell? ⟨gb17602, 5, none⟩ = some (.int .i64 a1_5) := (blk_cell BK17602.out 5).trans rfl; have hfz18_0 := blk_frozen BK17602.out 0; have hfz18_1 := blk_frozen BK17602.out 1; have hfz18_2 := blk_frozen BK17602.out 2; have hfz18_3 := blk_frozen BK17602.out 3; have hfz18_4 := blk_frozen BK17602.out 4; have hfz18_5 := blk_frozen BK17602.out 5))
      go_ret
      exact ⟨by first | rfl | (simp [errW_none, errW_some] <;> rfl) | (simp [*, errW_none, errW_some] <;> rfl), by repeat (first | (with_reducible first | exact HB.out | apply below_alloc | apply pw_below_drewN | apply below_drew1 | refine below_set ?_ GE17601.out | refine below_set ?_ GE17602.out) | exact HB.out)⟩
    ·rw [if_neg c6] at H
     have c6b0 : (a0_4 == a1_4) = false := beq_eq_false_iff_ne.mpr c6
     have c6b1 : (a0_4 != a1_4) = true := bne_iff_ne.mpr c6
     obtain rfl := Option.some.inj H
     go_enter Try.func35, Try.ntmps35
     go_wp2_with (first | ((with_reducible refine gate_dst (N := 2) rfl ?_); refine box_event ?hg (N := 2) ?hd (cs := #[.int .i64 a0_0, .int .i64 a0_1, .slice A0_2 l0_2.length c0_2, .int .i64 a0_3, .int .i64 a0_4, .int .i64 a0_5]) (t := 57) ?hr ?_; (case hd => rfl); (case hg => rfl); (case hr => first | (go_simp; done) | (go_simp; rfl)); intro gb17601 hg w19 hbox hb; have n0_ := Aside0.mk (below_step (by repeat (first | (with_reducible first | exact HB.out | apply below_alloc | apply pw_below_drewN | apply below_drew1) | exact HB.out)) hb); have n1_ := Aside0.mk (hbox); have n2_ := Aside0.mk ((by rw [hg]; exact (below_size (by repeat (first | (with_reducible first | exact HB.out | apply below_alloc | apply pw_below_drewN | apply below_drew1) | exact HB.out))) : w.heap.size ≤ gb17601)); have n3_ := Aside0.mk ((by rw [hg]; exact (below_size (by repeat (first | (with_reducible first | exact HB.out | apply below_alloc | apply pw_below_drewN | apply below_drew1) | exact HB.out))) : w.heap.size ≤ gb17601)); clear HB; have HB := n0_; have BK17601 := n1_; have GW17601 := n2_; have GE17601 := n3_; clear n0_ n1_ n2_ n3_; clear hb hbox hg) | ((with_reducible refine gate_dst (N := 3) rfl ?_); refine box_event ?hg (N := 3) ?hd (cs := #[.int .i64 a1_0, .int .i64 a1_1, .slice A1_2 l1_2.length c1_2, .int .i64 a1_3, .int .i64 a1_4, .int .i64 a1_5]) (t := 57) ?hr ?_; (case hd => rfl); (case hg => rfl); (case hr => first | (go_simp; done) | (go_simp; rfl)); intro gb17602 hg w20 hbox hb; have n0_ := Aside0.mk (blk_below (g := gb17601) (o := .cells #[.int .i64 a0_0, .int .i64 a0_1, .slice A0_2 l0_2.length c0_2, .int .i64 a0_3, .int .i64 a0_4, .int .i64 a0_5] 57 (0, 0)) (by (with_reducible repeat (first | refine blk_drewN ?_ _ | refine blk_drew ?_ | refine blk_alloc ?_ _)); exact BK17601.out) hb); have n1_ := Aside0.mk (below_step (by repeat (first | (with_reducible first | exact HB.out | apply below_alloc | apply pw_below_drewN | apply below_drew1 | refine below_set ?_ GE17601.out) | exact HB.out)) hb); have n2_ := Aside0.mk (hbox); have n3_ := Aside0.mk ((by rw [hg]; exact (below_size (by repeat (first | (with_reducible first | exact HB.out | apply below_alloc | apply pw_below_drewN | apply below_drew1 | refine below_set ?_ GE17601.out) | exact HB.out))) : w.heap.size ≤ gb17602)); have n4_ := Aside0.mk ((by rw [hg]; exact (below_size (by repeat (first | (with_reducible first | exact HB.out | apply below_alloc | apply pw_below_drewN | apply below_drew1 | refine below_set ?_ GE17601.out) | exact HB.out))) : w.heap.size ≤ gb17602)); have n5_ := Aside0.mk ((by rw [hg]; exact Nat.ne_of_lt (blk_lt (g := gb17601) (o := .cells #[.int .i64 a0_0, .int .i64 a0_1, .slice A0_2 l0_2.length c0_2, .int .i64 a0_3, .int .i64 a0_4, .int .i64 a0_5] 57 (0, 0)) (by (with_reducible repeat (first | refine blk_drewN ?_ _ | refine blk_drew ?_ | refine blk_alloc ?_ _)); exact BK17601.out)) : gb17601 ≠ gb17602)); have n6_ := Aside0.mk ((by rw [hg]; exact Nat.ne_of_gt (blk_lt (g := gb17601) (o := .cells #[.int .i64 a0_0, .int .i64 a0_1, .slice A0_2 l0_2.length c0_2, .int .i64 a0_3, .int .i64 a0_4, .int .i64 a0_5] 57 (0, 0)) (by (with_reducible repeat (first | refine blk_drewN ?_ _ | refine blk_drew ?_ | refine blk_alloc ?_ _)); exact BK17601.out)) : gb17602 ≠ gb17601)); clear BK17601; clear HB; have BK17601 := n0_; have HB := n1_; have BK17602 := n2_; have GW17602 := n3_; have GE17602 := n4_; have NB17601_17602 := n5_; have NB17602_17601 := n6_; clear n0_ n1_ n2_ n3_ n4_ n5_ n6_; clear hb hbox hg; have hnb21 := NB17601_17602.out; have hnc21 := NB17602_17601.out; have hcz22_0 : w20.cell? ⟨gb17601, 0, none⟩ = some (.int .i64 a0_0) := (blk_cell BK17601.out 0).trans rfl; have hcz22_1 : w20.cell? ⟨gb17601, 1, none⟩ = some (.int .i64 a0_1) := (blk_cell BK17601.out 1).trans rfl; have hcz22_2 : w20.cell? ⟨gb17601, 2, none⟩ = some (.slice A0_2 l0_2.length c0_2) := (blk_cell BK17601.out 2).trans rfl; have hcz22_3 : w20.cell? ⟨gb17601, 3, none⟩ = some (.int .i64 a0_3) := (blk_cell BK17601.out 3).trans rfl; have hcz22_4 : w20.cell? ⟨gb17601, 4, none⟩ = some (.int .i64 a0_4) := (blk_cell BK17601.out 4).trans rfl; have hcz22_5 : w20.cell? ⟨gb17601, 5, none⟩ = some (.int .i64 a0_5) := (blk_cell BK17601.out 5).trans rfl; have hfz22_0 := blk_frozen BK17601.out 0; have hfz22_1 := blk_frozen BK17601.out 1; have hfz22_2 := blk_frozen BK17601.out 2; have hfz22_3 := blk_frozen BK17601.out 3; have hfz22_4 := blk_frozen BK17601.out 4; have hfz22_5 := blk_frozen BK17601.out 5; have hcz23_0 : w20.cell? ⟨gb17602, 0, none⟩ = some (.int .i64 a1_0) := (blk_cell BK17602.out 0).trans rfl; have hcz23_1 : w20.cell? ⟨gb17602, 1, none⟩ = some (.int .i64 a1_1) := (blk_cell BK17602.out 1).trans rfl; have hcz23_2 : w20.cell? ⟨gb17602, 2, none⟩ = some (.slice A1_2 l1_2.length c1_2) := (blk_cell BK17602.out 2).trans rfl; have hcz23_3 : w20.cell? ⟨gb17602, 3, none⟩ = some (.int .i64 a1_3) := (blk_cell BK17602.out 3).trans rfl; have hcz23_4 : w20.cell? ⟨gb17602, 4, none⟩ = some (.int .i64 a1_4) := (blk_cell BK17602.out 4).trans rfl; have hcz23_5 : w20.cell? ⟨gb17602, 5, none⟩ = some (.int .i64 a1_5) := (blk_cell BK17602.out 5).trans rfl; have hfz23_0 := blk_frozen BK17602.out 0; have hfz23_1 := blk_frozen BK17602.out 1; have hfz23_2 := blk_frozen BK17602.out 2; have hfz23_3 := blk_frozen BK17602.out 3; have hfz23_4 := blk_frozen BK17602.out 4; have hfz23_5 := blk_frozen BK17602.out 5))
     go_ret
     exact ⟨by first | rfl | (simp [errW_none, errW_some] <;> rfl) | (simp [*, errW_none, errW_some] <;> rfl), by repeat (first | (with_reducible first | exact HB.out | apply below_alloc | apply pw_below_drewN | apply below_drew1 | refine below_set ?_ GE17601.out | refine below_set ?_ GE17602.out) | exact HB.out)⟩
   ·rw [if_neg c5] at H
    have c5b0 : (a0_3 == a1_3) = false := beq_eq_false_iff_ne.mpr c5
    have c5b1 : (a0_3 != a1_3) = true := bne_iff_ne.mpr c5
    obtain rfl := Option.some.inj H
    go_enter Try.func35, Try.ntmps35
    go_wp2_with (first | ((with_reducible refine gate_dst (N := 2) rfl ?_); refine box_event ?hg (N := 2) ?hd (cs := #[.int .i64 a0_0, .int .i64 a0_1, .slice A0_2 l0_2.length c0_2, .int .i64 a0_3, .int .i64 a0_4, .int .i64 a0_5]) (t := 57) ?hr ?_; (case hd => rfl); (case hg => rfl); (case hr => first | (go_simp; done) | (go_simp; rfl)); intro gb17601 hg w24 hbox hb; have n0_ := Aside0.mk (below_step (by repeat (first | (with_reducible first | exact HB.out | apply below_alloc | apply pw_below_drewN | apply below_drew1) | exact HB.out)) hb); have n1_ := Aside0.mk (hbox); have n2_ := Aside0.mk ((by rw [hg]; exact (below_size (by repeat (first | (with_reducible first | exact HB.out | apply below_alloc | apply pw_below_drewN | apply below_drew1) | exact HB.out))) : w.heap.size ≤ gb17601)); have n3_ := Aside0.mk ((by rw [hg]; exact (below_size (by repeat (first | (with_reducible first | exact HB.out | apply below_alloc | apply pw_below_drewN | apply below_drew1) | exact HB.out))) : w.heap.size ≤ gb17601)); clear HB; have HB := n0_; have BK17601 := n1_; have GW17601 := n2_; have GE17601 := n3_; clear n0_ n1_ n2_ n3_; clear hb hbox hg) | ((with_reducible refine gate_dst (N := 3) rfl ?_); refine box_event ?hg (N := 3) ?hd (cs := #[.int .i64 a1_0, .int .i64 a1_1, .slice A1_2 l1_2.length c1_2, .int .i64 a1_3, .int .i64 a1_4, .int .i64 a1_5]) (t := 57) ?hr ?_; (case hd => rfl); (case hg => rfl); (case hr => first | (go_simp; done) | (go_simp; rfl)); intro gb17602 hg w25 hbox hb; have n0_ := Aside0.mk (blk_below (g := gb17601) (o := .cells #[.int .i64 a0_0, .int .i64 a0_1, .slice A0_2 l0_2.length c0_2, .int .i64 a0_3, .int .i64 a0_4, .int .i64 a0_5] 57 (0, 0)) (by (with_reducible repeat (first | refine blk_drewN ?_ _ | refine blk_drew ?_ | refine blk_alloc ?_ _)); exact BK17601.out) hb); have n1_ := Aside0.mk (below_step (by repeat (first | (with_reducible first | exact HB.out | apply below_alloc | apply pw_below_drewN | apply below_drew1 | refine below_set ?_ GE17601.out) | exact HB.out)) hb); have n2_ := Aside0.mk (hbox); have n3_ := Aside0.mk ((by rw [hg]; exact (below_size (by repeat (first | (with_reducible first | exact HB.out | apply below_alloc | apply pw_below_drewN | apply below_drew1 | refine below_set ?_ GE17601.out) | exact HB.out))) : w.heap.size ≤ gb17602)); have n4_ := Aside0.mk ((by rw [hg]; exact (below_size (by repeat (first | (with_reducible first | exact HB.out | apply below_alloc | apply pw_below_drewN | apply below_drew1 | refine below_set ?_ GE17601.out) | exact HB.out))) : w.heap.size ≤ gb17602)); have n5_ := Aside0.mk ((by rw [hg]; exact Nat.ne_of_lt (blk_lt (g := gb17601) (o := .cells #[.int .i64 a0_0, .int .i64 a0_1, .slice A0_2 l0_2.length c0_2, .int .i64 a0_3, .int .i64 a0_4, .int .i64 a0_5] 57 (0, 0)) (by (with_reducible repeat (first | refine blk_drewN ?_ _ | refine blk_drew ?_ | refine blk_alloc ?_ _)); exact BK17601.out)) : gb17601 ≠ gb17602)); have n6_ := Aside0.mk ((by rw [hg]; exact Nat.ne_of_gt (blk_lt (g := gb17601) (o := .cells #[.int .i64 a0_0, .int .i64 a0_1, .slice A0_2 l0_2.length c0_2, .int .i64 a0_3, .int .i64 a0_4, .int .i64 a0_5] 57 (0, 0)) (by (with_reducible repeat (first | refine blk_drewN ?_ _ | refine blk_drew ?_ | refine blk_alloc ?_ _)); exact BK17601.out)) : gb17602 ≠ gb17601)); clear BK17601; clear HB; have BK17601 := n0_; have HB := n1_; have BK17602 := n2_; have GW17602 := n3_; have GE17602 := n4_; have NB17601_17602 := n5_; have NB17602_17601 := n6_; clear n0_ n1_ n2_ n3_ n4_ n5_ n6_; clear hb hbox hg; have hnb26 := NB17601_17602.out; have hnc26 := NB17602_17601.out; have hcz27_0 : w25.cell? ⟨gb17601, 0, none⟩ = some (.int .i64 a0_0) := (blk_cell BK17601.out 0).trans rfl; have hcz27_1 : w25.cell? ⟨gb17601, 1, none⟩ = some (.int .i64 a0_1) := (blk_cell BK17601.out 1).trans rfl; have hcz27_2 : w25.cell? ⟨gb17601, 2, none⟩ = some (.slice A0_2 l0_2.length c0_2) := (blk_cell BK17601.out 2).trans rfl; have hcz27_3 : w25.cell? ⟨gb17601, 3, none⟩ = some (.int .i64 a0_3) := (blk_cell BK17601.out 3).trans rfl; have hcz27_4 : w25.cell? ⟨gb17601, 4, none⟩ = some (.int .i64 a0_4) := (blk_cell BK17601.out 4).trans rfl; have hcz27_5 : w25.cell? ⟨gb17601, 5, none⟩ = some (.int .i64 a0_5) := (blk_cell BK17601.out 5).trans rfl; have hfz27_0 := blk_frozen BK17601.out 0; have hfz27_1 := blk_frozen BK17601.out 1; have hfz27_2 := blk_frozen BK17601.out 2; have hfz27_3 := blk_frozen BK17601.out 3; have hfz27_4 := blk_frozen BK17601.out 4; have hfz27_5 := blk_frozen BK17601.out 5; have hcz28_0 : w25.cell? ⟨gb17602, 0, none⟩ = some (.int .i64 a1_0) := (blk_cell BK17602.out 0).trans rfl; have hcz28_1 : w25.cell? ⟨gb17602, 1, none⟩ = some (.int .i64 a1_1) := (blk_cell BK17602.out 1).trans rfl; have hcz28_2 : w25.cell? ⟨gb17602, 2, none⟩ = some (.slice A1_2 l1_2.length c1_2) := (blk_cell BK17602.out 2).trans rfl; have hcz28_3 : w25.cell? ⟨gb17602, 3, none⟩ = some (.int .i64 a1_3) := (blk_cell BK17602.out 3).trans rfl; have hcz28_4 : w25.cell? ⟨gb17602, 4, none⟩ = some (.int .i64 a1_4) := (blk_cell BK17602.out 4).trans rfl; have hcz28_5 : w25.cell? ⟨gb17602, 5, none⟩ = some (.int .i64 a1_5) := (blk_cell BK17602.out 5).trans rfl; have hfz28_0 := blk_frozen BK17602.out 0; have hfz28_1 := blk_frozen BK17602.out 1; have hfz28_2 := blk_frozen BK17602.out 2; have hfz28_3 := blk_frozen BK17602.out 3; have hfz28_4 := blk_frozen BK17602.out 4; have hfz28_5 := blk_frozen BK17602.out 5))
    go_ret
    exact ⟨by first | rfl | (simp [errW_none, errW_some] <;> rfl) | (simp [*, errW_none, errW_some] <;> rfl), by repeat (first | (with_reducible first | exact HB.out | apply below_alloc | apply pw_below_drewN | apply below_drew1 | refine below_set ?_ GE17601.out | refine below_set ?_ GE17602.out) | exact HB.out)⟩
  ·rw [if_neg c4] at H
   have c4b0 : (a0_1 == a1_1) = false := beq_eq_false_iff_ne.mpr c4
   have c4b1 : (a0_1 != a1_1) = true := bne_iff_ne.mpr c4
   obtain rfl := Option.some.inj H
   go_enter Try.func35, Try.ntmps35
   go_wp2_with (first | ((with_reducible refine gate_dst (N := 2) rfl ?_); refine box_event ?hg (N := 2) ?hd (cs := #[.int .i64 a0_0, .int .i64 a0_1, .slice A0_2 l0_2.length c0_2, .int .i64 a0_3, .int .i64 a0_4, .int .i64 a0_5]) (t := 57) ?hr ?_; (case hd => rfl); (case hg => rfl); (case hr => first | (go_simp; done) | (go_simp; rfl)); intro gb17601 hg w29 hbox hb; have n0_ := Aside0.mk (below_step (by repeat (first | (with_reducible first | exact HB.out | apply below_alloc | apply pw_below_drewN | apply below_drew1) | exact HB.out)) hb); have n1_ := Aside0.mk (hbox); have n2_ := Aside0.mk ((by rw [hg]; exact (below_size (by repeat (first | (with_reducible first | exact HB.out | apply below_alloc | apply pw_below_drewN | apply below_drew1) | exact HB.out))) : w.heap.size ≤ gb17601)); have n3_ := Aside0.mk ((by rw [hg]; exact (below_size (by repeat (first | (with_reducible first | exact HB.out | apply below_alloc | apply pw_below_drewN | apply below_drew1) | exact HB.out))) : w.heap.size ≤ gb17601)); clear HB; have HB := n0_; have BK17601 := n1_; have GW17601 := n2_; have GE17601 := n3_; clear n0_ n1_ n2_ n3_; clear hb hbox hg) | ((with_reducible refine gate_dst (N := 3) rfl ?_); refine box_event ?hg (N := 3) ?hd (cs := #[.int .i64 a1_0, .int .i64 a1_1, .slice A1_2 l1_2.length c1_2, .int .i64 a1_3, .int .i64 a1_4, .int .i64 a1_5]) (t := 57) ?hr ?_; (case hd => rfl); (case hg => rfl); (case hr => first | (go_simp; done) | (go_simp; rfl)); intro gb17602 hg w30 hbox hb; have n0_ := Aside0.mk (blk_below (g := gb17601) (o := .cells #[.int .i64 a0_0, .int .i64 a0_1, .slice A0_2 l0_2.length c0_2, .int .i64 a0_3, .int .i64 a0_4, .int .i64 a0_5] 57 (0, 0)) (by (with_reducible repeat (first | refine blk_drewN ?_ _ | refine blk_drew ?_ | refine blk_alloc ?_ _)); exact BK17601.out) hb); have n1_ := Aside0.mk (below_step (by repeat (first | (with_reducible first | exact HB.out | apply below_alloc | apply pw_below_drewN | apply below_drew1 | refine below_set ?_ GE17601.out) | exact HB.out)) hb); have n2_ := Aside0.mk (hbox); have n3_ := Aside0.mk ((by rw [hg]; exact (below_size (by repeat (first | (with_reducible first | exact HB.out | apply below_alloc | apply pw_below_drewN | apply below_drew1 | refine below_set ?_ GE17601.out) | exact HB.out))) : w.heap.size ≤ gb17602)); have n4_ := Aside0.mk ((by rw [hg]; exact (below_size (by repeat (first | (with_reducible first | exact HB.out | apply below_alloc | apply pw_below_drewN | apply below_drew1 | refine below_set ?_ GE17601.out) | exact HB.out))) : w.heap.size ≤ gb17602)); have n5_ := Aside0.mk ((by rw [hg]; exact Nat.ne_of_lt (blk_lt (g := gb17601) (o := .cells #[.int .i64 a0_0, .int .i64 a0_1, .slice A0_2 l0_2.length c0_2, .int .i64 a0_3, .int .i64 a0_4, .int .i64 a0_5] 57 (0, 0)) (by (with_reducible repeat (first | refine blk_drewN ?_ _ | refine blk_drew ?_ | refine blk_alloc ?_ _)); exact BK17601.out)) : gb17601 ≠ gb17602)); have n6_ := Aside0.mk ((by rw [hg]; exact Nat.ne_of_gt (blk_lt (g := gb17601) (o := .cells #[.int .i64 a0_0, .int .i64 a0_1, .slice A0_2 l0_2.length c0_2, .int .i64 a0_3, .int .i64 a0_4, .int .i64 a0_5] 57 (0, 0)) (by (with_reducible repeat (first | refine blk_drewN ?_ _ | refine blk_drew ?_ | refine blk_alloc ?_ _)); exact BK17601.out)) : gb17602 ≠ gb17601)); clear BK17601; clear HB; have BK17601 := n0_; have HB := n1_; have BK17602 := n2_; have GW17602 := n3_; have GE17602 := n4_; have NB17601_17602 := n5_; have NB17602_17601 := n6_; clear n0_ n1_ n2_ n3_ n4_ n5_ n6_; clear hb hbox hg; have hnb31 := NB17601_17602.out; have hnc31 := NB17602_17601.out; have hcz32_0 : w30.cell? ⟨gb17601, 0, none⟩ = some (.int .i64 a0_0) := (blk_cell BK17601.out 0).trans rfl; have hcz32_1 : w30.cell? ⟨gb17601, 1, none⟩ = some (.int .i64 a0_1) := (blk_cell BK17601.out 1).trans rfl; have hcz32_2 : w30.cell? ⟨gb17601, 2, none⟩ = some (.slice A0_2 l0_2.length c0_2) := (blk_cell BK17601.out 2).trans rfl; have hcz32_3 : w30.cell? ⟨gb17601, 3, none⟩ = some (.int .i64 a0_3) := (blk_cell BK17601.out 3).trans rfl; have hcz32_4 : w30.cell? ⟨gb17601, 4, none⟩ = some (.int .i64 a0_4) := (blk_cell BK17601.out 4).trans rfl; have hcz32_5 : w30.cell? ⟨gb17601, 5, none⟩ = some (.int .i64 a0_5) := (blk_cell BK17601.out 5).trans rfl; have hfz32_0 := blk_frozen BK17601.out 0; have hfz32_1 := blk_frozen BK17601.out 1; have hfz32_2 := blk_frozen BK17601.out 2; have hfz32_3 := blk_frozen BK17601.out 3; have hfz32_4 := blk_frozen BK17601.out 4; have hfz32_5 := blk_frozen BK17601.out 5; have hcz33_0 : w30.cell? ⟨gb17602, 0, none⟩ = some (.int .i64 a1_0) := (blk_cell BK17602.out 0).trans rfl; have hcz33_1 : w30.cell? ⟨gb17602, 1, none⟩ = some (.int .i64 a1_1) := (blk_cell BK17602.out 1).trans rfl; have hcz33_2 : w30.cell? ⟨gb17602, 2, none⟩ = some (.slice A1_2 l1_2.length c1_2) := (blk_cell BK17602.out 2).trans rfl; have hcz33_3 : w30.cell? ⟨gb17602, 3, none⟩ = some (.int .i64 a1_3) := (blk_cell BK17602.out 3).trans rfl; have hcz33_4 : w30.cell? ⟨gb17602, 4, none⟩ = some (.int .i64 a1_4) := (blk_cell BK17602.out 4).trans rfl; have hcz33_5 : w30.cell? ⟨gb17602, 5, none⟩ = some (.int .i64 a1_5) := (blk_cell BK17602.out 5).trans rfl; have hfz33_0 := blk_frozen BK17602.out 0; have hfz33_1 := blk_frozen BK17602.out 1; have hfz33_2 := blk_frozen BK17602.out 2; have hfz33_3 := blk_frozen BK17602.out 3; have hfz33_4 := blk_frozen BK17602.out 4; have hfz33_5 := blk_frozen BK17602.out 5))
   go_ret
   exact ⟨by first | rfl | (simp [errW_none, errW_some] <;> rfl) | (simp [*, errW_none, errW_some] <;> rfl), by repeat (first | (with_reducible first | exact HB.out | apply below_alloc | apply pw_below_drewN | apply below_drew1 | refine below_set ?_ GE17601.out | refine below_set ?_ GE17602.out) | exact HB.out)⟩
 ·rw [if_neg c3] at H
  have c3b0 : (a0_0 == a1_0) = false := beq_eq_false_iff_ne.mpr c3
  have c3b1 : (a0_0 != a1_0) = true := bne_iff_ne.mpr c3
  obtain rfl := Option.some.inj H
  go_enter Try.func35, Try.ntmps35
  go_wp2_with (first | ((with_reducible refine gate_dst (N := 2) rfl ?_); refine box_event ?hg (N := 2) ?hd (cs := #[.int .i64 a0_0, .int .i64 a0_1, .slice A0_2 l0_2.length c0_2, .int .i64 a0_3, .int .i64 a0_4, .int .i64 a0_5]) (t := 57) ?hr ?_; (case hd => rfl); (case hg => rfl); (case hr => first | (go_simp; done) | (go_simp; rfl)); intro gb17601 hg w34 hbox hb; have n0_ := Aside0.mk (below_step (by repeat (first | (with_reducible first | exact HB.out | apply below_alloc | apply pw_below_drewN | apply below_drew1) | exact HB.out)) hb); have n1_ := Aside0.mk (hbox); have n2_ := Aside0.mk ((by rw [hg]; exact (below_size (by repeat (first | (with_reducible first | exact HB.out | apply below_alloc | apply pw_below_drewN | apply below_drew1) | exact HB.out))) : w.heap.size ≤ gb17601)); have n3_ := Aside0.mk ((by rw [hg]; exact (below_size (by repeat (first | (with_reducible first | exact HB.out | apply below_alloc | apply pw_below_drewN | apply below_drew1) | exact HB.out))) : w.heap.size ≤ gb17601)); clear HB; have HB := n0_; have BK17601 := n1_; have GW17601 := n2_; have GE17601 := n3_; clear n0_ n1_ n2_ n3_; clear hb hbox hg) | ((with_reducible refine gate_dst (N := 3) rfl ?_); refine box_event ?hg (N := 3) ?hd (cs := #[.int .i64 a1_0, .int .i64 a1_1, .slice A1_2 l1_2.length c1_2, .int .i64 a1_3, .int .i64 a1_4, .int .i64 a1_5]) (t := 57) ?hr ?_; (case hd => rfl); (case hg => rfl); (case hr => first | (go_simp; done) | (go_simp; rfl)); intro gb17602 hg w35 hbox hb; have n0_ := Aside0.mk (blk_below (g := gb17601) (o := .cells #[.int .i64 a0_0, .int .i64 a0_1, .slice A0_2 l0_2.length c0_2, .int .i64 a0_3, .int .i64 a0_4, .int .i64 a0_5] 57 (0, 0)) (by (with_reducible repeat (first | refine blk_drewN ?_ _ | refine blk_drew ?_ | refine blk_alloc ?_ _)); exact BK17601.out) hb); have n1_ := Aside0.mk (below_step (by repeat (first | (with_reducible first | exact HB.out | apply below_alloc | apply pw_below_drewN | apply below_drew1 | refine below_set ?_ GE17601.out) | exact HB.out)) hb); have n2_ := Aside0.mk (hbox); have n3_ := Aside0.mk ((by rw [hg]; exact (below_size (by repeat (first | (with_reducible first | exact HB.out | apply below_alloc | apply pw_below_drewN | apply below_drew1 | refine below_set ?_ GE17601.out) | exact HB.out))) : w.heap.size ≤ gb17602)); have n4_ := Aside0.mk ((by rw [hg]; exact (below_size (by repeat (first | (with_reducible first | exact HB.out | apply below_alloc | apply pw_below_drewN | apply below_drew1 | refine below_set ?_ GE17601.out) | exact HB.out))) : w.heap.size ≤ gb17602)); have n5_ := Aside0.mk ((by rw [hg]; exact Nat.ne_of_lt (blk_lt (g := gb17601) (o := .cells #[.int .i64 a0_0, .int .i64 a0_1, .slice A0_2 l0_2.length c0_2, .int .i64 a0_3, .int .i64 a0_4, .int .i64 a0_5] 57 (0, 0)) (by (with_reducible repeat (first | refine blk_drewN ?_ _ | refine blk_drew ?_ | refine blk_alloc ?_ _)); exact BK17601.out)) : gb17601 ≠ gb17602)); have n6_ := Aside0.mk ((by rw [hg]; exact Nat.ne_of_gt (blk_lt (g := gb17601) (o := .cells #[.int .i64 a0_0, .int .i64 a0_1, .slice A0_2 l0_2.length c0_2, .int .i64 a0_3, .int .i64 a0_4, .int .i64 a0_5] 57 (0, 0)) (by (with_reducible repeat (first | refine blk_drewN ?_ _ | refine blk_drew ?_ | refine blk_alloc ?_ _)); exact BK17601.out)) : gb17602 ≠ gb17601)); clear BK17601; clear HB; have BK17601 := n0_; have HB := n1_; have BK17602 := n2_; have GW17602 := n3_; have GE17602 := n4_; have NB17601_17602 := n5_; have NB17602_17601 := n6_; clear n0_ n1_ n2_ n3_ n4_ n5_ n6_; clear hb hbox hg; have hnb36 := NB17601_17602.out; have hnc36 := NB17602_17601.out; have hcz37_0 : w35.cell? ⟨gb17601, 0, none⟩ = some (.int .i64 a0_0) := (blk_cell BK17601.out 0).trans rfl; have hcz37_1 : w35.cell? ⟨gb17601, 1, none⟩ = some (.int .i64 a0_1) := (blk_cell BK17601.out 1).trans rfl; have hcz37_2 : w35.cell? ⟨gb17601, 2, none⟩ = some (.slice A0_2 l0_2.length c0_2) := (blk_cell BK17601.out 2).trans rfl; have hcz37_3 : w35.cell? ⟨gb17601, 3, none⟩ = some (.int .i64 a0_3) := (blk_cell BK17601.out 3).trans rfl; have hcz37_4 : w35.cell? ⟨gb17601, 4, none⟩ = some (.int .i64 a0_4) := (blk_cell BK17601.out 4).trans rfl; have hcz37_5 : w35.cell? ⟨gb17601, 5, none⟩ = some (.int .i64 a0_5) := (blk_cell BK17601.out 5).trans rfl; have hfz37_0 := blk_frozen BK17601.out 0; have hfz37_1 := blk_frozen BK17601.out 1; have hfz37_2 := blk_frozen BK17601.out 2; have hfz37_3 := blk_frozen BK17601.out 3; have hfz37_4 := blk_frozen BK17601.out 4; have hfz37_5 := blk_frozen BK17601.out 5; have hcz38_0 : w35.cell? ⟨gb17602, 0, none⟩ = some (.int .i64 a1_0) := (blk_cell BK17602.out 0).trans rfl; have hcz38_1 : w35.cell? ⟨gb17602, 1, none⟩ = some (.int .i64 a1_1) := (blk_cell BK17602.out 1).trans rfl; have hcz38_2 : w35.cell? ⟨gb17602, 2, none⟩ = some (.slice A1_2 l1_2.length c1_2) := (blk_cell BK17602.out 2).trans rfl; have hcz38_3 : w35.cell? ⟨gb17602, 3, none⟩ = some (.int .i64 a1_3) := (blk_cell BK17602.out 3).trans rfl; have hcz38_4 : w35.cell? ⟨gb17602, 4, none⟩ = some (.int .i64 a1_4) := (blk_cell BK17602.out 4).trans rfl; have hcz38_5 : w35.cell? ⟨gb17602, 5, none⟩ = some (.int .i64 a1_5) := (blk_cell BK17602.out 5).trans rfl; have hfz38_0 := blk_frozen BK17602.out 0; have hfz38_1 := blk_frozen BK17602.out 1; have hfz38_2 := blk_frozen BK17602.out 2; have hfz38_3 := blk_frozen BK17602.out 3; have hfz38_4 := blk_frozen BK17602.out 4; have hfz38_5 := blk_frozen BK17602.out 5))
  go_ret
  exact ⟨by first | rfl | (simp [errW_none, errW_some] <;> rfl) | (simp [*, errW_none, errW_some] <;> rfl), by repeat (first | (with_reducible first | exact HB.out | apply below_alloc | apply pw_below_drewN | apply below_drew1 | refine below_set ?_ GE17601.out | refine below_set ?_ GE17602.out) | exact HB.out)⟩
mutual
def phasorref08_Same.j0 : Nat → Bool → Int → Int → List (S57) → Int → Int → List (S57) → Option (Bool)
 | 0, _, _, _, _, _, _, _ => none
 | k + 1, x26, x9102000, x9102001, x9102002, x9103000, x9103001, x9103002 => if x26 = true then (some false) else (phasorref08_Same.l0 k 0 x9102000 x9102001 x9102002 x9103000 x9103001 x9103002)
def phasorref08_Same.l0 : Nat → Int → Int → Int → List (S57) → Int → Int → List (S57) → Option (Bool)
 | 0, _, _, _, _, _, _, _ => none
 | k + 1, x5, x9102000, x9102001, x9102002, x9103000, x9103001, x9103002 => if x5 < (x9102002.length : Int) then (if 0 ≤ x5 then (if x5 < (x9103002.length : Int) then ((phasorref08_SameOp.f k ((rd_T57 x9102002 x5).f0) ((rd_T57 x9102002 x5).f1) ((rd_T57 x9102002 x5).f2) ((rd_T57 x9102002 x5).f3) ((rd_T57 x9102002 x5).f4) ((rd_T57 x9102002 x5).f5) ((rd_T57 x9103002 x5).f0) ((rd_T57 x9103002 x5).f1) ((rd_T57 x9103002 x5).f2) ((rd_T57 x9103002 x5).f3) ((rd_T57 x9103002 x5).f4) ((rd_T57 x9103002 x5).f5)).bind fun t9105 => (if t9105 = true then (phasorref08_Same.l0 k (wrap64 (x5 + 1)) x9102000 x9102001 x9102002 x9103000 x9103001 x9103002) else (some false))) else (none)) else (none)) else (some true)
end
def phasorref08_Same.f (k : Nat) (a0_0 : Int) (a0_1 : Int) (l0_2 : List (S57)) (a1_0 : Int) (a1_1 : Int) (l1_2 : List (S57)) : Option (Bool) := if a0_0 = a1_0 then (if a0_1 = a1_1 then (phasorref08_Same.j0 k ((l0_2.length : Int) != (l1_2.length : Int)) a0_0 a0_1 l0_2 a1_0 a1_1 l1_2) else (phasorref08_Same.j0 k true a0_0 a0_1 l0_2 a1_0 a1_1 l1_2)) else (phasorref08_Same.j0 k true a0_0 a0_1 l0_2 a1_0 a1_1 l1_2)
def phasorref08_Same.T6 : Bool × List (List Nat × List Nat) := (true, [([], []), ([0], [0]), ([], []), ([1, 2], [1, 2]), ([3], [3]), ([], []), ([5], [5]), ([], []), ([6, 7], [6, 7]), ([8], [8]), ([4, 9], [4, 9]), ([10], [10])])
def phasorref08_Same.B6 : List Nat := [0, 1, 0, 7, 15, 0, 32, 0, 224, 480, 1023, 2047]
theorem phasorref08_Same.tab6 : rtab .any (opsOf Try.f18 6) = phasorref08_Same.T6 := by kernel_rfl
theorem phasorref08_Same.bits6 : waitsOk phasorref08_Same.T6.2 phasorref08_Same.B6 = true := by kernel_rfl
set_option maxHeartbeats 8000000 in
set_option maxRecDepth 100000 in
theorem phasorref08_Same.calls (k : Nat) (a0_0 : Int) (a0_1 : Int) (A0_2 : Option Addr) (c0_2 : Nat) (l0_2 : List (S57)) (a1_0 : Int) (a1_1 : Int) (A1_2 : Option Addr) (c1_2 : Nat) (l1_2 : List (S57)) (r : Bool) (w : World) (hr0_2 : Kd.C k57 w A0_2 l0_2.length l0_2) (hc0_2 : l0_2.length ≤ c0_2) (hr1_2 : Kd.C k57 w A1_2 l1_2.length l1_2) (hc1_2 : l1_2.length ≤ c1_2) (h : phasorref08_Same.f k a0_0 a0_1 l0_2 a1_0 a1_1 l1_2 = some r) :
  Calls Try.prog 18 #[.agg #[.int .i64 a0_0, .int .i64 a0_1, .slice A0_2 l0_2.length c0_2], .agg #[.int .i64 a1_0, .int .i64 a1_1, .slice A1_2 l1_2.length c1_2]] w fun e w' => e = .returned (.bool r) ∧ Below w.heap.size w w' := by
 have hu24 := Try.underlying24
 have hu57 := Try.underlying57
 have HR0_2 := Aside0.mk hr0_2
 have HC0_2 := Aside0.mk hc0_2
 clear hr0_2 hc0_2
 have HR1_2 := Aside0.mk hr1_2
 have HC1_2 := Aside0.mk hc1_2
 clear hr1_2 hc1_2
 have HB := Aside0.mk (Below.refl w.heap.size w)
 have H : (if a0_0 = a1_0 then (if a0_1 = a1_1 then (phasorref08_Same.j0 k ((l0_2.length : Int) != (l1_2.length : Int)) a0_0 a0_1 l0_2 a1_0 a1_1 l1_2) else (phasorref08_Same.j0 k true a0_0 a0_1 l0_2 a1_0 a1_1 l1_2)) else (phasorref08_Same.j0 k true a0_0 a0_1 l0_2 a1_0 a1_1 l1_2)) = some r := h
 clear h
 have HC3 := Aside0.mk H
 clear H
 go_enter Try.func18, Try.ntmps18
 go_upto_region 1 with (first | ((with_reducible refine gate_dst (N := 2) rfl ?_); (try (refine gate_guard (by rfl) ?_; dsimp only)); refine box_event ?hg (N := 2) ?hd (cs := #[.int .i64 a0_0, .int .i64 a0_1, .slice A0_2 l0_2.length c0_2]) (t := 24) ?hr ?_; (case hd => rfl); (case hg => rfl); (case hr => first | (go_simp; done) | (go_simp; rfl)); intro gb9101 hg w4 hbox hb; have n0_ := Aside0.mk (below_step (by repeat (first | (with_reducible first | exact HB.out | apply below_alloc | apply pw_below_drewN | apply below_drew1) | exact HB.out)) hb); have n1_ := Aside0.mk (hbox); have n2_ := Aside0.mk ((by rw [hg]; exact (below_size (by repeat (first | (with_reducible first | exact HB.out | apply below_alloc | apply pw_below_drewN | apply below_drew1) | exact HB.out))) : w.heap.size ≤ gb9101)); have n3_ := Aside0.mk ((by rw [hg]; exact (below_size (by repeat (first | (with_reducible first | exact HB.out | apply below_alloc | apply pw_below_drewN | apply below_drew1) | exact HB.out))) : w.heap.size ≤ gb9101)); clear HB; have HB := n0_; have BK9101 := n1_; have GW9101 := n2_; have GE9101 := n3_; clear n0_ n1_ n2_ n3_; clear hb hbox hg) | ((with_reducible refine gate_dst (N := 3) rfl ?_); (try (refine gate_guard (by rfl) ?_; dsimp only)); refine box_event ?hg (N := 3) ?hd (cs := #[.int .i64 a1_0, .int .i64 a1_1, .slice A1_2 l1_2.length c1_2]) (t := 24) ?hr ?_; (case hd => rfl); (case hg => rfl); (case hr => first | (go_simp; done) | (go_simp; rfl)); intro gb9102 hg w5 hbox hb; have n0_ := Aside0.mk (blk_below (g := gb9101) (o := .cells #[.int .i64 a0_0, .int .i64 a0_1, .slice A0_2 l0_2.length c0_2] 24 (0, 0)) (by (with_reducible repeat (first | refine blk_drewN ?_ _ | refine blk_drew ?_ | refine blk_alloc ?_ _)); exact BK9101.out) hb); have n1_ := Aside0.mk (below_step (by repeat (first | (with_reducible first | exact HB.out | apply below_alloc | apply pw_below_drewN | apply below_drew1 | refine below_set ?_ GE9101.out) | exact HB.out)) hb); have n2_ := Aside0.mk (hbox); have n3_ := Aside0.mk ((by rw [hg]; exact (below_size (by repeat (first | (with_reducible first | exact HB.out | apply below_alloc | apply pw_below_drewN | apply below_drew1 | refine below_set ?_ GE9101.out) | exact HB.out))) : w.heap.size ≤ gb9102)); have n4_ := Aside0.mk ((by rw [hg]; exact (below_size (by repeat (first | (with_reducible first | exact HB.out | apply below_alloc | apply pw_below_drewN | apply below_drew1 | refine below_set ?_ GE9101.out) | exact HB.out))) : w.heap.size ≤ gb9102)); have n5_ := Aside0.mk ((by rw [hg]; exact Nat.ne_of_lt (blk_lt (g := gb9101) (o := .cells #[.int .i64 a0_0, .int .i64 a0_1, .slice A0_2 l0_2.length c0_2] 24 (0, 0)) (by (with_reducible repeat (first | refine blk_drewN ?_ _ | refine blk_drew ?_ | refine blk_alloc ?_ _)); exact BK9101.out)) : gb9101 ≠ gb9102)); have n6_ := Aside0.mk ((by rw [hg]; exact Nat.ne_of_gt (blk_lt (g := gb9101) (o := .cells #[.int .i64 a0_0, .int .i64 a0_1, .slice A0_2 l0_2.length c0_2] 24 (0, 0)) (by (with_reducible repeat (first | refine blk_drewN ?_ _ | refine blk_drew ?_ | refine blk_alloc ?_ _)); exact BK9101.out)) : gb9102 ≠ gb9101)); clear BK9101; clear HB; have BK9101 := n0_; have HB := n1_; have BK9102 := n2_; have GW9102 := n3_; have GE9102 := n4_; have NB9101_9102 := n5_; have NB9102_9101 := n6_; clear n0_ n1_ n2_ n3_ n4_ n5_ n6_; clear hb hbox hg))
 (try simp only [Act.put, List.setIfInBounds_toArray, List.set_cons_zero, List.set_cons_succ])
 go_cut [26] (fun v26 wc => ∃ (kq : Nat) (x26_2 : Bool), v26 = .bool x26_2 ∧ Aside0 (phasorref08_Same.j0 kq x26_2 a0_0 a0_1 l0_2 a1_0 a1_1 l1_2 = some r) ∧ Aside0 (kq ≤ k) ∧ Aside0 (wc.heap[gb9101]? = some (.cells #[.int .i64 a0_0, .int .i64 a0_1, (.slice A0_2 l0_2.length c0_2)] 24 (0, 0))) ∧ Aside0 (wc.heap[gb9102]? = some (.cells #[.int .i64 a1_0, .int .i64 a1_1, (.slice A1_2 l1_2.length c1_2)] 24 (0, 0))) ∧ Aside0 (Below w.heap.size w wc))
 case first =>
  have H := HC3.out
  clear HC3
  by_cases c6 : a0_0 = a1_0
  ·rw [if_pos c6] at H
   have c6b0 : (a0_0 == a1_0) = true := beq_iff_eq.mpr c6
   have c6b1 : (a0_0 != a1_0) = false := bne_eq_false_iff_eq.mpr c6
   clear c6
   (first | rw [c6b0] | (simp only [i64_w, i32_w]; rw [c6b0]) | skip)
   by_cases c7 : a0_1 = a1_1
   ·rw [if_pos c7] at H
    have c7b0 : (a0_1 == a1_1) = true := beq_iff_eq.mpr c7
    have c7b1 : (a0_1 != a1_1) = false := bne_eq_false_iff_eq.mpr c7
    clear c7
    have H' := Aside0.mk H
    clear H
    have hnb8 := NB9101_9102.out
    have hnc8 := NB9102_9101.out
    have hcz9_0 : w5.cell? ⟨gb9101, 0, none⟩ = some (.int .i64 a0_0) := (blk_cell BK9101.out 0).trans rfl
    have hcz9_1 : w5.cell? ⟨gb9101, 1, none⟩ = some (.int .i64 a0_1) := (blk_cell BK9101.out 1).trans rfl
    have hcz9_2 : w5.cell? ⟨gb9101, 2, none⟩ = some (.slice A0_2 l0_2.length c0_2) := (blk_cell BK9101.out 2).trans rfl
    have hfz9_0 := blk_frozen BK9101.out 0
    have hfz9_1 := blk_frozen BK9101.out 1
    have hfz9_2 := blk_frozen BK9101.out 2
    have hcz10_0 : w5.cell? ⟨gb9102, 0, none⟩ = some (.int .i64 a1_0) := (blk_cell BK9102.out 0).trans rfl
    have hcz10_1 : w5.cell? ⟨gb9102, 1, none⟩ = some (.int .i64 a1_1) := (blk_cell BK9102.out 1).trans rfl
    have hcz10_2 : w5.cell? ⟨gb9102, 2, none⟩ = some (.slice A1_2 l1_2.length c1_2) := (blk_cell BK9102.out 2).trans rfl
    have hfz10_0 := blk_frozen BK9102.out 0
    have hfz10_1 := blk_frozen BK9102.out 1
    have hfz10_2 := blk_frozen BK9102.out 2
    go_wp2
    go_meet
    case rel => exact ⟨_, (((l0_2.length : Int) != (l1_2.length : Int))), (by first | rfl | (simp; done) | (simp [*]; done)), H', ⟨by first | omega | exact Nat.le_refl _⟩, ⟨by (with_reducible repeat (first | refine blk_drewN ?_ _ | refine blk_drew ?_ | refine blk_alloc ?_ _)); exact BK9101.out⟩, ⟨by (with_reducible repeat (first | refine blk_drewN ?_ _ | refine blk_drew ?_ | refine blk_alloc ?_ _)); exact BK9102.out⟩, ⟨by repeat (first | (with_reducible first | exact HB.out | apply below_alloc | apply pw_below_drewN | apply below_drew1 | refine below_set ?_ GE9101.out | refine below_set ?_ GE9102.out) | exact HB.out)⟩⟩
   ·rw [if_neg c7] at H
    have c7b0 : (a0_1 == a1_1) = false := beq_eq_false_iff_ne.mpr c7
    have c7b1 : (a0_1 != a1_1) = true := bne_iff_ne.mpr c7
    have H' := Aside0.mk H
    clear H
    have hnb11 := NB9101_9102.out
    have hnc11 := NB9102_9101.out
    have hcz12_0 : w5.cell? ⟨gb9101, 0, none⟩ = some (.int .i64 a0_0) := (blk_cell BK9101.out 0).trans rfl
    have hcz12_1 : w5.cell? ⟨gb9101, 1, none⟩ = some (.int .i64 a0_1) := (blk_cell BK9101.out 1).trans rfl
    have hcz12_2 : w5.cell? ⟨gb9101, 2, none⟩ = some (.slice A0_2 l0_2.length c0_2) := (blk_cell BK9101.out 2).trans rfl
    have hfz12_0 := blk_frozen BK9101.out 0
    have hfz12_1 := blk_frozen BK9101.out 1
    have hfz12_2 := blk_frozen BK9101.out 2
    have hcz13_0 : w5.cell? ⟨gb9102, 0, none⟩ = some (.int .i64 a1_0) := (blk_cell BK9102.out 0).trans rfl
    have hcz13_1 : w5.cell? ⟨gb9102, 1, none⟩ = some (.int .i64 a1_1) := (blk_cell BK9102.out 1).trans rfl
    have hcz13_2 : w5.cell? ⟨gb9102, 2, none⟩ = some (.slice A1_2 l1_2.length c1_2) := (blk_cell BK9102.out 2).trans rfl
    have hfz13_0 := blk_frozen BK9102.out 0
    have hfz13_1 := blk_frozen BK9102.out 1
    have hfz13_2 := blk_frozen BK9102.out 2
    go_wp2
    go_meet
    case rel => exact ⟨_, (true), (by first | rfl | (simp; done) | (simp [*]; done)), H', ⟨by first | omega | exact Nat.le_refl _⟩, ⟨by (with_reducible repeat (first | refine blk_drewN ?_ _ | refine blk_drew ?_ | refine blk_alloc ?_ _)); exact BK9101.out⟩, ⟨by (with_reducible repeat (first | refine blk_drewN ?_ _ | refine blk_drew ?_ | refine blk_alloc ?_ _)); exact BK9102.out⟩, ⟨by repeat (first | (with_reducible first | exact HB.out | apply below_alloc | apply pw_below_drewN | apply below_drew1 | refine below_set ?_ GE9101.out | refine below_set ?_ GE9102.out) | exact HB.out)⟩⟩
  ·rw [if_neg c6] at H
   have c6b0 : (a0_0 == a1_0) = false := beq_eq_false_iff_ne.mpr c6
   have c6b1 : (a0_0 != a1_0) = true := bne_iff_ne.mpr c6
   (first | rw [c6b0] | (simp only [i64_w, i32_w]; rw [c6b0]) | skip)
   have H' := Aside0.mk H
   clear H
   have hnb14 := NB9101_9102.out
   have hnc14 := NB9102_9101.out
   have hcz15_0 : w5.cell? ⟨gb9101, 0, none⟩ = some (.int .i64 a0_0) := (blk_cell BK9101.out 0).trans rfl
   have hcz15_1 : w5.cell? ⟨gb9101, 1, none⟩ = some (.int .i64 a0_1) := (blk_cell BK9101.out 1).trans rfl
   have hcz15_2 : w5.cell? ⟨gb9101, 2, none⟩ = some (.slice A0_2 l0_2.length c0_2) := (blk_cell BK9101.out 2).trans rfl
   have hfz15_0 := blk_frozen BK9101.out 0
   have hfz15_1 := blk_frozen BK9101.out 1
   have hfz15_2 := blk_frozen BK9101.out 2
   have hcz16_0 : w5.cell? ⟨gb9102, 0, none⟩ = some (.int .i64 a1_0) := (blk_cell BK9102.out 0).trans rfl
   have hcz16_1 : w5.cell? ⟨gb9102, 1, none⟩ = some (.int .i64 a1_1) := (blk_cell BK9102.out 1).trans rfl
   have hcz16_2 : w5.cell? ⟨gb9102, 2, none⟩ = some (.slice A1_2 l1_2.length c1_2) := (blk_cell BK9102.out 2).trans rfl
   have hfz16_0 := blk_frozen BK9102.out 0
   have hfz16_1 := blk_frozen BK9102.out 1
   have hfz16_2 := blk_frozen BK9102.out 2
   go_wp2
   go_meet
   case rel => exact ⟨_, (true), (by first | rfl | (simp; done) | (simp [*]; done)), H', ⟨by first | omega | exact Nat.le_refl _⟩, ⟨by (with_reducible repeat (first | refine blk_drewN ?_ _ | refine blk_drew ?_ | refine blk_alloc ?_ _)); exact BK9101.out⟩, ⟨by (with_reducible repeat (first | refine blk_drewN ?_ _ | refine blk_drew ?_ | refine blk_alloc ?_ _)); exact BK9102.out⟩, ⟨by repeat (first | (with_reducible first | exact HB.out | apply below_alloc | apply pw_below_drewN | apply below_drew1 | refine below_set ?_ GE9101.out | refine below_set ?_ GE9102.out) | exact HB.out)⟩⟩
 case rest =>
  clear HC3
  try clear c1
  try clear p2
  try clear c6
  try clear c6b0
  try clear c6b1
  try clear c7
  try clear c7b0
  try clear c7b1
  try clear c8
  try clear c11
  try clear c14
  try clear hcz10_0
  try clear hcz10_1
  try clear hcz10_2
  try clear hcz12_0
  try clear hcz12_1
  try clear hcz12_2
  try clear hcz13_0
  try clear hcz13_1
  try clear hcz13_2
  try clear hcz15_0
  try clear hcz15_1
  try clear hcz15_2
  try clear hcz16_0
  try clear hcz16_1
  try clear hcz16_2
  try clear hcz9_0
  try clear hcz9_1
  try clear hcz9_2
  try clear hfz10_0
  try clear hfz10_1
  try clear hfz10_2
  try clear hfz12_0
  try clear hfz12_1
  try clear hfz12_2
  try clear hfz13_0
  try clear hfz13_1
  try clear hfz13_2
  try clear hfz15_0
  try clear hfz15_1
  try clear hfz15_2
  try clear hfz16_0
  try clear hfz16_1
  try clear hfz16_2
  try clear hfz9_0
  try clear hfz9_1
  try clear hfz9_2
  obtain ⟨kq, x26_2, rfl, HA, HJ2, BK9101, BK9102, HB⟩ := hcut
  cases kq with
  | zero => exact absurd HA.out (by simp [phasorref08_Same.j0])
  | succ kj2 =>
   have H := HA.out
   clear HA
   simp only [phasorref08_Same.j0] at H
   by_cases c17 : x26_2 = true
   ·subst c17
    have H1 : (some false) = some r := by rw [if_pos rfl] at H; exact H
    clear H
    have H := H1
    clear H1
    obtain rfl := Option.some.inj H
    go_wp2
    go_ret
    exact ⟨by first | rfl | (simp [errW_none, errW_some] <;> rfl) | (simp [*, errW_none, errW_some] <;> rfl), by repeat (first | (with_reducible first | exact HB.out | apply below_alloc | apply pw_below_drewN | apply below_drew1 | refine below_set ?_ GE9101.out | refine below_set ?_ GE9102.out) | exact HB.out)⟩
   ·replace c17 := Bool.eq_false_iff.mpr c17
    subst c17
    have H1 : (phasorref08_Same.l0 kj2 0 a0_0 a0_1 l0_2 a1_0 a1_1 l1_2) = some r := by rw [if_neg (show ¬ (false = true) by decide)] at H; exact H
    clear H
    have H := H1
    clear H1
    have H' := Aside0.mk H
    clear H
    go_wp2
    go_loopg [5] kj2 (fun kq v5 w' => ∃ (x5_2 : Int), v5 = .int .i64 x5_2 ∧ Aside0 (phasorref08_Same.l0 kq x5_2 a0_0 a0_1 l0_2 a1_0 a1_1 l1_2 = some r) ∧ Aside0 (kq ≤ kj2) ∧ Aside0 (w'.heap[gb9101]? = some (.cells #[.int .i64 a0_0, .int .i64 a0_1, (.slice A0_2 l0_2.length c0_2)] 24 (0, 0))) ∧ Aside0 (w'.heap[gb9102]? = some (.cells #[.int .i64 a1_0, .int .i64 a1_1, (.slice A1_2 l1_2.length c1_2)] 24 (0, 0))) ∧ Aside0 (Below w.heap.size w w'))
    case atStart => exact ⟨(0), (by first | rfl | (simp; done) | (simp [*]; done)), H', ⟨Nat.le_refl _⟩, ⟨by (with_reducible repeat (first | refine blk_drewN ?_ _ | refine blk_drew ?_ | refine blk_alloc ?_ _)); exact BK9101.out⟩, ⟨by (with_reducible repeat (first | refine blk_drewN ?_ _ | refine blk_drew ?_ | refine blk_alloc ?_ _)); exact BK9102.out⟩, ⟨by repeat (first | (with_reducible first | exact HB.out | apply below_alloc | apply pw_below_drewN | apply below_drew1 | refine below_set ?_ GE9101.out | refine below_set ?_ GE9102.out) | exact HB.out)⟩⟩
    case round =>
     clear H'
     try clear c1
     try clear p2
     try clear c6
     try clear c6b0
     try clear c6b1
     try clear c7
     try clear c7b0
     try clear c7b1
     try clear c8
     try clear c11
     try clear c14
     try clear c17
     try clear hcz10_0
     try clear hcz10_1
     try clear hcz10_2
     try clear hcz12_0
     try clear hcz12_1
     try clear hcz12_2
     try clear hcz13_0
     try clear hcz13_1
     try clear hcz13_2
     try clear hcz15_0
     try clear hcz15_1
     try clear hcz15_2
     try clear hcz16_0
     try clear hcz16_1
     try clear hcz16_2
     try clear hcz9_0
     try clear hcz9_1
     try clear hcz9_2
     try clear hfz10_0
     try clear hfz10_1
     try clear hfz10_2
     try clear hfz12_0
     try clear hfz12_1
     try clear hfz12_2
     try clear hfz13_0
     try clear hfz13_1
     try clear hfz13_2
     try clear hfz15_0
     try clear hfz15_1
     try clear hfz15_2
     try clear hfz16_0
     try clear hfz16_1
     try clear hfz16_2
     try clear hfz9_0
     try clear hfz9_1
     try clear hfz9_2
     try clear p2
     obtain ⟨x5_2, rfl, HA, HK2, BK9101, BK9102, HB⟩ := hrel
     cases gk with
     | zero => exact absurd HA.out (by simp [phasorref08_Same.l0])
     | succ k2 =>
      have H := HA.out
      clear HA
      simp only [phasorref08_Same.l0] at H
      by_cases c18 : x5_2 < (l0_2.length : Int)
      ·rw [if_pos c18] at H
       have c18b0 : decide (x5_2 < (l0_2.length : Int)) = true := decide_eq_true c18
       clear c18
       by_cases c19 : 0 ≤ x5_2
       ·rw [if_pos c19] at H
        have c19b0 : decide (0 ≤ x5_2) = true := decide_eq_true c19
        clear c19
        by_cases c20 : x5_2 < (l1_2.length : Int)
        ·rw [if_pos c20] at H
         have c20b0 : decide (x5_2 < (l1_2.length : Int)) = true := decide_eq_true c20
         clear c20
         replace H := Option.bind_eq_some_iff.mp H
         obtain ⟨t9105, A210, H⟩ := H
         replace H : (if t9105 = true then (phasorref08_Same.l0 k2 (wrap64 (x5_2 + 1)) a0_0 a0_1 l0_2 a1_0 a1_1 l1_2) else (some false)) = some r := H
         have A21 := Aside0.mk A210
         clear A210
         by_cases c22 : t9105 = true
         ·subst c22
          have H1 : (phasorref08_Same.l0 k2 (wrap64 (x5_2 + 1)) a0_0 a0_1 l0_2 a1_0 a1_1 l1_2) = some r := by rw [if_pos rfl] at H; exact H
          clear H
          have H := H1
          clear H1
          have H' := Aside0.mk H
          clear H
          have hnb23 := NB9101_9102.out
          have hnc23 := NB9102_9101.out
          have hcz24_0 : wr.cell? ⟨gb9101, 0, none⟩ = some (.int .i64 a0_0) := (blk_cell BK9101.out 0).trans rfl
          have hcz24_1 : wr.cell? ⟨gb9101, 1, none⟩ = some (.int .i64 a0_1) := (blk_cell BK9101.out 1).trans rfl
          have hcz24_2 : wr.cell? ⟨gb9101, 2, none⟩ = some (.slice A0_2 l0_2.length c0_2) := (blk_cell BK9101.out 2).trans rfl
          have hfz24_0 := blk_frozen BK9101.out 0
          have hfz24_1 := blk_frozen BK9101.out 1
          have hfz24_2 := blk_frozen BK9101.out 2
          try go_wp2
          have n0_ := Aside0.mk (blk_drew BK9101.out)
          have n1_ := Aside0.mk (blk_drew BK9102.out)
          have n2_ := Aside0.mk (below_drew1 HB.out)
          clear BK9101
          clear BK9102
          clear HB
          have BK9101 := n0_
          have BK9102 := n1_
          have HB := n2_
          clear n0_ n1_ n2_
          have p9103 : 0 ≤ (x5_2 : Int) := of_decide_eq_true (by first | (with_reducible assumption) | assumption)
          have q9103 : x5_2 < (l0_2.length : Int) := of_decide_eq_true (by first | (with_reducible assumption) | assumption)
          obtain ⟨ad9103, A9103_2, c9103_2, e9103, hx9103_0, hx9103_1, hx9103_2, hx9103_3, hx9103_4, hx9103_5, hl9103_2, hi9103_2⟩ := at_T57 HR0_2.out x5_2 p9103 q9103
          have hw9103_5 := hx9103_5
          have hw9103_4 := hx9103_4
          have hw9103_3 := hx9103_3
          have hw9103_2 := hx9103_2
          have hw9103_1 := hx9103_1
          have hw9103_0 := hx9103_0
          cases e9103
          replace hx9103_0 := (HB.out.cell (World.block_lt_of_cell? w _ hx9103_0)).trans hx9103_0
          replace hx9103_1 := (HB.out.cell (World.block_lt_of_cell? w _ hx9103_1)).trans hx9103_1
          replace hx9103_2 := (HB.out.cell (World.block_lt_of_cell? w _ hx9103_2)).trans hx9103_2
          replace hx9103_3 := (HB.out.cell (World.block_lt_of_cell? w _ hx9103_3)).trans hx9103_3
          replace hx9103_4 := (HB.out.cell (World.block_lt_of_cell? w _ hx9103_4)).trans hx9103_4
          replace hx9103_5 := (HB.out.cell (World.block_lt_of_cell? w _ hx9103_5)).trans hx9103_5
          have HR9103_2 := Aside0.mk hi9103_2
          have HC9103_2 := Aside0.mk hl9103_2
          clear hi9103_2 hl9103_2
          replace p9103 := eq_true p9103
          replace q9103 := eq_true q9103
          have p9104 : 0 ≤ (x5_2 : Int) := of_decide_eq_true (by first | (with_reducible assumption) | assumption)
          have q9104 : x5_2 < (l1_2.length : Int) := of_decide_eq_true (by first | (with_reducible assumption) | assumption)
          obtain ⟨ad9104, A9104_2, c9104_2, e9104, hx9104_0, hx9104_1, hx9104_2, hx9104_3, hx9104_4, hx9104_5, hl9104_2, hi9104_2⟩ := at_T57 HR1_2.out x5_2 p9104 q9104
          have hw9104_5 := hx9104_5
          have hw9104_4 := hx9104_4
          have hw9104_3 := hx9104_3
          have hw9104_2 := hx9104_2
          have hw9104_1 := hx9104_1
          have hw9104_0 := hx9104_0
          cases e9104
          replace hx9104_0 := (HB.out.cell (World.block_lt_of_cell? w _ hx9104_0)).trans hx9104_0
          replace hx9104_1 := (HB.out.cell (World.block_lt_of_cell? w _ hx9104_1)).trans hx9104_1
          replace hx9104_2 := (HB.out.cell (World.block_lt_of_cell? w _ hx9104_2)).trans hx9104_2
          replace hx9104_3 := (HB.out.cell (World.block_lt_of_cell? w _ hx9104_3)).trans hx9104_3
          replace hx9104_4 := (HB.out.cell (World.block_lt_of_cell? w _ hx9104_4)).trans hx9104_4
          replace hx9104_5 := (HB.out.cell (World.block_lt_of_cell? w _ hx9104_5)).trans hx9104_5
          have HR9104_2 := Aside0.mk hi9104_2
          have HC9104_2 := Aside0.mk hl9104_2
          clear hi9104_2 hl9104_2
          replace p9104 := eq_true p9104
          replace q9104 := eq_true q9104
          refine start_ (n := 12) (S := fun w' => w'.cell? ⟨gb9101, 0, none⟩ = some (.int .i64 a0_0) ∧ w'.cell? ⟨gb9101, 1, none⟩ = some (.int .i64 a0_1) ∧ w'.cell? ⟨gb9101, 2, none⟩ = some (.slice (some ad9103) l0_2.length c0_2) ∧ w'.cell? ⟨gb9102, 0, none⟩ = some (.int .i64 a1_0) ∧ w'.cell? ⟨gb9102, 1, none⟩ = some (.int .i64 a1_1) ∧ w'.cell? ⟨gb9102, 2, none⟩ = some (.slice (some ad9104) l1_2.length c1_2) ∧ w'.cell? (ad9103.add ((x5_2).toNat * 6)) = some (.int .i64 ((rd_T57 l0_2 x5_2).f0)) ∧ w'.cell? ⟨(ad9103.add ((x5_2).toNat * 6)).block, (ad9103.add ((x5_2).toNat * 6)).off + 1, none⟩ = some (.int .i64 ((rd_T57 l0_2 x5_2).f1)) ∧ w'.cell? ⟨(ad9103.add ((x5_2).toNat * 6)).block, (ad9103.add ((x5_2).toNat * 6)).off + 2, none⟩ = some (.slice A9103_2 ((rd_T57 l0_2 x5_2).f2).length c9103_2) ∧ w'.cell? ⟨(ad9103.add ((x5_2).toNat * 6)).block, (ad9103.add ((x5_2).toNat * 6)).off + 3, none⟩ = some (.int .i64 ((rd_T57 l0_2 x5_2).f3)) ∧ w'.cell? ⟨(ad9103.add ((x5_2).toNat * 6)).block, (ad9103.add ((x5_2).toNat * 6)).off + 4, none⟩ = some (.int .i64 ((rd_T57 l0_2 x5_2).f4)) ∧ w'.cell? ⟨(ad9103.add ((x5_2).toNat * 6)).block, (ad9103.add ((x5_2).toNat * 6)).off + 5, none⟩ = some (.int .i64 ((rd_T57 l0_2 x5_2).f5)) ∧ w'.cell? (ad9104.add ((x5_2).toNat * 6)) = some (.int .i64 ((rd_T57 l1_2 x5_2).f0)) ∧ w'.cell? ⟨(ad9104.add ((x5_2).toNat * 6)).block, (ad9104.add ((x5_2).toNat * 6)).off + 1, none⟩ = some (.int .i64 ((rd_T57 l1_2 x5_2).f1)) ∧ w'.cell? ⟨(ad9104.add ((x5_2).toNat * 6)).block, (ad9104.add ((x5_2).toNat * 6)).off + 2, none⟩ = some (.slice A9104_2 ((rd_T57 l1_2 x5_2).f2).length c9104_2) ∧ w'.cell? ⟨(ad9104.add ((x5_2).toNat * 6)).block, (ad9104.add ((x5_2).toNat * 6)).off + 3, none⟩ = some (.int .i64 ((rd_T57 l1_2 x5_2).f3)) ∧ w'.cell? ⟨(ad9104.add ((x5_2).toNat * 6)).block, (ad9104.add ((x5_2).toNat * 6)).off + 4, none⟩ = some (.int .i64 ((rd_T57 l1_2 x5_2).f4)) ∧ w'.cell? ⟨(ad9104.add ((x5_2).toNat * 6)).block, (ad9104.add ((x5_2).toNat * 6)).off + 5, none⟩ = some (.int .i64 ((rd_T57 l1_2 x5_2).f5))) (ds := []) #[false, false, false, false, false, false, false, false, false, false, false, false] (by kernel_rfl) rfl rfl ⟨(blk_cell BK9101.out 0).trans rfl, (blk_cell BK9101.out 1).trans rfl, (blk_cell BK9101.out 2).trans rfl, (blk_cell BK9102.out 0).trans rfl, (blk_cell BK9102.out 1).trans rfl, (blk_cell BK9102.out 2).trans rfl, ((HB.out.cell (World.block_lt_of_cell? w _ hw9103_0)).trans hw9103_0), ((HB.out.cell (World.block_lt_of_cell? w _ hw9103_1)).trans hw9103_1), ((HB.out.cell (World.block_lt_of_cell? w _ hw9103_2)).trans hw9103_2), ((HB.out.cell (World.block_lt_of_cell? w _ hw9103_3)).trans hw9103_3), ((HB.out.cell (World.block_lt_of_cell? w _ hw9103_4)).trans hw9103_4), ((HB.out.cell (World.block_lt_of_cell? w _ hw9103_5)).trans hw9103_5), ((HB.out.cell (World.block_lt_of_cell? w _ hw9104_0)).trans hw9104_0), ((HB.out.cell (World.block_lt_of_cell? w _ hw9104_1)).trans hw9104_1), ((HB.out.cell (World.block_lt_of_cell? w _ hw9104_2)).trans hw9104_2), ((HB.out.cell (World.block_lt_of_cell? w _ hw9104_3)).trans hw9104_3), ((HB.out.cell (World.block_lt_of_cell? w _ hw9104_4)).trans hw9104_4), ((HB.out.cell (World.block_lt_of_cell? w _ hw9104_5)).trans hw9104_5)⟩ (fun hHeld => ?_); refine with_tabW phasorref08_Same.tab6 phasorref08_Same.bits6 (fun HT_ HW_ => ?_)
          generalize wr.drew = w25 at BK9101 BK9102 HB HR9103_2 HR9104_2 hx9103_0 hx9103_1 hx9103_2 hx9103_3 hx9103_4 hx9103_5 hx9104_0 hx9104_1 hx9104_2 hx9104_3 hx9104_4 hx9104_5 hHeld ⊢
          refine pure_ (i := 0) (N := some 34) (v := ?_) (a' := ?_) #[true, false, false, false, false, false, false, false, false, false, false, false] rfl rfl (any_of HT_.out (by kernel_rfl)) (fun _ _ _ h => h) (Or.inl ⟨by rfl, ?_⟩) ?_ ?_
          rotate_left
          ·intro w'
           go_simp
           with_reducible rfl
          rotate_left
          ·simp only [Act.put, List.setIfInBounds_toArray, List.set_cons_zero, List.set_cons_succ, i64_w, i32_w]
           rfl
          refine pure_ (i := 2) (N := some 36) (v := ?_) (a' := ?_) #[true, false, true, false, false, false, false, false, false, false, false, false] rfl rfl (any_of HT_.out (by kernel_rfl)) (fun _ _ _ h => h) (Or.inl ⟨by rfl, ?_⟩) ?_ ?_
          rotate_left
          ·intro w'
           go_simp
           with_reducible rfl
          rotate_left
          ·simp only [Act.put, List.setIfInBounds_toArray, List.set_cons_zero, List.set_cons_succ, i64_w, i32_w]
           rfl
          refine pure_ (i := 5) (N := some 39) (v := ?_) (a' := ?_) #[true, false, true, false, false, true, false, false, false, false, false, false] rfl rfl (any_of HT_.out (by kernel_rfl)) (fun _ _ _ h => h) (Or.inl ⟨by rfl, ?_⟩) ?_ ?_
          rotate_left
          ·intro w'
           go_simp
           with_reducible rfl
          rotate_left
          ·simp only [Act.put, List.setIfInBounds_toArray, List.set_cons_zero, List.set_cons_succ, i64_w, i32_w]
           rfl
          refine pure_ (i := 7) (N := some 41) (v := ?_) (a' := ?_) #[true, false, true, false, false, true, false, true, false, false, false, false] rfl rfl (any_of HT_.out (by kernel_rfl)) (fun _ _ _ h => h) (Or.inl ⟨by rfl, ?_⟩) ?_ ?_
          rotate_left
          ·intro w'
           go_simp
           with_reducible rfl
          rotate_left
          ·simp only [Act.put, List.setIfInBounds_toArray, List.set_cons_zero, List.set_cons_succ, i64_w, i32_w]
           rfl
          refine take_ (i := 1) (N := some 35) (v := ?_) (a' := ?_) #[true, true, true, false, false, true, false, true, false, false, false, false] rfl rfl (take_ofW HT_.out HW_.out (by kernel_rfl)) (fun _ _ _ h => h) (Or.inl ⟨by rfl, ?_⟩) hHeld ?_ ?_
          rotate_left
          ·rintro w' ⟨s0, s1, s2, s3, s4, s5, s6, s7, s8, s9, s10, s11, s12, s13, s14, s15, s16, s17⟩
           go_simp
           with_reducible rfl
          rotate_left
          ·simp only [Act.put, List.setIfInBounds_toArray, List.set_cons_zero, List.set_cons_succ, i64_w, i32_w]
           rfl
          refine pure_ (i := 3) (N := some 37) (v := ?_) (a' := ?_) #[true, true, true, true, false, true, false, true, false, false, false, false] rfl rfl (any_of HT_.out (by kernel_rfl)) (fun _ _ _ h => h) (Or.inl ⟨by rfl, ?_⟩) ?_ ?_
          rotate_left
          ·intro w'
           go_simp
           with_reducible rfl
          rotate_left
          ·simp only [Act.put, List.setIfInBounds_toArray, List.set_cons_zero, List.set_cons_succ, i64_w, i32_w]
           rfl
          refine take_ (i := 4) (N := some 38) (v := ?_) (a' := ?_) #[true, true, true, true, true, true, false, true, false, false, false, false] rfl rfl (take_ofW HT_.out HW_.out (by kernel_rfl)) (fun _ _ _ h => h) (Or.inl ⟨by rfl, ?_⟩) hHeld ?_ ?_
          rotate_left
          ·rintro w' ⟨s0, s1, s2, s3, s4, s5, s6, s7, s8, s9, s10, s11, s12, s13, s14, s15, s16, s17⟩
           go_simp
           with_reducible rfl
          rotate_left
          ·simp only [Act.put, List.setIfInBounds_toArray, List.set_cons_zero, List.set_cons_succ, i64_w, i32_w]
           rfl
          refine take_ (i := 6) (N := some 40) (v := ?_) (a' := ?_) #[true, true, true, true, true, true, true, true, false, false, false, false] rfl rfl (take_ofW HT_.out HW_.out (by kernel_rfl)) (fun _ _ _ h => h) (Or.inl ⟨by rfl, ?_⟩) hHeld ?_ ?_
          rotate_left
          ·rintro w' ⟨s0, s1, s2, s3, s4, s5, s6, s7, s8, s9, s10, s11, s12, s13, s14, s15, s16, s17⟩
           go_simp
           with_reducible rfl
          rotate_left
          ·simp only [Act.put, List.setIfInBounds_toArray, List.set_cons_zero, List.set_cons_succ, i64_w, i32_w]
           rfl
          refine pure_ (i := 8) (N := some 42) (v := ?_) (a' := ?_) #[true, true, true, true, true, true, true, true, true, false, false, false] rfl rfl (any_of HT_.out (by kernel_rfl)) (fun _ _ _ h => h) (Or.inl ⟨by rfl, ?_⟩) ?_ ?_
          rotate_left
          ·intro w'
           go_simp
           with_reducible rfl
          rotate_left
          ·simp only [Act.put, List.setIfInBounds_toArray, List.set_cons_zero, List.set_cons_succ, i64_w, i32_w]
           rfl
          refine take_ (i := 9) (N := some 43) (v := ?_) (a' := ?_) #[true, true, true, true, true, true, true, true, true, true, false, false] rfl rfl (take_ofW HT_.out HW_.out (by kernel_rfl)) (fun _ _ _ h => h) (Or.inl ⟨by rfl, ?_⟩) hHeld ?_ ?_
          rotate_left
          ·rintro w' ⟨s0, s1, s2, s3, s4, s5, s6, s7, s8, s9, s10, s11, s12, s13, s14, s15, s16, s17⟩
           go_simp
           with_reducible rfl
          rotate_left
          ·simp only [Act.put, List.setIfInBounds_toArray, List.set_cons_zero, List.set_cons_succ, i64_w, i32_w]
           rfl
          refine one_ (i := 10) (N := some 44) #[true, true, true, true, true, true, true, true, true, true, true, false] rfl rfl (one_of HT_.out (by kernel_rfl)) (by decide) (fun K hK => ?_)
          refine goes_ Try.func35 (by kernel_rfl) rfl #[.agg #[.int .i64 ((rd_T57 l0_2 x5_2).f0), .int .i64 ((rd_T57 l0_2 x5_2).f1), .slice A9103_2 ((rd_T57 l0_2 x5_2).f2).length c9103_2, .int .i64 ((rd_T57 l0_2 x5_2).f3), .int .i64 ((rd_T57 l0_2 x5_2).f4), .int .i64 ((rd_T57 l0_2 x5_2).f5)], .agg #[.int .i64 ((rd_T57 l1_2 x5_2).f0), .int .i64 ((rd_T57 l1_2 x5_2).f1), .slice A9104_2 ((rd_T57 l1_2 x5_2).f2).length c9104_2, .int .i64 ((rd_T57 l1_2 x5_2).f3), .int .i64 ((rd_T57 l1_2 x5_2).f4), .int .i64 ((rd_T57 l1_2 x5_2).f5)]] (by rfl) rfl rfl (by (try simp only [List.map_toArray, List.map_cons, List.map_nil]); first | done | rfl | (simp only [List.length_drop, List.length_take]; rfl)) ?_
          with_reducible refine (phasorref08_SameOp.calls k2 ((rd_T57 l0_2 x5_2).f0) ((rd_T57 l0_2 x5_2).f1) _ _ ((rd_T57 l0_2 x5_2).f2) ((rd_T57 l0_2 x5_2).f3) ((rd_T57 l0_2 x5_2).f4) ((rd_T57 l0_2 x5_2).f5) ((rd_T57 l1_2 x5_2).f0) ((rd_T57 l1_2 x5_2).f1) _ _ ((rd_T57 l1_2 x5_2).f2) ((rd_T57 l1_2 x5_2).f3) ((rd_T57 l1_2 x5_2).f4) ((rd_T57 l1_2 x5_2).f5) true _ ?side1 ?side2 ?side3 ?side4 A21.out).mono ?_
          (case side1 => repeat (first | exact (Kd.C_below HR9103_2.out HB.out) | (with_reducible refine Kd.C_alloc ?_ _) | (with_reducible refine Kd.C_drewN ?_ _) | (with_reducible refine Kd.C_drew ?_)))
          (case side2 => exact HC9103_2.out)
          (case side3 => repeat (first | exact (Kd.C_below HR9104_2.out HB.out) | (with_reducible refine Kd.C_alloc ?_ _) | (with_reducible refine Kd.C_drewN ?_ _) | (with_reducible refine Kd.C_drew ?_)))
          (case side4 => exact HC9104_2.out)
          rintro e w26 ⟨rfl, hb⟩
          refine ⟨_, rfl, ?_⟩
          have n0_ := Aside0.mk (blk_below (g := gb9101) (o := .cells #[.int .i64 a0_0, .int .i64 a0_1, .slice (some ad9103) l0_2.length c0_2] 24 (0, 0)) (by (with_reducible repeat (first | refine blk_drewN ?_ _ | refine blk_drew ?_ | refine blk_alloc ?_ _)); exact BK9101.out) hb)
          have n1_ := Aside0.mk (blk_below (g := gb9102) (o := .cells #[.int .i64 a1_0, .int .i64 a1_1, .slice (some ad9104) l1_2.length c1_2] 24 (0, 0)) (by (with_reducible repeat (first | refine blk_drewN ?_ _ | refine blk_drew ?_ | refine blk_alloc ?_ _)); exact BK9102.out) hb)
          have n2_ := Aside0.mk (below_step (by repeat (first | (with_reducible first | exact HB.out | apply below_alloc | apply pw_below_drewN | apply below_drew1 | refine below_set ?_ GE9101.out | refine below_set ?_ GE9102.out) | exact HB.out)) hb)
          clear BK9101
          clear BK9102
          clear HB
          have BK9101 := n0_
          have BK9102 := n1_
          have HB := n2_
          clear n0_ n1_ n2_
          (try clear hb)
          (try clear hb2)
          (try clear hk)
          (try clear hi)
          refine hK.out _ _ ⟨(blk_cell BK9101.out 0).trans rfl, (blk_cell BK9101.out 1).trans rfl, (blk_cell BK9101.out 2).trans rfl, (blk_cell BK9102.out 0).trans rfl, (blk_cell BK9102.out 1).trans rfl, (blk_cell BK9102.out 2).trans rfl, ((HB.out.cell (World.block_lt_of_cell? w _ hw9103_0)).trans hw9103_0), ((HB.out.cell (World.block_lt_of_cell? w _ hw9103_1)).trans hw9103_1), ((HB.out.cell (World.block_lt_of_cell? w _ hw9103_2)).trans hw9103_2), ((HB.out.cell (World.block_lt_of_cell? w _ hw9103_3)).trans hw9103_3), ((HB.out.cell (World.block_lt_of_cell? w _ hw9103_4)).trans hw9103_4), ((HB.out.cell (World.block_lt_of_cell? w _ hw9103_5)).trans hw9103_5), ((HB.out.cell (World.block_lt_of_cell? w _ hw9104_0)).trans hw9104_0), ((HB.out.cell (World.block_lt_of_cell? w _ hw9104_1)).trans hw9104_1), ((HB.out.cell (World.block_lt_of_cell? w _ hw9104_2)).trans hw9104_2), ((HB.out.cell (World.block_lt_of_cell? w _ hw9104_3)).trans hw9104_3), ((HB.out.cell (World.block_lt_of_cell? w _ hw9104_4)).trans hw9104_4), ((HB.out.cell (World.block_lt_of_cell? w _ hw9104_5)).trans hw9104_5)⟩ (fun hHeld => ?_)
          clear hK K
          refine norm_ (a' := ?_) ?_ ?_
          rotate_left
          ·show Act.put _ (some 44) _ = _
           simp only [Act.put, List.setIfInBounds_toArray, List.set_cons_zero, List.set_cons_succ, i64_w, i32_w]
           rfl
          refine pure_ (i := 11) (N := some 45) (v := ?_) (a' := ?_) #[true, true, true, true, true, true, true, true, true, true, true, true] rfl rfl (any_of HT_.out (by kernel_rfl)) (fun _ _ _ h => h) (Or.inl ⟨by rfl, ?_⟩) ?_ ?_
          rotate_left
          ·intro w'
           go_simp
           with_reducible rfl
          rotate_left
          ·simp only [Act.put, List.setIfInBounds_toArray, List.set_cons_zero, List.set_cons_succ, i64_w, i32_w]
           rfl
          refine done_ (done_of HT_.out (by kernel_rfl)) ?_
          try go_wp2
          go_roundg k2
          case measure => have := HJ2.out; have := HK2.out; omega
          case rel => exact ⟨(wrap64 (x5_2 + 1)), (by first | rfl | (simp; done) | (simp [*]; done)), H', ⟨by have := HJ2.out; have := HK2.out; omega⟩, ⟨by (with_reducible repeat (first | refine blk_drewN ?_ _ | refine blk_drew ?_ | refine blk_alloc ?_ _)); exact BK9101.out⟩, ⟨by (with_reducible repeat (first | refine blk_drewN ?_ _ | refine blk_drew ?_ | refine blk_alloc ?_ _)); exact BK9102.out⟩, ⟨by repeat (first | (with_reducible first | exact HB.out | apply below_alloc | apply pw_below_drewN | apply below_drew1 | refine below_set ?_ GE9101.out | refine below_set ?_ GE9102.out) | exact HB.out)⟩⟩
         ·replace c22 := Bool.eq_false_iff.mpr c22
          subst c22
          have H1 : (some false) = some r := by rw [if_neg (show ¬ (false = true) by decide)] at H; exact H
          clear H
          have H := H1
          clear H1
          obtain rfl := Option.some.inj H
          have hnb27 := NB9101_9102.out
          have hnc27 := NB9102_9101.out
          have hcz28_0 : wr.cell? ⟨gb9101, 0, none⟩ = some (.int .i64 a0_0) := (blk_cell BK9101.out 0).trans rfl
          have hcz28_1 : wr.cell? ⟨gb9101, 1, none⟩ = some (.int .i64 a0_1) := (blk_cell BK9101.out 1).trans rfl
          have hcz28_2 : wr.cell? ⟨gb9101, 2, none⟩ = some (.slice A0_2 l0_2.length c0_2) := (blk_cell BK9101.out 2).trans rfl
          have hfz28_0 := blk_frozen BK9101.out 0
          have hfz28_1 := blk_frozen BK9101.out 1
          have hfz28_2 := blk_frozen BK9101.out 2
          try go_wp2
          have n0_ := Aside0.mk (blk_drew BK9101.out)
          have n1_ := Aside0.mk (blk_drew BK9102.out)
          have n2_ := Aside0.mk (below_drew1 HB.out)
          clear BK9101
          clear BK9102
          clear HB
          have BK9101 := n0_
          have BK9102 := n1_
          have HB := n2_
          clear n0_ n1_ n2_
          have p9103 : 0 ≤ (x5_2 : Int) := of_decide_eq_true (by first | (with_reducible assumption) | assumption)
          have q9103 : x5_2 < (l0_2.length : Int) := of_decide_eq_true (by first | (with_reducible assumption) | assumption)
          obtain ⟨ad9103, A9103_2, c9103_2, e9103, hx9103_0, hx9103_1, hx9103_2, hx9103_3, hx9103_4, hx9103_5, hl9103_2, hi9103_2⟩ := at_T57 HR0_2.out x5_2 p9103 q9103
          have hw9103_5 := hx9103_5
          have hw9103_4 := hx9103_4
          have hw9103_3 := hx9103_3
          have hw9103_2 := hx9103_2
          have hw9103_1 := hx9103_1
          have hw9103_0 := hx9103_0
          cases e9103
          replace hx9103_0 := (HB.out.cell (World.block_lt_of_cell? w _ hx9103_0)).trans hx9103_0
          replace hx9103_1 := (HB.out.cell (World.block_lt_of_cell? w _ hx9103_1)).trans hx9103_1
          replace hx9103_2 := (HB.out.cell (World.block_lt_of_cell? w _ hx9103_2)).trans hx9103_2
          replace hx9103_3 := (HB.out.cell (World.block_lt_of_cell? w _ hx9103_3)).trans hx9103_3
          replace hx9103_4 := (HB.out.cell (World.block_lt_of_cell? w _ hx9103_4)).trans hx9103_4
          replace hx9103_5 := (HB.out.cell (World.block_lt_of_cell? w _ hx9103_5)).trans hx9103_5
          have HR9103_2 := Aside0.mk hi9103_2
          have HC9103_2 := Aside0.mk hl9103_2
          clear hi9103_2 hl9103_2
          replace p9103 := eq_true p9103
          replace q9103 := eq_true q9103
          have p9104 : 0 ≤ (x5_2 : Int) := of_decide_eq_true (by first | (with_reducible assumption) | assumption)
          have q9104 : x5_2 < (l1_2.length : Int) := of_decide_eq_true (by first | (with_reducible assumption) | assumption)
          obtain ⟨ad9104, A9104_2, c9104_2, e9104, hx9104_0, hx9104_1, hx9104_2, hx9104_3, hx9104_4, hx9104_5, hl9104_2, hi9104_2⟩ := at_T57 HR1_2.out x5_2 p9104 q9104
          have hw9104_5 := hx9104_5
          have hw9104_4 := hx9104_4
          have hw9104_3 := hx9104_3
          have hw9104_2 := hx9104_2
          have hw9104_1 := hx9104_1
          have hw9104_0 := hx9104_0
          cases e9104
          replace hx9104_0 := (HB.out.cell (World.block_lt_of_cell? w _ hx9104_0)).trans hx9104_0
          replace hx9104_1 := (HB.out.cell (World.block_lt_of_cell? w _ hx9104_1)).trans hx9104_1
          replace hx9104_2 := (HB.out.cell (World.block_lt_of_cell? w _ hx9104_2)).trans hx9104_2
          replace hx9104_3 := (HB.out.cell (World.block_lt_of_cell? w _ hx9104_3)).trans hx9104_3
          replace hx9104_4 := (HB.out.cell (World.block_lt_of_cell? w _ hx9104_4)).trans hx9104_4
          replace hx9104_5 := (HB.out.cell (World.block_lt_of_cell? w _ hx9104_5)).trans hx9104_5
          have HR9104_2 := Aside0.mk hi9104_2
          have HC9104_2 := Aside0.mk hl9104_2
          clear hi9104_2 hl9104_2
          replace p9104 := eq_true p9104
          replace q9104 := eq_true q9104
          refine start_ (n := 12) (S := fun w' => w'.cell? ⟨gb9101, 0, none⟩ = some (.int .i64 a0_0) ∧ w'.cell? ⟨gb9101, 1, none⟩ = some (.int .i64 a0_1) ∧ w'.cell? ⟨gb9101, 2, none⟩ = some (.slice (some ad9103) l0_2.length c0_2) ∧ w'.cell? ⟨gb9102, 0, none⟩ = some (.int .i64 a1_0) ∧ w'.cell? ⟨gb9102, 1, none⟩ = some (.int .i64 a1_1) ∧ w'.cell? ⟨gb9102, 2, none⟩ = some (.slice (some ad9104) l1_2.length c1_2) ∧ w'.cell? (ad9103.add ((x5_2).toNat * 6)) = some (.int .i64 ((rd_T57 l0_2 x5_2).f0)) ∧ w'.cell? ⟨(ad9103.add ((x5_2).toNat * 6)).block, (ad9103.add ((x5_2).toNat * 6)).off + 1, none⟩ = some (.int .i64 ((rd_T57 l0_2 x5_2).f1)) ∧ w'.cell? ⟨(ad9103.add ((x5_2).toNat * 6)).block, (ad9103.add ((x5_2).toNat * 6)).off + 2, none⟩ = some (.slice A9103_2 ((rd_T57 l0_2 x5_2).f2).length c9103_2) ∧ w'.cell? ⟨(ad9103.add ((x5_2).toNat * 6)).block, (ad9103.add ((x5_2).toNat * 6)).off + 3, none⟩ = some (.int .i64 ((rd_T57 l0_2 x5_2).f3)) ∧ w'.cell? ⟨(ad9103.add ((x5_2).toNat * 6)).block, (ad9103.add ((x5_2).toNat * 6)).off + 4, none⟩ = some (.int .i64 ((rd_T57 l0_2 x5_2).f4)) ∧ w'.cell? ⟨(ad9103.add ((x5_2).toNat * 6)).block, (ad9103.add ((x5_2).toNat * 6)).off + 5, none⟩ = some (.int .i64 ((rd_T57 l0_2 x5_2).f5)) ∧ w'.cell? (ad9104.add ((x5_2).toNat * 6)) = some (.int .i64 ((rd_T57 l1_2 x5_2).f0)) ∧ w'.cell? ⟨(ad9104.add ((x5_2).toNat * 6)).block, (ad9104.add ((x5_2).toNat * 6)).off + 1, none⟩ = some (.int .i64 ((rd_T57 l1_2 x5_2).f1)) ∧ w'.cell? ⟨(ad9104.add ((x5_2).toNat * 6)).block, (ad9104.add ((x5_2).toNat * 6)).off + 2, none⟩ = some (.slice A9104_2 ((rd_T57 l1_2 x5_2).f2).length c9104_2) ∧ w'.cell? ⟨(ad9104.add ((x5_2).toNat * 6)).block, (ad9104.add ((x5_2).toNat * 6)).off + 3, none⟩ = some (.int .i64 ((rd_T57 l1_2 x5_2).f3)) ∧ w'.cell? ⟨(ad9104.add ((x5_2).toNat * 6)).block, (ad9104.add ((x5_2).toNat * 6)).off + 4, none⟩ = some (.int .i64 ((rd_T57 l1_2 x5_2).f4)) ∧ w'.cell? ⟨(ad9104.add ((x5_2).toNat * 6)).block, (ad9104.add ((x5_2).toNat * 6)).off + 5, none⟩ = some (.int .i64 ((rd_T57 l1_2 x5_2).f5))) (ds := []) #[false, false, false, false, false, false, false, false, false, false, false, false] (by kernel_rfl) rfl rfl ⟨(blk_cell BK9101.out 0).trans rfl, (blk_cell BK9101.out 1).trans rfl, (blk_cell BK9101.out 2).trans rfl, (blk_cell BK9102.out 0).trans rfl, (blk_cell BK9102.out 1).trans rfl, (blk_cell BK9102.out 2).trans rfl, ((HB.out.cell (World.block_lt_of_cell? w _ hw9103_0)).trans hw9103_0), ((HB.out.cell (World.block_lt_of_cell? w _ hw9103_1)).trans hw9103_1), ((HB.out.cell (World.block_lt_of_cell? w _ hw9103_2)).trans hw9103_2), ((HB.out.cell (World.block_lt_of_cell? w _ hw9103_3)).trans hw9103_3), ((HB.out.cell (World.block_lt_of_cell? w _ hw9103_4)).trans hw9103_4), ((HB.out.cell (World.block_lt_of_cell? w _ hw9103_5)).trans hw9103_5), ((HB.out.cell (World.block_lt_of_cell? w _ hw9104_0)).trans hw9104_0), ((HB.out.cell (World.block_lt_of_cell? w _ hw9104_1)).trans hw9104_1), ((HB.out.cell (World.block_lt_of_cell? w _ hw9104_2)).trans hw9104_2), ((HB.out.cell (World.block_lt_of_cell? w _ hw9104_3)).trans hw9104_3), ((HB.out.cell (World.block_lt_of_cell? w _ hw9104_4)).trans hw9104_4), ((HB.out.cell (World.block_lt_of_cell? w _ hw9104_5)).trans hw9104_5)⟩ (fun hHeld => ?_); refine with_tabW phasorref08_Same.tab6 phasorref08_Same.bits6 (fun HT_ HW_ => ?_)
          generalize wr.drew = w29 at BK9101 BK9102 HB HR9103_2 HR9104_2 hx9103_0 hx9103_1 hx9103_2 hx9103_3 hx9103_4 hx9103_5 hx9104_0 hx9104_1 hx9104_2 hx9104_3 hx9104_4 hx9104_5 hHeld ⊢
          refine pure_ (i := 0) (N := some 34) (v := ?_) (a' := ?_) #[true, false, false, false, false, false, false, false, false, false, false, false] rfl rfl (any_of HT_.out (by kernel_rfl)) (fun _ _ _ h => h) (Or.inl ⟨by rfl, ?_⟩) ?_ ?_
          rotate_left
          ·intro w'
           go_simp
           with_reducible rfl
          rotate_left
          ·simp only [Act.put, List.setIfInBounds_toArray, List.set_cons_zero, List.set_cons_succ, i64_w, i32_w]
           rfl
          refine pure_ (i := 2) (N := some 36) (v := ?_) (a' := ?_) #[true, false, true, false, false, false, false, false, false, false, false, false] rfl rfl (any_of HT_.out (by kernel_rfl)) (fun _ _ _ h => h) (Or.inl ⟨by rfl, ?_⟩) ?_ ?_
          rotate_left
          ·intro w'
           go_simp
           with_reducible rfl
          rotate_left
          ·simp only [Act.put, List.setIfInBounds_toArray, List.set_cons_zero, List.set_cons_succ, i64_w, i32_w]
           rfl
          refine pure_ (i := 5) (N := some 39) (v := ?_) (a' := ?_) #[true, false, true, false, false, true, false, false, false, false, false, false] rfl rfl (any_of HT_.out (by kernel_rfl)) (fun _ _ _ h => h) (Or.inl ⟨by rfl, ?_⟩) ?_ ?_
          rotate_left
          ·intro w'
           go_simp
           with_reducible rfl
          rotate_left
          ·simp only [Act.put, List.setIfInBounds_toArray, List.set_cons_zero, List.set_cons_succ, i64_w, i32_w]
           rfl
          refine pure_ (i := 7) (N := some 41) (v := ?_) (a' := ?_) #[true, false, true, false, false, true, false, true, false, false, false, false] rfl rfl (any_of HT_.out (by kernel_rfl)) (fun _ _ _ h => h) (Or.inl ⟨by rfl, ?_⟩) ?_ ?_
          rotate_left
          ·intro w'
           go_simp
           with_reducible rfl
          rotate_left
          ·simp only [Act.put, List.setIfInBounds_toArray, List.set_cons_zero, List.set_cons_succ, i64_w, i32_w]
           rfl
          refine take_ (i := 1) (N := some 35) (v := ?_) (a' := ?_) #[true, true, true, false, false, true, false, true, false, false, false, false] rfl rfl (take_ofW HT_.out HW_.out (by kernel_rfl)) (fun _ _ _ h => h) (Or.inl ⟨by rfl, ?_⟩) hHeld ?_ ?_
          rotate_left
          ·rintro w' ⟨s0, s1, s2, s3, s4, s5, s6, s7, s8, s9, s10, s11, s12, s13, s14, s15, s16, s17⟩
           go_simp
           with_reducible rfl
          rotate_left
          ·simp only [Act.put, List.setIfInBounds_toArray, List.set_cons_zero, List.set_cons_succ, i64_w, i32_w]
           rfl
          refine pure_ (i := 3) (N := some 37) (v := ?_) (a' := ?_) #[true, true, true, true, false, true, false, true, false, false, false, false] rfl rfl (any_of HT_.out (by kernel_rfl)) (fun _ _ _ h => h) (Or.inl ⟨by rfl, ?_⟩) ?_ ?_
          rotate_left
          ·intro w'
           go_simp
           with_reducible rfl
          rotate_left
          ·simp only [Act.put, List.setIfInBounds_toArray, List.set_cons_zero, List.set_cons_succ, i64_w, i32_w]
           rfl
          refine take_ (i := 4) (N := some 38) (v := ?_) (a' := ?_) #[true, true, true, true, true, true, false, true, false, false, false, false] rfl rfl (take_ofW HT_.out HW_.out (by kernel_rfl)) (fun _ _ _ h => h) (Or.inl ⟨by rfl, ?_⟩) hHeld ?_ ?_
          rotate_left
          ·rintro w' ⟨s0, s1, s2, s3, s4, s5, s6, s7, s8, s9, s10, s11, s12, s13, s14, s15, s16, s17⟩
           go_simp
           with_reducible rfl
          rotate_left
          ·simp only [Act.put, List.setIfInBounds_toArray, List.set_cons_zero, List.set_cons_succ, i64_w, i32_w]
           rfl
          refine take_ (i := 6) (N := some 40) (v := ?_) (a' := ?_) #[true, true, true, true, true, true, true, true, false, false, false, false] rfl rfl (take_ofW HT_.out HW_.out (by kernel_rfl)) (fun _ _ _ h => h) (Or.inl ⟨by rfl, ?_⟩) hHeld ?_ ?_
          rotate_left
          ·rintro w' ⟨s0, s1, s2, s3, s4, s5, s6, s7, s8, s9, s10, s11, s12, s13, s14, s15, s16, s17⟩
           go_simp
           with_reducible rfl
          rotate_left
          ·simp only [Act.put, List.setIfInBounds_toArray, List.set_cons_zero, List.set_cons_succ, i64_w, i32_w]
           rfl
          refine pure_ (i := 8) (N := some 42) (v := ?_) (a' := ?_) #[true, true, true, true, true, true, true, true, true, false, false, false] rfl rfl (any_of HT_.out (by kernel_rfl)) (fun _ _ _ h => h) (Or.inl ⟨by rfl, ?_⟩) ?_ ?_
          rotate_left
          ·intro w'
           go_simp
           with_reducible rfl
          rotate_left
          ·simp only [Act.put, List.setIfInBounds_toArray, List.set_cons_zero, List.set_cons_succ, i64_w, i32_w]
           rfl
          refine take_ (i := 9) (N := some 43) (v := ?_) (a' := ?_) #[true, true, true, true, true, true, true, true, true, true, false, false] rfl rfl (take_ofW HT_.out HW_.out (by kernel_rfl)) (fun _ _ _ h => h) (Or.inl ⟨by rfl, ?_⟩) hHeld ?_ ?_
          rotate_left
          ·rintro w' ⟨s0, s1, s2, s3, s4, s5, s6, s7, s8, s9, s10, s11, s12, s13, s14, s15, s16, s17⟩
           go_simp
           with_reducible rfl
          rotate_left
          ·simp only [Act.put, List.setIfInBounds_toArray, List.set_cons_zero, List.set_cons_succ, i64_w, i32_w]
           rfl
          refine one_ (i := 10) (N := some 44) #[true, true, true, true, true, true, true, true, true, true, true, false] rfl rfl (one_of HT_.out (by kernel_rfl)) (by decide) (fun K hK => ?_)
          refine goes_ Try.func35 (by kernel_rfl) rfl #[.agg #[.int .i64 ((rd_T57 l0_2 x5_2).f0), .int .i64 ((rd_T57 l0_2 x5_2).f1), .slice A9103_2 ((rd_T57 l0_2 x5_2).f2).length c9103_2, .int .i64 ((rd_T57 l0_2 x5_2).f3), .int .i64 ((rd_T57 l0_2 x5_2).f4), .int .i64 ((rd_T57 l0_2 x5_2).f5)], .agg #[.int .i64 ((rd_T57 l1_2 x5_2).f0), .int .i64 ((rd_T57 l1_2 x5_2).f1), .slice A9104_2 ((rd_T57 l1_2 x5_2).f2).length c9104_2, .int .i64 ((rd_T57 l1_2 x5_2).f3), .int .i64 ((rd_T57 l1_2 x5_2).f4), .int .i64 ((rd_T57 l1_2 x5_2).f5)]] (by rfl) rfl rfl (by (try simp only [List.map_toArray, List.map_cons, List.map_nil]); first | done | rfl | (simp only [List.length_drop, List.length_take]; rfl)) ?_
          with_reducible refine (phasorref08_SameOp.calls k2 ((rd_T57 l0_2 x5_2).f0) ((rd_T57 l0_2 x5_2).f1) _ _ ((rd_T57 l0_2 x5_2).f2) ((rd_T57 l0_2 x5_2).f3) ((rd_T57 l0_2 x5_2).f4) ((rd_T57 l0_2 x5_2).f5) ((rd_T57 l1_2 x5_2).f0) ((rd_T57 l1_2 x5_2).f1) _ _ ((rd_T57 l1_2 x5_2).f2) ((rd_T57 l1_2 x5_2).f3) ((rd_T57 l1_2 x5_2).f4) ((rd_T57 l1_2 x5_2).f5) false _ ?side1 ?side2 ?side3 ?side4 A21.out).mono ?_
          (case side1 => repeat (first | exact (Kd.C_below HR9103_2.out HB.out) | (with_reducible refine Kd.C_alloc ?_ _) | (with_reducible refine Kd.C_drewN ?_ _) | (with_reducible refine Kd.C_drew ?_)))
          (case side2 => exact HC9103_2.out)
          (case side3 => repeat (first | exact (Kd.C_below HR9104_2.out HB.out) | (with_reducible refine Kd.C_alloc ?_ _) | (with_reducible refine Kd.C_drewN ?_ _) | (with_reducible refine Kd.C_drew ?_)))
          (case side4 => exact HC9104_2.out)
          rintro e w30 ⟨rfl, hb⟩
          refine ⟨_, rfl, ?_⟩
          have n0_ := Aside0.mk (blk_below (g := gb9101) (o := .cells #[.int .i64 a0_0, .int .i64 a0_1, .slice (some ad9103) l0_2.length c0_2] 24 (0, 0)) (by (with_reducible repeat (first | refine blk_drewN ?_ _ | refine blk_drew ?_ | refine blk_alloc ?_ _)); exact BK9101.out) hb)
          have n1_ := Aside0.mk (blk_below (g := gb9102) (o := .cells #[.int .i64 a1_0, .int .i64 a1_1, .slice (some ad9104) l1_2.length c1_2] 24 (0, 0)) (by (with_reducible repeat (first | refine blk_drewN ?_ _ | refine blk_drew ?_ | refine blk_alloc ?_ _)); exact BK9102.out) hb)
          have n2_ := Aside0.mk (below_step (by repeat (first | (with_reducible first | exact HB.out | apply below_alloc | apply pw_below_drewN | apply below_drew1 | refine below_set ?_ GE9101.out | refine below_set ?_ GE9102.out) | exact HB.out)) hb)
          clear BK9101
          clear BK9102
          clear HB
          have BK9101 := n0_
          have BK9102 := n1_
          have HB := n2_
          clear n0_ n1_ n2_
          (try clear hb)
          (try clear hb2)
          (try clear hk)
          (try clear hi)
          refine hK.out _ _ ⟨(blk_cell BK9101.out 0).trans rfl, (blk_cell BK9101.out 1).trans rfl, (blk_cell BK9101.out 2).trans rfl, (blk_cell BK9102.out 0).trans rfl, (blk_cell BK9102.out 1).trans rfl, (blk_cell BK9102.out 2).trans rfl, ((HB.out.cell (World.block_lt_of_cell? w _ hw9103_0)).trans hw9103_0), ((HB.out.cell (World.block_lt_of_cell? w _ hw9103_1)).trans hw9103_1), ((HB.out.cell (World.block_lt_of_cell? w _ hw9103_2)).trans hw9103_2), ((HB.out.cell (World.block_lt_of_cell? w _ hw9103_3)).trans hw9103_3), ((HB.out.cell (World.block_lt_of_cell? w _ hw9103_4)).trans hw9103_4), ((HB.out.cell (World.block_lt_of_cell? w _ hw9103_5)).trans hw9103_5), ((HB.out.cell (World.block_lt_of_cell? w _ hw9104_0)).trans hw9104_0), ((HB.out.cell (World.block_lt_of_cell? w _ hw9104_1)).trans hw9104_1), ((HB.out.cell (World.block_lt_of_cell? w _ hw9104_2)).trans hw9104_2), ((HB.out.cell (World.block_lt_of_cell? w _ hw9104_3)).trans hw9104_3), ((HB.out.cell (World.block_lt_of_cell? w _ hw9104_4)).trans hw9104_4), ((HB.out.cell (World.block_lt_of_cell? w _ hw9104_5)).trans hw9104_5)⟩ (fun hHeld => ?_)
          clear hK K
          refine norm_ (a' := ?_) ?_ ?_
          rotate_left
          ·show Act.put _ (some 44) _ = _
           simp only [Act.put, List.setIfInBounds_toArray, List.set_cons_zero, List.set_cons_succ, i64_w, i32_w]
           rfl
          refine pure_ (i := 11) (N := some 45) (v := ?_) (a' := ?_) #[true, true, true, true, true, true, true, true, true, true, true, true] rfl rfl (any_of HT_.out (by kernel_rfl)) (fun _ _ _ h => h) (Or.inl ⟨by rfl, ?_⟩) ?_ ?_
          rotate_left
          ·intro w'
           go_simp
           with_reducible rfl
          rotate_left
          ·simp only [Act.put, List.setIfInBounds_toArray, List.set_cons_zero, List.set_cons_succ, i64_w, i32_w]
           rfl
          refine done_ (done_of HT_.out (by kernel_rfl)) ?_
          try go_wp2
          go_ret
          exact ⟨by first | rfl | (simp [errW_none, errW_some] <;> rfl) | (simp [*, errW_none, errW_some] <;> rfl), by repeat (first | (with_reducible first | exact HB.out | apply below_alloc | apply pw_below_drewN | apply below_drew1 | refine below_set ?_ GE9101.out | refine below_set ?_ GE9102.out) | exact HB.out)⟩
        ·rw [if_neg c20] at H
         exact absurd H (by simp)
       ·rw [if_neg c19] at H
        exact absurd H (by simp)
      ·rw [if_neg c18] at H
       have c18b0 : decide (x5_2 < (l0_2.length : Int)) = false := decide_eq_false c18
       clear c18
       obtain rfl := Option.some.inj H
       have hnb31 := NB9101_9102.out
       have hnc31 := NB9102_9101.out
       have hcz32_0 : wr.cell? ⟨gb9101, 0, none⟩ = some (.int .i64 a0_0) := (blk_cell BK9101.out 0).trans rfl
       have hcz32_1 : wr.cell? ⟨gb9101, 1, none⟩ = some (.int .i64 a0_1) := (blk_cell BK9101.out 1).trans rfl
       have hcz32_2 : wr.cell? ⟨gb9101, 2, none⟩ = some (.slice A0_2 l0_2.length c0_2) := (blk_cell BK9101.out 2).trans rfl
       have hfz32_0 := blk_frozen BK9101.out 0
       have hfz32_1 := blk_frozen BK9101.out 1
       have hfz32_2 := blk_frozen BK9101.out 2
       go_wp2
       go_ret
       exact ⟨by first | rfl | (simp [errW_none, errW_some] <;> rfl) | (simp [*, errW_none, errW_some] <;> rfl), by repeat (first | (with_reducible first | exact HB.out | apply below_alloc | apply pw_below_drewN | apply below_drew1 | refine below_set ?_ GE9101.out | refine below_set ?_ GE9102.out) | exact HB.out)⟩
def phasorref08_Copy.l0 : Nat → Int → Int → Int → List (S57) → Int → Int → List (S57) → Option (Int × Int × (List (S57)))
 | 0, _, _, _, _, _, _, _ => none
 | k + 1, x4, x2602000, x2602001, x2602002, x2604000, x2604001, x2604002 => if x4 < (x2602002.length : Int) then (if 0 ≤ x4 then (if ([] : List Int).length + ((rd_T57 x2602002 x4).f2).length < 17592186044416 then (if x2604002.length < 2199023255552 then (phasorref08_Copy.l0 k (wrap64 (x4 + 1)) x2602000 x2602001 x2602002 x2604000 x2604001 (x2604002 ++ [(⟨(rd_T57 x2602002 x4).f0, (rd_T57 x2602002 x4).f1, (([] : List Int) ++ ((rd_T57 x2602002 x4).f2)), (rd_T57 x2602002 x4).f3, (rd_T57 x2602002 x4).f4, (rd_T57 x2602002 x4).f5⟩ : S57)])) else (none)) else (none)) else (none)) else (some (x2604000, x2604001, x2604002))
def phasorref08_Copy.f (k : Nat) (a0_0 : Int) (a0_1 : Int) (l0_2 : List (S57)) : Option (Int × Int × (List (S57))) := phasorref08_Copy.l0 k 0 a0_0 a0_1 l0_2 a0_0 a0_1 ([] : List (S57))
set_option maxHeartbeats 8000000 in
set_option maxRecDepth 100000 in
theorem phasorref08_Copy.calls (k : Nat) (a0_0 : Int) (a0_1 : Int) (A0_2 : Option Addr) (c0_2 : Nat) (l0_2 : List (S57)) (r1 : Int) (r2 : Int) (r3 : List (S57)) (w : World) (hr0_2 : Kd.C k57 w A0_2 l0_2.length l0_2) (hc0_2 : l0_2.length ≤ c0_2) (h : phasorref08_Copy.f k a0_0 a0_1 l0_2 = some (r1, r2, r3)) :
  Calls Try.prog 5 #[.agg #[.int .i64 a0_0, .int .i64 a0_1, .slice A0_2 l0_2.length c0_2]] w fun e w' => ∃ v2_ : Value, e = .returned (.agg #[.int .i64 r1, .int .i64 r2, v2_]) ∧ Kd.S k57 57 w' w.heap.size (fun _ => True) v2_ r3 ∧ Below w.heap.size w w' := by
 have hu24 := Try.underlying24
 have hu57 := Try.underlying57
 have HR0_2 := Aside0.mk hr0_2
 have HC0_2 := Aside0.mk hc0_2
 clear hr0_2 hc0_2
 have HB := Aside0.mk (Below.refl w.heap.size w)
 have H : (phasorref08_Copy.l0 k 0 a0_0 a0_1 l0_2 a0_0 a0_1 ([] : List (S57))) = some (r1, r2, r3) := h
 clear h
 have H' := Aside0.mk H
 clear H
 go_enter Try.func5, Try.ntmps5
 go_wp2_with (first | ((with_reducible refine gate_dst (N := 1) rfl ?_); refine box_event ?hg (N := 1) ?hd (cs := #[.int .i64 a0_0, .int .i64 a0_1, .slice A0_2 l0_2.length c0_2]) (t := 24) ?hr ?_; (case hd => rfl); (case hg => rfl); (case hr => first | (go_simp; done) | (go_simp; rfl)); intro gb2601 hg w2 hbox hb; have n0_ := Aside0.mk (below_step (by repeat (first | (with_reducible first | exact HB.out | apply below_alloc | apply pw_below_drewN | apply below_drew1) | exact HB.out)) hb); have n1_ := Aside0.mk (hbox); have n2_ := Aside0.mk ((by rw [hg]; exact (below_size (by repeat (first | (with_reducible first | exact HB.out | apply below_alloc | apply pw_below_drewN | apply below_drew1) | exact HB.out))) : w.heap.size ≤ gb2601)); have n3_ := Aside0.mk ((by rw [hg]; exact (below_size (by repeat (first | (with_reducible first | exact HB.out | apply below_alloc | apply pw_below_drewN | apply below_drew1) | exact HB.out))) : w.heap.size ≤ gb2601)); clear HB; have HB := n0_; have BK2601 := n1_; have GW2601 := n2_; have GE2601 := n3_; clear n0_ n1_ n2_ n3_; clear hb hbox hg) | ((with_reducible refine gate_dst (N := 2) rfl ?_); refine box_event ?hg (N := 2) ?hd (cs := #[.int .i64 0, .int .i64 0, .slice none 0 0]) (t := 24) ?hr ?_; (case hd => rfl); (case hg => rfl); (case hr => first | (go_simp; done) | (go_simp; rfl)); intro gb2602 hg w3 hbox hb; have n0_ := Aside0.mk (blk_below (g := gb2601) (o := .cells #[.int .i64 a0_0, .int .i64 a0_1, .slice A0_2 l0_2.length c0_2] 24 (0, 0)) (by (with_reducible repeat (first | refine blk_drewN ?_ _ | refine blk_drew ?_ | refine blk_alloc ?_ _)); exact BK2601.out) hb); have n1_ := Aside0.mk (below_step (by repeat (first | (with_reducible first | exact HB.out | apply below_alloc | apply pw_below_drewN | apply below_drew1 | refine below_set ?_ GE2601.out) | exact HB.out)) hb); have n2_ := Aside0.mk (hbox); have n3_ := Aside0.mk ((by rw [hg]; exact (below_size (by repeat (first | (with_reducible first | exact HB.out | apply below_alloc | apply pw_below_drewN | apply below_drew1 | refine below_set ?_ GE2601.out) | exact HB.out))) : w.heap.size ≤ gb2602)); have n4_ := Aside0.mk ((by rw [hg]; exact (below_size (by repeat (first | (with_reducible first | exact HB.out | apply below_alloc | apply pw_below_drewN | apply below_drew1 | refine below_set ?_ GE2601.out) | exact HB.out))) : w.heap.size ≤ gb2602)); have n5_ := Aside0.mk ((by rw [hg]; exact Nat.ne_of_lt (blk_lt (g := gb2601) (o := .cells #[.int .i64 a0_0, .int .i64 a0_1, .slice A0_2 l0_2.length c0_2] 24 (0, 0)) (by (with_reducible repeat (first | refine blk_drewN ?_ _ | refine blk_drew ?_ | refine blk_alloc ?_ _)); exact BK2601.out)) : gb2601 ≠ gb2602)); have n6_ := Aside0.mk ((by rw [hg]; exact Nat.ne_of_gt (blk_lt (g := gb2601) (o := .cells #[.int .i64 a0_0, .int .i64 a0_1, .slice A0_2 l0_2.length c0_2] 24 (0, 0)) (by (with_reducible repeat (first | refine blk_drewN ?_ _ | refine blk_drew ?_ | refine blk_alloc ?_ _)); exact BK2601.out)) : gb2602 ≠ gb2601)); clear BK2601; clear HB; have BK2601 := n0_; have HB := n1_; have BK2602 := n2_; have GW2602 := n3_; have GE2602 := n4_; have NB2601_2602 := n5_; have NB2602_2601 := n6_; clear n0_ n1_ n2_ n3_ n4_ n5_ n6_; clear hb hbox hg; have hnb4 := NB2601_2602.out; have hnc4 := NB2602_2601.out; have hcz5_0 : w3.cell? ⟨gb2601, 0, none⟩ = some (.int .i64 a0_0) := (blk_cell BK2601.out 0).trans rfl; have hcz5_1 : w3.cell? ⟨gb2601, 1, none⟩ = some (.int .i64 a0_1) := (blk_cell BK2601.out 1).trans rfl; have hcz5_2 : w3.cell? ⟨gb2601, 2, none⟩ = some (.slice A0_2 l0_2.length c0_2) := (blk_cell BK2601.out 2).trans rfl; have hfz5_0 := blk_frozen BK2601.out 0; have hfz5_1 := blk_frozen BK2601.out 1; have hfz5_2 := blk_frozen BK2601.out 2) | ((with_reducible refine gate_dst (N := 3) rfl ?_); refine box_event ?hg (N := 3) ?hd (cs := #[.int .i64 0, .int .i64 0, .slice none 0 0]) (t := 24) ?hr ?_; (case hd => rfl); (case hg => rfl); (case hr => first | (go_simp; done) | (go_simp; rfl)); intro gb2603 hg w6 hbox hb; have n0_ := Aside0.mk (blk_below (g := gb2601) (o := .cells #[.int .i64 a0_0, .int .i64 a0_1, .slice A0_2 l0_2.length c0_2] 24 (0, 0)) (by (with_reducible repeat (first | refine blk_drewN ?_ _ | refine blk_drew ?_ | refine blk_alloc ?_ _)); exact BK2601.out) hb); have n1_ := Aside0.mk (blk_below (g := gb2602) (o := .cells #[.int .i64 0, .int .i64 0, .slice none 0 0] 24 (0, 0)) (by (with_reducible repeat (first | refine blk_drewN ?_ _ | refine blk_drew ?_ | refine blk_alloc ?_ _)); exact BK2602.out) hb); have n2_ := Aside0.mk (below_step (by repeat (first | (with_reducible first | exact HB.out | apply below_alloc | apply pw_below_drewN | apply below_drew1 | refine below_set ?_ GE2601.out | refine below_set ?_ GE2602.out) | exact HB.out)) hb); have n3_ := Aside0.mk (hbox); have n4_ := Aside0.mk ((by rw [hg]; exact (below_size (by repeat (first | (with_reducible first | exact HB.out | apply below_alloc | apply pw_below_drewN | apply below_drew1 | refine below_set ?_ GE2601.out | refine below_set ?_ GE2602.out) | exact HB.out))) : w.heap.size ≤ gb2603)); have n5_ := Aside0.mk ((by rw [hg]; exact (below_size (by repeat (first | (with_reducible first | exact HB.out | apply below_alloc | apply pw_below_drewN | apply below_drew1 | refine below_set ?_ GE2601.out | refine below_set ?_ GE2602.out) | exact HB.out))) : w.heap.size ≤ gb2603)); have n6_ := Aside0.mk ((by rw [hg]; exact Nat.ne_of_lt (blk_lt (g := gb2601) (o := .cells #[.int .i64 a0_0, .int .i64 a0_1, .slice A0_2 l0_2.length c0_2] 24 (0, 0)) (by (with_reducible repeat (first | refine blk_drewN ?_ _ | refine blk_drew ?_ | refine blk_alloc ?_ _)); exact BK2601.out)) : gb2601 ≠ gb2603)); have n7_ := Aside0.mk ((by rw [hg]; exact Nat.ne_of_gt (blk_lt (g := gb2601) (o := .cells #[.int .i64 a0_0, .int .i64 a0_1, .slice A0_2 l0_2.length c0_2] 24 (0, 0)) (by (with_reducible repeat (first | refine blk_drewN ?_ _ | refine blk_drew ?_ | refine blk_alloc ?_ _)); exact BK2601.out)) : gb2603 ≠ gb2601)); have n8_ := Aside0.mk ((by rw [hg]; exact Nat.ne_of_lt (blk_lt (g := gb2602) (o := .cells #[.int .i64 0, .int .i64 0, .slice none 0 0] 24 (0, 0)) (by (with_reducible repeat (first | refine blk_drewN ?_ _ | refine blk_drew ?_ | refine blk_alloc ?_ _)); exact BK2602.out)) : gb2602 ≠ gb2603)); have n9_ := Aside0.mk ((by rw [hg]; exact Nat.ne_of_gt (blk_lt (g := gb2602) (o := .cells #[.int .i64 0, .int .i64 0, .slice none 0 0] 24 (0, 0)) (by (with_reducible repeat (first | refine blk_drewN ?_ _ | refine blk_drew ?_ | refine blk_alloc ?_ _)); exact BK2602.out)) : gb2603 ≠ gb2602)); clear BK2601; clear BK2602; clear HB; have BK2601 := n0_; have BK2602 := n1_; have HB := n2_; have BK2603 := n3_; have GW2603 := n4_; have GE2603 := n5_; have NB2601_2603 := n6_; have NB2603_2601 := n7_; have NB2602_2603 := n8_; have NB2603_2602 := n9_; clear n0_ n1_ n2_ n3_ n4_ n5_ n6_ n7_ n8_ n9_; clear hb hbox hg; have hnb7 := NB2603_2601.out; have hnc7 := NB2601_2603.out; have hnb8 := NB2603_2602.out; have hnc8 := NB2602_2603.out; have hcz9_0 : w6.cell? ⟨gb2603, 0, none⟩ = some (.int .i64 0) := (blk_cell BK2603.out 0).trans rfl; have hcz9_1 : w6.cell? ⟨gb2603, 1, none⟩ = some (.int .i64 0) := (blk_cell BK2603.out 1).trans rfl; have hcz9_2 : w6.cell? ⟨gb2603, 2, none⟩ = some (.slice none 0 0) := (blk_cell BK2603.out 2).trans rfl; have hfz9_0 := blk_frozen BK2603.out 0; have hfz9_1 := blk_frozen BK2603.out 1; have hfz9_2 := blk_frozen BK2603.out 2))
 go_loopg [4] k (fun kq v4 w' => ∃ (x4_1 : Int) (x2604002_1 : List (S57)) (u2604002 : Value), v4 = .int .i64 x4_1 ∧ Aside0 (phasorref08_Copy.l0 kq x4_1 a0_0 a0_1 l0_2 a0_0 a0_1 x2604002_1 = some (r1, r2, r3)) ∧ Aside0 (kq ≤ k) ∧ Aside0 (Kd.S k57 57 w' w.heap.size (fun _ => True) u2604002 x2604002_1) ∧ Aside0 (w'.heap[gb2601]? = some (.cells #[.int .i64 a0_0, .int .i64 a0_1, (.slice A0_2 l0_2.length c0_2)] 24 (0, 0))) ∧ Aside0 (w'.heap[gb2602]? = some (.cells #[.int .i64 0, .int .i64 0, (.slice none 0 0)] 24 (0, 0))) ∧ Aside0 (w'.heap[gb2603]? = some (.cells #[.int .i64 a0_0, .int .i64 a0_1, u2604002] 24 (0, 0))) ∧ Aside0 (Below w.heap.size w w'))
 case atStart => exact ⟨(0), (([] : List (S57))), (.slice none 0 0), (by first | rfl | (simp; done) | (simp [*]; done)), H', ⟨Nat.le_refl _⟩, ⟨by first | exact Kd.S_nil _ _ _ _ _ | exact Kd.N_nil _ _ _ _ _ | exact Kd.V_nil _ _ _ _ _ | exact Kd.Q_nil _ _ _ _ _ | exact Kd.R_nil _ _ _ _ _⟩, ⟨by (with_reducible repeat (first | refine blk_drewN ?_ _ | refine blk_drew ?_ | refine blk_alloc ?_ _)); refine blk_far ?_ NB2601_2603.out _; (with_reducible repeat (first | refine blk_drewN ?_ _ | refine blk_drew ?_ | refine blk_alloc ?_ _)); refine blk_far ?_ NB2601_2603.out _; (with_reducible repeat (first | refine blk_drewN ?_ _ | refine blk_drew ?_ | refine blk_alloc ?_ _)); refine blk_far ?_ NB2601_2603.out _; (with_reducible repeat (first | refine blk_drewN ?_ _ | refine blk_drew ?_ | refine blk_alloc ?_ _)); exact BK2601.out⟩, ⟨by (with_reducible repeat (first | refine blk_drewN ?_ _ | refine blk_drew ?_ | refine blk_alloc ?_ _)); refine blk_far ?_ NB2602_2603.out _; (with_reducible repeat (first | refine blk_drewN ?_ _ | refine blk_drew ?_ | refine blk_alloc ?_ _)); refine blk_far ?_ NB2602_2603.out _; (with_reducible repeat (first | refine blk_drewN ?_ _ | refine blk_drew ?_ | refine blk_alloc ?_ _)); refine blk_far ?_ NB2602_2603.out _; (with_reducible repeat (first | refine blk_drewN ?_ _ | refine blk_drew ?_ | refine blk_alloc ?_ _)); exact BK2602.out⟩, ⟨by (with_reducible repeat (first | refine blk_drewN ?_ _ | refine blk_drew ?_ | refine blk_alloc ?_ _)); refine blk_put (cs := #[.int .i64 a0_0, .int .i64 a0_1, .slice none 0 0]) ?_ 2 _ rfl; (with_reducible repeat (first | refine blk_drewN ?_ _ | refine blk_drew ?_ | refine blk_alloc ?_ _)); refine blk_put (cs := #[.int .i64 a0_0, .int .i64 0, .slice none 0 0]) ?_ 1 _ rfl; (with_reducible repeat (first | refine blk_drewN ?_ _ | refine blk_drew ?_ | refine blk_alloc ?_ _)); refine blk_put (cs := #[.int .i64 0, .int .i64 0, .slice none 0 0]) ?_ 0 _ rfl; (with_reducible repeat (first | refine blk_drewN ?_ _ | refine blk_drew ?_ | refine blk_alloc ?_ _)); exact BK2603.out⟩, ⟨by repeat (first | (with_reducible first | exact HB.out | apply below_alloc | apply pw_below_drewN | apply below_drew1 | refine below_set ?_ GE2601.out | refine below_set ?_ GE2602.out | refine below_set ?_ GE2603.out) | exact HB.out)⟩⟩
 case round =>
  clear H'
  try clear p2
  try clear c4
  try clear c5
  try clear c7
  try clear c8
  try clear hcz5_0
  try clear hcz5_1
  try clear hcz5_2
  try clear hcz9_0
  try clear hcz9_1
  try clear hcz9_2
  try clear hfz5_0
  try clear hfz5_1
  try clear hfz5_2
  try clear hfz9_0
  try clear hfz9_1
  try clear hfz9_2
  obtain ⟨x4_1, x2604002_1, u2604002, rfl, HA, HK1, HO_2604002, BK2601, BK2602, BK2603, HB⟩ := hrel
  cases gk with
  | zero => exact absurd HA.out (by simp [phasorref08_Copy.l0])
  | succ k1 =>
   have H := HA.out
   clear HA
   simp only [phasorref08_Copy.l0] at H
   by_cases c10 : x4_1 < (l0_2.length : Int)
   ·rw [if_pos c10] at H
    have c10b0 : decide (x4_1 < (l0_2.length : Int)) = true := decide_eq_true c10
    clear c10
    by_cases c11 : 0 ≤ x4_1
    ·rw [if_pos c11] at H
     have c11b0 : decide (0 ≤ x4_1) = true := decide_eq_true c11
     clear c11
     by_cases c12 : ([] : List Int).length + ((rd_T57 l0_2 x4_1).f2).length < 17592186044416
     ·rw [if_pos c12] at H
      have LMc12 := Aside0.mk c12
      clear c12
      obtain ⟨y2606, hy2606⟩ : ∃ y_ : List Int, y_ = (([] : List Int) ++ ((rd_T57 l0_2 x4_1).f2)) := ⟨_, rfl⟩
      replace H : (if x2604002_1.length < 2199023255552 then (phasorref08_Copy.l0 k1 (wrap64 (x4_1 + 1)) a0_0 a0_1 l0_2 a0_0 a0_1 (x2604002_1 ++ [(⟨(rd_T57 l0_2 x4_1).f0, (rd_T57 l0_2 x4_1).f1, y2606, (rd_T57 l0_2 x4_1).f3, (rd_T57 l0_2 x4_1).f4, (rd_T57 l0_2 x4_1).f5⟩ : S57)])) else (none)) = some (r1, r2, r3) := by first | (rw [hy2606]; with_reducible exact H) | (have H2_ := (Option.bind_some _ _).symm.trans H; rw [hy2606]; with_reducible exact H2_) | (have H2_ := (Option.bind_some _ _).symm.trans H; with_reducible exact H2_) | with_reducible exact H | (rw [hy2606]; exact H) | exact H
      have Ny2606 := Aside0.mk hy2606
      clear hy2606
      by_cases c13 : x2604002_1.length < 2199023255552
      ·rw [if_pos c13] at H
       have LMc13 := Aside0.mk c13
       clear c13
       obtain ⟨y2609, hy2609⟩ : ∃ y_ : List (S57), y_ = (x2604002_1 ++ [(⟨(rd_T57 l0_2 x4_1).f0, (rd_T57 l0_2 x4_1).f1, y2606, (rd_T57 l0_2 x4_1).f3, (rd_T57 l0_2 x4_1).f4, (rd_T57 l0_2 x4_1).f5⟩ : S57)]) := ⟨_, rfl⟩
       replace H : (phasorref08_Copy.l0 k1 (wrap64 (x4_1 + 1)) a0_0 a0_1 l0_2 a0_0 a0_1 y2609) = some (r1, r2, r3) := by first | (rw [hy2609]; with_reducible exact H) | (have H2_ := (Option.bind_some _ _).symm.trans H; rw [hy2609]; with_reducible exact H2_) | (have H2_ := (Option.bind_some _ _).symm.trans H; with_reducible exact H2_) | with_reducible exact H | (rw [hy2609]; exact H) | exact H
       have Ny2609 := Aside0.mk hy2609
       clear hy2609
       have H' := Aside0.mk H
       clear H
       have hnb14 := NB2601_2602.out
       have hnc14 := NB2602_2601.out
       have hnb15 := NB2601_2603.out
       have hnc15 := NB2603_2601.out
       have hcz16_0 : wr.cell? ⟨gb2601, 0, none⟩ = some (.int .i64 a0_0) := (blk_cell BK2601.out 0).trans rfl
       have hcz16_1 : wr.cell? ⟨gb2601, 1, none⟩ = some (.int .i64 a0_1) := (blk_cell BK2601.out 1).trans rfl
       have hcz16_2 : wr.cell? ⟨gb2601, 2, none⟩ = some (.slice A0_2 l0_2.length c0_2) := (blk_cell BK2601.out 2).trans rfl
       have hfz16_0 := blk_frozen BK2601.out 0
       have hfz16_1 := blk_frozen BK2601.out 1
       have hfz16_2 := blk_frozen BK2601.out 2
       have p2604 : 0 ≤ (x4_1 : Int) := of_decide_eq_true (by first | (with_reducible assumption) | assumption)
       have q2604 : x4_1 < (l0_2.length : Int) := of_decide_eq_true (by first | (with_reducible assumption) | assumption)
       obtain ⟨ad2604, A2604_2, c2604_2, e2604, hx2604_0, hx2604_1, hx2604_2, hx2604_3, hx2604_4, hx2604_5, hl2604_2, hi2604_2⟩ := at_T57 HR0_2.out x4_1 p2604 q2604
       cases e2604
       replace hx2604_0 := (HB.out.cell (World.block_lt_of_cell? w _ hx2604_0)).trans hx2604_0
       replace hx2604_1 := (HB.out.cell (World.block_lt_of_cell? w _ hx2604_1)).trans hx2604_1
       replace hx2604_2 := (HB.out.cell (World.block_lt_of_cell? w _ hx2604_2)).trans hx2604_2
       replace hx2604_3 := (HB.out.cell (World.block_lt_of_cell? w _ hx2604_3)).trans hx2604_3
       replace hx2604_4 := (HB.out.cell (World.block_lt_of_cell? w _ hx2604_4)).trans hx2604_4
       replace hx2604_5 := (HB.out.cell (World.block_lt_of_cell? w _ hx2604_5)).trans hx2604_5
       have HR2604_2 := Aside0.mk hi2604_2
       have HC2604_2 := Aside0.mk hl2604_2
       clear hi2604_2 hl2604_2
       replace p2604 := eq_true p2604
       replace q2604 := eq_true q2604
       go_wp2_with (first | ((with_reducible refine gate_dst (N := 5) rfl ?_); refine box_event ?hg (N := 5) ?hd (cs := #[.int .i64 0, .int .i64 0, .slice none 0 0, .int .i64 0, .int .i64 0, .int .i64 0]) (t := 57) ?hr ?_; (case hd => rfl); (case hg => rfl); (case hr => first | (go_simp; done) | (go_simp; rfl)); intro gb2605 hg w17 hbox hb; have n0_ := Aside0.mk (Kd.S_below (Kd.S_elderB (by (with_reducible repeat (first | apply Kd.S_alloc | apply Kd.S_drewN | apply Kd.S_drew)); exact HO_2604002.out) gb2605 (Nat.le_of_eq hg.symm)) hb); have n1_ := Aside0.mk (blk_below (g := gb2601) (o := .cells #[.int .i64 a0_0, .int .i64 a0_1, .slice (some ad2604) l0_2.length c0_2] 24 (0, 0)) (by (with_reducible repeat (first | refine blk_drewN ?_ _ | refine blk_drew ?_ | refine blk_alloc ?_ _)); exact BK2601.out) hb); have n2_ := Aside0.mk (blk_below (g := gb2602) (o := .cells #[.int .i64 0, .int .i64 0, .slice none 0 0] 24 (0, 0)) (by (with_reducible repeat (first | refine blk_drewN ?_ _ | refine blk_drew ?_ | refine blk_alloc ?_ _)); exact BK2602.out) hb); have n3_ := Aside0.mk (blk_below (g := gb2603) (o := .cells #[.int .i64 a0_0, .int .i64 a0_1, u2604002] 24 (0, 0)) (by (with_reducible repeat (first | refine blk_drewN ?_ _ | refine blk_drew ?_ | refine blk_alloc ?_ _)); exact BK2603.out) hb); have n4_ := Aside0.mk (below_step (by repeat (first | (with_reducible first | exact HB.out | apply below_alloc | apply pw_below_drewN | apply below_drew1 | refine below_set ?_ GE2601.out | refine below_set ?_ GE2602.out | refine below_set ?_ GE2603.out) | exact HB.out)) hb); have n5_ := Aside0.mk (hbox); have n6_ := Aside0.mk ((by rw [hg]; exact (below_size (by repeat (first | (with_reducible first | exact HB.out | apply below_alloc | apply pw_below_drewN | apply below_drew1 | refine below_set ?_ GE2601.out | refine below_set ?_ GE2602.out | refine below_set ?_ GE2603.out) | exact HB.out))) : w.heap.size ≤ gb2605)); have n7_ := Aside0.mk ((by rw [hg]; exact (below_size (by repeat (first | (with_reducible first | exact HB.out | apply below_alloc | apply pw_below_drewN | apply below_drew1 | refine below_set ?_ GE2601.out | refine below_set ?_ GE2602.out | refine below_set ?_ GE2603.out) | exact HB.out))) : w.heap.size ≤ gb2605)); have n8_ := Aside0.mk ((by rw [hg]; exact Nat.ne_of_lt (blk_lt (g := gb2601) (o := .cells #[.int .i64 a0_0, .int .i64 a0_1, .slice (some ad2604) l0_2.length c0_2] 24 (0, 0)) (by (with_reducible repeat (first | refine blk_drewN ?_ _ | refine blk_drew ?_ | refine blk_alloc ?_ _)); exact BK2601.out)) : gb2601 ≠ gb2605)); have n9_ := Aside0.mk ((by rw [hg]; exact Nat.ne_of_gt (blk_lt (g := gb2601) (o := .cells #[.int .i64 a0_0, .int .i64 a0_1, .slice (some ad2604) l0_2.length c0_2] 24 (0, 0)) (by (with_reducible repeat (first | refine blk_drewN ?_ _ | refine blk_drew ?_ | refine blk_alloc ?_ _)); exact BK2601.out)) : gb2605 ≠ gb2601)); have n10_ := Aside0.mk ((by rw [hg]; exact Nat.ne_of_lt (blk_lt (g := gb2602) (o := .cells #[.int .i64 0, .int .i64 0, .slice none 0 0] 24 (0, 0)) (by (with_reducible repeat (first | refine blk_drewN ?_ _ | refine blk_drew ?_ | refine blk_alloc ?_ _)); exact BK2602.out)) : gb2602 ≠ gb2605)); have n11_ := Aside0.mk ((by rw [hg]; exact Nat.ne_of_gt (blk_lt (g := gb2602) (o := .cells #[.int .i64 0, .int .i64 0, .slice none 0 0] 24 (0, 0)) (by (with_reducible repeat (first | refine blk_drewN ?_ _ | refine blk_drew ?_ | refine blk_alloc ?_ _)); exact BK2602.out)) : gb2605 ≠ gb2602)); have n12_ := Aside0.mk ((by rw [hg]; exact Nat.ne_of_lt (blk_lt (g := gb2603) (o := .cells #[.int .i64 a0_0, .int .i64 a0_1, u2604002] 24 (0, 0)) (by (with_reducible repeat (first | refine blk_drewN ?_ _ | refine blk_drew ?_ | refine blk_alloc ?_ _)); exact BK2603.out)) : gb2603 ≠ gb2605)); have n13_ := Aside0.mk ((by rw [hg]; exact Nat.ne_of_gt (blk_lt (g := gb2603) (o := .cells #[.int .i64 a0_0, .int .i64 a0_1, u2604002] 24 (0, 0)) (by (with_reducible repeat (first | refine blk_drewN ?_ _ | refine blk_drew ?_ | refine blk_alloc ?_ _)); exact BK2603.out)) : gb2605 ≠ gb2603)); clear HO_2604002; clear BK2601; clear BK2602; clear BK2603; clear HB; have HO_2604002 := n0_; have BK2601 := n1_; have BK2602 := n2_; have BK2603 := n3_; have HB := n4_; have BK2605 := n5_; have GW2605 := n6_; have GE2605 := n7_; have NB2601_2605 := n8_; have NB2605_2601 := n9_; have NB2602_2605 := n10_; have NB2605_2602 := n11_; have NB2603_2605 := n12_; have NB2605_2603 := n13_; clear n0_ n1_ n2_ n3_ n4_ n5_ n6_ n7_ n8_ n9_ n10_ n11_ n12_ n13_; clear hb hbox hg; have hnb18 := NB2605_2601.out; have hnc18 := NB2601_2605.out; have hnb19 := NB2605_2602.out; have hnc19 := NB2602_2605.out; have hnb20 := NB2605_2603.out; have hnc20 := NB2603_2605.out; have hcz21_0 : w17.cell? ⟨gb2605, 0, none⟩ = some (.int .i64 0) := (blk_cell BK2605.out 0).trans rfl; have hcz21_1 : w17.cell? ⟨gb2605, 1, none⟩ = some (.int .i64 0) := (blk_cell BK2605.out 1).trans rfl; have hcz21_2 : w17.cell? ⟨gb2605, 2, none⟩ = some (.slice none 0 0) := (blk_cell BK2605.out 2).trans rfl; have hcz21_3 : w17.cell? ⟨gb2605, 3, none⟩ = some (.int .i64 0) := (blk_cell BK2605.out 3).trans rfl; have hcz21_4 : w17.cell? ⟨gb2605, 4, none⟩ = some (.int .i64 0) := (blk_cell BK2605.out 4).trans rfl; have hcz21_5 : w17.cell? ⟨gb2605, 5, none⟩ = some (.int .i64 0) := (blk_cell BK2605.out 5).trans rfl; have hfz21_0 := blk_frozen BK2605.out 0; have hfz21_1 := blk_frozen BK2605.out 1; have hfz21_2 := blk_frozen BK2605.out 2; have hfz21_3 := blk_frozen BK2605.out 3; have hfz21_4 := blk_frozen BK2605.out 4; have hfz21_5 := blk_frozen BK2605.out 5) | ((with_reducible refine gate_builtin (b := .append) (xs := #[.tmp 24, .tmp 26]) rfl ?_); at_builtin; refine Kd.R_append_rows (Kd.int .i64) (w0 := w) w.heap.size rfl (.tmp 24) (.tmp 26) 25 3 (.int .i64 0) 8 rfl Try.underlying25 info3 rfl (by decide) (by omega) (.slice none 0 0) ([] : List Int) ((rd_T57 l0_2 x4_1).f2) _ _ _ (fun _ => True) (fun _ => False) rfl rfl ?aO ?aR (fun _ _ h => h) (fun _ h => h.elim) ?aF ?aB ?aS ?aL ?_; (case aR => exact Kd.C_below HR2604_2.out (by repeat (first | (with_reducible first | exact HB.out | apply below_alloc | apply pw_below_drewN | apply below_drew1 | refine below_set ?_ GE2601.out | refine below_set ?_ GE2602.out | refine below_set ?_ GE2603.out | refine below_set ?_ GE2605.out) | exact HB.out))); (case aB => exact (by repeat (first | (with_reducible first | exact HB.out | apply below_alloc | apply pw_below_drewN | apply below_drew1 | refine below_set ?_ GE2601.out | refine below_set ?_ GE2602.out | refine below_set ?_ GE2603.out | refine below_set ?_ GE2605.out) | exact HB.out))); (case aF => exact (fun _ _ => trivial)); (case aO => exact ((Kd.R_nil _ _ _ _ (fun _ => True)))); (case aS => exact (below_size (by repeat (first | (with_reducible first | exact HB.out | apply below_alloc | apply pw_below_drewN | apply below_drew1 | refine below_set ?_ GE2601.out | refine below_set ?_ GE2602.out | refine below_set ?_ GE2603.out | refine below_set ?_ GE2605.out) | exact HB.out)))); (case aL => have := LMc12.out; omega); intro v2607 w22 ho hb hg hat; rw [← Ny2606.out] at ho; have n0_ := Aside0.mk (Kd.S_after (Kd.S_apart_nil (by (with_reducible repeat (first | apply Kd.S_alloc | apply Kd.S_drewN | apply Kd.S_drew)); exact (Kd.S_mono (Kd.S_far (p := ⟨gb2605, 5, none⟩) (Kd.S_far (p := ⟨gb2605, 4, none⟩) (Kd.S_far (p := ⟨gb2605, 3, none⟩) (Kd.S_far (p := ⟨gb2605, 2, none⟩) (Kd.S_far (p := ⟨gb2605, 1, none⟩) (Kd.S_far (p := ⟨gb2605, 0, none⟩) (Kd.S_mono HO_2604002.out (fun k_ hk => (⟨hk, hk.2⟩ : _ ∧ k_ ≠ gb2605))) (fun _ hk => hk.2) (.int .i64 ((rd_T57 l0_2 x4_1).f0))) (fun _ hk => hk.2) (.int .i64 ((rd_T57 l0_2 x4_1).f1))) (fun _ hk => hk.2) (.slice A2604_2 ((rd_T57 l0_2 x4_1).f2).length c2604_2)) (fun _ hk => hk.2) (.int .i64 ((rd_T57 l0_2 x4_1).f3))) (fun _ hk => hk.2) (.int .i64 ((rd_T57 l0_2 x4_1).f4))) (fun _ hk => hk.2) (.int .i64 ((rd_T57 l0_2 x4_1).f5))) (fun _ h_ => h_.1)))) hg hat); have n1_ := Aside0.mk (blk_grown (g := gb2601) (o := .cells #[.int .i64 a0_0, .int .i64 a0_1, .slice (some ad2604) l0_2.length c0_2] 24 (0, 0)) (by (with_reducible repeat (first | refine blk_drewN ?_ _ | refine blk_drew ?_ | refine blk_alloc ?_ _)); refine blk_far ?_ NB2601_2605.out _; (with_reducible repeat (first | refine blk_drewN ?_ _ | refine blk_drew ?_ | refine blk_alloc ?_ _)); refine blk_far ?_ NB2601_2605.out _; (with_reducible repeat (first | refine blk_drewN ?_ _ | refine blk_drew ?_ | refine blk_alloc ?_ _)); refine blk_far ?_ NB2601_2605.out _; (with_reducible repeat (first | refine blk_drewN ?_ _ | refine blk_drew ?_ | refine blk_alloc ?_ _)); refine blk_far ?_ NB2601_2605.out _; (with_reducible repeat (first | refine blk_drewN ?_ _ | refine blk_drew ?_ | refine blk_alloc ?_ _)); refine blk_far ?_ NB2601_2605.out _; (with_reducible repeat (first | refine blk_drewN ?_ _ | refine blk_drew ?_ | refine blk_alloc ?_ _)); refine blk_far ?_ NB2601_2605.out _; (with_reducible repeat (first | refine blk_drewN ?_ _ | refine blk_drew ?_ | refine blk_alloc ?_ _)); exact BK2601.out) hg (by simp [Value.ownBlock])); have n2_ := Aside0.mk (blk_grown (g := gb2602) (o := .cells #[.int .i64 0, .int .i64 0, .slice none 0 0] 24 (0, 0)) (by (with_reducible repeat (first | refine blk_drewN ?_ _ | refine blk_drew ?_ | refine blk_alloc ?_ _)); refine blk_far ?_ NB2602_2605.out _; (with_reducible repeat (first | refine blk_drewN ?_ _ | refine blk_drew ?_ | refine blk_alloc ?_ _)); refine blk_far ?_ NB2602_2605.out _; (with_reducible repeat (first | refine blk_drewN ?_ _ | refine blk_drew ?_ | refine blk_alloc ?_ _)); refine blk_far ?_ NB2602_2605.out _; (with_reducible repeat (first | refine blk_drewN ?_ _ | refine blk_drew ?_ | refine blk_alloc ?_ _)); refine blk_far ?_ NB2602_2605.out _; (with_reducible repeat (first | refine blk_drewN ?_ _ | refine blk_drew ?_ | refine blk_alloc ?_ _)); refine blk_far ?_ NB2602_2605.out _; (with_reducible repeat (first | refine blk_drewN ?_ _ | refine blk_drew ?_ | refine blk_alloc ?_ _)); refine blk_far ?_ NB2602_2605.out _; (with_reducible repeat (first | refine blk_drewN ?_ _ | refine blk_drew ?_ | refine blk_alloc ?_ _)); exact BK2602.out) hg (by simp [Value.ownBlock])); have n3_ := Aside0.mk (blk_grown (g := gb2603) (o := .cells #[.int .i64 a0_0, .int .i64 a0_1, u2604002] 24 (0, 0)) (by (with_reducible repeat (first | refine blk_drewN ?_ _ | refine blk_drew ?_ | refine blk_alloc ?_ _)); refine blk_far ?_ NB2603_2605.out _; (with_reducible repeat (first | refine blk_drewN ?_ _ | refine blk_drew ?_ | refine blk_alloc ?_ _)); refine blk_far ?_ NB2603_2605.out _; (with_reducible repeat (first | refine blk_drewN ?_ _ | refine blk_drew ?_ | refine blk_alloc ?_ _)); refine blk_far ?_ NB2603_2605.out _; (with_reducible repeat (first | refine blk_drewN ?_ _ | refine blk_drew ?_ | refine blk_alloc ?_ _)); refine blk_far ?_ NB2603_2605.out _; (with_reducible repeat (first | refine blk_drewN ?_ _ | refine blk_drew ?_ | refine blk_alloc ?_ _)); refine blk_far ?_ NB2603_2605.out _; (with_reducible repeat (first | refine blk_drewN ?_ _ | refine blk_drew ?_ | refine blk_alloc ?_ _)); refine blk_far ?_ NB2603_2605.out _; (with_reducible repeat (first | refine blk_drewN ?_ _ | refine blk_drew ?_ | refine blk_alloc ?_ _)); exact BK2603.out) hg (by simp [Value.ownBlock])); have n4_ := Aside0.mk (blk_grown (g := gb2605) (o := .cells #[.int .i64 ((rd_T57 l0_2 x4_1).f0), .int .i64 ((rd_T57 l0_2 x4_1).f1), .slice A2604_2 ((rd_T57 l0_2 x4_1).f2).length c2604_2, .int .i64 ((rd_T57 l0_2 x4_1).f3), .int .i64 ((rd_T57 l0_2 x4_1).f4), .int .i64 ((rd_T57 l0_2 x4_1).f5)] 57 (0, 0)) (by (with_reducible repeat (first | refine blk_drewN ?_ _ | refine blk_drew ?_ | refine blk_alloc ?_ _)); refine blk_put (cs := #[.int .i64 ((rd_T57 l0_2 x4_1).f0), .int .i64 ((rd_T57 l0_2 x4_1).f1), .slice A2604_2 ((rd_T57 l0_2 x4_1).f2).length c2604_2, .int .i64 ((rd_T57 l0_2 x4_1).f3), .int .i64 ((rd_T57 l0_2 x4_1).f4), .int .i64 0]) ?_ 5 _ rfl; (with_reducible repeat (first | refine blk_drewN ?_ _ | refine blk_drew ?_ | refine blk_alloc ?_ _)); refine blk_put (cs := #[.int .i64 ((rd_T57 l0_2 x4_1).f0), .int .i64 ((rd_T57 l0_2 x4_1).f1), .slice A2604_2 ((rd_T57 l0_2 x4_1).f2).length c2604_2, .int .i64 ((rd_T57 l0_2 x4_1).f3), .int .i64 0, .int .i64 0]) ?_ 4 _ rfl; (with_reducible repeat (first | refine blk_drewN ?_ _ | refine blk_drew ?_ | refine blk_alloc ?_ _)); refine blk_put (cs := #[.int .i64 ((rd_T57 l0_2 x4_1).f0), .int .i64 ((rd_T57 l0_2 x4_1).f1), .slice A2604_2 ((rd_T57 l0_2 x4_1).f2).length c2604_2, .int .i64 0, .int .i64 0, .int .i64 0]) ?_ 3 _ rfl; (with_reducible repeat (first | refine blk_drewN ?_ _ | refine blk_drew ?_ | refine blk_alloc ?_ _)); refine blk_put (cs := #[.int .i64 ((rd_T57 l0_2 x4_1).f0), .int .i64 ((rd_T57 l0_2 x4_1).f1), .slice none 0 0, .int .i64 0, .int .i64 0, .int .i64 0]) ?_ 2 _ rfl; (with_reducible repeat (first | refine blk_drewN ?_ _ | refine blk_drew ?_ | refine blk_alloc ?_ _)); refine blk_put (cs := #[.int .i64 ((rd_T57 l0_2 x4_1).f0), .int .i64 0, .slice none 0 0, .int .i64 0, .int .i64 0, .int .i64 0]) ?_ 1 _ rfl; (with_reducible repeat (first | refine blk_drewN ?_ _ | refine blk_drew ?_ | refine blk_alloc ?_ _)); refine blk_put (cs := #[.int .i64 0, .int .i64 0, .slice none 0 0, .int .i64 0, .int .i64 0, .int .i64 0]) ?_ 0 _ rfl; (with_reducible repeat (first | refine blk_drewN ?_ _ | refine blk_drew ?_ | refine blk_alloc ?_ _)); exact BK2605.out) hg (by simp [Value.ownBlock])); have n5_ := Aside0.mk (hb); have n6_ := Aside0.mk (ho); clear HO_2604002; clear BK2601; clear BK2602; clear BK2603; clear BK2605; clear HB; have HO_2604002 := n0_; have BK2601 := n1_; have BK2602 := n2_; have BK2603 := n3_; have BK2605 := n4_; have HB := n5_; have HO2608 := n6_; clear n0_ n1_ n2_ n3_ n4_ n5_ n6_; clear ho hb hg hat; obtain ⟨Ao23, co23, eo23⟩ := Kd.R_slice HO2608.out; subst eo23; have hcz24_0 : w22.cell? ⟨gb2605, 0, none⟩ = some (.int .i64 ((rd_T57 l0_2 x4_1).f0)) := (blk_cell BK2605.out 0).trans rfl; have hcz24_1 : w22.cell? ⟨gb2605, 1, none⟩ = some (.int .i64 ((rd_T57 l0_2 x4_1).f1)) := (blk_cell BK2605.out 1).trans rfl; have hcz24_2 : w22.cell? ⟨gb2605, 2, none⟩ = some (.slice A2604_2 ((rd_T57 l0_2 x4_1).f2).length c2604_2) := (blk_cell BK2605.out 2).trans rfl; have hcz24_3 : w22.cell? ⟨gb2605, 3, none⟩ = some (.int .i64 ((rd_T57 l0_2 x4_1).f3)) := (blk_cell BK2605.out 3).trans rfl; have hcz24_4 : w22.cell? ⟨gb2605, 4, none⟩ = some (.int .i64 ((rd_T57 l0_2 x4_1).f4)) := (blk_cell BK2605.out 4).trans rfl; have hcz24_5 : w22.cell? ⟨gb2605, 5, none⟩ = some (.int .i64 ((rd_T57 l0_2 x4_1).f5)) := (blk_cell BK2605.out 5).trans rfl; have hfz24_0 := blk_frozen BK2605.out 0; have hfz24_1 := blk_frozen BK2605.out 1; have hfz24_2 := blk_frozen BK2605.out 2; have hfz24_3 := blk_frozen BK2605.out 3; have hfz24_4 := blk_frozen BK2605.out 4; have hfz24_5 := blk_frozen BK2605.out 5) | ((with_reducible refine gate_store (t := 25) (p := 28) rfl ?_); refine store_event (t := 25) (p := 28) (v := ?vo_w25) (w1 := (w22.setCell ⟨gb2605, 2, none⟩ (.slice Ao23 y2606.length co23))) ?hg ?ho ?hn ?hr ?_; (case ho => rfl); (case hg => rfl); (case hn => rfl); (case hr => first | (go_simp; done) | (go_simp; rfl)); intro w25 hw; have n0_ : Aside0 (Kd.S k57 57 w25 w.heap.size (fun k_ => some k_ ≠ (.slice Ao23 y2606.length co23 : Value).ownBlock ∧ k_ ≠ gb2605) u2604002 x2604002_1) := ⟨(by rw [hw]; exact (by (with_reducible repeat (first | apply Kd.S_alloc | apply Kd.S_drewN | apply Kd.S_drew)); exact Kd.S_mono (Kd.S_far (p := ⟨gb2605, 2, none⟩) (Kd.S_mono HO_2604002.out (fun k_ hk => (⟨hk, hk.1.2⟩ : _ ∧ k_ ≠ gb2605))) (fun _ hk => hk.2) (.slice Ao23 y2606.length co23)) (fun _ hk => ⟨hk.1.2, hk.1.1.2⟩)))⟩; have n1_ : Aside0 (Kd.R (Kd.int .i64) 3 w25 w.heap.size (fun _ => True) (.slice Ao23 y2606.length co23) y2606) := ⟨(by rw [hw]; exact (by (with_reducible repeat (first | apply Kd.R_alloc | apply Kd.R_drewN | apply Kd.R_drew)); exact Kd.R_mono (Kd.R_far (p := ⟨gb2605, 2, none⟩) (Kd.R_types HO2608.out BK2605.out (by decide)) (fun _ hk => hk.2) (.slice Ao23 y2606.length co23)) (fun _ hk => trivial)))⟩; have n2_ : Aside0 (w25.heap[gb2601]? = some (.cells #[.int .i64 a0_0, .int .i64 a0_1, .slice (some ad2604) l0_2.length c0_2] 24 (0, 0))) := ⟨(by rw [hw]; exact (by (with_reducible repeat (first | refine blk_drewN ?_ _ | refine blk_drew ?_ | refine blk_alloc ?_ _)); refine blk_far ?_ NB2601_2605.out _; (with_reducible repeat (first | refine blk_drewN ?_ _ | refine blk_drew ?_ | refine blk_alloc ?_ _)); exact BK2601.out))⟩; have n3_ : Aside0 (w25.heap[gb2602]? = some (.cells #[.int .i64 0, .int .i64 0, .slice none 0 0] 24 (0, 0))) := ⟨(by rw [hw]; exact (by (with_reducible repeat (first | refine blk_drewN ?_ _ | refine blk_drew ?_ | refine blk_alloc ?_ _)); refine blk_far ?_ NB2602_2605.out _; (with_reducible repeat (first | refine blk_drewN ?_ _ | refine blk_drew ?_ | refine blk_alloc ?_ _)); exact BK2602.out))⟩; have n4_ : Aside0 (w25.heap[gb2603]? = some (.cells #[.int .i64 a0_0, .int .i64 a0_1, u2604002] 24 (0, 0))) := ⟨(by rw [hw]; exact (by (with_reducible repeat (first | refine blk_drewN ?_ _ | refine blk_drew ?_ | refine blk_alloc ?_ _)); refine blk_far ?_ NB2603_2605.out _; (with_reducible repeat (first | refine blk_drewN ?_ _ | refine blk_drew ?_ | refine blk_alloc ?_ _)); exact BK2603.out))⟩; have n5_ : Aside0 (w25.heap[gb2605]? = some (.cells #[.int .i64 ((rd_T57 l0_2 x4_1).f0), .int .i64 ((rd_T57 l0_2 x4_1).f1), .slice Ao23 y2606.length co23, .int .i64 ((rd_T57 l0_2 x4_1).f3), .int .i64 ((rd_T57 l0_2 x4_1).f4), .int .i64 ((rd_T57 l0_2 x4_1).f5)] 57 (0, 0))) := ⟨(by rw [hw]; exact (by (with_reducible repeat (first | refine blk_drewN ?_ _ | refine blk_drew ?_ | refine blk_alloc ?_ _)); refine blk_put (cs := #[.int .i64 ((rd_T57 l0_2 x4_1).f0), .int .i64 ((rd_T57 l0_2 x4_1).f1), .slice A2604_2 ((rd_T57 l0_2 x4_1).f2).length c2604_2, .int .i64 ((rd_T57 l0_2 x4_1).f3), .int .i64 ((rd_T57 l0_2 x4_1).f4), .int .i64 ((rd_T57 l0_2 x4_1).f5)]) ?_ 2 _ rfl; (with_reducible repeat (first | refine blk_drewN ?_ _ | refine blk_drew ?_ | refine blk_alloc ?_ _)); exact BK2605.out))⟩; have n6_ : Aside0 (Below w.heap.size w w25) := ⟨(by rw [hw]; exact (by repeat (first | (with_reducible first | exact HB.out | apply below_alloc | apply pw_below_drewN | apply below_drew1 | refine below_set ?_ GE2601.out | refine below_set ?_ GE2602.out | refine below_set ?_ GE2603.out | refine below_set ?_ GE2605.out) | exact HB.out)))⟩; clear hw; clear HO_2604002; clear HO2608; clear BK2601; clear BK2602; clear BK2603; clear BK2605; clear HB; have HO_2604002 := n0_; have HO2608 := n1_; have BK2601 := n2_; have BK2602 := n3_; have BK2603 := n4_; have BK2605 := n5_; have HB := n6_; clear n0_ n1_ n2_ n3_ n4_ n5_ n6_; have hnb26 := NB2603_2602.out; have hnc26 := NB2602_2603.out; have hcz27_0 : w25.cell? ⟨gb2603, 0, none⟩ = some (.int .i64 a0_0) := (blk_cell BK2603.out 0).trans rfl; have hcz27_1 : w25.cell? ⟨gb2603, 1, none⟩ = some (.int .i64 a0_1) := (blk_cell BK2603.out 1).trans rfl; have hcz27_2 : w25.cell? ⟨gb2603, 2, none⟩ = some (u2604002) := (blk_cell BK2603.out 2).trans rfl; have hfz27_0 := blk_frozen BK2603.out 0; have hfz27_1 := blk_frozen BK2603.out 1; have hfz27_2 := blk_frozen BK2603.out 2; have hcz28_0 : w25.cell? ⟨gb2605, 0, none⟩ = some (.int .i64 ((rd_T57 l0_2 x4_1).f0)) := (blk_cell BK2605.out 0).trans rfl; have hcz28_1 : w25.cell? ⟨gb2605, 1, none⟩ = some (.int .i64 ((rd_T57 l0_2 x4_1).f1)) := (blk_cell BK2605.out 1).trans rfl; have hcz28_2 : w25.cell? ⟨gb2605, 2, none⟩ = some (.slice Ao23 y2606.length co23) := (blk_cell BK2605.out 2).trans rfl; have hcz28_3 : w25.cell? ⟨gb2605, 3, none⟩ = some (.int .i64 ((rd_T57 l0_2 x4_1).f3)) := (blk_cell BK2605.out 3).trans rfl; have hcz28_4 : w25.cell? ⟨gb2605, 4, none⟩ = some (.int .i64 ((rd_T57 l0_2 x4_1).f4)) := (blk_cell BK2605.out 4).trans rfl; have hcz28_5 : w25.cell? ⟨gb2605, 5, none⟩ = some (.int .i64 ((rd_T57 l0_2 x4_1).f5)) := (blk_cell BK2605.out 5).trans rfl; have hfz28_0 := blk_frozen BK2605.out 0; have hfz28_1 := blk_frozen BK2605.out 1; have hfz28_2 := blk_frozen BK2605.out 2; have hfz28_3 := blk_frozen BK2605.out 3; have hfz28_4 := blk_frozen BK2605.out 4; have hfz28_5 := blk_frozen BK2605.out 5) | ((with_reducible refine gate_builtin (b := .append) (xs := #[.tmp 30, .tmp 32]) rfl ?_); at_builtin; refine Kd.S_append k57 (w0 := w) w.heap.size rfl (.tmp 30) (.tmp 32) 22 57 (.agg #[(.int .i64 0), (.int .i64 0), (.slice none 0 0), (.int .i64 0), (.int .i64 0), (.int .i64 0)]) 64 rfl Try.underlying22 info57 rfl (by decide) (by omega) u2604002 x2604002_1 (⟨(rd_T57 l0_2 x4_1).f0, (rd_T57 l0_2 x4_1).f1, y2606, (rd_T57 l0_2 x4_1).f3, (rd_T57 l0_2 x4_1).f4, (rd_T57 l0_2 x4_1).f5⟩ : S57) [.int .i64 ((rd_T57 l0_2 x4_1).f0), .int .i64 ((rd_T57 l0_2 x4_1).f1), .slice Ao23 y2606.length co23, .int .i64 ((rd_T57 l0_2 x4_1).f3), .int .i64 ((rd_T57 l0_2 x4_1).f4), .int .i64 ((rd_T57 l0_2 x4_1).f5)] (fun k_ => k_ ≠ gb2605) (fun k_ => some k_ = (.slice Ao23 y2606.length co23 : Value).ownBlock) rfl rfl ?aP (fun k_ hk_ => ((Kd.R_mono (ok' := fun k_ => ((fun k_ => k_ ≠ gb2605)) k_ ∧ some k_ ≠ (u2604002 : Value).ownBlock) (Kd.R_types (Kd.R_apart' (HO2608.out) (Kd.S_typed HO_2604002.out) (by decide)) BK2605.out (by decide)) (fun k_ hk => ⟨hk.2, hk.1.2⟩))).1 k_ hk_.symm) ?aF ?aO ?aB ?aS ?aL ?_; (case aP => exact k57_mkM _ _ _ (⟨(rd_T57 l0_2 x4_1).f0, (rd_T57 l0_2 x4_1).f1, y2606, (rd_T57 l0_2 x4_1).f3, (rd_T57 l0_2 x4_1).f4, (rd_T57 l0_2 x4_1).f5⟩ : S57) (Kd.R_mono (Kd.R_tight rfl (Kd.R_mono (ok' := fun k_ => ((fun k_ => k_ ≠ gb2605)) k_ ∧ some k_ ≠ (u2604002 : Value).ownBlock) (Kd.R_types (Kd.R_apart' (HO2608.out) (Kd.S_typed HO_2604002.out) (by decide)) BK2605.out (by decide)) (fun k_ hk => ⟨hk.2, hk.1.2⟩))) (fun _ h_ => h_))); (case aB => exact (by repeat (first | (with_reducible first | exact HB.out | apply below_alloc | apply pw_below_drewN | apply below_drew1 | refine below_set ?_ GE2601.out | refine below_set ?_ GE2602.out | refine below_set ?_ GE2603.out | refine below_set ?_ GE2605.out) | exact HB.out))); (case aF => exact (fun k_ hk => Kd.freshB (g := gb2605) (o := .cells #[.int .i64 ((rd_T57 l0_2 x4_1).f0), .int .i64 ((rd_T57 l0_2 x4_1).f1), .slice Ao23 y2606.length co23, .int .i64 ((rd_T57 l0_2 x4_1).f3), .int .i64 ((rd_T57 l0_2 x4_1).f4), .int .i64 ((rd_T57 l0_2 x4_1).f5)] 57 (0, 0)) (by (with_reducible repeat (first | refine blk_drewN ?_ _ | refine blk_drew ?_ | refine blk_alloc ?_ _)); exact BK2605.out) k_ hk)); (case aO => exact (by (with_reducible repeat (first | apply Kd.S_alloc | apply Kd.S_drewN | apply Kd.S_drew)); exact Kd.S_mono HO_2604002.out (fun k_ hk => ⟨hk.2, fun e_ => hk.1 e_⟩))); (case aS => exact (below_size (by repeat (first | (with_reducible first | exact HB.out | apply below_alloc | apply pw_below_drewN | apply below_drew1 | refine below_set ?_ GE2601.out | refine below_set ?_ GE2602.out | refine below_set ?_ GE2603.out | refine below_set ?_ GE2605.out) | exact HB.out)))); (case aL => have := LMc13.out; omega); intro v2610 w29 ho hb hg hat; rw [← Ny2609.out] at ho; have n0_ := Aside0.mk (blk_grown (g := gb2601) (o := .cells #[.int .i64 a0_0, .int .i64 a0_1, .slice (some ad2604) l0_2.length c0_2] 24 (0, 0)) (by (with_reducible repeat (first | refine blk_drewN ?_ _ | refine blk_drew ?_ | refine blk_alloc ?_ _)); exact BK2601.out) hg (Kd.S_ne HO_2604002.out BK2601.out (by decide))); have n1_ := Aside0.mk (blk_grown (g := gb2602) (o := .cells #[.int .i64 0, .int .i64 0, .slice none 0 0] 24 (0, 0)) (by (with_reducible repeat (first | refine blk_drewN ?_ _ | refine blk_drew ?_ | refine blk_alloc ?_ _)); exact BK2602.out) hg (Kd.S_ne HO_2604002.out BK2602.out (by decide))); have n2_ := Aside0.mk (blk_grown (g := gb2603) (o := .cells #[.int .i64 a0_0, .int .i64 a0_1, u2604002] 24 (0, 0)) (by (with_reducible repeat (first | refine blk_drewN ?_ _ | refine blk_drew ?_ | refine blk_alloc ?_ _)); exact BK2603.out) hg (Kd.S_ne HO_2604002.out BK2603.out (by decide))); have n3_ := Aside0.mk (blk_grown (g := gb2605) (o := .cells #[.int .i64 ((rd_T57 l0_2 x4_1).f0), .int .i64 ((rd_T57 l0_2 x4_1).f1), .slice Ao23 y2606.length co23, .int .i64 ((rd_T57 l0_2 x4_1).f3), .int .i64 ((rd_T57 l0_2 x4_1).f4), .int .i64 ((rd_T57 l0_2 x4_1).f5)] 57 (0, 0)) (by (with_reducible repeat (first | refine blk_drewN ?_ _ | refine blk_drew ?_ | refine blk_alloc ?_ _)); exact BK2605.out) hg (Kd.S_away HO_2604002.out (fun _ hk => hk.2))); have n4_ := Aside0.mk (hb); have n5_ := Aside0.mk (ho); clear BK2601; clear BK2602; clear BK2603; clear BK2605; clear HB; clear HO_2604002; clear HO2608; have BK2601 := n0_; have BK2602 := n1_; have BK2603 := n2_; have BK2605 := n3_; have HB := n4_; have HO2611 := n5_; clear n0_ n1_ n2_ n3_ n4_ n5_; clear ho hb hg hat; obtain ⟨Ao30, co30, eo30⟩ := Kd.S_slice HO2611.out; subst eo30; have hcz31_0 : w29.cell? ⟨gb2603, 0, none⟩ = some (.int .i64 a0_0) := (blk_cell BK2603.out 0).trans rfl; have hcz31_1 : w29.cell? ⟨gb2603, 1, none⟩ = some (.int .i64 a0_1) := (blk_cell BK2603.out 1).trans rfl; have hcz31_2 : w29.cell? ⟨gb2603, 2, none⟩ = some (u2604002) := (blk_cell BK2603.out 2).trans rfl; have hfz31_0 := blk_frozen BK2603.out 0; have hfz31_1 := blk_frozen BK2603.out 1; have hfz31_2 := blk_frozen BK2603.out 2))
       go_roundg k1
       case measure => have := HK1.out; omega
       case rel => exact ⟨(wrap64 (x4_1 + 1)), (y2609), (.slice Ao30 y2609.length co30), (by first | rfl | (simp; done) | (simp [*]; done)), H', ⟨by have := HK1.out; omega⟩, ⟨by (with_reducible repeat (first | apply Kd.S_alloc | apply Kd.S_drewN | apply Kd.S_drew)); exact Kd.S_mono (Kd.S_far (p := ⟨gb2603, 2, none⟩) (Kd.S_types HO2611.out BK2603.out (by decide)) (fun _ hk => hk.2) (.slice Ao30 y2609.length co30)) (fun _ hk => trivial)⟩, ⟨by (with_reducible repeat (first | refine blk_drewN ?_ _ | refine blk_drew ?_ | refine blk_alloc ?_ _)); refine blk_far ?_ NB2601_2603.out _; (with_reducible repeat (first | refine blk_drewN ?_ _ | refine blk_drew ?_ | refine blk_alloc ?_ _)); exact BK2601.out⟩, ⟨by (with_reducible repeat (first | refine blk_drewN ?_ _ | refine blk_drew ?_ | refine blk_alloc ?_ _)); refine blk_far ?_ NB2602_2603.out _; (with_reducible repeat (first | refine blk_drewN ?_ _ | refine blk_drew ?_ | refine blk_alloc ?_ _)); exact BK2602.out⟩, ⟨by (with_reducible repeat (first | refine blk_drewN ?_ _ | refine blk_drew ?_ | refine blk_alloc ?_ _)); refine blk_put (cs := #[.int .i64 a0_0, .int .i64 a0_1, u2604002]) ?_ 2 _ rfl; (with_reducible repeat (first | refine blk_drewN ?_ _ | refine blk_drew ?_ | refine blk_alloc ?_ _)); exact BK2603.out⟩, ⟨by repeat (first | (with_reducible first | exact HB.out | apply below_alloc | apply pw_below_drewN | apply below_drew1 | refine below_set ?_ GE2601.out | refine below_set ?_ GE2602.out | refine below_set ?_ GE2603.out | refine below_set ?_ GE2605.out) | exact HB.out)⟩⟩
      ·rw [if_neg c13] at H
       exact absurd H (by simp)
     ·rw [if_neg c12] at H
      exact absurd H (by simp)
    ·rw [if_neg c11] at H
     exact absurd H (by simp)
   ·rw [if_neg c10] at H
    have c10b0 : decide (x4_1 < (l0_2.length : Int)) = false := decide_eq_false c10
    clear c10
    simp only [Option.some.injEq, Prod.mk.injEq] at H
    obtain ⟨rfl, rfl, rfl⟩ := H
    have hnb32 := NB2601_2602.out
    have hnc32 := NB2602_2601.out
    have hnb33 := NB2601_2603.out
    have hnc33 := NB2603_2601.out
    have hcz34_0 : wr.cell? ⟨gb2601, 0, none⟩ = some (.int .i64 a0_0) := (blk_cell BK2601.out 0).trans rfl
    have hcz34_1 : wr.cell? ⟨gb2601, 1, none⟩ = some (.int .i64 a0_1) := (blk_cell BK2601.out 1).trans rfl
    have hcz34_2 : wr.cell? ⟨gb2601, 2, none⟩ = some (.slice A0_2 l0_2.length c0_2) := (blk_cell BK2601.out 2).trans rfl
    have hfz34_0 := blk_frozen BK2601.out 0
    have hfz34_1 := blk_frozen BK2601.out 1
    have hfz34_2 := blk_frozen BK2601.out 2
    have hnb35 := NB2603_2602.out
    have hnc35 := NB2602_2603.out
    have hcz36_0 : wr.cell? ⟨gb2603, 0, none⟩ = some (.int .i64 a0_0) := (blk_cell BK2603.out 0).trans rfl
    have hcz36_1 : wr.cell? ⟨gb2603, 1, none⟩ = some (.int .i64 a0_1) := (blk_cell BK2603.out 1).trans rfl
    have hcz36_2 : wr.cell? ⟨gb2603, 2, none⟩ = some (u2604002) := (blk_cell BK2603.out 2).trans rfl
    have hfz36_0 := blk_frozen BK2603.out 0
    have hfz36_1 := blk_frozen BK2603.out 1
    have hfz36_2 := blk_frozen BK2603.out 2
    have hcz37_0 : wr.cell? ⟨gb2602, 0, none⟩ = some (.int .i64 0) := (blk_cell BK2602.out 0).trans rfl
    have hcz37_1 : wr.cell? ⟨gb2602, 1, none⟩ = some (.int .i64 0) := (blk_cell BK2602.out 1).trans rfl
    have hcz37_2 : wr.cell? ⟨gb2602, 2, none⟩ = some (.slice none 0 0) := (blk_cell BK2602.out 2).trans rfl
    have hfz37_0 := blk_frozen BK2602.out 0
    have hfz37_1 := blk_frozen BK2602.out 1
    have hfz37_2 := blk_frozen BK2602.out 2
    obtain ⟨Ao38, co38, eo38⟩ := Kd.S_slice HO_2604002.out
    subst eo38
    go_wp2
    refine bodyPost_ret (results_cell_row rfl _ _ gb2602 24 #[.int .i64 a0_0, .int .i64 a0_1, .slice Ao38 x2604002_1.length co38] (0, 0) _ rfl (by (with_reducible repeat (first | refine blk_drewN ?_ _ | refine blk_drew ?_ | refine blk_alloc ?_ _)); refine blk_put (cs := #[.int .i64 a0_0, .int .i64 a0_1, .slice none 0 0]) ?_ 2 _ rfl; (with_reducible repeat (first | refine blk_drewN ?_ _ | refine blk_drew ?_ | refine blk_alloc ?_ _)); refine blk_put (cs := #[.int .i64 a0_0, .int .i64 0, .slice none 0 0]) ?_ 1 _ rfl; (with_reducible repeat (first | refine blk_drewN ?_ _ | refine blk_drew ?_ | refine blk_alloc ?_ _)); refine blk_put (cs := #[.int .i64 0, .int .i64 0, .slice none 0 0]) ?_ 0 _ rfl; (with_reducible repeat (first | refine blk_drewN ?_ _ | refine blk_drew ?_ | refine blk_alloc ?_ _)); exact BK2602.out) Try.underlying24 rfl (by kernel_rfl)) rfl ?_
    exact ⟨_, by first | rfl | (simp [errW_none, errW_some] <;> rfl) | (simp [*, errW_none, errW_some] <;> rfl), by (with_reducible repeat (first | apply Kd.S_alloc | apply Kd.S_drewN | apply Kd.S_drew)); exact Kd.S_mono (Kd.S_far (p := ⟨gb2602, 2, none⟩) (Kd.S_far (p := ⟨gb2602, 1, none⟩) (Kd.S_far (p := ⟨gb2602, 0, none⟩) (Kd.S_types HO_2604002.out BK2602.out (by decide)) (fun _ hk => hk.2) (.int .i64 a0_0)) (fun _ hk => hk.2) (.int .i64 a0_1)) (fun _ hk => hk.2) (.slice Ao38 x2604002_1.length co38)) (fun _ hk => trivial), by repeat (first | (with_reducible first | exact HB.out | apply below_alloc | apply pw_below_drewN | apply below_drew1 | refine below_set ?_ GE2601.out | refine below_set ?_ GE2602.out | refine below_set ?_ GE2603.out) | exact HB.out)⟩
mutual
def phasorlaw19_told.j0 : Nat → List Int → Bool → Option (Bool × List Int)
 | 0, _, _ => none
 | k + 1, x0, x9 => phasorlaw19_told.l0 k x0 x9 0
def phasorlaw19_told.l0 : Nat → List Int → Bool → Int → Option (Bool × List Int)
 | 0, _, _, _ => none
 | k + 1, x0, x9, x10 => if x10 < (x0.length : Int) then (if 0 ≤ x10 then (phasorlaw19_told.l0 k (x0.set (x10 : Int).toNat (-7)) x9 (wrap64 (x10 + 1))) else (none)) else (some (x9, x0))
end
def phasorlaw19_told.f (k : Nat) (l0 : List Int) (a1 : Int) (l2 : List Int) (a3 : Int) : Option (Bool × List Int) := (phasorlaw19_ints.f k l0 l2).bind fun t4101 => (if t4101 = true then (phasorlaw19_told.j0 k l0 (a1 == a3)) else (phasorlaw19_told.j0 k l0 false))
set_option maxHeartbeats 8000000 in
set_option maxRecDepth 100000 in
theorem phasorlaw19_told.calls (k : Nat) (P0_ : Nat → Prop) (u9000_ : Value) (l0 : List Int) (a1 : Int) (A2 : Option Addr) (c2 : Nat) (l2 : List Int) (a3 : Int) (r1 : Bool) (r2 : List Int) (w0 w : World) (hB : Below w0.heap.size w0 w) (ho0 : Kd.R (Kd.int .i64) 3 w w0.heap.size P0_ u9000_ l0) (hr2 : ∀ W_, Kept w W_ (fun k_ => P0_ k_) → Kd.C (Kd.int .i64) W_ A2 l2.length l2) (hc2 : l2.length ≤ c2) (h : phasorlaw19_told.f k l0 a1 l2 a3 = some (r1, r2)) :
  Calls Try.prog 8 #[u9000_, .int .i64 a1, .slice A2 l2.length c2, .int .i64 a3] w fun e w' => e = .returned (.bool r1) ∧ Kd.R (Kd.int .i64) 3 w' w0.heap.size (fun k_ => (P0_ k_ ∨ w.heap.size ≤ k_)) u9000_ r2 ∧ Below w0.heap.size w0 w' ∧ Kept w w' (fun k_ => P0_ k_) := by
 have HO0 := Aside0.mk (show Kd.R (Kd.int .i64) 3 w w0.heap.size (fun k_ => (P0_ k_ ∨ w.heap.size ≤ k_)) u9000_ l0 from Kd.R_mono ho0 (fun k_ hk => (.inl hk)))
 have HR2 := Aside0.mk hr2
 have HC2 := Aside0.mk hc2
 clear hr2 hc2
 have HK := Aside0.mk (Kept.refl w (fun k_ => P0_ k_))
 have HW0 := Aside0.mk hB.size
 have HB := Aside0.mk hB
 clear hB
 have H : ((phasorlaw19_ints.f k l0 l2).bind fun t4101 => (if t4101 = true then (phasorlaw19_told.j0 k l0 (a1 == a3)) else (phasorlaw19_told.j0 k l0 false))) = some (r1, r2) := h
 clear h
 have HC5 := Aside0.mk H
 clear H
 go_enter Try.func8, Try.ntmps8
 go_upto_region 1 with (fail)
 go_cut [9] (fun v9 wc => ∃ (kq : Nat) (x9_4 : Bool), v9 = .bool x9_4 ∧ Aside0 (phasorlaw19_told.j0 kq l0 x9_4 = some (r1, r2)) ∧ Aside0 (kq ≤ k) ∧ Aside0 (Kd.R (Kd.int .i64) 3 wc w0.heap.size (fun k_ => (P0_ k_ ∨ w.heap.size ≤ k_)) u9000_ l0) ∧ Aside0 (Kept w wc (fun k_ => P0_ k_)) ∧ Aside0 (Below w0.heap.size w0 wc))
 case first =>
  have H := HC5.out
  clear HC5
  replace H := Option.bind_eq_some_iff.mp H
  obtain ⟨t4101, A60, H⟩ := H
  replace H : (if t4101 = true then (phasorlaw19_told.j0 k l0 (a1 == a3)) else (phasorlaw19_told.j0 k l0 false)) = some (r1, r2) := H
  have A6 := Aside0.mk A60
  clear A60
  by_cases c7 : t4101 = true
  ·subst c7
   have H1 : (phasorlaw19_told.j0 k l0 (a1 == a3)) = some (r1, r2) := by rw [if_pos rfl] at H; exact H
   clear H
   have H := H1
   clear H1
   have H' := Aside0.mk H
   clear H
   obtain ⟨Ao8, co8, eo8⟩ := Kd.R_slice HO0.out
   subst eo8
   go_wp2_with (first | ((with_reducible refine gate_callee (f := 17) rfl ?_); refine goesL_ (some 13) rfl rfl Try.func17 (by kernel_rfl) rfl #[.slice Ao8 l0.length co8, .slice A2 l2.length c2] rfl (by (try simp only [List.map_toArray, List.map_cons, List.map_nil]); first | done | rfl | (simp only [List.length_drop, List.length_take]; rfl)) ?_; (with_reducible refine (phasorlaw19_ints.calls k _ _ l0 _ _ l2 true _ ?side1 ?side2 ?side3 ?side4 A6.out).mono ?_); (case side1 => repeat (first | exact (Kd.R_reads' HO0.out).2.2 | (with_reducible refine Kd.C_alloc ?_ _) | (with_reducible refine Kd.C_drewN ?_ _) | (with_reducible refine Kd.C_drew ?_))); (case side2 => exact (Kd.R_reads' HO0.out).2.1); (case side3 => exact Kd.C_kept_now HR2.out (by repeat (first | (with_reducible first | exact HK.out | apply Kept.alloc | apply Kept.drewN | apply Kept.drew) | exact HK.out))); (case side4 => exact HC2.out); rintro e w' ⟨rfl, ⟨nd, rfl⟩⟩; refine ⟨_, rfl, ?_⟩))
   go_meet
   case rel => exact ⟨_, ((a1 == a3)), (by first | rfl | (simp; done) | (simp [*]; done)), H', ⟨by first | omega | exact Nat.le_refl _⟩, ⟨by (with_reducible repeat (first | apply Kd.R_alloc | apply Kd.R_drewN | apply Kd.R_drew)); exact HO0.out⟩, ⟨by repeat (first | (with_reducible first | exact HK.out | apply Kept.alloc | apply Kept.drewN | apply Kept.drew) | exact HK.out)⟩, ⟨by repeat (first | (with_reducible first | exact HB.out | apply below_alloc | apply pw_below_drewN | apply below_drew1) | exact HB.out)⟩⟩
  ·replace c7 := Bool.eq_false_iff.mpr c7
   subst c7
   have H1 : (phasorlaw19_told.j0 k l0 false) = some (r1, r2) := by rw [if_neg (show ¬ (false = true) by decide)] at H; exact H
   clear H
   have H := H1
   clear H1
   have H' := Aside0.mk H
   clear H
   obtain ⟨Ao9, co9, eo9⟩ := Kd.R_slice HO0.out
   subst eo9
   go_wp2_with (first | ((with_reducible refine gate_callee (f := 17) rfl ?_); refine goesL_ (some 13) rfl rfl Try.func17 (by kernel_rfl) rfl #[.slice Ao9 l0.length co9, .slice A2 l2.length c2] rfl (by (try simp only [List.map_toArray, List.map_cons, List.map_nil]); first | done | rfl | (simp only [List.length_drop, List.length_take]; rfl)) ?_; (with_reducible refine (phasorlaw19_ints.calls k _ _ l0 _ _ l2 false _ ?side1 ?side2 ?side3 ?side4 A6.out).mono ?_); (case side1 => repeat (first | exact (Kd.R_reads' HO0.out).2.2 | (with_reducible refine Kd.C_alloc ?_ _) | (with_reducible refine Kd.C_drewN ?_ _) | (with_reducible refine Kd.C_drew ?_))); (case side2 => exact (Kd.R_reads' HO0.out).2.1); (case side3 => exact Kd.C_kept_now HR2.out (by repeat (first | (with_reducible first | exact HK.out | apply Kept.alloc | apply Kept.drewN | apply Kept.drew) | exact HK.out))); (case side4 => exact HC2.out); rintro e w' ⟨rfl, ⟨nd, rfl⟩⟩; refine ⟨_, rfl, ?_⟩))
   go_meet
   case rel => exact ⟨_, (false), (by first | rfl | (simp; done) | (simp [*]; done)), H', ⟨by first | omega | exact Nat.le_refl _⟩, ⟨by (with_reducible repeat (first | apply Kd.R_alloc | apply Kd.R_drewN | apply Kd.R_drew)); exact HO0.out⟩, ⟨by repeat (first | (with_reducible first | exact HK.out | apply Kept.alloc | apply Kept.drewN | apply Kept.drew) | exact HK.out)⟩, ⟨by repeat (first | (with_reducible first | exact HB.out | apply below_alloc | apply pw_below_drewN | apply below_drew1) | exact HB.out)⟩⟩
 case rest =>
  clear HC5
  try clear c1
  try clear c2
  try clear p2
  try clear c7
  try clear c8
  obtain ⟨kq, x9_4, rfl, HA, HJ4, HO_0, HK, HB⟩ := hcut
  cases kq with
  | zero => exact absurd HA.out (by simp [phasorlaw19_told.j0])
  | succ kj4 =>
   have H := HA.out
   clear HA
   simp only [phasorlaw19_told.j0] at H
   have H' := Aside0.mk H
   clear H
   go_wp2
   go_loopg [10] kj4 (fun kq v10 w' => ∃ (x0_2 : List Int) (x10_2 : Int), v10 = .int .i64 x10_2 ∧ Aside0 (phasorlaw19_told.l0 kq x0_2 x9_4 x10_2 = some (r1, r2)) ∧ Aside0 (kq ≤ kj4) ∧ Aside0 (Kd.R (Kd.int .i64) 3 w' w0.heap.size (fun k_ => (P0_ k_ ∨ w.heap.size ≤ k_)) u9000_ x0_2) ∧ Aside0 (Kept w w' (fun k_ => P0_ k_)) ∧ Aside0 (Below w0.heap.size w0 w'))
   case atStart => exact ⟨(l0), (0), (by first | rfl | (simp; done) | (simp [*]; done)), H', ⟨Nat.le_refl _⟩, ⟨by (with_reducible repeat (first | apply Kd.R_alloc | apply Kd.R_drewN | apply Kd.R_drew)); exact HO_0.out⟩, ⟨by repeat (first | (with_reducible first | exact HK.out | apply Kept.alloc | apply Kept.drewN | apply Kept.drew) | exact HK.out)⟩, ⟨by repeat (first | (with_reducible first | exact HB.out | apply below_alloc | apply pw_below_drewN | apply below_drew1) | exact HB.out)⟩⟩
   case round =>
    clear H'
    try clear c1
    try clear c2
    try clear p2
    try clear c7
    try clear c8
    try clear p2
    obtain ⟨x0_2, x10_2, rfl, HA, HK2, HO_0, HK, HB⟩ := hrel
    cases gk with
    | zero => exact absurd HA.out (by simp [phasorlaw19_told.l0])
    | succ k2 =>
     have H := HA.out
     clear HA
     simp only [phasorlaw19_told.l0] at H
     by_cases c10 : x10_2 < (x0_2.length : Int)
     ·rw [if_pos c10] at H
      have c10b0 : decide (x10_2 < (x0_2.length : Int)) = true := decide_eq_true c10
      clear c10
      by_cases c11 : 0 ≤ x10_2
      ·rw [if_pos c11] at H
       have c11b0 : decide (0 ≤ x10_2) = true := decide_eq_true c11
       clear c11
       obtain ⟨y4102, hy4102⟩ : ∃ y_ : List Int, y_ = (x0_2.set (x10_2 : Int).toNat (-7)) := ⟨_, rfl⟩
       replace H : (phasorlaw19_told.l0 k2 y4102 x9_4 (wrap64 (x10_2 + 1))) = some (r1, r2) := by first | (rw [hy4102]; with_reducible exact H) | (have H2_ := (Option.bind_some _ _).symm.trans H; rw [hy4102]; with_reducible exact H2_) | (have H2_ := (Option.bind_some _ _).symm.trans H; with_reducible exact H2_) | with_reducible exact H | (rw [hy4102]; exact H) | exact H
       have Ny4102 := Aside0.mk hy4102
       clear hy4102
       have H' := Aside0.mk H
       clear H
       obtain ⟨Ao13, co13, eo13⟩ := Kd.R_slice HO_0.out
       subst eo13
       have p12 : 0 ≤ (x10_2 : Int) := of_decide_eq_true (by first | (with_reducible assumption) | assumption)
       have q12 : (x10_2 : Int) < ((x0_2.length : Int) : Int) := of_decide_eq_true (by first | (with_reducible assumption) | assumption)
       obtain ⟨go12, co12, eo12, gb12, gl12, cl12, HG12⟩ := Kd.R_form HO_0.out (by omega)
       (first | cases eo12 | (injection eo12 with ea_ en_ ec_; (first | subst ea_ | (injection ea_ with ea_; subst ea_)); subst ec_; clear en_))
       have GB12 := Aside0.mk gb12
       have GG12 := Aside0.mk HG12
       clear gb12 gl12 HG12
       have HMgo12 := Aside0.mk (show (P0_ go12 ∨ w.heap.size ≤ go12) from (HO_0.out.1 _ rfl))
       obtain ⟨hx12_0, hf12_0⟩ := Kd.R_celln 0 HO_0.out (x10_2 : Int) p12 q12
       replace p12 := eq_true p12
       replace q12 := eq_true q12
       have HP14 := Kd.R_putg HO_0.out (x10_2 : Int) (-7)
       go_wp2_with (first | ((with_reducible refine gate_store (t := 3) (p := 27) rfl ?_); refine store_event (t := 3) (p := 27) (v := ?vo_w15) (w1 := (wr.setCell ⟨go12, (x10_2 : Int).toNat, none⟩ (.int .i64 (-7)))) ?hg ?ho ?hn ?hr ?_; (case ho => rfl); (case hg => rfl); (case hn => rfl); (case hr => first | (go_simp; done) | (go_simp; rfl)); intro w15 hw; have hg : wr.grownBy w15 (some go12) := (by rw [hw]; exact HP14.2); have hp_ : Kd.R (Kd.int .i64) 3 w15 w0.heap.size (fun k_ => (P0_ k_ ∨ w.heap.size ≤ k_)) (.slice (some ⟨go12, 0, none⟩) x0_2.length co13) y4102 := (by rw [hw, Ny4102.out]; exact HP14.1); clear HP14; have n0_ := Aside0.mk (hp_); have n1_ := Aside0.mk ((by rw [hw]; exact below_set (HB.out) GB12.out : Below w0.heap.size w0 w15)); have n2_ := Aside0.mk (Kept.of_grown (S := (fun k_ => P0_ k_)) hg (by repeat (first | (with_reducible first | exact HK.out | apply Kept.alloc | apply Kept.drewN | apply Kept.drew) | exact HK.out)) (fun k_ e_ => (HO_0.out.1 k_ e_))); clear HO_0; clear HB; clear HK; have HO_0 := n0_; have HB := n1_; have HK := n2_; clear n0_ n1_ n2_; clear hg hw hp_))
       go_roundg k2
       case measure => have := HJ4.out; have := HK2.out; omega
       case rel => exact ⟨(y4102), (wrap64 (x10_2 + 1)), (by first | rfl | (simp; done) | (simp [*]; done)), H', ⟨by have := HJ4.out; have := HK2.out; omega⟩, ⟨by (with_reducible repeat (first | apply Kd.R_alloc | apply Kd.R_drewN | apply Kd.R_drew)); exact HO_0.out⟩, ⟨by repeat (first | (with_reducible first | exact HK.out | apply Kept.alloc | apply Kept.drewN | apply Kept.drew) | exact HK.out)⟩, ⟨by repeat (first | (with_reducible first | exact HB.out | apply below_alloc | apply pw_below_drewN | apply below_drew1) | exact HB.out)⟩⟩
      ·rw [if_neg c11] at H
       exact absurd H (by simp)
     ·rw [if_neg c10] at H
      have c10b0 : decide (x10_2 < (x0_2.length : Int)) = false := decide_eq_false c10
      clear c10
      simp only [Option.some.injEq, Prod.mk.injEq] at H
      obtain ⟨rfl, rfl⟩ := H
      obtain ⟨Ao16, co16, eo16⟩ := Kd.R_slice HO_0.out
      subst eo16
      go_wp2
      go_ret
      exact ⟨by first | rfl | (simp [errW_none, errW_some] <;> rfl) | (simp [*, errW_none, errW_some] <;> rfl), by (with_reducible repeat (first | apply Kd.R_alloc | apply Kd.R_drewN | apply Kd.R_drew)); exact HO_0.out, by repeat (first | (with_reducible first | exact HB.out | apply below_alloc | apply pw_below_drewN | apply below_drew1) | exact HB.out), by repeat (first | (with_reducible first | exact HK.out | apply Kept.alloc | apply Kept.drewN | apply Kept.drew) | exact HK.out)⟩
end Go.Proofs.Ytpnfhddcnnoclaa.Px
