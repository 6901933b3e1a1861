import Derived.Test.YtpnfhddcnnoclaaTell1
namespace Go.Proofs.Ytpnfhddcnnoclaa.Px
open Go.RowKit Go.Proofs.YtpnfhddcnnoclaaW.PrintWords Go.Proofs.YtpnfhddcnnoclaaW.PrintLast Go.Proofs.YtpnfhddcnnoclaaW.PrintMore
attribute [local go_sem] max2_int min2_int max_two min_two max_three min_three max_four min_four
set_option linter.unusedVariables false
set_option linter.unusedSimpArgs false
def circuit_Copy.l0 : Nat → List (S57) → Int → Int → Int → Int → List (S57) → Option (Int × Int × (List (S57)))
 | 0, _, _, _, _, _, _ => none
 | k + 1, x12, x13, x14, x27104000, x27104001, x27104002 => if x14 < x13 then (if 0 ≤ x14 then (if x14 < (x12.length : Int) then ((slices_Clone_int_int.f ((rd_T57 x12 x14).f2)).bind fun t27106 => (if x27104002.length < 2199023255552 then (circuit_Copy.l0 k x12 x13 (wrap64 (x14 + 1)) x27104000 x27104001 (x27104002 ++ [(⟨(rd_T57 x12 x14).f0, (rd_T57 x12 x14).f1, t27106, (rd_T57 x12 x14).f3, (rd_T57 x12 x14).f4, (rd_T57 x12 x14).f5⟩ : S57)])) else (none))) else (none)) else (none)) else (some (x27104000, x27104001, x27104002))
def circuit_Copy.f (k : Nat) (a0_0 : Int) (a0_1 : Int) (l0_2 : List (S57)) : Option (Int × Int × (List (S57))) := circuit_Copy.l0 k l0_2 (l0_2.length : Int) 0 a0_0 a0_1 ([] : List (S57))
set_option maxHeartbeats 8000000 in
set_option maxRecDepth 100000 in
theorem circuit_Copy.calls (k : Nat) (a0_0 : Int) (a0_1 : Int) (A0_2 : Option Addr) (c0_2 : Nat) (l0_2 : List (S57)) (r1 : Int) (r2 : Int) (r3 : List (S57)) (w : World) (hr0_2 : Kd.C k57 w A0_2 l0_2.length l0_2) (hc0_2 : l0_2.length ≤ c0_2) (h : circuit_Copy.f k a0_0 a0_1 l0_2 = some (r1, r2, r3)) :
  Calls Try.prog 54 #[.agg #[.int .i64 a0_0, .int .i64 a0_1, .slice A0_2 l0_2.length c0_2]] w fun e w' => ∃ v2_ : Value, e = .returned (.agg #[.int .i64 r1, .int .i64 r2, v2_]) ∧ Kd.S k57 57 w' w.heap.size (fun _ => True) v2_ r3 ∧ Below w.heap.size w w' := by
 have hu24 := Try.underlying24
 have hu57 := Try.underlying57
 have HR0_2 := Aside0.mk hr0_2
 have HC0_2 := Aside0.mk hc0_2
 clear hr0_2 hc0_2
 have HB := Aside0.mk (Below.refl w.heap.size w)
 have H : (circuit_Copy.l0 k l0_2 (l0_2.length : Int) 0 a0_0 a0_1 ([] : List (S57))) = some (r1, r2, r3) := h
 clear h
 have H' := Aside0.mk H
 clear H
 go_enter Try.func54, Try.ntmps54
 go_wp2_with (first | ((with_reducible refine gate_dst (N := 1) rfl ?_); refine box_event ?hg (N := 1) ?hd (cs := #[.int .i64 a0_0, .int .i64 a0_1, .slice A0_2 l0_2.length c0_2]) (t := 24) ?hr ?_; (case hd => rfl); (case hg => rfl); (case hr => first | (go_simp; done) | (go_simp; rfl)); intro gb27101 hg w2 hbox hb; have n0_ := Aside0.mk (below_step (by repeat (first | (with_reducible first | exact HB.out | apply below_alloc | apply pw_below_drewN | apply below_drew1) | exact HB.out)) hb); have n1_ := Aside0.mk (hbox); have n2_ := Aside0.mk ((by rw [hg]; exact (below_size (by repeat (first | (with_reducible first | exact HB.out | apply below_alloc | apply pw_below_drewN | apply below_drew1) | exact HB.out))) : w.heap.size ≤ gb27101)); have n3_ := Aside0.mk ((by rw [hg]; exact (below_size (by repeat (first | (with_reducible first | exact HB.out | apply below_alloc | apply pw_below_drewN | apply below_drew1) | exact HB.out))) : w.heap.size ≤ gb27101)); clear HB; have HB := n0_; have BK27101 := n1_; have GW27101 := n2_; have GE27101 := n3_; clear n0_ n1_ n2_ n3_; clear hb hbox hg) | ((with_reducible refine gate_dst (N := 2) rfl ?_); refine box_event ?hg (N := 2) ?hd (cs := #[.int .i64 0, .int .i64 0, .slice none 0 0]) (t := 24) ?hr ?_; (case hd => rfl); (case hg => rfl); (case hr => first | (go_simp; done) | (go_simp; rfl)); intro gb27102 hg w3 hbox hb; have n0_ := Aside0.mk (blk_below (g := gb27101) (o := .cells #[.int .i64 a0_0, .int .i64 a0_1, .slice A0_2 l0_2.length c0_2] 24 (0, 0)) (by (with_reducible repeat (first | refine blk_drewN ?_ _ | refine blk_drew ?_ | refine blk_alloc ?_ _)); exact BK27101.out) hb); have n1_ := Aside0.mk (below_step (by repeat (first | (with_reducible first | exact HB.out | apply below_alloc | apply pw_below_drewN | apply below_drew1 | refine below_set ?_ GE27101.out) | exact HB.out)) hb); have n2_ := Aside0.mk (hbox); have n3_ := Aside0.mk ((by rw [hg]; exact (below_size (by repeat (first | (with_reducible first | exact HB.out | apply below_alloc | apply pw_below_drewN | apply below_drew1 | refine below_set ?_ GE27101.out) | exact HB.out))) : w.heap.size ≤ gb27102)); have n4_ := Aside0.mk ((by rw [hg]; exact (below_size (by repeat (first | (with_reducible first | exact HB.out | apply below_alloc | apply pw_below_drewN | apply below_drew1 | refine below_set ?_ GE27101.out) | exact HB.out))) : w.heap.size ≤ gb27102)); have n5_ := Aside0.mk ((by rw [hg]; exact Nat.ne_of_lt (blk_lt (g := gb27101) (o := .cells #[.int .i64 a0_0, .int .i64 a0_1, .slice A0_2 l0_2.length c0_2] 24 (0, 0)) (by (with_reducible repeat (first | refine blk_drewN ?_ _ | refine blk_drew ?_ | refine blk_alloc ?_ _)); exact BK27101.out)) : gb27101 ≠ gb27102)); have n6_ := Aside0.mk ((by rw [hg]; exact Nat.ne_of_gt (blk_lt (g := gb27101) (o := .cells #[.int .i64 a0_0, .int .i64 a0_1, .slice A0_2 l0_2.length c0_2] 24 (0, 0)) (by (with_reducible repeat (first | refine blk_drewN ?_ _ | refine blk_drew ?_ | refine blk_alloc ?_ _)); exact BK27101.out)) : gb27102 ≠ gb27101)); clear BK27101; clear HB; have BK27101 := n0_; have HB := n1_; have BK27102 := n2_; have GW27102 := n3_; have GE27102 := n4_; have NB27101_27102 := n5_; have NB27102_27101 := n6_; clear n0_ n1_ n2_ n3_ n4_ n5_ n6_; clear hb hbox hg; have hnb4 := NB27101_27102.out; have hnc4 := NB27102_27101.out; have hcz5_0 : w3.cell? ⟨gb27101, 0, none⟩ = some (.int .i64 a0_0) := (blk_cell BK27101.out 0).trans rfl; have hcz5_1 : w3.cell? ⟨gb27101, 1, none⟩ = some (.int .i64 a0_1) := (blk_cell BK27101.out 1).trans rfl; have hcz5_2 : w3.cell? ⟨gb27101, 2, none⟩ = some (.slice A0_2 l0_2.length c0_2) := (blk_cell BK27101.out 2).trans rfl; have hfz5_0 := blk_frozen BK27101.out 0; have hfz5_1 := blk_frozen BK27101.out 1; have hfz5_2 := blk_frozen BK27101.out 2) | ((with_reducible refine gate_dst (N := 3) rfl ?_); refine box_event ?hg (N := 3) ?hd (cs := #[.int .i64 0, .int .i64 0, .slice none 0 0]) (t := 24) ?hr ?_; (case hd => rfl); (case hg => rfl); (case hr => first | (go_simp; done) | (go_simp; rfl)); intro gb27103 hg w6 hbox hb; have n0_ := Aside0.mk (blk_below (g := gb27101) (o := .cells #[.int .i64 a0_0, .int .i64 a0_1, .slice A0_2 l0_2.length c0_2] 24 (0, 0)) (by (with_reducible repeat (first | refine blk_drewN ?_ _ | refine blk_drew ?_ | refine blk_alloc ?_ _)); exact BK27101.out) hb); have n1_ := Aside0.mk (blk_below (g := gb27102) (o := .cells #[.int .i64 0, .int .i64 0, .slice none 0 0] 24 (0, 0)) (by (with_reducible repeat (first | refine blk_drewN ?_ _ | refine blk_drew ?_ | refine blk_alloc ?_ _)); exact BK27102.out) hb); have n2_ := Aside0.mk (below_step (by repeat (first | (with_reducible first | exact HB.out | apply below_alloc | apply pw_below_drewN | apply below_drew1 | refine below_set ?_ GE27101.out | refine below_set ?_ GE27102.out) | exact HB.out)) hb); have n3_ := Aside0.mk (hbox); have n4_ := Aside0.mk ((by rw [hg]; exact (below_size (by repeat (first | (with_reducible first | exact HB.out | apply below_alloc | apply pw_below_drewN | apply below_drew1 | refine below_set ?_ GE27101.out | refine below_set ?_ GE27102.out) | exact HB.out))) : w.heap.size ≤ gb27103)); have n5_ := Aside0.mk ((by rw [hg]; exact (below_size (by repeat (first | (with_reducible first | exact HB.out | apply below_alloc | apply pw_below_drewN | apply below_drew1 | refine below_set ?_ GE27101.out | refine below_set ?_ GE27102.out) | exact HB.out))) : w.heap.size ≤ gb27103)); have n6_ := Aside0.mk ((by rw [hg]; exact Nat.ne_of_lt (blk_lt (g := gb27101) (o := .cells #[.int .i64 a0_0, .int .i64 a0_1, .slice A0_2 l0_2.length c0_2] 24 (0, 0)) (by (with_reducible repeat (first | refine blk_drewN ?_ _ | refine blk_drew ?_ | refine blk_alloc ?_ _)); exact BK27101.out)) : gb27101 ≠ gb27103)); have n7_ := Aside0.mk ((by rw [hg]; exact Nat.ne_of_gt (blk_lt (g := gb27101) (o := .cells #[.int .i64 a0_0, .int .i64 a0_1, .slice A0_2 l0_2.length c0_2] 24 (0, 0)) (by (with_reducible repeat (first | refine blk_drewN ?_ _ | refine blk_drew ?_ | refine blk_alloc ?_ _)); exact BK27101.out)) : gb27103 ≠ gb27101)); have n8_ := Aside0.mk ((by rw [hg]; exact Nat.ne_of_lt (blk_lt (g := gb27102) (o := .cells #[.int .i64 0, .int .i64 0, .slice none 0 0] 24 (0, 0)) (by (with_reducible repeat (first | refine blk_drewN ?_ _ | refine blk_drew ?_ | refine blk_alloc ?_ _)); exact BK27102.out)) : gb27102 ≠ gb27103)); have n9_ := Aside0.mk ((by rw [hg]; exact Nat.ne_of_gt (blk_lt (g := gb27102) (o := .cells #[.int .i64 0, .int .i64 0, .slice none 0 0] 24 (0, 0)) (by (with_reducible repeat (first | refine blk_drewN ?_ _ | refine blk_drew ?_ | refine blk_alloc ?_ _)); exact BK27102.out)) : gb27103 ≠ gb27102)); clear BK27101; clear BK27102; clear HB; have BK27101 := n0_; have BK27102 := n1_; have HB := n2_; have BK27103 := n3_; have GW27103 := n4_; have GE27103 := n5_; have NB27101_27103 := n6_; have NB27103_27101 := n7_; have NB27102_27103 := n8_; have NB27103_27102 := n9_; clear n0_ n1_ n2_ n3_ n4_ n5_ n6_ n7_ n8_ n9_; clear hb hbox hg; have hnb7 := NB27103_27101.out; have hnc7 := NB27101_27103.out; have hnb8 := NB27103_27102.out; have hnc8 := NB27102_27103.out; have hcz9_0 : w6.cell? ⟨gb27103, 0, none⟩ = some (.int .i64 0) := (blk_cell BK27103.out 0).trans rfl; have hcz9_1 : w6.cell? ⟨gb27103, 1, none⟩ = some (.int .i64 0) := (blk_cell BK27103.out 1).trans rfl; have hcz9_2 : w6.cell? ⟨gb27103, 2, none⟩ = some (.slice none 0 0) := (blk_cell BK27103.out 2).trans rfl; have hfz9_0 := blk_frozen BK27103.out 0; have hfz9_1 := blk_frozen BK27103.out 1; have hfz9_2 := blk_frozen BK27103.out 2; have hcz10_0 : w6.cell? ⟨gb27101, 0, none⟩ = some (.int .i64 a0_0) := (blk_cell BK27101.out 0).trans rfl; have hcz10_1 : w6.cell? ⟨gb27101, 1, none⟩ = some (.int .i64 a0_1) := (blk_cell BK27101.out 1).trans rfl; have hcz10_2 : w6.cell? ⟨gb27101, 2, none⟩ = some (.slice A0_2 l0_2.length c0_2) := (blk_cell BK27101.out 2).trans rfl; have hfz10_0 := blk_frozen BK27101.out 0; have hfz10_1 := blk_frozen BK27101.out 1; have hfz10_2 := blk_frozen BK27101.out 2))
 go_loopg [14] k (fun kq v14 w' => ∃ (x14_1 : Int) (x27104002_1 : List (S57)) (u27104002 : Value), v14 = .int .i64 x14_1 ∧ Aside0 (circuit_Copy.l0 kq l0_2 (l0_2.length : Int) x14_1 a0_0 a0_1 x27104002_1 = some (r1, r2, r3)) ∧ Aside0 (kq ≤ k) ∧ Aside0 (Kd.S k57 57 w' w.heap.size (fun _ => True) u27104002 x27104002_1) ∧ Aside0 (w'.heap[gb27101]? = some (.cells #[.int .i64 a0_0, .int .i64 a0_1, (.slice A0_2 l0_2.length c0_2)] 24 (0, 0))) ∧ Aside0 (w'.heap[gb27102]? = some (.cells #[.int .i64 0, .int .i64 0, (.slice none 0 0)] 24 (0, 0))) ∧ Aside0 (w'.heap[gb27103]? = some (.cells #[.int .i64 a0_0, .int .i64 a0_1, u27104002] 24 (0, 0))) ∧ Aside0 (Below w.heap.size w w'))
 case atStart => exact ⟨(0), (([] : List (S57))), (.slice none 0 0), (by first | rfl | (simp; done) | (simp [*]; done)), H', ⟨Nat.le_refl _⟩, ⟨by first | exact Kd.S_nil _ _ _ _ _ | exact Kd.N_nil _ _ _ _ _ | exact Kd.V_nil _ _ _ _ _ | exact Kd.Q_nil _ _ _ _ _ | exact Kd.R_nil _ _ _ _ _⟩, ⟨by (with_reducible repeat (first | refine blk_drewN ?_ _ | refine blk_drew ?_ | refine blk_alloc ?_ _)); refine blk_far ?_ NB27101_27103.out _; (with_reducible repeat (first | refine blk_drewN ?_ _ | refine blk_drew ?_ | refine blk_alloc ?_ _)); refine blk_far ?_ NB27101_27103.out _; (with_reducible repeat (first | refine blk_drewN ?_ _ | refine blk_drew ?_ | refine blk_alloc ?_ _)); refine blk_far ?_ NB27101_27103.out _; (with_reducible repeat (first | refine blk_drewN ?_ _ | refine blk_drew ?_ | refine blk_alloc ?_ _)); exact BK27101.out⟩, ⟨by (with_reducible repeat (first | refine blk_drewN ?_ _ | refine blk_drew ?_ | refine blk_alloc ?_ _)); refine blk_far ?_ NB27102_27103.out _; (with_reducible repeat (first | refine blk_drewN ?_ _ | refine blk_drew ?_ | refine blk_alloc ?_ _)); refine blk_far ?_ NB27102_27103.out _; (with_reducible repeat (first | refine blk_drewN ?_ _ | refine blk_drew ?_ | refine blk_alloc ?_ _)); refine blk_far ?_ NB27102_27103.out _; (with_reducible repeat (first | refine blk_drewN ?_ _ | refine blk_drew ?_ | refine blk_alloc ?_ _)); exact BK27102.out⟩, ⟨by (with_reducible repeat (first | refine blk_drewN ?_ _ | refine blk_drew ?_ | refine blk_alloc ?_ _)); refine blk_put (cs := #[.int .i64 a0_0, .int .i64 a0_1, .slice none 0 0]) ?_ 2 _ rfl; (with_reducible repeat (first | refine blk_drewN ?_ _ | refine blk_drew ?_ | refine blk_alloc ?_ _)); refine blk_put (cs := #[.int .i64 a0_0, .int .i64 0, .slice none 0 0]) ?_ 1 _ rfl; (with_reducible repeat (first | refine blk_drewN ?_ _ | refine blk_drew ?_ | refine blk_alloc ?_ _)); refine blk_put (cs := #[.int .i64 0, .int .i64 0, .slice none 0 0]) ?_ 0 _ rfl; (with_reducible repeat (first | refine blk_drewN ?_ _ | refine blk_drew ?_ | refine blk_alloc ?_ _)); exact BK27103.out⟩, ⟨by repeat (first | (with_reducible first | exact HB.out | apply below_alloc | apply pw_below_drewN | apply below_drew1 | refine below_set ?_ GE27101.out | refine below_set ?_ GE27102.out | refine below_set ?_ GE27103.out) | exact HB.out)⟩⟩
 case round =>
  clear H'
  try clear p2
  try clear c4
  try clear c5
  try clear c7
  try clear c8
  try clear hcz10_0
  try clear hcz10_1
  try clear hcz10_2
  try clear hcz5_0
  try clear hcz5_1
  try clear hcz5_2
  try clear hcz9_0
  try clear hcz9_1
  try clear hcz9_2
  try clear hfz10_0
  try clear hfz10_1
  try clear hfz10_2
  try clear hfz5_0
  try clear hfz5_1
  try clear hfz5_2
  try clear hfz9_0
  try clear hfz9_1
  try clear hfz9_2
  obtain ⟨x14_1, x27104002_1, u27104002, rfl, HA, HK1, HO_27104002, BK27101, BK27102, BK27103, HB⟩ := hrel
  cases gk with
  | zero => exact absurd HA.out (by simp [circuit_Copy.l0])
  | succ k1 =>
   have H := HA.out
   clear HA
   simp only [circuit_Copy.l0] at H
   by_cases c11 : x14_1 < (l0_2.length : Int)
   ·rw [if_pos c11] at H
    have c11b0 : decide (x14_1 < (l0_2.length : Int)) = true := decide_eq_true c11
    clear c11
    by_cases c12 : 0 ≤ x14_1
    ·rw [if_pos c12] at H
     have c12b0 : decide (0 ≤ x14_1) = true := decide_eq_true c12
     clear c12
     by_cases c13 : x14_1 < (l0_2.length : Int)
     ·rw [if_pos c13] at H
      have c13b0 : decide (x14_1 < (l0_2.length : Int)) = true := decide_eq_true c13
      clear c13
      replace H := Option.bind_eq_some_iff.mp H
      obtain ⟨t27106, A140, H⟩ := H
      replace H : (if x27104002_1.length < 2199023255552 then (circuit_Copy.l0 k1 l0_2 (l0_2.length : Int) (wrap64 (x14_1 + 1)) a0_0 a0_1 (x27104002_1 ++ [(⟨(rd_T57 l0_2 x14_1).f0, (rd_T57 l0_2 x14_1).f1, t27106, (rd_T57 l0_2 x14_1).f3, (rd_T57 l0_2 x14_1).f4, (rd_T57 l0_2 x14_1).f5⟩ : S57)])) else (none)) = some (r1, r2, r3) := H
      have A14 := Aside0.mk A140
      clear A140
      by_cases c15 : x27104002_1.length < 2199023255552
      ·rw [if_pos c15] at H
       have LMc15 := Aside0.mk c15
       clear c15
       obtain ⟨y27109, hy27109⟩ : ∃ y_ : List (S57), y_ = (x27104002_1 ++ [(⟨(rd_T57 l0_2 x14_1).f0, (rd_T57 l0_2 x14_1).f1, t27106, (rd_T57 l0_2 x14_1).f3, (rd_T57 l0_2 x14_1).f4, (rd_T57 l0_2 x14_1).f5⟩ : S57)]) := ⟨_, rfl⟩
       replace H : (circuit_Copy.l0 k1 l0_2 (l0_2.length : Int) (wrap64 (x14_1 + 1)) a0_0 a0_1 y27109) = some (r1, r2, r3) := by first | (rw [hy27109]; with_reducible exact H) | (have H2_ := (Option.bind_some _ _).symm.trans H; rw [hy27109]; with_reducible exact H2_) | (have H2_ := (Option.bind_some _ _).symm.trans H; with_reducible exact H2_) | with_reducible exact H | (rw [hy27109]; exact H) | exact H
       have Ny27109 := Aside0.mk hy27109
       clear hy27109
       have H' := Aside0.mk H
       clear H
       have p27104 : 0 ≤ (x14_1 : Int) := of_decide_eq_true (by first | (with_reducible assumption) | assumption)
       have q27104 : x14_1 < (l0_2.length : Int) := of_decide_eq_true (by first | (with_reducible assumption) | assumption)
       obtain ⟨ad27104, A27104_2, c27104_2, e27104, hx27104_0, hx27104_1, hx27104_2, hx27104_3, hx27104_4, hx27104_5, hl27104_2, hi27104_2⟩ := at_T57 HR0_2.out x14_1 p27104 q27104
       cases e27104
       replace hx27104_0 := (HB.out.cell (World.block_lt_of_cell? w _ hx27104_0)).trans hx27104_0
       replace hx27104_1 := (HB.out.cell (World.block_lt_of_cell? w _ hx27104_1)).trans hx27104_1
       replace hx27104_2 := (HB.out.cell (World.block_lt_of_cell? w _ hx27104_2)).trans hx27104_2
       replace hx27104_3 := (HB.out.cell (World.block_lt_of_cell? w _ hx27104_3)).trans hx27104_3
       replace hx27104_4 := (HB.out.cell (World.block_lt_of_cell? w _ hx27104_4)).trans hx27104_4
       replace hx27104_5 := (HB.out.cell (World.block_lt_of_cell? w _ hx27104_5)).trans hx27104_5
       have HR27104_2 := Aside0.mk hi27104_2
       have HC27104_2 := Aside0.mk hl27104_2
       clear hi27104_2 hl27104_2
       replace p27104 := eq_true p27104
       replace q27104 := eq_true q27104
       go_wp2_with (first | ((with_reducible refine gate_dst (N := 5) rfl ?_); refine box_event ?hg (N := 5) ?hd (cs := #[.int .i64 0, .int .i64 0, .slice none 0 0, .int .i64 0, .int .i64 0, .int .i64 0]) (t := 57) ?hr ?_; (case hd => rfl); (case hg => rfl); (case hr => first | (go_simp; done) | (go_simp; rfl)); intro gb27105 hg w16 hbox hb; have n0_ := Aside0.mk (Kd.S_below (Kd.S_elderB (by (with_reducible repeat (first | apply Kd.S_alloc | apply Kd.S_drewN | apply Kd.S_drew)); exact HO_27104002.out) gb27105 (Nat.le_of_eq hg.symm)) hb); have n1_ := Aside0.mk (blk_below (g := gb27101) (o := .cells #[.int .i64 a0_0, .int .i64 a0_1, .slice (some ad27104) l0_2.length c0_2] 24 (0, 0)) (by (with_reducible repeat (first | refine blk_drewN ?_ _ | refine blk_drew ?_ | refine blk_alloc ?_ _)); exact BK27101.out) hb); have n2_ := Aside0.mk (blk_below (g := gb27102) (o := .cells #[.int .i64 0, .int .i64 0, .slice none 0 0] 24 (0, 0)) (by (with_reducible repeat (first | refine blk_drewN ?_ _ | refine blk_drew ?_ | refine blk_alloc ?_ _)); exact BK27102.out) hb); have n3_ := Aside0.mk (blk_below (g := gb27103) (o := .cells #[.int .i64 a0_0, .int .i64 a0_1, u27104002] 24 (0, 0)) (by (with_reducible repeat (first | refine blk_drewN ?_ _ | refine blk_drew ?_ | refine blk_alloc ?_ _)); exact BK27103.out) hb); have n4_ := Aside0.mk (below_step (by repeat (first | (with_reducible first | exact HB.out | apply below_alloc | apply pw_below_drewN | apply below_drew1 | refine below_set ?_ GE27101.out | refine below_set ?_ GE27102.out | refine below_set ?_ GE27103.out) | exact HB.out)) hb); have n5_ := Aside0.mk (hbox); have n6_ := Aside0.mk ((by rw [hg]; exact (below_size (by repeat (first | (with_reducible first | exact HB.out | apply below_alloc | apply pw_below_drewN | apply below_drew1 | refine below_set ?_ GE27101.out | refine below_set ?_ GE27102.out | refine below_set ?_ GE27103.out) | exact HB.out))) : w.heap.size ≤ gb27105)); have n7_ := Aside0.mk ((by rw [hg]; exact (below_size (by repeat (first | (with_reducible first | exact HB.out | apply below_alloc | apply pw_below_drewN | apply below_drew1 | refine below_set ?_ GE27101.out | refine below_set ?_ GE27102.out | refine below_set ?_ GE27103.out) | exact HB.out))) : w.heap.size ≤ gb27105)); have n8_ := Aside0.mk ((by rw [hg]; exact Nat.ne_of_lt (blk_lt (g := gb27101) (o := .cells #[.int .i64 a0_0, .int .i64 a0_1, .slice (some ad27104) l0_2.length c0_2] 24 (0, 0)) (by (with_reducible repeat (first | refine blk_drewN ?_ _ | refine blk_drew ?_ | refine blk_alloc ?_ _)); exact BK27101.out)) : gb27101 ≠ gb27105)); have n9_ := Aside0.mk ((by rw [hg]; exact Nat.ne_of_gt (blk_lt (g := gb27101) (o := .cells #[.int .i64 a0_0, .int .i64 a0_1, .slice (some ad27104) l0_2.length c0_2] 24 (0, 0)) (by (with_reducible repeat (first | refine blk_drewN ?_ _ | refine blk_drew ?_ | refine blk_alloc ?_ _)); exact BK27101.out)) : gb27105 ≠ gb27101)); have n10_ := Aside0.mk ((by rw [hg]; exact Nat.ne_of_lt (blk_lt (g := gb27102) (o := .cells #[.int .i64 0, .int .i64 0, .slice none 0 0] 24 (0, 0)) (by (with_reducible repeat (first | refine blk_drewN ?_ _ | refine blk_drew ?_ | refine blk_alloc ?_ _)); exact BK27102.out)) : gb27102 ≠ gb27105)); have n11_ := Aside0.mk ((by rw [hg]; exact Nat.ne_of_gt (blk_lt (g := gb27102) (o := .cells #[.int .i64 0, .int .i64 0, .slice none 0 0] 24 (0, 0)) (by (with_reducible repeat (first | refine blk_drewN ?_ _ | refine blk_drew ?_ | refine blk_alloc ?_ _)); exact BK27102.out)) : gb27105 ≠ gb27102)); have n12_ := Aside0.mk ((by rw [hg]; exact Nat.ne_of_lt (blk_lt (g := gb27103) (o := .cells #[.int .i64 a0_0, .int .i64 a0_1, u27104002] 24 (0, 0)) (by (with_reducible repeat (first | refine blk_drewN ?_ _ | refine blk_drew ?_ | refine blk_alloc ?_ _)); exact BK27103.out)) : gb27103 ≠ gb27105)); have n13_ := Aside0.mk ((by rw [hg]; exact Nat.ne_of_gt (blk_lt (g := gb27103) (o := .cells #[.int .i64 a0_0, .int .i64 a0_1, u27104002] 24 (0, 0)) (by (with_reducible repeat (first | refine blk_drewN ?_ _ | refine blk_drew ?_ | refine blk_alloc ?_ _)); exact BK27103.out)) : gb27105 ≠ gb27103)); clear HO_27104002; clear BK27101; clear BK27102; clear BK27103; clear HB; have HO_27104002 := n0_; have BK27101 := n1_; have BK27102 := n2_; have BK27103 := n3_; have HB := n4_; have BK27105 := n5_; have GW27105 := n6_; have GE27105 := n7_; have NB27101_27105 := n8_; have NB27105_27101 := n9_; have NB27102_27105 := n10_; have NB27105_27102 := n11_; have NB27103_27105 := n12_; have NB27105_27103 := n13_; clear n0_ n1_ n2_ n3_ n4_ n5_ n6_ n7_ n8_ n9_ n10_ n11_ n12_ n13_; clear hb hbox hg; have hnb17 := NB27105_27101.out; have hnc17 := NB27101_27105.out; have hnb18 := NB27105_27102.out; have hnc18 := NB27102_27105.out; have hnb19 := NB27105_27103.out; have hnc19 := NB27103_27105.out; have hcz20_0 : w16.cell? ⟨gb27105, 0, none⟩ = some (.int .i64 0) := (blk_cell BK27105.out 0).trans rfl; have hcz20_1 : w16.cell? ⟨gb27105, 1, none⟩ = some (.int .i64 0) := (blk_cell BK27105.out 1).trans rfl; have hcz20_2 : w16.cell? ⟨gb27105, 2, none⟩ = some (.slice none 0 0) := (blk_cell BK27105.out 2).trans rfl; have hcz20_3 : w16.cell? ⟨gb27105, 3, none⟩ = some (.int .i64 0) := (blk_cell BK27105.out 3).trans rfl; have hcz20_4 : w16.cell? ⟨gb27105, 4, none⟩ = some (.int .i64 0) := (blk_cell BK27105.out 4).trans rfl; have hcz20_5 : w16.cell? ⟨gb27105, 5, none⟩ = some (.int .i64 0) := (blk_cell BK27105.out 5).trans rfl; have hfz20_0 := blk_frozen BK27105.out 0; have hfz20_1 := blk_frozen BK27105.out 1; have hfz20_2 := blk_frozen BK27105.out 2; have hfz20_3 := blk_frozen BK27105.out 3; have hfz20_4 := blk_frozen BK27105.out 4; have hfz20_5 := blk_frozen BK27105.out 5) | ((with_reducible refine gate_callee (f := 46) rfl ?_); refine goesL_ (some 20) rfl rfl Try.func46 (by kernel_rfl) rfl #[.slice A27104_2 ((rd_T57 l0_2 x14_1).f2).length c27104_2] rfl (by (try simp only [List.map_toArray, List.map_cons, List.map_nil]); first | done | rfl | (simp only [List.length_drop, List.length_take]; rfl)) ?_; (with_reducible refine (slices_Clone_int_int.calls _ _ ((rd_T57 l0_2 x14_1).f2) t27106 _ ?side1 ?side2 A14.out).mono ?_); (case side1 => exact Kd.C_below HR27104_2.out (by repeat (first | (with_reducible first | exact HB.out | apply below_alloc | apply pw_below_drewN | apply below_drew1 | refine below_set ?_ GE27101.out | refine below_set ?_ GE27102.out | refine below_set ?_ GE27103.out | refine below_set ?_ GE27105.out) | exact HB.out))); (case side2 => exact HC27104_2.out); rintro e w21 ⟨v27107, rfl, ho0, hb⟩; refine ⟨_, rfl, ?_⟩; have n0_ := Aside0.mk (Kd.S_elder' (by (with_reducible repeat (first | apply Kd.S_alloc | apply Kd.S_drewN | apply Kd.S_drew)); exact (Kd.S_mono (Kd.S_far (p := ⟨gb27105, 5, none⟩) (Kd.S_far (p := ⟨gb27105, 4, none⟩) (Kd.S_far (p := ⟨gb27105, 3, none⟩) (Kd.S_far (p := ⟨gb27105, 2, none⟩) (Kd.S_far (p := ⟨gb27105, 1, none⟩) (Kd.S_far (p := ⟨gb27105, 0, none⟩) (Kd.S_mono HO_27104002.out (fun k_ hk => (⟨hk, hk.2⟩ : _ ∧ k_ ≠ gb27105))) (fun _ hk => hk.2) (.int .i64 ((rd_T57 l0_2 x14_1).f0))) (fun _ hk => hk.2) (.int .i64 ((rd_T57 l0_2 x14_1).f1))) (fun _ hk => hk.2) (.slice A27104_2 ((rd_T57 l0_2 x14_1).f2).length c27104_2)) (fun _ hk => hk.2) (.int .i64 ((rd_T57 l0_2 x14_1).f3))) (fun _ hk => hk.2) (.int .i64 ((rd_T57 l0_2 x14_1).f4))) (fun _ hk => hk.2) (.int .i64 ((rd_T57 l0_2 x14_1).f5))) (fun _ h_ => h_.1))) (Kd.R_base ho0) hb); have n1_ := Aside0.mk (Kd.R_lower ho0 (below_size (by repeat (first | (with_reducible first | exact HB.out | apply below_alloc | apply pw_below_drewN | apply below_drew1 | refine below_set ?_ GE27101.out | refine below_set ?_ GE27102.out | refine below_set ?_ GE27103.out | refine below_set ?_ GE27105.out) | exact HB.out)))); have n2_ := Aside0.mk (blk_below (g := gb27101) (o := .cells #[.int .i64 a0_0, .int .i64 a0_1, .slice (some ad27104) l0_2.length c0_2] 24 (0, 0)) (by (with_reducible repeat (first | refine blk_drewN ?_ _ | refine blk_drew ?_ | refine blk_alloc ?_ _)); refine blk_far ?_ NB27101_27105.out _; (with_reducible repeat (first | refine blk_drewN ?_ _ | refine blk_drew ?_ | refine blk_alloc ?_ _)); refine blk_far ?_ NB27101_27105.out _; (with_reducible repeat (first | refine blk_drewN ?_ _ | refine blk_drew ?_ | refine blk_alloc ?_ _)); refine blk_far ?_ NB27101_27105.out _; (with_reducible repeat (first | refine blk_drewN ?_ _ | refine blk_drew ?_ | refine blk_alloc ?_ _)); refine blk_far ?_ NB27101_27105.out _; (with_reducible repeat (first | refine blk_drewN ?_ _ | refine blk_drew ?_ | refine blk_alloc ?_ _)); refine blk_far ?_ NB27101_27105.out _; (with_reducible repeat (first | refine blk_drewN ?_ _ | refine blk_drew ?_ | refine blk_alloc ?_ _)); refine blk_far ?_ NB27101_27105.out _; (with_reducible repeat (first | refine blk_drewN ?_ _ | refine blk_drew ?_ | refine blk_alloc ?_ _)); exact BK27101.out) hb); have n3_ := Aside0.mk (blk_below (g := gb27102) (o := .cells #[.int .i64 0, .int .i64 0, .slice none 0 0] 24 (0, 0)) (by (with_reducible repeat (first | refine blk_drewN ?_ _ | refine blk_drew ?_ | refine blk_alloc ?_ _)); refine blk_far ?_ NB27102_27105.out _; (with_reducible repeat (first | refine blk_drewN ?_ _ | refine blk_drew ?_ | refine blk_alloc ?_ _)); refine blk_far ?_ NB27102_27105.out _; (with_reducible repeat (first | refine blk_drewN ?_ _ | refine blk_drew ?_ | refine blk_alloc ?_ _)); refine blk_far ?_ NB27102_27105.out _; (with_reducible repeat (first | refine blk_drewN ?_ _ | refine blk_drew ?_ | refine blk_alloc ?_ _)); refine blk_far ?_ NB27102_27105.out _; (with_reducible repeat (first | refine blk_drewN ?_ _ | refine blk_drew ?_ | refine blk_alloc ?_ _)); refine blk_far ?_ NB27102_27105.out _; (with_reducible repeat (first | refine blk_drewN ?_ _ | refine blk_drew ?_ | refine blk_alloc ?_ _)); refine blk_far ?_ NB27102_27105.out _; (with_reducible repeat (first | refine blk_drewN ?_ _ | refine blk_drew ?_ | refine blk_alloc ?_ _)); exact BK27102.out) hb); have n4_ := Aside0.mk (blk_below (g := gb27103) (o := .cells #[.int .i64 a0_0, .int .i64 a0_1, u27104002] 24 (0, 0)) (by (with_reducible repeat (first | refine blk_drewN ?_ _ | refine blk_drew ?_ | refine blk_alloc ?_ _)); refine blk_far ?_ NB27103_27105.out _; (with_reducible repeat (first | refine blk_drewN ?_ _ | refine blk_drew ?_ | refine blk_alloc ?_ _)); refine blk_far ?_ NB27103_27105.out _; (with_reducible repeat (first | refine blk_drewN ?_ _ | refine blk_drew ?_ | refine blk_alloc ?_ _)); refine blk_far ?_ NB27103_27105.out _; (with_reducible repeat (first | refine blk_drewN ?_ _ | refine blk_drew ?_ | refine blk_alloc ?_ _)); refine blk_far ?_ NB27103_27105.out _; (with_reducible repeat (first | refine blk_drewN ?_ _ | refine blk_drew ?_ | refine blk_alloc ?_ _)); refine blk_far ?_ NB27103_27105.out _; (with_reducible repeat (first | refine blk_drewN ?_ _ | refine blk_drew ?_ | refine blk_alloc ?_ _)); refine blk_far ?_ NB27103_27105.out _; (with_reducible repeat (first | refine blk_drewN ?_ _ | refine blk_drew ?_ | refine blk_alloc ?_ _)); exact BK27103.out) hb); have n5_ := Aside0.mk (blk_below (g := gb27105) (o := .cells #[.int .i64 ((rd_T57 l0_2 x14_1).f0), .int .i64 ((rd_T57 l0_2 x14_1).f1), .slice A27104_2 ((rd_T57 l0_2 x14_1).f2).length c27104_2, .int .i64 ((rd_T57 l0_2 x14_1).f3), .int .i64 ((rd_T57 l0_2 x14_1).f4), .int .i64 ((rd_T57 l0_2 x14_1).f5)] 57 (0, 0)) (by (with_reducible repeat (first | refine blk_drewN ?_ _ | refine blk_drew ?_ | refine blk_alloc ?_ _)); refine blk_put (cs := #[.int .i64 ((rd_T57 l0_2 x14_1).f0), .int .i64 ((rd_T57 l0_2 x14_1).f1), .slice A27104_2 ((rd_T57 l0_2 x14_1).f2).length c27104_2, .int .i64 ((rd_T57 l0_2 x14_1).f3), .int .i64 ((rd_T57 l0_2 x14_1).f4), .int .i64 0]) ?_ 5 _ rfl; (with_reducible repeat (first | refine blk_drewN ?_ _ | refine blk_drew ?_ | refine blk_alloc ?_ _)); refine blk_put (cs := #[.int .i64 ((rd_T57 l0_2 x14_1).f0), .int .i64 ((rd_T57 l0_2 x14_1).f1), .slice A27104_2 ((rd_T57 l0_2 x14_1).f2).length c27104_2, .int .i64 ((rd_T57 l0_2 x14_1).f3), .int .i64 0, .int .i64 0]) ?_ 4 _ rfl; (with_reducible repeat (first | refine blk_drewN ?_ _ | refine blk_drew ?_ | refine blk_alloc ?_ _)); refine blk_put (cs := #[.int .i64 ((rd_T57 l0_2 x14_1).f0), .int .i64 ((rd_T57 l0_2 x14_1).f1), .slice A27104_2 ((rd_T57 l0_2 x14_1).f2).length c27104_2, .int .i64 0, .int .i64 0, .int .i64 0]) ?_ 3 _ rfl; (with_reducible repeat (first | refine blk_drewN ?_ _ | refine blk_drew ?_ | refine blk_alloc ?_ _)); refine blk_put (cs := #[.int .i64 ((rd_T57 l0_2 x14_1).f0), .int .i64 ((rd_T57 l0_2 x14_1).f1), .slice none 0 0, .int .i64 0, .int .i64 0, .int .i64 0]) ?_ 2 _ rfl; (with_reducible repeat (first | refine blk_drewN ?_ _ | refine blk_drew ?_ | refine blk_alloc ?_ _)); refine blk_put (cs := #[.int .i64 ((rd_T57 l0_2 x14_1).f0), .int .i64 0, .slice none 0 0, .int .i64 0, .int .i64 0, .int .i64 0]) ?_ 1 _ rfl; (with_reducible repeat (first | refine blk_drewN ?_ _ | refine blk_drew ?_ | refine blk_alloc ?_ _)); refine blk_put (cs := #[.int .i64 0, .int .i64 0, .slice none 0 0, .int .i64 0, .int .i64 0, .int .i64 0]) ?_ 0 _ rfl; (with_reducible repeat (first | refine blk_drewN ?_ _ | refine blk_drew ?_ | refine blk_alloc ?_ _)); exact BK27105.out) hb); have n6_ := Aside0.mk (below_step (by repeat (first | (with_reducible first | exact HB.out | apply below_alloc | apply pw_below_drewN | apply below_drew1 | refine below_set ?_ GE27101.out | refine below_set ?_ GE27102.out | refine below_set ?_ GE27103.out | refine below_set ?_ GE27105.out) | exact HB.out)) hb); clear HO_27104002; clear BK27101; clear BK27102; clear BK27103; clear BK27105; clear HB; have HO_27104002 := n0_; have HO27108 := n1_; have BK27101 := n2_; have BK27102 := n3_; have BK27103 := n4_; have BK27105 := n5_; have HB := n6_; clear n0_ n1_ n2_ n3_ n4_ n5_ n6_; (try clear hb); (try clear hb2); (try clear hk); (try clear hi); (try clear ho0); obtain ⟨Ao22, co22, eo22⟩ := Kd.R_slice HO27108.out; subst eo22; have hcz23_0 : w21.cell? ⟨gb27105, 0, none⟩ = some (.int .i64 ((rd_T57 l0_2 x14_1).f0)) := (blk_cell BK27105.out 0).trans rfl; have hcz23_1 : w21.cell? ⟨gb27105, 1, none⟩ = some (.int .i64 ((rd_T57 l0_2 x14_1).f1)) := (blk_cell BK27105.out 1).trans rfl; have hcz23_2 : w21.cell? ⟨gb27105, 2, none⟩ = some (.slice A27104_2 ((rd_T57 l0_2 x14_1).f2).length c27104_2) := (blk_cell BK27105.out 2).trans rfl; have hcz23_3 : w21.cell? ⟨gb27105, 3, none⟩ = some (.int .i64 ((rd_T57 l0_2 x14_1).f3)) := (blk_cell BK27105.out 3).trans rfl; have hcz23_4 : w21.cell? ⟨gb27105, 4, none⟩ = some (.int .i64 ((rd_T57 l0_2 x14_1).f4)) := (blk_cell BK27105.out 4).trans rfl; have hcz23_5 : w21.cell? ⟨gb27105, 5, none⟩ = some (.int .i64 ((rd_T57 l0_2 x14_1).f5)) := (blk_cell BK27105.out 5).trans rfl; have hfz23_0 := blk_frozen BK27105.out 0; have hfz23_1 := blk_frozen BK27105.out 1; have hfz23_2 := blk_frozen BK27105.out 2; have hfz23_3 := blk_frozen BK27105.out 3; have hfz23_4 := blk_frozen BK27105.out 4; have hfz23_5 := blk_frozen BK27105.out 5) | ((with_reducible refine gate_store (t := 25) (p := 21) rfl ?_); refine store_event (t := 25) (p := 21) (v := ?vo_w24) (w1 := (w21.setCell ⟨gb27105, 2, none⟩ (.slice Ao22 t27106.length co22))) ?hg ?ho ?hn ?hr ?_; (case ho => rfl); (case hg => rfl); (case hn => rfl); (case hr => first | (go_simp; done) | (go_simp; rfl)); intro w24 hw; have n0_ : Aside0 (Kd.S k57 57 w24 w.heap.size (fun k_ => some k_ ≠ (.slice Ao22 t27106.length co22 : Value).ownBlock ∧ k_ ≠ gb27105) u27104002 x27104002_1) := ⟨(by rw [hw]; exact (by (with_reducible repeat (first | apply Kd.S_alloc | apply Kd.S_drewN | apply Kd.S_drew)); exact Kd.S_mono (Kd.S_far (p := ⟨gb27105, 2, none⟩) (Kd.S_mono HO_27104002.out (fun k_ hk => (⟨hk, hk.1.2⟩ : _ ∧ k_ ≠ gb27105))) (fun _ hk => hk.2) (.slice Ao22 t27106.length co22)) (fun _ hk => ⟨hk.1.2, hk.1.1.2⟩)))⟩; have n1_ : Aside0 (Kd.R (Kd.int .i64) 3 w24 w.heap.size (fun _ => True) (.slice Ao22 t27106.length co22) t27106) := ⟨(by rw [hw]; exact (by (with_reducible repeat (first | apply Kd.R_alloc | apply Kd.R_drewN | apply Kd.R_drew)); exact Kd.R_mono (Kd.R_far (p := ⟨gb27105, 2, none⟩) (Kd.R_types HO27108.out BK27105.out (by decide)) (fun _ hk => hk.2) (.slice Ao22 t27106.length co22)) (fun _ hk => trivial)))⟩; have n2_ : Aside0 (w24.heap[gb27101]? = some (.cells #[.int .i64 a0_0, .int .i64 a0_1, .slice (some ad27104) l0_2.length c0_2] 24 (0, 0))) := ⟨(by rw [hw]; exact (by (with_reducible repeat (first | refine blk_drewN ?_ _ | refine blk_drew ?_ | refine blk_alloc ?_ _)); refine blk_far ?_ NB27101_27105.out _; (with_reducible repeat (first | refine blk_drewN ?_ _ | refine blk_drew ?_ | refine blk_alloc ?_ _)); exact BK27101.out))⟩; have n3_ : Aside0 (w24.heap[gb27102]? = some (.cells #[.int .i64 0, .int .i64 0, .slice none 0 0] 24 (0, 0))) := ⟨(by rw [hw]; exact (by (with_reducible repeat (first | refine blk_drewN ?_ _ | refine blk_drew ?_ | refine blk_alloc ?_ _)); refine blk_far ?_ NB27102_27105.out _; (with_reducible repeat (first | refine blk_drewN ?_ _ | refine blk_drew ?_ | refine blk_alloc ?_ _)); exact BK27102.out))⟩; have n4_ : Aside0 (w24.heap[gb27103]? = some (.cells #[.int .i64 a0_0, .int .i64 a0_1, u27104002] 24 (0, 0))) := ⟨(by rw [hw]; exact (by (with_reducible repeat (first | refine blk_drewN ?_ _ | refine blk_drew ?_ | refine blk_alloc ?_ _)); refine blk_far ?_ NB27103_27105.out _; (with_reducible repeat (first | refine blk_drewN ?_ _ | refine blk_drew ?_ | refine blk_alloc ?_ _)); exact BK27103.out))⟩; have n5_ : Aside0 (w24.heap[gb27105]? = some (.cells #[.int .i64 ((rd_T57 l0_2 x14_1).f0), .int .i64 ((rd_T57 l0_2 x14_1).f1), .slice Ao22 t27106.length co22, .int .i64 ((rd_T57 l0_2 x14_1).f3), .int .i64 ((rd_T57 l0_2 x14_1).f4), .int .i64 ((rd_T57 l0_2 x14_1).f5)] 57 (0, 0))) := ⟨(by rw [hw]; exact (by (with_reducible repeat (first | refine blk_drewN ?_ _ | refine blk_drew ?_ | refine blk_alloc ?_ _)); refine blk_put (cs := #[.int .i64 ((rd_T57 l0_2 x14_1).f0), .int .i64 ((rd_T57 l0_2 x14_1).f1), .slice A27104_2 ((rd_T57 l0_2 x14_1).f2).length c27104_2, .int .i64 ((rd_T57 l0_2 x14_1).f3), .int .i64 ((rd_T57 l0_2 x14_1).f4), .int .i64 ((rd_T57 l0_2 x14_1).f5)]) ?_ 2 _ rfl; (with_reducible repeat (first | refine blk_drewN ?_ _ | refine blk_drew ?_ | refine blk_alloc ?_ _)); exact BK27105.out))⟩; have n6_ : Aside0 (Below w.heap.size w w24) := ⟨(by rw [hw]; exact (by repeat (first | (with_reducible first | exact HB.out | apply below_alloc | apply pw_below_drewN | apply below_drew1 | refine below_set ?_ GE27101.out | refine below_set ?_ GE27102.out | refine below_set ?_ GE27103.out | refine below_set ?_ GE27105.out) | exact HB.out)))⟩; clear hw; clear HO_27104002; clear HO27108; clear BK27101; clear BK27102; clear BK27103; clear BK27105; clear HB; have HO_27104002 := n0_; have HO27108 := n1_; have BK27101 := n2_; have BK27102 := n3_; have BK27103 := n4_; have BK27105 := n5_; have HB := n6_; clear n0_ n1_ n2_ n3_ n4_ n5_ n6_; have hnb25 := NB27103_27101.out; have hnc25 := NB27101_27103.out; have hnb26 := NB27103_27102.out; have hnc26 := NB27102_27103.out; have hcz27_0 : w24.cell? ⟨gb27103, 0, none⟩ = some (.int .i64 a0_0) := (blk_cell BK27103.out 0).trans rfl; have hcz27_1 : w24.cell? ⟨gb27103, 1, none⟩ = some (.int .i64 a0_1) := (blk_cell BK27103.out 1).trans rfl; have hcz27_2 : w24.cell? ⟨gb27103, 2, none⟩ = some (u27104002) := (blk_cell BK27103.out 2).trans rfl; have hfz27_0 := blk_frozen BK27103.out 0; have hfz27_1 := blk_frozen BK27103.out 1; have hfz27_2 := blk_frozen BK27103.out 2; have hcz28_0 : w24.cell? ⟨gb27105, 0, none⟩ = some (.int .i64 ((rd_T57 l0_2 x14_1).f0)) := (blk_cell BK27105.out 0).trans rfl; have hcz28_1 : w24.cell? ⟨gb27105, 1, none⟩ = some (.int .i64 ((rd_T57 l0_2 x14_1).f1)) := (blk_cell BK27105.out 1).trans rfl; have hcz28_2 : w24.cell? ⟨gb27105, 2, none⟩ = some (.slice Ao22 t27106.length co22) := (blk_cell BK27105.out 2).trans rfl; have hcz28_3 : w24.cell? ⟨gb27105, 3, none⟩ = some (.int .i64 ((rd_T57 l0_2 x14_1).f3)) := (blk_cell BK27105.out 3).trans rfl; have hcz28_4 : w24.cell? ⟨gb27105, 4, none⟩ = some (.int .i64 ((rd_T57 l0_2 x14_1).f4)) := (blk_cell BK27105.out 4).trans rfl; have hcz28_5 : w24.cell? ⟨gb27105, 5, none⟩ = some (.int .i64 ((rd_T57 l0_2 x14_1).f5)) := (blk_cell BK27105.out 5).trans rfl; have hfz28_0 := blk_frozen BK27105.out 0; have hfz28_1 := blk_frozen BK27105.out 1; have hfz28_2 := blk_frozen BK27105.out 2; have hfz28_3 := blk_frozen BK27105.out 3; have hfz28_4 := blk_frozen BK27105.out 4; have hfz28_5 := blk_frozen BK27105.out 5) | ((with_reducible refine gate_builtin (b := .append) (xs := #[.tmp 23, .tmp 25]) rfl ?_); at_builtin; refine Kd.S_append k57 (w0 := w) w.heap.size rfl (.tmp 23) (.tmp 25) 22 57 (.agg #[(.int .i64 0), (.int .i64 0), (.slice none 0 0), (.int .i64 0), (.int .i64 0), (.int .i64 0)]) 64 rfl Try.underlying22 info57 rfl (by decide) (by omega) u27104002 x27104002_1 (⟨(rd_T57 l0_2 x14_1).f0, (rd_T57 l0_2 x14_1).f1, t27106, (rd_T57 l0_2 x14_1).f3, (rd_T57 l0_2 x14_1).f4, (rd_T57 l0_2 x14_1).f5⟩ : S57) [.int .i64 ((rd_T57 l0_2 x14_1).f0), .int .i64 ((rd_T57 l0_2 x14_1).f1), .slice Ao22 t27106.length co22, .int .i64 ((rd_T57 l0_2 x14_1).f3), .int .i64 ((rd_T57 l0_2 x14_1).f4), .int .i64 ((rd_T57 l0_2 x14_1).f5)] (fun k_ => k_ ≠ gb27105) (fun k_ => some k_ = (.slice Ao22 t27106.length co22 : Value).ownBlock) rfl rfl ?aP (fun k_ hk_ => ((Kd.R_mono (ok' := fun k_ => ((fun k_ => k_ ≠ gb27105)) k_ ∧ some k_ ≠ (u27104002 : Value).ownBlock) (Kd.R_types (Kd.R_apart' (HO27108.out) (Kd.S_typed HO_27104002.out) (by decide)) BK27105.out (by decide)) (fun k_ hk => ⟨hk.2, hk.1.2⟩))).1 k_ hk_.symm) ?aF ?aO ?aB ?aS ?aL ?_; (case aP => exact k57_mkM _ _ _ (⟨(rd_T57 l0_2 x14_1).f0, (rd_T57 l0_2 x14_1).f1, t27106, (rd_T57 l0_2 x14_1).f3, (rd_T57 l0_2 x14_1).f4, (rd_T57 l0_2 x14_1).f5⟩ : S57) (Kd.R_mono (Kd.R_tight rfl (Kd.R_mono (ok' := fun k_ => ((fun k_ => k_ ≠ gb27105)) k_ ∧ some k_ ≠ (u27104002 : Value).ownBlock) (Kd.R_types (Kd.R_apart' (HO27108.out) (Kd.S_typed HO_27104002.out) (by decide)) BK27105.out (by decide)) (fun k_ hk => ⟨hk.2, hk.1.2⟩))) (fun _ h_ => h_))); (case aB => exact (by repeat (first | (with_reducible first | exact HB.out | apply below_alloc | apply pw_below_drewN | apply below_drew1 | refine below_set ?_ GE27101.out | refine below_set ?_ GE27102.out | refine below_set ?_ GE27103.out | refine below_set ?_ GE27105.out) | exact HB.out))); (case aF => exact (fun k_ hk => Kd.freshB (g := gb27105) (o := .cells #[.int .i64 ((rd_T57 l0_2 x14_1).f0), .int .i64 ((rd_T57 l0_2 x14_1).f1), .slice Ao22 t27106.length co22, .int .i64 ((rd_T57 l0_2 x14_1).f3), .int .i64 ((rd_T57 l0_2 x14_1).f4), .int .i64 ((rd_T57 l0_2 x14_1).f5)] 57 (0, 0)) (by (with_reducible repeat (first | refine blk_drewN ?_ _ | refine blk_drew ?_ | refine blk_alloc ?_ _)); exact BK27105.out) k_ hk)); (case aO => exact (by (with_reducible repeat (first | apply Kd.S_alloc | apply Kd.S_drewN | apply Kd.S_drew)); exact Kd.S_mono HO_27104002.out (fun k_ hk => ⟨hk.2, fun e_ => hk.1 e_⟩))); (case aS => exact (below_size (by repeat (first | (with_reducible first | exact HB.out | apply below_alloc | apply pw_below_drewN | apply below_drew1 | refine below_set ?_ GE27101.out | refine below_set ?_ GE27102.out | refine below_set ?_ GE27103.out | refine below_set ?_ GE27105.out) | exact HB.out)))); (case aL => have := LMc15.out; omega); intro v27110 w29 ho hb hg hat; rw [← Ny27109.out] at ho; have n0_ := Aside0.mk (blk_grown (g := gb27101) (o := .cells #[.int .i64 a0_0, .int .i64 a0_1, .slice (some ad27104) l0_2.length c0_2] 24 (0, 0)) (by (with_reducible repeat (first | refine blk_drewN ?_ _ | refine blk_drew ?_ | refine blk_alloc ?_ _)); exact BK27101.out) hg (Kd.S_ne HO_27104002.out BK27101.out (by decide))); have n1_ := Aside0.mk (blk_grown (g := gb27102) (o := .cells #[.int .i64 0, .int .i64 0, .slice none 0 0] 24 (0, 0)) (by (with_reducible repeat (first | refine blk_drewN ?_ _ | refine blk_drew ?_ | refine blk_alloc ?_ _)); exact BK27102.out) hg (Kd.S_ne HO_27104002.out BK27102.out (by decide))); have n2_ := Aside0.mk (blk_grown (g := gb27103) (o := .cells #[.int .i64 a0_0, .int .i64 a0_1, u27104002] 24 (0, 0)) (by (with_reducible repeat (first | refine blk_drewN ?_ _ | refine blk_drew ?_ | refine blk_alloc ?_ _)); exact BK27103.out) hg (Kd.S_ne HO_27104002.out BK27103.out (by decide))); have n3_ := Aside0.mk (blk_grown (g := gb27105) (o := .cells #[.int .i64 ((rd_T57 l0_2 x14_1).f0), .int .i64 ((rd_T57 l0_2 x14_1).f1), .slice Ao22 t27106.length co22, .int .i64 ((rd_T57 l0_2 x14_1).f3), .int .i64 ((rd_T57 l0_2 x14_1).f4), .int .i64 ((rd_T57 l0_2 x14_1).f5)] 57 (0, 0)) (by (with_reducible repeat (first | refine blk_drewN ?_ _ | refine blk_drew ?_ | refine blk_alloc ?_ _)); exact BK27105.out) hg (Kd.S_away HO_27104002.out (fun _ hk => hk.2))); have n4_ := Aside0.mk (hb); have n5_ := Aside0.mk (ho); clear BK27101; clear BK27102; clear BK27103; clear BK27105; clear HB; clear HO_27104002; clear HO27108; have BK27101 := n0_; have BK27102 := n1_; have BK27103 := n2_; have BK27105 := n3_; have HB := n4_; have HO27111 := n5_; clear n0_ n1_ n2_ n3_ n4_ n5_; clear ho hb hg hat; obtain ⟨Ao30, co30, eo30⟩ := Kd.S_slice HO27111.out; subst eo30; have hcz31_0 : w29.cell? ⟨gb27103, 0, none⟩ = some (.int .i64 a0_0) := (blk_cell BK27103.out 0).trans rfl; have hcz31_1 : w29.cell? ⟨gb27103, 1, none⟩ = some (.int .i64 a0_1) := (blk_cell BK27103.out 1).trans rfl; have hcz31_2 : w29.cell? ⟨gb27103, 2, none⟩ = some (u27104002) := (blk_cell BK27103.out 2).trans rfl; have hfz31_0 := blk_frozen BK27103.out 0; have hfz31_1 := blk_frozen BK27103.out 1; have hfz31_2 := blk_frozen BK27103.out 2))
       go_roundg k1
       case measure => have := HK1.out; omega
       case rel => exact ⟨(wrap64 (x14_1 + 1)), (y27109), (.slice Ao30 y27109.length co30), (by first | rfl | (simp; done) | (simp [*]; done)), H', ⟨by have := HK1.out; omega⟩, ⟨by (with_reducible repeat (first | apply Kd.S_alloc | apply Kd.S_drewN | apply Kd.S_drew)); exact Kd.S_mono (Kd.S_far (p := ⟨gb27103, 2, none⟩) (Kd.S_types HO27111.out BK27103.out (by decide)) (fun _ hk => hk.2) (.slice Ao30 y27109.length co30)) (fun _ hk => trivial)⟩, ⟨by (with_reducible repeat (first | refine blk_drewN ?_ _ | refine blk_drew ?_ | refine blk_alloc ?_ _)); refine blk_far ?_ NB27101_27103.out _; (with_reducible repeat (first | refine blk_drewN ?_ _ | refine blk_drew ?_ | refine blk_alloc ?_ _)); exact BK27101.out⟩, ⟨by (with_reducible repeat (first | refine blk_drewN ?_ _ | refine blk_drew ?_ | refine blk_alloc ?_ _)); refine blk_far ?_ NB27102_27103.out _; (with_reducible repeat (first | refine blk_drewN ?_ _ | refine blk_drew ?_ | refine blk_alloc ?_ _)); exact BK27102.out⟩, ⟨by (with_reducible repeat (first | refine blk_drewN ?_ _ | refine blk_drew ?_ | refine blk_alloc ?_ _)); refine blk_put (cs := #[.int .i64 a0_0, .int .i64 a0_1, u27104002]) ?_ 2 _ rfl; (with_reducible repeat (first | refine blk_drewN ?_ _ | refine blk_drew ?_ | refine blk_alloc ?_ _)); exact BK27103.out⟩, ⟨by repeat (first | (with_reducible first | exact HB.out | apply below_alloc | apply pw_below_drewN | apply below_drew1 | refine below_set ?_ GE27101.out | refine below_set ?_ GE27102.out | refine below_set ?_ GE27103.out | refine below_set ?_ GE27105.out) | exact HB.out)⟩⟩
      ·rw [if_neg c15] at H
       exact absurd H (by simp)
     ·rw [if_neg c13] at H
      exact absurd H (by simp)
    ·rw [if_neg c12] at H
     exact absurd H (by simp)
   ·rw [if_neg c11] at H
    have c11b0 : decide (x14_1 < (l0_2.length : Int)) = false := decide_eq_false c11
    clear c11
    simp only [Option.some.injEq, Prod.mk.injEq] at H
    obtain ⟨rfl, rfl, rfl⟩ := H
    have hnb32 := NB27103_27101.out
    have hnc32 := NB27101_27103.out
    have hnb33 := NB27103_27102.out
    have hnc33 := NB27102_27103.out
    have hcz34_0 : wr.cell? ⟨gb27103, 0, none⟩ = some (.int .i64 a0_0) := (blk_cell BK27103.out 0).trans rfl
    have hcz34_1 : wr.cell? ⟨gb27103, 1, none⟩ = some (.int .i64 a0_1) := (blk_cell BK27103.out 1).trans rfl
    have hcz34_2 : wr.cell? ⟨gb27103, 2, none⟩ = some (u27104002) := (blk_cell BK27103.out 2).trans rfl
    have hfz34_0 := blk_frozen BK27103.out 0
    have hfz34_1 := blk_frozen BK27103.out 1
    have hfz34_2 := blk_frozen BK27103.out 2
    have hnb35 := NB27102_27101.out
    have hnc35 := NB27101_27102.out
    have hcz36_0 : wr.cell? ⟨gb27102, 0, none⟩ = some (.int .i64 0) := (blk_cell BK27102.out 0).trans rfl
    have hcz36_1 : wr.cell? ⟨gb27102, 1, none⟩ = some (.int .i64 0) := (blk_cell BK27102.out 1).trans rfl
    have hcz36_2 : wr.cell? ⟨gb27102, 2, none⟩ = some (.slice none 0 0) := (blk_cell BK27102.out 2).trans rfl
    have hfz36_0 := blk_frozen BK27102.out 0
    have hfz36_1 := blk_frozen BK27102.out 1
    have hfz36_2 := blk_frozen BK27102.out 2
    obtain ⟨Ao37, co37, eo37⟩ := Kd.S_slice HO_27104002.out
    subst eo37
    go_wp2
    refine bodyPost_ret (results_cell_row rfl _ _ gb27102 24 #[.int .i64 a0_0, .int .i64 a0_1, .slice Ao37 x27104002_1.length co37] (0, 0) _ rfl (by (with_reducible repeat (first | refine blk_drewN ?_ _ | refine blk_drew ?_ | refine blk_alloc ?_ _)); refine blk_put (cs := #[.int .i64 a0_0, .int .i64 a0_1, .slice none 0 0]) ?_ 2 _ rfl; (with_reducible repeat (first | refine blk_drewN ?_ _ | refine blk_drew ?_ | refine blk_alloc ?_ _)); refine blk_put (cs := #[.int .i64 a0_0, .int .i64 0, .slice none 0 0]) ?_ 1 _ rfl; (with_reducible repeat (first | refine blk_drewN ?_ _ | refine blk_drew ?_ | refine blk_alloc ?_ _)); refine blk_put (cs := #[.int .i64 0, .int .i64 0, .slice none 0 0]) ?_ 0 _ rfl; (with_reducible repeat (first | refine blk_drewN ?_ _ | refine blk_drew ?_ | refine blk_alloc ?_ _)); exact BK27102.out) Try.underlying24 rfl (by kernel_rfl)) rfl ?_
    exact ⟨_, by first | rfl | (simp [errW_none, errW_some] <;> rfl) | (simp [*, errW_none, errW_some] <;> rfl), by (with_reducible repeat (first | apply Kd.S_alloc | apply Kd.S_drewN | apply Kd.S_drew)); exact Kd.S_mono (Kd.S_far (p := ⟨gb27102, 2, none⟩) (Kd.S_far (p := ⟨gb27102, 1, none⟩) (Kd.S_far (p := ⟨gb27102, 0, none⟩) (Kd.S_types HO_27104002.out BK27102.out (by decide)) (fun _ hk => hk.2) (.int .i64 a0_0)) (fun _ hk => hk.2) (.int .i64 a0_1)) (fun _ hk => hk.2) (.slice Ao37 x27104002_1.length co37)) (fun _ hk => trivial), by repeat (first | (with_reducible first | exact HB.out | apply below_alloc | apply pw_below_drewN | apply below_drew1 | refine below_set ?_ GE27101.out | refine below_set ?_ GE27102.out | refine below_set ?_ GE27103.out) | exact HB.out)⟩
def layers_only.l0 : Nat → List (S57) → List Int → Int → Int → Int → Int → List (S57) → Option (Int × Int × (List (S57)))
 | 0, _, _, _, _, _, _, _ => none
 | k + 1, x6, x11, x12, x13, x20109000, x20109001, x20109002 => if x13 < x12 then (if 0 ≤ x13 then (if x13 < (x11.length : Int) then (if 0 ≤ (rd x11 x13) then (if (rd x11 x13) < (x20109002.length : Int) then (if x6.length < 2199023255552 then (layers_only.l0 k (x6 ++ [(⟨(rd_T57 x20109002 (rd x11 x13)).f0, (rd_T57 x20109002 (rd x11 x13)).f1, (rd_T57 x20109002 (rd x11 x13)).f2, (rd_T57 x20109002 (rd x11 x13)).f3, (rd_T57 x20109002 (rd x11 x13)).f4, (rd_T57 x20109002 (rd x11 x13)).f5⟩ : S57)]) x11 x12 (wrap64 (x13 + 1)) x20109000 x20109001 x20109002) else (none)) else (none)) else (none)) else (none)) else (none)) else (some (x20109000, x20109001, x6))
def layers_only.f (k : Nat) (a0_0 : Int) (a0_1 : Int) (l0_2 : List (S57)) (l1 : List Int) : Option (Int × Int × (List (S57))) := (circuit_Copy.f k a0_0 a0_1 l0_2).bind fun bt20103 => (layers_only.l0 k ([] : List (S57)) l1 (l1.length : Int) 0 bt20103.1 bt20103.2.1 bt20103.2.2)
set_option maxHeartbeats 8000000 in
set_option maxRecDepth 100000 in
theorem layers_only.calls (k : Nat) (a0_0 : Int) (a0_1 : Int) (A0_2 : Option Addr) (c0_2 : Nat) (l0_2 : List (S57)) (A1 : Option Addr) (c1 : Nat) (l1 : List Int) (r1 : Int) (r2 : Int) (r3 : List (S57)) (w : World) (hr0_2 : Kd.C k57 w A0_2 l0_2.length l0_2) (hc0_2 : l0_2.length ≤ c0_2) (hr1 : Kd.C (Kd.int .i64) w A1 l1.length l1) (hc1 : l1.length ≤ c1) (h : layers_only.f k a0_0 a0_1 l0_2 l1 = some (r1, r2, r3)) :
  Calls Try.prog 40 #[.agg #[.int .i64 a0_0, .int .i64 a0_1, .slice A0_2 l0_2.length c0_2], .slice A1 l1.length c1] w fun e w' => ∃ v2_ : Value, e = .returned (.agg #[.int .i64 r1, .int .i64 r2, v2_]) ∧ Kd.N k57 57 w' w.heap.size (fun k_ => (w.heap.size ≤ k_)) v2_ r3 ∧ Below w.heap.size w w' := by
 have hu24 := Try.underlying24
 have hu57 := Try.underlying57
 have HR0_2 := Aside0.mk hr0_2
 have HC0_2 := Aside0.mk hc0_2
 clear hr0_2 hc0_2
 have HR1 := Aside0.mk hr1
 have HC1 := Aside0.mk hc1
 clear hr1 hc1
 have HB := Aside0.mk (Below.refl w.heap.size w)
 have H : ((circuit_Copy.f k a0_0 a0_1 l0_2).bind fun bt20103 => (layers_only.l0 k ([] : List (S57)) l1 (l1.length : Int) 0 bt20103.1 bt20103.2.1 bt20103.2.2)) = some (r1, r2, r3) := h
 clear h
 replace H := Option.bind_eq_some_iff.mp H
 obtain ⟨⟨t20103, t20104, t20105⟩, A30, H⟩ := H
 replace H : (layers_only.l0 k ([] : List (S57)) l1 (l1.length : Int) 0 t20103 t20104 t20105) = some (r1, r2, r3) := H
 have A3 := Aside0.mk A30
 clear A30
 have H' := Aside0.mk H
 clear H
 go_enter Try.func40, Try.ntmps40
 go_wp2_with (first | ((with_reducible refine gate_dst (N := 2) rfl ?_); refine box_event ?hg (N := 2) ?hd (cs := #[.int .i64 a0_0, .int .i64 a0_1, .slice A0_2 l0_2.length c0_2]) (t := 24) ?hr ?_; (case hd => rfl); (case hg => rfl); (case hr => first | (go_simp; done) | (go_simp; rfl)); intro gb20101 hg w4 hbox hb; have n0_ := Aside0.mk (below_step (by repeat (first | (with_reducible first | exact HB.out | apply below_alloc | apply pw_below_drewN | apply below_drew1) | exact HB.out)) hb); have n1_ := Aside0.mk (hbox); have n2_ := Aside0.mk ((by rw [hg]; exact (below_size (by repeat (first | (with_reducible first | exact HB.out | apply below_alloc | apply pw_below_drewN | apply below_drew1) | exact HB.out))) : w.heap.size ≤ gb20101)); have n3_ := Aside0.mk ((by rw [hg]; exact (below_size (by repeat (first | (with_reducible first | exact HB.out | apply below_alloc | apply pw_below_drewN | apply below_drew1) | exact HB.out))) : w.heap.size ≤ gb20101)); clear HB; have HB := n0_; have BK20101 := n1_; have GW20101 := n2_; have GE20101 := n3_; clear n0_ n1_ n2_ n3_; clear hb hbox hg) | ((with_reducible refine gate_dst (N := 4) rfl ?_); refine box_event ?hg (N := 4) ?hd (cs := #[.int .i64 0, .int .i64 0, .slice none 0 0]) (t := 24) ?hr ?_; (case hd => rfl); (case hg => rfl); (case hr => first | (go_simp; done) | (go_simp; rfl)); intro gb20102 hg w5 hbox hb; have n0_ := Aside0.mk (blk_below (g := gb20101) (o := .cells #[.int .i64 a0_0, .int .i64 a0_1, .slice A0_2 l0_2.length c0_2] 24 (0, 0)) (by (with_reducible repeat (first | refine blk_drewN ?_ _ | refine blk_drew ?_ | refine blk_alloc ?_ _)); exact BK20101.out) hb); have n1_ := Aside0.mk (below_step (by repeat (first | (with_reducible first | exact HB.out | apply below_alloc | apply pw_below_drewN | apply below_drew1 | refine below_set ?_ GE20101.out) | exact HB.out)) hb); have n2_ := Aside0.mk (hbox); have n3_ := Aside0.mk ((by rw [hg]; exact (below_size (by repeat (first | (with_reducible first | exact HB.out | apply below_alloc | apply pw_below_drewN | apply below_drew1 | refine below_set ?_ GE20101.out) | exact HB.out))) : w.heap.size ≤ gb20102)); have n4_ := Aside0.mk ((by rw [hg]; exact (below_size (by repeat (first | (with_reducible first | exact HB.out | apply below_alloc | apply pw_below_drewN | apply below_drew1 | refine below_set ?_ GE20101.out) | exact HB.out))) : w.heap.size ≤ gb20102)); have n5_ := Aside0.mk ((by rw [hg]; exact Nat.ne_of_lt (blk_lt (g := gb20101) (o := .cells #[.int .i64 a0_0, .int .i64 a0_1, .slice A0_2 l0_2.length c0_2] 24 (0, 0)) (by (with_reducible repeat (first | refine blk_drewN ?_ _ | refine blk_drew ?_ | refine blk_alloc ?_ _)); exact BK20101.out)) : gb20101 ≠ gb20102)); have n6_ := Aside0.mk ((by rw [hg]; exact Nat.ne_of_gt (blk_lt (g := gb20101) (o := .cells #[.int .i64 a0_0, .int .i64 a0_1, .slice A0_2 l0_2.length c0_2] 24 (0, 0)) (by (with_reducible repeat (first | refine blk_drewN ?_ _ | refine blk_drew ?_ | refine blk_alloc ?_ _)); exact BK20101.out)) : gb20102 ≠ gb20101)); clear BK20101; clear HB; have BK20101 := n0_; have HB := n1_; have BK20102 := n2_; have GW20102 := n3_; have GE20102 := n4_; have NB20101_20102 := n5_; have NB20102_20101 := n6_; clear n0_ n1_ n2_ n3_ n4_ n5_ n6_; clear hb hbox hg; have hnb6 := NB20101_20102.out; have hnc6 := NB20102_20101.out; have hcz7_0 : w5.cell? ⟨gb20101, 0, none⟩ = some (.int .i64 a0_0) := (blk_cell BK20101.out 0).trans rfl; have hcz7_1 : w5.cell? ⟨gb20101, 1, none⟩ = some (.int .i64 a0_1) := (blk_cell BK20101.out 1).trans rfl; have hcz7_2 : w5.cell? ⟨gb20101, 2, none⟩ = some (.slice A0_2 l0_2.length c0_2) := (blk_cell BK20101.out 2).trans rfl; have hfz7_0 := blk_frozen BK20101.out 0; have hfz7_1 := blk_frozen BK20101.out 1; have hfz7_2 := blk_frozen BK20101.out 2) | ((with_reducible refine gate_callee (f := 54) rfl ?_); refine goesL_ (some 10) rfl rfl Try.func54 (by kernel_rfl) rfl #[.agg #[.int .i64 a0_0, .int .i64 a0_1, .slice A0_2 l0_2.length c0_2]] rfl (by (try simp only [List.map_toArray, List.map_cons, List.map_nil]); first | done | rfl | (simp only [List.length_drop, List.length_take]; rfl)) ?_; (with_reducible refine (circuit_Copy.calls k a0_0 a0_1 _ _ l0_2 t20103 t20104 t20105 _ ?side1 ?side2 A3.out).mono ?_); (case side1 => repeat (first | exact (Kd.C_below HR0_2.out HB.out) | (with_reducible refine Kd.C_alloc ?_ _) | (with_reducible refine Kd.C_drewN ?_ _) | (with_reducible refine Kd.C_drew ?_))); (case side2 => exact HC0_2.out); rintro e w8 ⟨v20106, rfl, ho0, hb⟩; refine ⟨_, rfl, ?_⟩; have n0_ := Aside0.mk (Kd.N_lower (Kd.N_mono (ok' := fun k_ => (w.heap.size ≤ k_) ∧ k_ ≠ gb20101 ∧ k_ ≠ gb20102) (Kd.S_N (Kd.S_bound ho0)) (fun k_ hk_ => ⟨(Nat.le_trans (below_size (by repeat (first | (with_reducible first | exact HB.out | apply below_alloc | apply pw_below_drewN | apply below_drew1 | refine below_set ?_ GE20101.out | refine below_set ?_ GE20102.out) | exact HB.out))) hk_.2.1), (Kd.freshB (g := gb20101) (o := .cells #[.int .i64 a0_0, .int .i64 a0_1, .slice A0_2 l0_2.length c0_2] 24 (0, 0)) (by (with_reducible repeat (first | refine blk_drewN ?_ _ | refine blk_drew ?_ | refine blk_alloc ?_ _)); exact BK20101.out) k_ hk_.2.1), (Kd.freshB (g := gb20102) (o := .cells #[.int .i64 0, .int .i64 0, .slice none 0 0] 24 (0, 0)) (by (with_reducible repeat (first | refine blk_drewN ?_ _ | refine blk_drew ?_ | refine blk_alloc ?_ _)); exact BK20102.out) k_ hk_.2.1)⟩)) (below_size (by repeat (first | (with_reducible first | exact HB.out | apply below_alloc | apply pw_below_drewN | apply below_drew1 | refine below_set ?_ GE20101.out | refine below_set ?_ GE20102.out) | exact HB.out)))); have n1_ := Aside0.mk (blk_below (g := gb20101) (o := .cells #[.int .i64 a0_0, .int .i64 a0_1, .slice A0_2 l0_2.length c0_2] 24 (0, 0)) (by (with_reducible repeat (first | refine blk_drewN ?_ _ | refine blk_drew ?_ | refine blk_alloc ?_ _)); exact BK20101.out) hb); have n2_ := Aside0.mk (blk_below (g := gb20102) (o := .cells #[.int .i64 0, .int .i64 0, .slice none 0 0] 24 (0, 0)) (by (with_reducible repeat (first | refine blk_drewN ?_ _ | refine blk_drew ?_ | refine blk_alloc ?_ _)); exact BK20102.out) hb); have n3_ := Aside0.mk (below_step (by repeat (first | (with_reducible first | exact HB.out | apply below_alloc | apply pw_below_drewN | apply below_drew1 | refine below_set ?_ GE20101.out | refine below_set ?_ GE20102.out) | exact HB.out)) hb); clear BK20101; clear BK20102; clear HB; have HO20107 := n0_; have BK20101 := n1_; have BK20102 := n2_; have HB := n3_; clear n0_ n1_ n2_ n3_; (try clear hb); (try clear hb2); (try clear hk); (try clear hi); (try clear ho0)) | ((with_reducible refine gate_dst (N := 5) rfl ?_); refine box_event ?hg (N := 5) ?hd (cs := #[.int .i64 0, .int .i64 0, .slice none 0 0]) (t := 24) ?hr ?_; (case hd => rfl); (case hg => rfl); (case hr => first | (go_simp; done) | (go_simp; rfl)); intro gb20108 hg w9 hbox hb; have n0_ := Aside0.mk (Kd.N_below (Kd.N_elderB (by (with_reducible repeat (first | apply Kd.N_alloc | apply Kd.N_drewN | apply Kd.N_drew)); exact HO20107.out) gb20108 (Nat.le_of_eq hg.symm)) hb); have n1_ := Aside0.mk (blk_below (g := gb20101) (o := .cells #[.int .i64 a0_0, .int .i64 a0_1, .slice A0_2 l0_2.length c0_2] 24 (0, 0)) (by (with_reducible repeat (first | refine blk_drewN ?_ _ | refine blk_drew ?_ | refine blk_alloc ?_ _)); exact BK20101.out) hb); have n2_ := Aside0.mk (blk_below (g := gb20102) (o := .cells #[.int .i64 0, .int .i64 0, .slice none 0 0] 24 (0, 0)) (by (with_reducible repeat (first | refine blk_drewN ?_ _ | refine blk_drew ?_ | refine blk_alloc ?_ _)); exact BK20102.out) hb); have n3_ := Aside0.mk (below_step (by repeat (first | (with_reducible first | exact HB.out | apply below_alloc | apply pw_below_drewN | apply below_drew1 | refine below_set ?_ GE20101.out | refine below_set ?_ GE20102.out) | exact HB.out)) hb); have n4_ := Aside0.mk (hbox); have n5_ := Aside0.mk ((by rw [hg]; exact (below_size (by repeat (first | (with_reducible first | exact HB.out | apply below_alloc | apply pw_below_drewN | apply below_drew1 | refine below_set ?_ GE20101.out | refine below_set ?_ GE20102.out) | exact HB.out))) : w.heap.size ≤ gb20108)); have n6_ := Aside0.mk ((by rw [hg]; exact (below_size (by repeat (first | (with_reducible first | exact HB.out | apply below_alloc | apply pw_below_drewN | apply below_drew1 | refine below_set ?_ GE20101.out | refine below_set ?_ GE20102.out) | exact HB.out))) : w.heap.size ≤ gb20108)); have n7_ := Aside0.mk ((by rw [hg]; exact Nat.ne_of_lt (blk_lt (g := gb20101) (o := .cells #[.int .i64 a0_0, .int .i64 a0_1, .slice A0_2 l0_2.length c0_2] 24 (0, 0)) (by (with_reducible repeat (first | refine blk_drewN ?_ _ | refine blk_drew ?_ | refine blk_alloc ?_ _)); exact BK20101.out)) : gb20101 ≠ gb20108)); have n8_ := Aside0.mk ((by rw [hg]; exact Nat.ne_of_gt (blk_lt (g := gb20101) (o := .cells #[.int .i64 a0_0, .int .i64 a0_1, .slice A0_2 l0_2.length c0_2] 24 (0, 0)) (by (with_reducible repeat (first | refine blk_drewN ?_ _ | refine blk_drew ?_ | refine blk_alloc ?_ _)); exact BK20101.out)) : gb20108 ≠ gb20101)); have n9_ := Aside0.mk ((by rw [hg]; exact Nat.ne_of_lt (blk_lt (g := gb20102) (o := .cells #[.int .i64 0, .int .i64 0, .slice none 0 0] 24 (0, 0)) (by (with_reducible repeat (first | refine blk_drewN ?_ _ | refine blk_drew ?_ | refine blk_alloc ?_ _)); exact BK20102.out)) : gb20102 ≠ gb20108)); have n10_ := Aside0.mk ((by rw [hg]; exact Nat.ne_of_gt (blk_lt (g := gb20102) (o := .cells #[.int .i64 0, .int .i64 0, .slice none 0 0] 24 (0, 0)) (by (with_reducible repeat (first | refine blk_drewN ?_ _ | refine blk_drew ?_ | refine blk_alloc ?_ _)); exact BK20102.out)) : gb20108 ≠ gb20102)); clear HO20107; clear BK20101; clear BK20102; clear HB; have HO20107 := n0_; have BK20101 := n1_; have BK20102 := n2_; have HB := n3_; have BK20108 := n4_; have GW20108 := n5_; have GE20108 := n6_; have NB20101_20108 := n7_; have NB20108_20101 := n8_; have NB20102_20108 := n9_; have NB20108_20102 := n10_; clear n0_ n1_ n2_ n3_ n4_ n5_ n6_ n7_ n8_ n9_ n10_; clear hb hbox hg; have hnb10 := NB20108_20101.out; have hnc10 := NB20101_20108.out; have hnb11 := NB20108_20102.out; have hnc11 := NB20102_20108.out; have hcz12_0 : w9.cell? ⟨gb20108, 0, none⟩ = some (.int .i64 0) := (blk_cell BK20108.out 0).trans rfl; have hcz12_1 : w9.cell? ⟨gb20108, 1, none⟩ = some (.int .i64 0) := (blk_cell BK20108.out 1).trans rfl; have hcz12_2 : w9.cell? ⟨gb20108, 2, none⟩ = some (.slice none 0 0) := (blk_cell BK20108.out 2).trans rfl; have hfz12_0 := blk_frozen BK20108.out 0; have hfz12_1 := blk_frozen BK20108.out 1; have hfz12_2 := blk_frozen BK20108.out 2; obtain ⟨Ao13, co13, eo13⟩ := Kd.N_slice HO20107.out; subst eo13))
 go_loopg [6, 13] k (fun kq v6 v13 w' => ∃ (x6_1 : List (S57)) (x13_1 : Int), v13 = .int .i64 x13_1 ∧ Aside0 (layers_only.l0 kq x6_1 l1 (l1.length : Int) x13_1 t20103 t20104 t20105 = some (r1, r2, r3)) ∧ Aside0 (kq ≤ k) ∧ Aside0 (Kd.N k57 57 w' w.heap.size (fun k_ => (w.heap.size ≤ k_) ∧ some k_ ≠ ((.slice Ao13 t20105.length co13) : Value).ownBlock ∧ k_ ≠ gb20101 ∧ k_ ≠ gb20102 ∧ k_ ≠ gb20108) v6 x6_1) ∧ Aside0 (Kd.N k57 57 w' w.heap.size (fun k_ => (w.heap.size ≤ k_) ∧ some k_ ≠ (v6 : Value).ownBlock ∧ k_ ≠ gb20101 ∧ k_ ≠ gb20102 ∧ k_ ≠ gb20108) (.slice Ao13 t20105.length co13) t20105) ∧ Aside0 (w'.heap[gb20101]? = some (.cells #[.int .i64 a0_0, .int .i64 a0_1, (.slice A0_2 l0_2.length c0_2)] 24 (0, 0))) ∧ Aside0 (w'.heap[gb20102]? = some (.cells #[.int .i64 0, .int .i64 0, (.slice none 0 0)] 24 (0, 0))) ∧ Aside0 (w'.heap[gb20108]? = some (.cells #[.int .i64 t20103, .int .i64 t20104, (.slice Ao13 t20105.length co13)] 24 (0, 0))) ∧ Aside0 (Below w.heap.size w w'))
 case atStart => exact ⟨(([] : List (S57))), (0), (by first | rfl | (simp; done) | (simp [*]; done)), H', ⟨Nat.le_refl _⟩, ⟨by first | exact Kd.S_nil _ _ _ _ _ | exact Kd.N_nil _ _ _ _ _ | exact Kd.V_nil _ _ _ _ _ | exact Kd.Q_nil _ _ _ _ _ | exact Kd.R_nil _ _ _ _ _⟩, ⟨by (with_reducible repeat (first | apply Kd.N_alloc | apply Kd.N_drewN | apply Kd.N_drew)); exact Kd.N_mono (Kd.N_far (p := ⟨gb20108, 2, none⟩) (Kd.N_far (p := ⟨gb20108, 1, none⟩) (Kd.N_far (p := ⟨gb20108, 0, none⟩) (Kd.N_mono HO20107.out (fun k_ hk => (⟨hk, hk.2⟩ : _ ∧ k_ ≠ gb20108))) (fun _ hk => hk.2) (.int .i64 t20103)) (fun _ hk => hk.2) (.int .i64 t20104)) (fun _ hk => hk.2) (.slice Ao13 t20105.length co13)) (fun _ hk => ⟨hk.1.1.1, ⟨(by simp [Value.ownBlock]), ⟨hk.1.1.2.1, ⟨hk.1.1.2.2, hk.1.2⟩⟩⟩⟩)⟩, ⟨by (with_reducible repeat (first | refine blk_drewN ?_ _ | refine blk_drew ?_ | refine blk_alloc ?_ _)); refine blk_far ?_ NB20101_20108.out _; (with_reducible repeat (first | refine blk_drewN ?_ _ | refine blk_drew ?_ | refine blk_alloc ?_ _)); refine blk_far ?_ NB20101_20108.out _; (with_reducible repeat (first | refine blk_drewN ?_ _ | refine blk_drew ?_ | refine blk_alloc ?_ _)); refine blk_far ?_ NB20101_20108.out _; (with_reducible repeat (first | refine blk_drewN ?_ _ | refine blk_drew ?_ | refine blk_alloc ?_ _)); exact BK20101.out⟩, ⟨by (with_reducible repeat (first | refine blk_drewN ?_ _ | refine blk_drew ?_ | refine blk_alloc ?_ _)); refine blk_far ?_ NB20102_20108.out _; (with_reducible repeat (first | refine blk_drewN ?_ _ | refine blk_drew ?_ | refine blk_alloc ?_ _)); refine blk_far ?_ NB20102_20108.out _; (with_reducible repeat (first | refine blk_drewN ?_ _ | refine blk_drew ?_ | refine blk_alloc ?_ _)); refine blk_far ?_ NB20102_20108.out _; (with_reducible repeat (first | refine blk_drewN ?_ _ | refine blk_drew ?_ | refine blk_alloc ?_ _)); exact BK20102.out⟩, ⟨by (with_reducible repeat (first | refine blk_drewN ?_ _ | refine blk_drew ?_ | refine blk_alloc ?_ _)); refine blk_put (cs := #[.int .i64 t20103, .int .i64 t20104, .slice none 0 0]) ?_ 2 _ rfl; (with_reducible repeat (first | refine blk_drewN ?_ _ | refine blk_drew ?_ | refine blk_alloc ?_ _)); refine blk_put (cs := #[.int .i64 t20103, .int .i64 0, .slice none 0 0]) ?_ 1 _ rfl; (with_reducible repeat (first | refine blk_drewN ?_ _ | refine blk_drew ?_ | refine blk_alloc ?_ _)); refine blk_put (cs := #[.int .i64 0, .int .i64 0, .slice none 0 0]) ?_ 0 _ rfl; (with_reducible repeat (first | refine blk_drewN ?_ _ | refine blk_drew ?_ | refine blk_alloc ?_ _)); exact BK20108.out⟩, ⟨by repeat (first | (with_reducible first | exact HB.out | apply below_alloc | apply pw_below_drewN | apply below_drew1 | refine below_set ?_ GE20101.out | refine below_set ?_ GE20102.out | refine below_set ?_ GE20108.out) | exact HB.out)⟩⟩
 case round =>
  clear H'
  try clear c1
  try clear p2
  try clear c4
  try clear c5
  try clear c6
  try clear c10
  try clear c11
  try clear hcz12_0
  try clear hcz12_1
  try clear hcz12_2
  try clear hcz7_0
  try clear hcz7_1
  try clear hcz7_2
  try clear hfz12_0
  try clear hfz12_1
  try clear hfz12_2
  try clear hfz7_0
  try clear hfz7_1
  try clear hfz7_2
  obtain ⟨x6_1, x13_1, rfl, HA, HK1, HO_6, HO_20109002, BK20101, BK20102, BK20108, HB⟩ := hrel
  cases gk with
  | zero => exact absurd HA.out (by simp [layers_only.l0])
  | succ k1 =>
   have H := HA.out
   clear HA
   simp only [layers_only.l0] at H
   by_cases c14 : x13_1 < (l1.length : Int)
   ·rw [if_pos c14] at H
    have c14b0 : decide (x13_1 < (l1.length : Int)) = true := decide_eq_true c14
    clear c14
    by_cases c15 : 0 ≤ x13_1
    ·rw [if_pos c15] at H
     have c15b0 : decide (0 ≤ x13_1) = true := decide_eq_true c15
     clear c15
     by_cases c16 : x13_1 < (l1.length : Int)
     ·rw [if_pos c16] at H
      have c16b0 : decide (x13_1 < (l1.length : Int)) = true := decide_eq_true c16
      clear c16
      by_cases c17 : 0 ≤ (rd l1 x13_1)
      ·rw [if_pos c17] at H
       have c17b0 : decide (0 ≤ (rd l1 x13_1)) = true := decide_eq_true c17
       clear c17
       by_cases c18 : (rd l1 x13_1) < (t20105.length : Int)
       ·rw [if_pos c18] at H
        have c18b0 : decide ((rd l1 x13_1) < (t20105.length : Int)) = true := decide_eq_true c18
        clear c18
        by_cases c19 : x6_1.length < 2199023255552
        ·rw [if_pos c19] at H
         have LMc19 := Aside0.mk c19
         clear c19
         obtain ⟨y20111, hy20111⟩ : ∃ y_ : List (S57), y_ = (x6_1 ++ [(⟨(rd_T57 t20105 (rd l1 x13_1)).f0, (rd_T57 t20105 (rd l1 x13_1)).f1, (rd_T57 t20105 (rd l1 x13_1)).f2, (rd_T57 t20105 (rd l1 x13_1)).f3, (rd_T57 t20105 (rd l1 x13_1)).f4, (rd_T57 t20105 (rd l1 x13_1)).f5⟩ : S57)]) := ⟨_, rfl⟩
         replace H : (layers_only.l0 k1 y20111 l1 (l1.length : Int) (wrap64 (x13_1 + 1)) t20103 t20104 t20105) = some (r1, r2, r3) := by first | (rw [hy20111]; with_reducible exact H) | (have H2_ := (Option.bind_some _ _).symm.trans H; rw [hy20111]; with_reducible exact H2_) | (have H2_ := (Option.bind_some _ _).symm.trans H; with_reducible exact H2_) | with_reducible exact H | (rw [hy20111]; exact H) | exact H
         have Ny20111 := Aside0.mk hy20111
         clear hy20111
         have H' := Aside0.mk H
         clear H
         have p20109 : 0 ≤ (x13_1 : Int) := of_decide_eq_true (by first | (with_reducible assumption) | assumption)
         have q20109 : x13_1 < (l1.length : Int) := of_decide_eq_true (by first | (with_reducible assumption) | assumption)
         obtain ⟨ad20109, e20109, hx20109_0⟩ := Kd.at_int HR1.out x13_1 p20109 q20109
         cases e20109
         replace hx20109_0 := (HB.out.cell (World.block_lt_of_cell? w _ hx20109_0)).trans hx20109_0
         replace p20109 := eq_true p20109
         replace q20109 := eq_true q20109
         have hnb20 := NB20108_20101.out
         have hnc20 := NB20101_20108.out
         have hnb21 := NB20108_20102.out
         have hnc21 := NB20102_20108.out
         have hcz22_0 : wr.cell? ⟨gb20108, 0, none⟩ = some (.int .i64 t20103) := (blk_cell BK20108.out 0).trans rfl
         have hcz22_1 : wr.cell? ⟨gb20108, 1, none⟩ = some (.int .i64 t20104) := (blk_cell BK20108.out 1).trans rfl
         have hcz22_2 : wr.cell? ⟨gb20108, 2, none⟩ = some (.slice Ao13 t20105.length co13) := (blk_cell BK20108.out 2).trans rfl
         have hfz22_0 := blk_frozen BK20108.out 0
         have hfz22_1 := blk_frozen BK20108.out 1
         have hfz22_2 := blk_frozen BK20108.out 2
         have p20110 : 0 ≤ ((rd l1 x13_1) : Int) := of_decide_eq_true (by first | (with_reducible assumption) | assumption)
         have q20110 : (rd l1 x13_1) < (t20105.length : Int) := of_decide_eq_true (by first | (with_reducible assumption) | assumption)
         obtain ⟨ad20110, A20110_2, c20110_2, e20110, hx20110_0, hx20110_1, hx20110_2, hx20110_3, hx20110_4, hx20110_5, hl20110_2, hi20110_2⟩ := at_T57 (Kd.N_reads' HO_20109002.out).2.2 (rd l1 x13_1) p20110 q20110
         cases e20110
         obtain ⟨ce20110, hce20110, hMe20110, hcc20110⟩ := Kd.N_get HO_20109002.out z57 (rd l1 x13_1) p20110 (by first | exact q20110 | exact of_decide_eq_true (by first | (with_reducible assumption) | assumption) | (have e_ := (Kd.N_reads' HO_20109002.out).1; omega))
         obtain ⟨ua20110_2, uc20110_2, rfl, ul20110_2, ge20110_2⟩ := k57_openF hMe20110
         have hv20110_2 := hcc20110 2 _ rfl
         rw [add_field _ _ 2 (by omega)] at hv20110_2
         replace hv20110_2 := Option.some.inj (hv20110_2.symm.trans hx20110_2)
         injection hv20110_2 with hva_ hvn_ hvc_
         rw [hva_] at ge20110_2
         rw [hvc_] at ul20110_2
         have HL20110_2 := Aside0.mk (show Kd.V (Kd.int .i64) 3 _ w.heap.size _ _ ((rd_T57 t20105 (rd l1 x13_1)).f2) from Kd.V_mk ul20110_2 ge20110_2)
         clear hva_ hvn_ hvc_ ge20110_2 ul20110_2
         clear hcc20110 hce20110
         have HR20110_2 := Aside0.mk hi20110_2
         have HC20110_2 := Aside0.mk hl20110_2
         clear hi20110_2 hl20110_2
         replace p20110 := eq_true p20110
         replace q20110 := eq_true q20110
         go_wp2_with (first | ((with_reducible refine gate_builtin (b := .append) (xs := #[.tmp 17, .tmp 23]) rfl ?_); at_builtin; refine Kd.N_append k57 (w0 := w) w.heap.size rfl (.tmp 17) (.tmp 23) 22 57 (.agg #[(.int .i64 0), (.int .i64 0), (.slice none 0 0), (.int .i64 0), (.int .i64 0), (.int .i64 0)]) 64 rfl Try.underlying22 info57 rfl (by decide) (by omega) u6 x6_1 (⟨(rd_T57 t20105 (rd l1 x13_1)).f0, (rd_T57 t20105 (rd l1 x13_1)).f1, (rd_T57 t20105 (rd l1 x13_1)).f2, (rd_T57 t20105 (rd l1 x13_1)).f3, (rd_T57 t20105 (rd l1 x13_1)).f4, (rd_T57 t20105 (rd l1 x13_1)).f5⟩ : S57) [.int .i64 ((rd_T57 t20105 (rd l1 x13_1)).f0), .int .i64 ((rd_T57 t20105 (rd l1 x13_1)).f1), .slice A20110_2 ((rd_T57 t20105 (rd l1 x13_1)).f2).length c20110_2, .int .i64 ((rd_T57 t20105 (rd l1 x13_1)).f3), .int .i64 ((rd_T57 t20105 (rd l1 x13_1)).f4), .int .i64 ((rd_T57 t20105 (rd l1 x13_1)).f5)] (fun k_ => (w.heap.size ≤ k_) ∧ some k_ ≠ (.slice (some ad20110) t20105.length co13 : Value).ownBlock ∧ k_ ≠ gb20101 ∧ k_ ≠ gb20102 ∧ k_ ≠ gb20108) (fun k_ => ((fun k_ => (w.heap.size ≤ k_) ∧ some k_ ≠ (.slice (some ad20110) t20105.length co13 : Value).ownBlock ∧ k_ ≠ gb20101 ∧ k_ ≠ gb20102 ∧ k_ ≠ gb20108)) k_ ∧ some k_ ≠ (u6 : Value).ownBlock) rfl rfl ?aP (fun _ hk => hk) ?aF ?aO ?aB ?aS ?aL ?_; (case aP => exact (k57_mkF _ _ (⟨(rd_T57 t20105 (rd l1 x13_1)).f0, (rd_T57 t20105 (rd l1 x13_1)).f1, (rd_T57 t20105 (rd l1 x13_1)).f2, (rd_T57 t20105 (rd l1 x13_1)).f3, (rd_T57 t20105 (rd l1 x13_1)).f4, (rd_T57 t20105 (rd l1 x13_1)).f5⟩ : S57) (Kd.V_reads' (Kd.V_mono (ok' := (fun k_ => ((fun k_ => (w.heap.size ≤ k_) ∧ some k_ ≠ (.slice (some ad20110) t20105.length co13 : Value).ownBlock ∧ k_ ≠ gb20101 ∧ k_ ≠ gb20102 ∧ k_ ≠ gb20108)) k_ ∧ some k_ ≠ (u6 : Value).ownBlock)) (HL20110_2.out) (fun k_ hk => ⟨⟨hk.1.1, ⟨hk.2, ⟨hk.1.2.2.1, ⟨hk.1.2.2.2.1, hk.1.2.2.2.2⟩⟩⟩⟩, hk.1.2.1⟩))).2.1 (Kd.V_F (Kd.V_mono (ok' := (fun k_ => ((fun k_ => (w.heap.size ≤ k_) ∧ some k_ ≠ (.slice (some ad20110) t20105.length co13 : Value).ownBlock ∧ k_ ≠ gb20101 ∧ k_ ≠ gb20102 ∧ k_ ≠ gb20108)) k_ ∧ some k_ ≠ (u6 : Value).ownBlock)) (HL20110_2.out) (fun k_ hk => ⟨⟨hk.1.1, ⟨hk.2, ⟨hk.1.2.2.1, ⟨hk.1.2.2.2.1, hk.1.2.2.2.2⟩⟩⟩⟩, hk.1.2.1⟩))))); (case aB => exact (by repeat (first | (with_reducible first | exact HB.out | apply below_alloc | apply pw_below_drewN | apply below_drew1 | refine below_set ?_ GE20101.out | refine below_set ?_ GE20102.out | refine below_set ?_ GE20108.out) | exact HB.out))); (case aF => exact (fun k_ hk => ⟨(Nat.le_trans (below_size (by repeat (first | (with_reducible first | exact HB.out | apply below_alloc | apply pw_below_drewN | apply below_drew1 | refine below_set ?_ GE20101.out | refine below_set ?_ GE20102.out | refine below_set ?_ GE20108.out) | exact HB.out))) hk), Kd.fresh' (Kd.N_lt (by (with_reducible repeat (first | apply Kd.N_alloc | apply Kd.N_drewN | apply Kd.N_drew)); exact HO_20109002.out)) k_ hk, Kd.freshB (g := gb20101) (o := .cells #[.int .i64 a0_0, .int .i64 a0_1, .slice A0_2 l0_2.length c0_2] 24 (0, 0)) (by (with_reducible repeat (first | refine blk_drewN ?_ _ | refine blk_drew ?_ | refine blk_alloc ?_ _)); exact BK20101.out) k_ hk, Kd.freshB (g := gb20102) (o := .cells #[.int .i64 0, .int .i64 0, .slice none 0 0] 24 (0, 0)) (by (with_reducible repeat (first | refine blk_drewN ?_ _ | refine blk_drew ?_ | refine blk_alloc ?_ _)); exact BK20102.out) k_ hk, Kd.freshB (g := gb20108) (o := .cells #[.int .i64 t20103, .int .i64 t20104, .slice (some ad20110) t20105.length co13] 24 (0, 0)) (by (with_reducible repeat (first | refine blk_drewN ?_ _ | refine blk_drew ?_ | refine blk_alloc ?_ _)); exact BK20108.out) k_ hk⟩)); (case aO => exact (by (with_reducible repeat (first | apply Kd.N_alloc | apply Kd.N_drewN | apply Kd.N_drew)); exact HO_6.out)); (case aS => exact (below_size (by repeat (first | (with_reducible first | exact HB.out | apply below_alloc | apply pw_below_drewN | apply below_drew1 | refine below_set ?_ GE20101.out | refine below_set ?_ GE20102.out | refine below_set ?_ GE20108.out) | exact HB.out)))); (case aL => have := LMc19.out; omega); intro v20112 w23 ho hb hg hat; rw [← Ny20111.out] at ho; have n0_ := Aside0.mk (Kd.N_afterv (ok := (fun k_ => (w.heap.size ≤ k_) ∧ k_ ≠ gb20101 ∧ k_ ≠ gb20102 ∧ k_ ≠ gb20108)) (by (with_reducible repeat (first | apply Kd.N_alloc | apply Kd.N_drewN | apply Kd.N_drew)); exact Kd.N_mono HO_20109002.out (fun _ hk => ⟨⟨hk.1, ⟨hk.2.2.1, ⟨hk.2.2.2.1, hk.2.2.2.2⟩⟩⟩, hk.2.1⟩)) hg hat); have n1_ := Aside0.mk (blk_grown (g := gb20101) (o := .cells #[.int .i64 a0_0, .int .i64 a0_1, .slice A0_2 l0_2.length c0_2] 24 (0, 0)) (by (with_reducible repeat (first | refine blk_drewN ?_ _ | refine blk_drew ?_ | refine blk_alloc ?_ _)); exact BK20101.out) hg (Kd.N_ne HO_6.out BK20101.out (by decide))); have n2_ := Aside0.mk (blk_grown (g := gb20102) (o := .cells #[.int .i64 0, .int .i64 0, .slice none 0 0] 24 (0, 0)) (by (with_reducible repeat (first | refine blk_drewN ?_ _ | refine blk_drew ?_ | refine blk_alloc ?_ _)); exact BK20102.out) hg (Kd.N_ne HO_6.out BK20102.out (by decide))); have n3_ := Aside0.mk (blk_grown (g := gb20108) (o := .cells #[.int .i64 t20103, .int .i64 t20104, .slice (some ad20110) t20105.length co13] 24 (0, 0)) (by (with_reducible repeat (first | refine blk_drewN ?_ _ | refine blk_drew ?_ | refine blk_alloc ?_ _)); exact BK20108.out) hg (Kd.N_ne HO_6.out BK20108.out (by decide))); have n4_ := Aside0.mk (Kd.V_afterv (ok := (fun k_ => (w.heap.size ≤ k_) ∧ some k_ ≠ (.slice (some ad20110) t20105.length co13 : Value).ownBlock ∧ k_ ≠ gb20101 ∧ k_ ≠ gb20102 ∧ k_ ≠ gb20108)) (by (with_reducible repeat (first | apply Kd.V_alloc | apply Kd.V_drewN | apply Kd.V_drew)); exact Kd.V_mono HL20110_2.out (fun _ hk => ⟨⟨hk.1.1, ⟨hk.2, ⟨hk.1.2.2.1, ⟨hk.1.2.2.2.1, hk.1.2.2.2.2⟩⟩⟩⟩, hk.1.2.1⟩)) hg hat); have n5_ := Aside0.mk (hb); have n6_ := Aside0.mk (ho); clear HO_20109002; clear BK20101; clear BK20102; clear BK20108; clear HL20110_2; clear HB; clear HO_6; have HO_20109002 := n0_; have BK20101 := n1_; have BK20102 := n2_; have BK20108 := n3_; have HL20110_2 := n4_; have HB := n5_; have HO20113 := n6_; clear n0_ n1_ n2_ n3_ n4_ n5_ n6_; clear ho hb hg hat))
         go_roundg k1
         case measure => have := HK1.out; omega
         case rel => exact ⟨(y20111), (wrap64 (x13_1 + 1)), (by first | rfl | (simp; done) | (simp [*]; done)), H', ⟨by have := HK1.out; omega⟩, ⟨by (with_reducible repeat (first | apply Kd.N_alloc | apply Kd.N_drewN | apply Kd.N_drew)); exact HO20113.out⟩, ⟨by (with_reducible repeat (first | apply Kd.N_alloc | apply Kd.N_drewN | apply Kd.N_drew)); exact Kd.N_mono HO_20109002.out (fun _ hk => ⟨hk.1.1, ⟨hk.2, ⟨hk.1.2.1, ⟨hk.1.2.2.1, hk.1.2.2.2⟩⟩⟩⟩)⟩, ⟨by (with_reducible repeat (first | refine blk_drewN ?_ _ | refine blk_drew ?_ | refine blk_alloc ?_ _)); exact BK20101.out⟩, ⟨by (with_reducible repeat (first | refine blk_drewN ?_ _ | refine blk_drew ?_ | refine blk_alloc ?_ _)); exact BK20102.out⟩, ⟨by (with_reducible repeat (first | refine blk_drewN ?_ _ | refine blk_drew ?_ | refine blk_alloc ?_ _)); exact BK20108.out⟩, ⟨by repeat (first | (with_reducible first | exact HB.out | apply below_alloc | apply pw_below_drewN | apply below_drew1 | refine below_set ?_ GE20101.out | refine below_set ?_ GE20102.out | refine below_set ?_ GE20108.out) | exact HB.out)⟩⟩
        ·rw [if_neg c19] at H
         exact absurd H (by simp)
       ·rw [if_neg c18] at H
        exact absurd H (by simp)
      ·rw [if_neg c17] at H
       exact absurd H (by simp)
     ·rw [if_neg c16] at H
      exact absurd H (by simp)
    ·rw [if_neg c15] at H
     exact absurd H (by simp)
   ·rw [if_neg c14] at H
    have c14b0 : decide (x13_1 < (l1.length : Int)) = false := decide_eq_false c14
    clear c14
    simp only [Option.some.injEq, Prod.mk.injEq] at H
    obtain ⟨rfl, rfl, rfl⟩ := H
    obtain ⟨Ao24, co24, eo24⟩ := Kd.N_slice HO_6.out
    subst eo24
    have hnb25 := NB20108_20101.out
    have hnc25 := NB20101_20108.out
    have hnb26 := NB20108_20102.out
    have hnc26 := NB20102_20108.out
    have hcz27_0 : wr.cell? ⟨gb20108, 0, none⟩ = some (.int .i64 t20103) := (blk_cell BK20108.out 0).trans rfl
    have hcz27_1 : wr.cell? ⟨gb20108, 1, none⟩ = some (.int .i64 t20104) := (blk_cell BK20108.out 1).trans rfl
    have hcz27_2 : wr.cell? ⟨gb20108, 2, none⟩ = some (.slice Ao13 t20105.length co13) := (blk_cell BK20108.out 2).trans rfl
    have hfz27_0 := blk_frozen BK20108.out 0
    have hfz27_1 := blk_frozen BK20108.out 1
    have hfz27_2 := blk_frozen BK20108.out 2
    have hnb28 := NB20102_20101.out
    have hnc28 := NB20101_20102.out
    have hcz29_0 : wr.cell? ⟨gb20102, 0, none⟩ = some (.int .i64 0) := (blk_cell BK20102.out 0).trans rfl
    have hcz29_1 : wr.cell? ⟨gb20102, 1, none⟩ = some (.int .i64 0) := (blk_cell BK20102.out 1).trans rfl
    have hcz29_2 : wr.cell? ⟨gb20102, 2, none⟩ = some (.slice none 0 0) := (blk_cell BK20102.out 2).trans rfl
    have hfz29_0 := blk_frozen BK20102.out 0
    have hfz29_1 := blk_frozen BK20102.out 1
    have hfz29_2 := blk_frozen BK20102.out 2
    go_wp2
    refine bodyPost_ret (results_cell_row rfl _ _ gb20102 24 #[.int .i64 t20103, .int .i64 t20104, .slice Ao24 x6_1.length co24] (0, 0) _ rfl (by (with_reducible repeat (first | refine blk_drewN ?_ _ | refine blk_drew ?_ | refine blk_alloc ?_ _)); refine blk_put (cs := #[.int .i64 t20103, .int .i64 t20104, .slice none 0 0]) ?_ 2 _ rfl; (with_reducible repeat (first | refine blk_drewN ?_ _ | refine blk_drew ?_ | refine blk_alloc ?_ _)); refine blk_put (cs := #[.int .i64 t20103, .int .i64 0, .slice none 0 0]) ?_ 1 _ rfl; (with_reducible repeat (first | refine blk_drewN ?_ _ | refine blk_drew ?_ | refine blk_alloc ?_ _)); refine blk_put (cs := #[.int .i64 0, .int .i64 0, .slice none 0 0]) ?_ 0 _ rfl; (with_reducible repeat (first | refine blk_drewN ?_ _ | refine blk_drew ?_ | refine blk_alloc ?_ _)); refine blk_far ?_ NB20102_20108.out _; (with_reducible repeat (first | refine blk_drewN ?_ _ | refine blk_drew ?_ | refine blk_alloc ?_ _)); exact BK20102.out) Try.underlying24 rfl (by kernel_rfl)) rfl ?_
    exact ⟨_, by first | rfl | (simp [errW_none, errW_some] <;> rfl) | (simp [*, errW_none, errW_some] <;> rfl), by (with_reducible repeat (first | apply Kd.N_alloc | apply Kd.N_drewN | apply Kd.N_drew)); exact Kd.N_mono (Kd.N_far (p := ⟨gb20102, 2, none⟩) (Kd.N_far (p := ⟨gb20102, 1, none⟩) (Kd.N_far (p := ⟨gb20102, 0, none⟩) (Kd.N_far (p := ⟨gb20108, 2, none⟩) (Kd.N_mono (Kd.N_mono HO_6.out (fun k_ hk => (⟨hk, hk.2.2.2.2⟩ : _ ∧ k_ ≠ gb20108))) (fun k_ hk => (⟨hk, hk.1.2.2.2.1⟩ : _ ∧ k_ ≠ gb20102))) (fun _ hk => hk.1.2) (.slice Ao24 x6_1.length co24)) (fun _ hk => hk.2) (.int .i64 t20103)) (fun _ hk => hk.2) (.int .i64 t20104)) (fun _ hk => hk.2) (.slice Ao24 x6_1.length co24)) (fun _ hk => hk.1.1.1), by repeat (first | (with_reducible first | exact HB.out | apply below_alloc | apply pw_below_drewN | apply below_drew1 | refine below_set ?_ GE20101.out | refine below_set ?_ GE20102.out | refine below_set ?_ GE20108.out) | exact HB.out)⟩
def skey (ops : List S57) (ls : List Int) (i : Int) : Int := if (rd_T57 ops i).f0 = 4 then wrap64 (wrap64 (2 * rd ls i) + 1) else wrap64 (2 * rd ls i)
structure SInv (w0 : World) (bc bl bk bo : Nat) (a0 a1 : Int) (A : Option Addr) (c : Nat) (ops : List S57) (Al : Option Addr) (cl : Nat) (ls : List Int) (W : World) : Prop where
 hb : Below w0.heap.size w0 W
 hc : W.heap[bc]? = some (.cells #[.int .i64 a0, .int .i64 a1, .slice A ops.length c] 24 (0, 0))
 hl : W.heap[bl]? = some (.cells #[.slice Al ls.length cl] 25 (0, 0))
 hk : W.heap[bk]? = some (.cells #[.func (.func 37) #[] #[.pointer (some ⟨bc, 0, none⟩), .pointer (some ⟨bl, 0, none⟩)]] 70 (0, 0))
 ho : Kd.C k57 w0 A ops.length ops
 hs : Kd.R (Kd.int .i64) 3 W w0.heap.size (fun k => k ≠ bo) (.slice Al ls.length cl) ls
section
variable {w0 : World} {bc bl bk bo : Nat} {a0 a1 : Int} {A : Option Addr} {c : Nat} {ops : List S57} {Al : Option Addr} {cl : Nat} {ls : List Int}
theorem SInv.drewN {W : World} (h : SInv w0 bc bl bk bo a0 a1 A c ops Al cl ls W) (n : Nat) : SInv w0 bc bl bk bo a0 a1 A c ops Al cl ls (W.drewN n) :=
 ⟨pw_below_drewN h.hb n, h.hc, h.hl, h.hk, h.ho, Kd.R_drewN h.hs n⟩
theorem SInv.drew {W : World} (h : SInv w0 bc bl bk bo a0 a1 A c ops Al cl ls W) : SInv w0 bc bl bk bo a0 a1 A c ops Al cl ls W.drew :=
 ⟨below_drew h.hb, h.hc, h.hl, h.hk, h.ho, Kd.R_drew h.hs⟩
theorem SInv.grown {W W1 : World} (h : SInv w0 bc bl bk bo a0 a1 A c ops Al cl ls W) (hg : W.grownBy W1 (some bo)) (hgo : w0.heap.size ≤ bo) (n1 : bc ≠ bo) (n2 : bl ≠ bo) (n3 : bk ≠ bo) : SInv w0 bc bl bk bo a0 a1 A c ops Al cl ls W1 :=
 ⟨h.hb.grown hg h.hb.size (fun k e => by cases e; exact hgo), blk_grown h.hc hg (fun e => n1 (by injection e)), blk_grown h.hl hg (fun e => n2 (by injection e)), blk_grown h.hk hg (fun e => n3 (by injection e)), h.ho, Kd.R_grown h.hs hg (fun k hk e => hk (by injection e))⟩
end
set_option maxHeartbeats 2000000 in
set_option maxRecDepth 100000 in
theorem Sorted1_calls {w0 : World} {bc bl bk bo : Nat} {a0 a1 : Int} {A : Option Addr} {c : Nat} {ops : List S57} {Al : Option Addr} {cl : Nat} {ls : List Int} (W : World) (x : Int) (h : SInv w0 bc bl bk bo a0 a1 A c ops Al cl ls W) (h0 : 0 ≤ x) (h1 : x < ops.length) (hl : ls.length = ops.length) :
  Calls Try.prog 37 #[.int .i64 x, .pointer (some ⟨bc, 0, none⟩), .pointer (some ⟨bl, 0, none⟩)] W fun e W' => e = .returned (.int .i64 (skey ops ls x)) ∧ W' = W := by
 have hu24 := Try.underlying24
 have hu57 := Try.underlying57
 obtain ⟨ad, A2_, c2_, e_, hx0, hx1, hx2, hx3, hx4, hx5, hl_, hi_⟩ := at_T57 h.ho x h0 h1
 cases e_
 replace hx0 := (h.hb.cell (World.block_lt_of_cell? w0 _ hx0)).trans hx0
 obtain ⟨ad2, e2, g2⟩ := Kd.at_int (Kd.R_reads' h.hs).2.2 x h0 (by omega)
 cases e2
 have hz2 : W.cell? ⟨bc, 2, none⟩ = some (.slice (some ad) ops.length c) := (blk_cell h.hc 2).trans rfl
 have hz0 : W.cell? ⟨bl, 0, none⟩ = some (.slice (some ad2) ls.length cl) := (blk_cell h.hl 0).trans rfl
 have q0 := eq_true h0
 have q1 := eq_true h1
 have q2 : (x < (ls.length : Int)) = True := eq_true (by omega)
 clear hx1 hx2 hx3 hx4 hx5 hl_ hi_ h0 h1 hl h
 unfold skey
 generalize (rd_T57 ops x).f0 = f0 at *
 by_cases c0 : f0 = 4
 ·have t0 : (f0 == 4) = true := beq_iff_eq.mpr c0
  rw [if_pos c0]
  clear c0
  go_enter Try.func37, Try.ntmps37
  go_wp2
  go_ret
  exact ⟨rfl, rfl⟩
 ·have t0 : (f0 == 4) = false := beq_eq_false_iff_ne.mpr c0
  rw [if_neg c0]
  clear c0
  go_enter Try.func37, Try.ntmps37
  go_wp2
  go_ret
  exact ⟨rfl, rfl⟩
set_option maxHeartbeats 2000000 in
set_option maxRecDepth 100000 in
theorem Sorted2_calls {w0 : World} {bc bl bk bo : Nat} {a0 a1 : Int} {A : Option Addr} {c : Nat} {ops : List S57} {Al : Option Addr} {cl : Nat} {ls : List Int} (W : World) (x y : Int) (h : SInv w0 bc bl bk bo a0 a1 A c ops Al cl ls W) (hl : ls.length = ops.length) (h0 : 0 ≤ x) (h1 : x < ops.length) (h2 : 0 ≤ y) (h3 : y < ops.length) :
  Calls Try.prog 39 #[.int .i64 x, .int .i64 y, .pointer (some ⟨bk, 0, none⟩)] W fun e W' => e = .returned (.int .i64 (wrap64 (skey ops ls x - skey ops ls y))) ∧ Drawn0 W W' := by
 have k1 := fun n => Sorted1_calls (W.drewN n) x (h.drewN n) h0 h1 hl
 have k2 := fun n => Sorted1_calls (W.drewN n) y (h.drewN n) h2 h3 hl
 have hz0 : W.cell? ⟨bk, 0, none⟩ = some (.func (.func 37) #[] #[.pointer (some ⟨bc, 0, none⟩), .pointer (some ⟨bl, 0, none⟩)]) := (blk_cell h.hk 0).trans rfl
 have K1 := Aside0.mk k1
 have K2 := Aside0.mk k2
 clear k1 k2 h h0 h1 h2 h3 hl
 go_enter Try.func39, Try.ntmps39
 go_wp2
 go_quiet (first | (go_at_call_of 37 (Value.int IntKind.i64 x); exact Calls.quiet_of_same (K1.out _)) | (go_at_call_of 37 (Value.int IntKind.i64 y); exact Calls.quiet_of_same (K2.out _)))
 go_wp2
 go_ret
 exact ⟨rfl, ⟨⟨_, rfl⟩⟩⟩
structure Srt (w0 : World) (bc bl bk bo : Nat) (a0 a1 : Int) (A : Option Addr) (c : Nat) (ops : List S57) (Al : Option Addr) (cl : Nat) (ls : List Int) (N cap : Nat) (W : World) (xs : List Int) : Prop where
 inv : SInv w0 bc bl bk bo a0 a1 A c ops Al cl ls W
 dat : Kd.R (Kd.int .i64) 3 W w0.heap.size (fun k => k = bo) (.slice (some ⟨bo, 0, none⟩) N cap) xs
 val : ∀ z, z ∈ xs → 0 ≤ z ∧ z < ops.length
 ne1 : bc ≠ bo
 ne2 : bl ≠ bo
 ne3 : bk ≠ bo
 len : ls.length = ops.length
section
variable {w0 : World} {bc bl bk bo : Nat} {a0 a1 : Int} {A : Option Addr} {c : Nat} {ops : List S57} {Al : Option Addr} {cl : Nat} {ls : List Int} {N cap : Nat}
theorem Srt.bo_base {W : World} {xs : List Int} (h : Srt w0 bc bl bk bo a0 a1 A c ops Al cl ls N cap W xs) : w0.heap.size ≤ bo := own_base (Kd.own_of_R (h1 := fun _ => rfl) h.dat) bo rfl
theorem Srt.drewN {W : World} {xs : List Int} (h : Srt w0 bc bl bk bo a0 a1 A c ops Al cl ls N cap W xs) (n : Nat) : Srt w0 bc bl bk bo a0 a1 A c ops Al cl ls N cap (W.drewN n) xs :=
 ⟨h.inv.drewN n, Kd.R_drewN h.dat n, h.val, h.ne1, h.ne2, h.ne3, h.len⟩
theorem Srt.drew {W : World} {xs : List Int} (h : Srt w0 bc bl bk bo a0 a1 A c ops Al cl ls N cap W xs) : Srt w0 bc bl bk bo a0 a1 A c ops Al cl ls N cap W.drew xs :=
 ⟨h.inv.drew, Kd.R_drew h.dat, h.val, h.ne1, h.ne2, h.ne3, h.len⟩
theorem Srt.set {W : World} {xs : List Int} (h : Srt w0 bc bl bk bo a0 a1 A c ops Al cl ls N cap W xs) (i x : Int) (hx : 0 ≤ x ∧ x < ops.length) : Srt w0 bc bl bk bo a0 a1 A c ops Al cl ls N cap (W.setCell ⟨bo, i.toNat, none⟩ (.int .i64 x)) (xs.set i.toNat x) :=
 ⟨h.inv.grown (Kd.R_putg h.dat i x).2 h.bo_base h.ne1 h.ne2 h.ne3, (Kd.R_putg h.dat i x).1, fun z hz => by
  rcases List.mem_or_eq_of_mem_set hz with hz | rfl
  ·exact h.val z hz
  ·exact hx, h.ne1, h.ne2, h.ne3, h.len⟩
theorem Srt.at_ {W : World} {xs : List Int} (h : Srt w0 bc bl bk bo a0 a1 A c ops Al cl ls N cap W xs) (i : Int) (h0 : 0 ≤ i) (h1 : i < N) : W.cell? ⟨bo, i.toNat, none⟩ = some (.int .i64 (rd xs i)) ∧ W.frozen? ⟨bo, i.toNat, none⟩ = false := Kd.R_celln 0 h.dat i h0 h1
theorem Srt.length {W : World} {xs : List Int} (h : Srt w0 bc bl bk bo a0 a1 A c ops Al cl ls N cap W xs) : xs.length = N := h_len h.dat
theorem Srt.valid {W : World} {xs : List Int} (h : Srt w0 bc bl bk bo a0 a1 A c ops Al cl ls N cap W xs) (i : Int) (h0 : 0 ≤ i) (h1 : i < N) : 0 ≤ rd xs i ∧ rd xs i < ops.length := by
 have hl := h.length
 have h2 : i.toNat < xs.length := by omega
 refine h.val _ ?_
 unfold rd
 rw [List.getD_eq_getElem?_getD, List.getElem?_eq_getElem h2]
 exact List.getElem_mem _
end
def slt (ops : List S57) (ls : List Int) (x y : Int) : Bool := decide (wrap64 (skey ops ls x - skey ops ls y) < 0)
def swap2 (xs : List Int) (i j : Int) : List Int := (xs.set i.toNat (rd xs j)).set j.toNat (rd xs i)
def ins_down (lt : Int → Int → Bool) (a : Int) : Nat → List Int → Int → List Int
 | 0, xs, _ => xs
 | f + 1, xs, j => if a < j then (if lt (rd xs j) (rd xs (j - 1)) = true then ins_down lt a f (swap2 xs j (j - 1)) (j - 1) else xs) else xs
def ins_sort (lt : Int → Int → Bool) (a : Int) : Nat → List Int → Int → List Int
 | 0, xs, _ => xs
 | f + 1, xs, i => ins_sort lt a f (ins_down lt a (i - a).toNat xs i) (i + 1)
set_option maxHeartbeats 4000000 in
set_option maxRecDepth 100000 in
theorem insertion_calls {w0 : World} {bc bl bk bo : Nat} {a0 a1 : Int} {A : Option Addr} {c : Nat} {ops : List S57} {Al : Option Addr} {cl : Nat} {ls : List Int} {N cap : Nat} (W : World) (xs : List Int) (a b : Int)
  (h : Srt w0 bc bl bk bo a0 a1 A c ops Al cl ls N cap W xs) (h0 : 0 ≤ a) (h1 : a ≤ b) (h2 : b ≤ N) (hN : N ≤ 4611686018427387904) :
  Calls Try.prog 58 #[.slice (some ⟨bo, 0, none⟩) N cap, .int .i64 a, .int .i64 b, .func (.func 39) #[] #[.pointer (some ⟨bk, 0, none⟩)]] W fun e W' => e = .returned (.tuple #[]) ∧ Srt w0 bc bl bk bo a0 a1 A c ops Al cl ls N cap W' (ins_sort (slt ops ls) a (b - (a + 1)).toNat xs (a + 1)) := by
 have HS := Aside0.mk h
 have HAB := Aside0.mk (And.intro h0 (And.intro h1 (And.intro h2 hN)))
 obtain ⟨a1_, ha1⟩ : ∃ a1_, a + 1 = a1_ := ⟨_, rfl⟩
 have ea : wrap64 (a + 1) = a1_ := by rw [← ha1]; unfold wrap64; omega
 have HA1 := Aside0.mk ha1
 obtain ⟨res, hres⟩ : ∃ res, ins_sort (slt ops ls) a (b - (a + 1)).toNat xs (a + 1) = res := ⟨_, rfl⟩
 rw [hres]
 rw [ha1] at hres
 have HRES := Aside0.mk hres
 clear h h0 h1 h2 hN hres ha1
 go_enter Try.func58, Try.ntmps58
 go_wp2
 go_loopg [8] (b - a1_).toNat (fun kq v8 w' => ∃ (ys : List Int) (i : Int), v8 = .int .i64 i ∧ Aside0 (a1_ ≤ i ∧ kq = (b - i).toNat) ∧ Aside0 (ins_sort (slt ops ls) a kq ys i = res) ∧ Aside0 (Srt w0 bc bl bk bo a0 a1 A c ops Al cl ls N cap w' ys))
 case atStart => exact ⟨xs, a1_, by rw [ea], ⟨Int.le_refl _, rfl⟩, HRES, HS⟩
 case round =>
  clear HRES HS ea
  obtain ⟨ys, i, rfl, HX, HRES, HS⟩ := hrel
  obtain ⟨gk0, egk⟩ : ∃ g, g = gk := ⟨_, rfl⟩
  subst egk
  by_cases c1 : i < b
  ·have t1 : decide (i < b) = true := decide_eq_true c1
   obtain ⟨g1, eg⟩ : ∃ g1, gk0 = g1 + 1 := ⟨gk0 - 1, by have := HX.out; omega⟩
   subst eg
   have H := HRES.out
   unfold ins_sort at H
   obtain ⟨r1, hr1⟩ : ∃ r1, ins_down (slt ops ls) a (i - a).toNat ys i = r1 := ⟨_, rfl⟩
   rw [hr1] at H
   have HRES := Aside0.mk H
   have HR1 := Aside0.mk hr1
   have C1 := Aside0.mk c1
   have NI := Aside0.mk (show a ≤ i by have := HX.out; have := HA1.out; omega)
   clear H hr1 c1
   go_wp2
   go_loopg [9] (i - a).toNat (fun kq v9 w' => ∃ (zs : List Int) (j : Int), v9 = .int .i64 j ∧ Aside0 (a ≤ j ∧ j ≤ i ∧ kq = (j - a).toNat) ∧ Aside0 (ins_down (slt ops ls) a kq zs j = r1) ∧ Aside0 (Srt w0 bc bl bk bo a0 a1 A c ops Al cl ls N cap w' zs))
   case atStart => exact ⟨ys, i, rfl, ⟨NI.out, Int.le_refl _, rfl⟩, HR1, HS⟩
   case round =>
    clear HR1 HS
    obtain ⟨zs, j, rfl, HJ, HR1, HS⟩ := hrel
    by_cases c2 : a < j
    ·have t2 : decide (a < j) = true := decide_eq_true c2
     obtain ⟨g2, eg2⟩ : ∃ g2, gk = g2 + 1 := ⟨gk - 1, by have := HJ.out; omega⟩
     subst eg2
     have H := HR1.out
     unfold ins_down at H
     rw [if_pos c2] at H
     have bj : j < N := by have := HJ.out; have := C1.out; have := HAB.out; omega
     have b0 : 0 ≤ j - 1 := by have := HAB.out; omega
     obtain ⟨j1, hj1⟩ : ∃ j1, j - 1 = j1 := ⟨_, rfl⟩
     have ej : wrap64 (j - 1) = j1 := by have := HAB.out; rw [← hj1]; unfold wrap64; omega
     have ej2 : IntKind.i64.wrap (j - 1) = j1 := by have := HAB.out; rw [IntWalk.i64_in _ (by omega)]; exact hj1
     rw [hj1] at H b0
     obtain ⟨x1, x1f⟩ := HS.out.at_ j (by omega) bj
     obtain ⟨x2, x2f⟩ := HS.out.at_ j1 b0 (by omega)
     have v1 := HS.out.valid j (by omega) bj
     have v2 := HS.out.valid j1 b0 (by omega)
     have HJ1 := Aside0.mk hj1
     have V1 := Aside0.mk v1
     have V2 := Aside0.mk v2
     have p0 : (0 ≤ j) = True := eq_true (by omega)
     have p1 : (j < (N : Int)) = True := eq_true bj
     have p2 : (0 ≤ j1) = True := eq_true b0
     have p3 : (j1 < (N : Int)) = True := eq_true (by omega)
     clear hj1 v1 v2 b0 bj c2
     generalize hy1 : rd zs j = y1 at *
     generalize hy2 : rd zs j1 = y2 at *
     have HY1 := Aside0.mk hy1
     have HY2 := Aside0.mk hy2
     clear hy1 hy2
     by_cases c3 : slt ops ls y1 y2 = true
     ·rw [if_pos c3] at H
      have HR1' := Aside0.mk H
      have t3 : decide (wrap64 (skey ops ls y1 - skey ops ls y2) < 0) = true := c3
      clear H HR1 c3
      go_wp2
      go_quiet ((go_at_call 39; exact Calls.quiet_of ((Sorted2_calls _ y1 y2 (HS.out.inv.drewN _) HS.out.len V1.out.1 V1.out.2 V2.out.1 V2.out.2).mono fun _ _ h => ⟨h.1, h.2.out⟩)))
      have hjne : j.toNat ≠ j1.toNat := by have := of_eq_true p0; have := of_eq_true p2; have := HJ1.out; omega
      have hjne2 : j1.toNat ≠ j.toNat := fun e => hjne e.symm
      go_wp2
      go_region
      go_wp2
      go_roundg g2
      case measure => omega
      case rel => exact ⟨swap2 zs j j1, j1, by first | rfl | rw [ej], ⟨by have := HJ.out; have := HJ1.out; omega, by have := HJ.out; have := HJ1.out; omega, by have := HJ.out; have := HJ1.out; omega⟩, HR1', ⟨by have h1 := ((HS.out.drewN (nq + 1)).set j y2 V2.out).set j1 y1 V1.out; unfold swap2; rw [HY1.out, HY2.out]; exact h1⟩⟩
     ·rw [if_neg c3] at H
      have t3 : decide (wrap64 (skey ops ls y1 - skey ops ls y2) < 0) = false := Bool.eq_false_iff.mpr c3
      have HE := Aside0.mk (show zs = r1 from H)
      have X1 := Aside0.mk (h_w1 (x := i) (n := N) (by have := HAB.out; have := NI.out; omega) (by have := C1.out; have := HAB.out; omega) (by have := HAB.out; omega))
      clear H HR1 c3
      go_wp2
      go_quiet ((go_at_call 39; exact Calls.quiet_of ((Sorted2_calls _ y1 y2 (HS.out.inv.drewN _) HS.out.len V1.out.1 V1.out.2 V2.out.1 V2.out.2).mono fun _ _ h => ⟨h.1, h.2.out⟩)))
      go_wp2
      go_roundg g1
      case measure => omega
      case rel => exact ⟨zs, i + 1, by rw [X1.out], ⟨by have := HX.out; omega, by have := HX.out; have := C1.out; omega⟩, ⟨by rw [HE.out]; exact HRES.out⟩, ⟨HS.out.drewN _⟩⟩
    ·have t2 : decide (a < j) = false := decide_eq_false c2
     have H := HR1.out
     have X1 := Aside0.mk (h_w1 (x := i) (n := N) (by have := HAB.out; have := NI.out; omega) (by have := C1.out; have := HAB.out; omega) (by have := HAB.out; omega))
     have HE := Aside0.mk (show zs = r1 by rw [← H, show gk = 0 by have := HJ.out; omega]; rfl)
     clear H HR1 c2
     go_wp2
     go_quiet (fail)
     go_wp2
     go_roundg g1
     case measure => omega
     case rel => exact ⟨zs, i + 1, by rw [X1.out], ⟨by have := HX.out; omega, by have := HX.out; have := C1.out; omega⟩, ⟨by rw [HE.out]; exact HRES.out⟩, ⟨HS.out.drewN _⟩⟩
  ·have t1 : decide (i < b) = false := decide_eq_false c1
   have H := HRES.out
   obtain rfl : gk0 = 0 := by have := HX.out; omega
   obtain rfl : ys = res := H
   clear HRES c1
   go_wp2
   go_end0
   exact ⟨rfl, HS.out⟩
def stable_m (lt : Int → Int → Bool) (xs : List Int) : Option (List Int) := if xs.length < 20 then some (ins_sort lt 0 (xs.length - 1) xs 1) else none
set_option maxHeartbeats 2000000 in
set_option maxRecDepth 100000 in
theorem stable_calls {w0 : World} {bc bl bk bo : Nat} {a0 a1 : Int} {A : Option Addr} {c : Nat} {ops : List S57} {Al : Option Addr} {cl : Nat} {ls : List Int} {N cap : Nat} (W : World) (xs rs : List Int)
  (h : Srt w0 bc bl bk bo a0 a1 A c ops Al cl ls N cap W xs) (hN : N ≤ 4611686018427387904) (hr : stable_m (slt ops ls) xs = some rs) :
  Calls Try.prog 53 #[.slice (some ⟨bo, 0, none⟩) N cap, .int .i64 N, .func (.func 39) #[] #[.pointer (some ⟨bk, 0, none⟩)]] W fun e W' => e = .returned (.tuple #[]) ∧ Srt w0 bc bl bk bo a0 a1 A c ops Al cl ls N cap W' rs := by
 unfold stable_m at hr
 have hlen := h.length
 by_cases c0 : xs.length < 20
 ·rw [if_pos c0] at hr
  obtain rfl := Option.some.inj hr
  have hi := insertion_calls W xs 0 N h (by omega) (by omega) (by omega) hN
  rw [show ((N : Int) - (0 + 1)).toNat = xs.length - 1 by omega] at hi
  have HI := Aside0.mk hi
  have t1 : decide ((20 : Int) ≤ (N : Int)) = false := decide_eq_false (by omega)
  have t1' : decide (20 ≤ N) = false := decide_eq_false (by omega)
  have t2 : decide ((20 : Int) < (N : Int)) = false := decide_eq_false (by omega)
  have t2' : decide (20 < N) = false := decide_eq_false (by omega)
  clear hi hr c0 h hN hlen
  go_enter Try.func53, Try.ntmps53
  go_wp2
  refine wp_loop_rounds 1 ?_
  rw [rounds_succ]
  go_wp2_with (first | (go_at_call 58; refine HI.out.mono ?_; rintro e w2 ⟨rfl, hs⟩; have HS := Aside0.mk hs; clear hs))
  go_goals
  all_goals (refine wp_loop_rounds 1 ?_; rw [rounds_succ]; go_wp2)
  go_goals
  go_end0
  exact ⟨rfl, HS.out⟩
 ·rw [if_neg c0] at hr
  exact absurd hr (by simp)
theorem SortStable_calls {w0 : World} {bc bl bk bo : Nat} {a0 a1 : Int} {A : Option Addr} {c : Nat} {ops : List S57} {Al : Option Addr} {cl : Nat} {ls : List Int} {N cap : Nat} (W : World) (xs rs : List Int)
  (h : Srt w0 bc bl bk bo a0 a1 A c ops Al cl ls N cap W xs) (hN : N ≤ 4611686018427387904) (hr : stable_m (slt ops ls) xs = some rs) :
  Calls Try.prog 38 #[.slice (some ⟨bo, 0, none⟩) N cap, .func (.func 39) #[] #[.pointer (some ⟨bk, 0, none⟩)]] W fun e W' => e = .returned (.tuple #[]) ∧ Srt w0 bc bl bk bo a0 a1 A c ops Al cl ls N cap W' rs := by
 have HI := Aside0.mk (stable_calls W xs rs h hN hr)
 clear h hN hr
 go_enter Try.func38, Try.ntmps38
 go_wp2_with (first | (go_at_call 53; refine HI.out.mono ?_; rintro e w2 ⟨rfl, hs⟩; have HS := Aside0.mk hs; clear hs))
 go_end0
 exact ⟨rfl, HS.out⟩
set_option maxRecDepth 100000 in
theorem insertion_nil (bk : Nat) (W : World) :
  Calls Try.prog 58 #[.slice none 0 0, .int .i64 0, .int .i64 0, .func (.func 39) #[] #[.pointer (some ⟨bk, 0, none⟩)]] W fun e W' => e = .returned (.tuple #[]) ∧ W' = W := by
 go_enter Try.func58, Try.ntmps58
 go_wp2
 refine wp_loop_rounds 1 ?_
 rw [rounds_succ]
 go_wp2
 go_end0
 exact ⟨rfl, rfl⟩
set_option maxRecDepth 100000 in
theorem stable_nil (bk : Nat) (W : World) :
  Calls Try.prog 53 #[.slice none 0 0, .int .i64 0, .func (.func 39) #[] #[.pointer (some ⟨bk, 0, none⟩)]] W fun e W' => e = .returned (.tuple #[]) ∧ W' = W := by
 go_enter Try.func53, Try.ntmps53
 go_wp2
 refine wp_loop_rounds 1 ?_
 rw [rounds_succ]
 go_wp2_with (first | (go_at_call 58; refine (insertion_nil bk W).mono ?_; rintro e w2 ⟨rfl, rfl⟩))
 refine wp_loop_rounds 1 ?_
 rw [rounds_succ]
 go_wp2
 go_end0
 exact ⟨rfl, rfl⟩
theorem SortStable_nil (bk : Nat) (W : World) :
  Calls Try.prog 38 #[.slice none 0 0, .func (.func 39) #[] #[.pointer (some ⟨bk, 0, none⟩)]] W fun e W' => e = .returned (.tuple #[]) ∧ W' = W := by
 go_enter Try.func38, Try.ntmps38
 go_wp2_with (first | (go_at_call 53; refine (stable_nil bk W).mono ?_; rintro e w2 ⟨rfl, rfl⟩))
 go_end0
 exact ⟨rfl, rfl⟩
def iota (n : Nat) : List Int := (List.range n).map Int.ofNat
theorem iota_succ (n : Nat) : iota (n + 1) = iota n ++ [(n : Int)] := by unfold iota; rw [List.range_succ, List.map_append]; rfl
theorem iota_length (n : Nat) : (iota n).length = n := by simp [iota]
def layers_Sorted.f (k : Nat) (a0_0 : Int) (a0_1 : Int) (l0_2 : List S57) : Option (Int × Int × List S57 × Int) :=
 (layers_Early.f k a0_0 a0_1 l0_2).bind fun b => if b.2 = 0 then (if b.1.length = l0_2.length ∧ b.1.length < 17592186044416 then (stable_m (slt l0_2 b.1) (iota b.1.length)).bind fun ps => (layers_only.f k a0_0 a0_1 l0_2 ps).bind fun o => some (o.1, o.2.1, o.2.2, 0) else none) else some (0, 0, [], b.2)
theorem stable_m_nil (lt : Int → Int → Bool) : stable_m lt [] = some [] := rfl
theorem iota_val {n : Nat} : ∀ z, z ∈ iota n → 0 ≤ z ∧ z < n := by
 intro z hz
 obtain ⟨m, hm, rfl⟩ := List.mem_map.mp hz
 have := List.mem_range.mp hm
 exact ⟨Int.natCast_nonneg _, by show (m : Int) < n; omega⟩
set_option maxHeartbeats 8000000 in
set_option maxRecDepth 100000 in
theorem layers_Sorted.calls (k : Nat) (a0_0 : Int) (a0_1 : Int) (A0_2 : Option Addr) (c0_2 : Nat) (l0_2 : List (S57)) (r1 : Int) (r2 : Int) (r3 : List (S57)) (r4 : Int) (w : World) (hr0_2 : Kd.C k57 w A0_2 l0_2.length l0_2) (hc0_2 : l0_2.length ≤ c0_2) (h : layers_Sorted.f k a0_0 a0_1 l0_2 = some (r1, r2, r3, r4)) :
  Calls Try.prog 22 #[.agg #[.int .i64 a0_0, .int .i64 a0_1, .slice A0_2 l0_2.length c0_2]] w fun e w' => ∃ v2_ : Value, e = .returned (.tuple #[.agg #[.int .i64 r1, .int .i64 r2, v2_], .int .i64 r4]) ∧ Kd.N k57 57 w' w.heap.size (fun k_ => (w.heap.size ≤ k_)) v2_ r3 ∧ Below w.heap.size w w' := by
 have hu24 := Try.underlying24
 have hu57 := Try.underlying57
 have HM := Aside0.mk hr0_2.2.1
 have HR := Aside0.mk hr0_2
 have HC := Aside0.mk hc0_2
 have HB := Aside0.mk (Below.refl w.heap.size w)
 unfold layers_Sorted.f at h
 obtain ⟨⟨es, e0⟩, AE0, H1⟩ := Option.bind_eq_some_iff.mp h
 have AE := Aside0.mk AE0
 clear hr0_2 hc0_2 h AE0
 by_cases c0 : e0 = 0
 ·subst c0
  rw [if_pos rfl] at H1
  by_cases cL : es.length = l0_2.length ∧ es.length < 17592186044416
  ·rw [if_pos cL] at H1
   obtain ⟨ps, AS0, H2⟩ := Option.bind_eq_some_iff.mp H1
   obtain ⟨⟨o1, o2, o3⟩, AO0, H3⟩ := Option.bind_eq_some_iff.mp H2
   simp only [Option.some.injEq, Prod.mk.injEq] at H3
   obtain ⟨rfl, rfl, rfl, rfl⟩ := H3
   have AS := Aside0.mk AS0
   have AO := Aside0.mk AO0
   have HL := Aside0.mk cL
   clear H1 H2 AS0 AO0 cL
   go_enter Try.func22, Try.ntmps22
   go_wp2_with (first | ((with_reducible refine gate_dst (N := 1) rfl ?_); refine box_event ?hg (N := 1) ?hd (cs := #[.int .i64 a0_0, .int .i64 a0_1, .slice A0_2 l0_2.length c0_2]) (t := 24) ?hr ?_; (case hd => rfl); (case hg => rfl); (case hr => first | (go_simp; done) | (go_simp; rfl)); intro gb1 hg w1 BK1 hb; have G1 := Aside0.mk (show w.heap.size ≤ gb1 by rw [hg]; exact Nat.le_refl _); have HB1 := Aside0.mk (below_step HB.out hb); replace BK1 := Aside0.mk BK1; clear HB; have HB := HB1; clear HB1 hb hg) | ((with_reducible refine gate_dst (N := 2) rfl ?_); refine box_event ?hg (N := 2) ?hd (cs := #[.int .i64 0, .int .i64 0, .slice none 0 0]) (t := 24) ?hr ?_; (case hd => rfl); (case hg => rfl); (case hr => first | (go_simp; done) | (go_simp; rfl)); intro gb2 hg w2 BK2 hb; have G2 := Aside0.mk (show w.heap.size ≤ gb2 by rw [hg]; exact HB.out.size); have N12 := Aside0.mk (show gb1 ≠ gb2 by rw [hg]; exact Nat.ne_of_lt (blk_lt BK1.out)); have HB1 := Aside0.mk (below_step HB.out hb); have BK1' := Aside0.mk (blk_below BK1.out hb); replace BK2 := Aside0.mk BK2; clear HB BK1; have HB := HB1; have BK1 := BK1'; clear HB1 BK1' hb hg; have hz0 : w2.cell? ⟨gb1, 0, none⟩ = some (.int .i64 a0_0) := (blk_cell BK1.out 0).trans rfl; have hz1 : w2.cell? ⟨gb1, 1, none⟩ = some (.int .i64 a0_1) := (blk_cell BK1.out 1).trans rfl; have hz2 : w2.cell? ⟨gb1, 2, none⟩ = some (.slice A0_2 l0_2.length c0_2) := (blk_cell BK1.out 2).trans rfl) | (go_at_call 6; refine (layers_Early.calls k a0_0 a0_1 A0_2 c0_2 l0_2 es _ _ ?s1 ?s2 AE.out).mono ?_; (case s1 => exact Kd.C_below HR.out HB.out); (case s2 => exact HC.out); rintro e w3 ⟨ve, rfl, ho, hb⟩; have HE := Aside0.mk ho; have HB2 := Aside0.mk hb; clear hz0 hz1 hz2 hb ho; obtain ⟨Ae, ce, ee⟩ := Kd.R_slice HE.out; subst ee))
   have BK4 := Aside0.mk (show (w3.alloc (.cells #[.slice Ae es.length ce] 25)).heap[w3.heap.size]? = some (.cells #[.slice Ae es.length ce] 25 (0, 0)) from blk_new w3 _)
   have L23 := Aside0.mk HB2.out.size
   go_loopg [6, 20] es.length (fun kq v6 v20 w' => ∃ (m : Nat), v20 = .int .i64 (m : Int) ∧ Aside0 (m + kq = es.length) ∧ Aside0 (m = 0 → v6 = .slice none 0 0) ∧ Aside0 (Kd.R (Kd.int .i64) 3 w' w2.heap.size (fun k => w3.heap.size < k) v6 (iota m)) ∧ Aside0 (Kd.R (Kd.int .i64) 3 w' w2.heap.size (fun k => k < w3.heap.size) (.slice Ae es.length ce) es) ∧ Aside0 (w'.heap[w3.heap.size]? = some (.cells #[.slice Ae es.length ce] 25 (0, 0))) ∧ Aside0 (Below w2.heap.size w2 w'))
   case atStart => exact ⟨0, rfl, ⟨by omega⟩, ⟨fun _ => rfl⟩, ⟨Kd.R_nil _ _ _ _ _⟩, ⟨⟨fun k hk => own_lt (Kd.own_of_R (h1 := fun _ => rfl) HE.out) k hk, (Kd.R_alloc HE.out _).2⟩⟩, BK4, ⟨below_alloc HB2.out _⟩⟩
   case round =>
    clear HE BK4 HB2
    obtain ⟨m, rfl, HX, HZ0, HP, HE, BK4, HB2⟩ := hrel
    by_cases c1 : m < es.length
    ·have t1 : decide ((m : Int) < (es.length : Int)) = true := decide_eq_true (by omega)
     have t1' : decide (m < es.length) = true := decide_eq_true c1
     have hw := h_w1 (x := (m : Int)) (n := es.length) (by omega) (by omega) (by have := HL.out.2; omega)
     have C1 := Aside0.mk c1
     clear c1
     go_wp2_with (first | ((with_reducible refine gate_builtin (b := .append) (xs := #[.tmp 23, .tmp 25]) rfl ?_); at_builtin; refine Kd.R_append (Kd.int .i64) (w0 := w2) w2.heap.size rfl (.tmp 23) (.tmp 25) 25 3 (.int .i64 0) 8 rfl Try.underlying25 info3 rfl (by decide) (by omega) u6 (iota m) (m : Int) [.int .i64 (m : Int)] (fun k => w3.heap.size < k) (fun _ => False) rfl rfl ?aP (fun _ hk => hk.elim) ?aF ?aO ?aB ?aS ?aL ?_; (case aP => exact rfl); (case aB => exact HB2.out); (case aF => exact fun k hk => Nat.lt_of_lt_of_le (blk_lt BK4.out) hk); (case aO => exact HP.out); (case aS => exact HB2.out.size); (case aL => rw [iota_length]; have := HL.out; have := HX.out; omega); intro v9 w9 ho hb hg hat; have HP' := Aside0.mk ho; have HB' := Aside0.mk hb; have HE' := Aside0.mk (Kd.R_grown HE.out hg (fun k hk e => by have h1 := HP.out.1 k e.symm; omega)); have BK4' := Aside0.mk (blk_grown BK4.out hg (fun e => by have h1 := HP.out.1 _ e.symm; omega)); clear ho hb hg hat HP HB2 HE BK4; have HP := HP'; have HB2 := HB'; have HE := HE'; have BK4 := BK4'; clear HP' HB' HE' BK4'))
     go_roundg (gk - 1)
     case measure => have := HX.out; have := C1.out; omega
     case rel => exact ⟨m + 1, by go_num, ⟨by have := HX.out; have := C1.out; omega⟩, ⟨fun e => absurd e (by omega)⟩, ⟨by rw [iota_succ]; exact HP.out⟩, HE, BK4, HB2⟩
    ·have t1 : decide ((m : Int) < (es.length : Int)) = false := decide_eq_false (by omega)
     have t1' : decide (m < es.length) = false := decide_eq_false c1
     obtain rfl : m = es.length := by have := HX.out; omega
     clear c1
     rcases Nat.eq_zero_or_pos es.length with hz | hp
     ·obtain rfl : es = [] := List.eq_nil_of_length_eq_zero hz
      have hu := HZ0.out hz
      subst hu
      have hps : ps = [] := by have := AS.out; rw [show iota ([] : List Int).length = [] from rfl, stable_m_nil] at this; injection this with this; exact this.symm
      subst hps
      have L0 := Aside0.mk hz
      clear hz
      go_wp2_with (first | (go_at_call 38; refine (SortStable_nil wr.heap.size _).mono ?_; rintro e w4 ⟨rfl, rfl⟩; have HB4 := Aside0.mk (show Below w2.heap.size w2 (wr.alloc (.cells #[.func (.func 37) #[] #[.pointer (some ⟨gb1, 0, none⟩), .pointer (some ⟨w3.heap.size, 0, none⟩)]] 70)) from below_alloc HB2.out _); have BK2' := Aside0.mk (blk_below BK2.out HB4.out); have HZ := blk_below BK1.out HB4.out; have hz0 := (blk_cell HZ 0).trans rfl; have hz1 := (blk_cell HZ 1).trans rfl; have hz2 := (blk_cell HZ 2).trans rfl; have HSC := Aside0.mk (Kd.C_below HR.out HB.out); clear HZ) | (go_at_call 40; refine (layers_only.calls k a0_0 a0_1 A0_2 c0_2 l0_2 none 0 [] o1 o2 o3 _ ?s1 ?s2 ?s3 ?s4 AO.out).mono ?_; (case s1 => exact Kd.C_below HSC.out HB4.out); (case s2 => exact HC.out); (case s3 => exact Kd.C_nil _ _); (case s4 => exact Nat.le_refl _); rintro e w5 ⟨v5, rfl, ho5, hb5⟩; obtain ⟨A5, c5, ve5⟩ := Kd.N_slice ho5; subst ve5; have HN := Aside0.mk ho5; have HB5 := Aside0.mk hb5; have BK5 := Aside0.mk (blk_below BK2'.out hb5); have y0 : w5.cell? ⟨gb2, 0, none⟩ = some (.int .i64 0) := (blk_cell BK5.out 0).trans rfl; have y1 : w5.cell? ⟨gb2, 1, none⟩ = some (.int .i64 0) := (blk_cell BK5.out 1).trans rfl; have y2 : w5.cell? ⟨gb2, 2, none⟩ = some (.slice none 0 0) := (blk_cell BK5.out 2).trans rfl; have y0f := blk_frozen BK5.out 0; have y1f := blk_frozen BK5.out 1; have y2f := blk_frozen BK5.out 2; clear ho5 hb5))
      refine bodyPost_ret (results_ct rfl _ _ gb2 24 #[.int .i64 o1, .int .i64 o2, .slice A5 o3.length c5] (0, 0) _ rfl (blk_put (cs := #[.int .i64 o1, .int .i64 o2, .slice none 0 0]) (blk_put (cs := #[.int .i64 o1, .int .i64 0, .slice none 0 0]) (blk_put (cs := #[.int .i64 0, .int .i64 0, .slice none 0 0]) BK5.out 0 _ rfl) 1 _ rfl) 2 _ rfl) Try.underlying24 rfl (by kernel_rfl)) rfl ?_
      have HBw := below_step (below_step HB.out HB4.out) HB5.out
      have hle := Nat.le_trans HB.out.size HB4.out.size
      have hgb := blk_lt BK2'.out
      exact ⟨_, rfl, Kd.N_lower (Kd.N_mono (Kd.N_far (Kd.N_far (Kd.N_far HN.out (fun k hk e => absurd e (by show k ≠ gb2; omega)) _) (fun k hk e => absurd e (by show k ≠ gb2; omega)) _) (fun k hk e => absurd e (by show k ≠ gb2; omega)) _) (fun k hk => Nat.le_trans hle hk)) hle, below_set (below_set (below_set HBw G2.out) G2.out) G2.out⟩
     ·obtain ⟨bo, cap, rfl, hbo, hbl, cells, hcl⟩ := Kd.R_form HP.out (by rw [iota_length]; exact hp)
      have HO3 := Aside0.mk (HP.out.1 bo rfl)
      have HBO := Aside0.mk hbl
      clear hbo hbl cells hcl hp
      go_wp2_with (first | (go_at_call 38; refine (SortStable_calls (w0 := w2) (bc := gb1) (bl := w3.heap.size) (bk := wr.heap.size) (bo := bo) (a0 := a0_0) (a1 := a0_1) (A := A0_2) (c := c0_2) (ops := l0_2) (Al := Ae) (cl := ce) (ls := es) (N := (iota es.length).length) (cap := cap) _ (iota es.length) ps ?s1 ?s2 AS.out).mono ?_; (case s1 => exact ⟨⟨below_alloc HB2.out _, blk_alloc (blk_below BK1.out HB2.out) _, blk_alloc BK4.out _, blk_new wr _, Kd.C_below HR.out HB.out, Kd.R_mono (Kd.R_alloc HE.out _) (fun k hk e => by have := HO3.out; omega)⟩, ⟨fun k hk => by injection hk with hk; exact hk.symm, (Kd.R_alloc HP.out _).2⟩, fun z hz => by have h1 := iota_val z hz; have h2 := HL.out.1; rw [← h2]; exact h1, fun e => by have h1 := HO3.out; have h2 := L23.out; have h3 := blk_lt BK1.out; omega, fun e => by have h1 := HO3.out; omega, fun e => by have h1 := HBO.out; omega, HL.out.1⟩); (case s2 => rw [iota_length]; have := HL.out.2; omega); rintro e w4 ⟨rfl, hs⟩; have BK2' := Aside0.mk (blk_below BK2.out hs.inv.hb); have HZ := hs.inv.hc; have hz0 : w4.cell? ⟨gb1, 0, none⟩ = some (.int .i64 a0_0) := (blk_cell HZ 0).trans rfl; have hz1 : w4.cell? ⟨gb1, 1, none⟩ = some (.int .i64 a0_1) := (blk_cell HZ 1).trans rfl; have hz2 : w4.cell? ⟨gb1, 2, none⟩ = some (.slice A0_2 l0_2.length c0_2) := (blk_cell HZ 2).trans rfl; have HSL := Aside0.mk hs.length; have HSD := Aside0.mk (Kd.R_reads' hs.dat); have HSC := Aside0.mk hs.inv.ho; have HB4 := Aside0.mk hs.inv.hb; clear hs HZ) | (go_at_call 40; rw [← HSL.out]; refine (layers_only.calls k a0_0 a0_1 A0_2 c0_2 l0_2 (some ⟨bo, 0, none⟩) cap ps o1 o2 o3 _ ?s1 ?s2 ?s3 ?s4 AO.out).mono ?_; (case s1 => exact Kd.C_below HSC.out HB4.out); (case s2 => exact HC.out); (case s3 => exact HSD.out.2.2); (case s4 => rw [HSL.out]; exact HSD.out.2.1); rintro e w5 ⟨v5, rfl, ho5, hb5⟩; obtain ⟨A5, c5, ve5⟩ := Kd.N_slice ho5; subst ve5; have HN := Aside0.mk ho5; have HB5 := Aside0.mk hb5; have BK5 := Aside0.mk (blk_below BK2'.out hb5); have y0 : w5.cell? ⟨gb2, 0, none⟩ = some (.int .i64 0) := (blk_cell BK5.out 0).trans rfl; have y1 : w5.cell? ⟨gb2, 1, none⟩ = some (.int .i64 0) := (blk_cell BK5.out 1).trans rfl; have y2 : w5.cell? ⟨gb2, 2, none⟩ = some (.slice none 0 0) := (blk_cell BK5.out 2).trans rfl; have y0f := blk_frozen BK5.out 0; have y1f := blk_frozen BK5.out 1; have y2f := blk_frozen BK5.out 2; clear ho5 hb5))
      refine bodyPost_ret (results_ct rfl _ _ gb2 24 #[.int .i64 o1, .int .i64 o2, .slice A5 o3.length c5] (0, 0) _ rfl (blk_put (cs := #[.int .i64 o1, .int .i64 o2, .slice none 0 0]) (blk_put (cs := #[.int .i64 o1, .int .i64 0, .slice none 0 0]) (blk_put (cs := #[.int .i64 0, .int .i64 0, .slice none 0 0]) BK5.out 0 _ rfl) 1 _ rfl) 2 _ rfl) Try.underlying24 rfl (by kernel_rfl)) rfl ?_
      have HBw := below_step (below_step HB.out HB4.out) HB5.out
      have hle : w.heap.size ≤ w4.heap.size := Nat.le_trans HB.out.size HB4.out.size
      have hgb : gb2 < w4.heap.size := blk_lt BK2'.out
      exact ⟨_, rfl, Kd.N_lower (Kd.N_mono (Kd.N_far (Kd.N_far (Kd.N_far HN.out (fun k hk e => absurd e (by show k ≠ gb2; omega)) _) (fun k hk e => absurd e (by show k ≠ gb2; omega)) _) (fun k hk e => absurd e (by show k ≠ gb2; omega)) _) (fun k hk => Nat.le_trans hle hk)) hle, below_set (below_set (below_set HBw G2.out) G2.out) G2.out⟩
  ·rw [if_neg cL] at H1
   exact absurd H1 (by simp)
 ·rw [if_neg c0] at H1
  simp only [Option.some.injEq, Prod.mk.injEq] at H1
  obtain ⟨rfl, rfl, rfl, rfl⟩ := H1
  have t0 : (e0 != 0) = true := bne_iff_ne.mpr c0
  clear c0
  go_enter Try.func22, Try.ntmps22
  go_wp2_with (first | ((with_reducible refine gate_dst (N := 1) rfl ?_); refine box_event ?hg (N := 1) ?hd (cs := #[.int .i64 a0_0, .int .i64 a0_1, .slice A0_2 l0_2.length c0_2]) (t := 24) ?hr ?_; (case hd => rfl); (case hg => rfl); (case hr => first | (go_simp; done) | (go_simp; rfl)); intro gb1 hg w1 BK1 hb; have G1 := Aside0.mk (show w.heap.size ≤ gb1 by rw [hg]; exact Nat.le_refl _); have HB1 := Aside0.mk (below_step HB.out hb); replace BK1 := Aside0.mk BK1; clear HB; have HB := HB1; clear HB1 hb hg) | ((with_reducible refine gate_dst (N := 2) rfl ?_); refine box_event ?hg (N := 2) ?hd (cs := #[.int .i64 0, .int .i64 0, .slice none 0 0]) (t := 24) ?hr ?_; (case hd => rfl); (case hg => rfl); (case hr => first | (go_simp; done) | (go_simp; rfl)); intro gb2 hg w2 BK2 hb; have G2 := Aside0.mk (show w.heap.size ≤ gb2 by rw [hg]; exact HB.out.size); have N12 := Aside0.mk (show gb1 ≠ gb2 by rw [hg]; exact Nat.ne_of_lt (blk_lt BK1.out)); have HB1 := Aside0.mk (below_step HB.out hb); have BK1' := Aside0.mk (blk_below BK1.out hb); replace BK2 := Aside0.mk BK2; clear HB BK1; have HB := HB1; have BK1 := BK1'; clear HB1 BK1' hb hg; have hz0 : w2.cell? ⟨gb1, 0, none⟩ = some (.int .i64 a0_0) := (blk_cell BK1.out 0).trans rfl; have hz1 : w2.cell? ⟨gb1, 1, none⟩ = some (.int .i64 a0_1) := (blk_cell BK1.out 1).trans rfl; have hz2 : w2.cell? ⟨gb1, 2, none⟩ = some (.slice A0_2 l0_2.length c0_2) := (blk_cell BK1.out 2).trans rfl) | (go_at_call 6; refine (layers_Early.calls k a0_0 a0_1 A0_2 c0_2 l0_2 es _ _ ?s1 ?s2 AE.out).mono ?_; (case s1 => exact Kd.C_below HR.out HB.out); (case s2 => exact HC.out); rintro e w3 ⟨ve, rfl, ho, hb⟩; have HE := Aside0.mk (Kd.R_lower ho HB.out.size); have HEok := Aside0.mk (Kd.R_base ho); have HB1 := Aside0.mk (below_step HB.out hb); have BK1' := Aside0.mk (blk_below BK1.out hb); have BK2' := Aside0.mk (blk_below BK2.out hb); have S12 := Aside0.mk (And.intro (blk_lt BK1'.out) (blk_lt BK2'.out)); clear HB BK1 BK2 hz0 hz1 hz2 hb ho; have HB := HB1; have BK1 := BK1'; have BK2 := BK2'; clear HB1 BK1' BK2'; obtain ⟨Ae, ce, ee⟩ := Kd.R_slice HE.out; subst ee; have y0 : ∀ o, (w3.alloc o).cell? ⟨gb2, 0, none⟩ = some (.int .i64 0) := fun o => (blk_cell (blk_alloc BK2.out o) 0).trans rfl; have y1 : ∀ o, (w3.alloc o).cell? ⟨gb2, 1, none⟩ = some (.int .i64 0) := fun o => (blk_cell (blk_alloc BK2.out o) 1).trans rfl; have y2 : ∀ o, (w3.alloc o).cell? ⟨gb2, 2, none⟩ = some (.slice none 0 0) := fun o => (blk_cell (blk_alloc BK2.out o) 2).trans rfl; have y0f := fun o => blk_frozen (blk_alloc BK2.out o) 0; have y1f := fun o => blk_frozen (blk_alloc BK2.out o) 1; have y2f := fun o => blk_frozen (blk_alloc BK2.out o) 2))
  refine bodyPost_ret (results_ct rfl _ _ gb2 24 #[.int .i64 0, .int .i64 0, .slice none 0 0] (0, 0) _ rfl (blk_put (cs := #[.int .i64 0, .int .i64 0, .slice none 0 0]) (blk_put (cs := #[.int .i64 0, .int .i64 0, .slice none 0 0]) (blk_put (cs := #[.int .i64 0, .int .i64 0, .slice none 0 0]) (blk_alloc BK2.out _) 0 _ rfl) 1 _ rfl) 2 _ rfl) Try.underlying24 rfl (by kernel_rfl)) rfl ?_
  exact ⟨_, rfl, Kd.N_nil _ _ _ _ _, below_set (below_set (below_set (below_alloc HB.out _) G2.out) G2.out) G2.out⟩
theorem reg_inv {P : Program} {ops : Array Oper} {Q : Exit → Act → World → Prop} {md : Region.Mode} (I : Array Bool → Act → World → Prop)
  (hstep : ∀ l a w, I l a w → ∀ (i : Nat) (oi : Oper), ops[i]? = some oi → l.getD i true = false → (∀ e ∈ oi.after, Region.binds md e = true → l.getD e.on false = true) → ∀ K : Act → World → Prop, Shut (∀ a' w', I (l.setIfInBounds i true) a' w' → K a' w') → if Region.wanted oi (yielded ops a.tmps) = true then Oper.wp P oi a w K Q else K (a.put oi.dst undef) w)
  (hdone : ∀ l a w, I l a w → (∀ (i : Nat) (oi : Oper), ops[i]? = some oi → l.getD i true = true) → Q .normal a w) (hsz : ∀ l a w, I l a w → l.size = ops.size)
  (hac : ∀ (i : Nat) (oi : Oper), ops[i]? = some oi → ∀ e ∈ oi.after, e.on < i) :
  ∀ fuel l a w, I l a w → l.toList.count false ≤ fuel → wpAnyLast P md ops Q (fun _ => True) [] fuel l a w := by
 have hno : ∀ l : Array Bool, l.size = ops.size → Region.ready md ops l = [] → ∀ i oi, ops[i]? = some oi → l.getD i true = true := by
  intro l hs hr i
  induction i using Nat.strongRecOn with
  | ind i ih =>
   intro oi hoi
   by_cases hl : l.getD i true = true
   ·exact hl
   ·exfalso
    have hm : i ∈ Region.ready md ops l := mem_ready.2 ⟨by simpa using hl, oi, hoi, fun e he hb => by
     have hlt := hac i oi hoi e he
     have hil : i < ops.size := (Array.getElem?_eq_some_iff.1 hoi).1
     have h1 := ih e.on hlt _ (Array.getElem?_eq_getElem (show e.on < ops.size by omega))
     rw [Array.getD_eq_getD_getElem?, Array.getElem?_eq_getElem (show e.on < l.size by omega)] at h1 ⊢
     exact h1⟩
    rw [hr] at hm
    cases hm
 intro fuel
 induction fuel with
 | zero =>
  intro l a w hI hc
  have hr : Region.ready md ops l = [] := by
   apply List.eq_nil_iff_forall_not_mem.2
   intro i hi
   obtain ⟨h1, oi, hoi, _⟩ := mem_ready.1 hi
   have hlt : i < l.size := by rw [hsz l a w hI]; exact (Array.getElem?_eq_some_iff.1 hoi).1
   rw [Array.getD_eq_getD_getElem?, Array.getElem?_eq_getElem hlt] at h1
   have h2 : false ∈ l.toList := by
    have h3 := Array.getElem_mem_toList hlt
    rwa [show l[i] = false from h1] at h3
   have := List.count_pos_iff.2 h2
   omega
  exact wpAnyLast_done hr (hdone l a w hI (hno l (hsz l a w hI) hr)) 0
 | succ n ih =>
  intro l a w hI hc
  by_cases hr : Region.ready md ops l = []
  ·exact wpAnyLast_done hr (hdone l a w hI (hno l (hsz l a w hI) hr)) _
  ·refine wpAnyLast_ready rfl hr (fun i hi => ?_)
   obtain ⟨h1, oi, hoi, h2⟩ := mem_ready.1 hi
   have hlt : i < l.size := by rw [hsz l a w hI]; exact (Array.getElem?_eq_some_iff.1 hoi).1
   refine wpOp_step hoi (fun K hK => hstep l a w hI i oi hoi h1 h2 K (fun a' w' hI' => hK a' w' ⟨fun _ _ => trivial, ih _ a' w' hI' ?_⟩))
   have h4 : l.toList[i]'(by simpa using hlt) = false := by
    rw [Array.getD_eq_getD_getElem?, Array.getElem?_eq_getElem hlt] at h1
    simpa using h1
   rw [Array.toList_setIfInBounds, List.count_set (by simpa using hlt), h4]
   have h5 : 0 < l.toList.count false := List.count_pos_iff.2 (by rw [← h4]; exact List.getElem_mem _)
   simp only [beq_self_eq_true, if_true, show (true == false) = false from rfl, Bool.false_eq_true, if_false]
   omega
theorem yields_step {P : Program} {ops : Array Oper} {Q : Exit → Act → World → Prop} {oi : Oper} {N : Option Tmp} {a : Act} {w w1 : World} {K : Act → World → Prop} {v : Value} (hw : Region.wanted oi (yielded ops a.tmps) = true) (hN : oi.dst = N) (hrun : (execOp a.eval oi).run P w = .ok (.value v) w1) (h : K (a.put N v) w1) : if Region.wanted oi (yielded ops a.tmps) = true then Oper.wp P oi a w K Q else K (a.put N undef) w := by
 rw [if_pos hw]
 subst hN
 unfold Oper.wp
 rw [hrun]
 exact h
def RowI (w : World) (v : Value) (xs : List Int) : Prop := ∃ A c, v = .slice A xs.length c ∧ xs.length ≤ c ∧ Kd.C (Kd.int .i64) w A xs.length xs
theorem RowI.below {w w1 : World} {v : Value} {xs : List Int} (h : RowI w v xs) (hb : Below w.heap.size w w1) : RowI w1 v xs := by
 obtain ⟨A, c, e, hc, hC⟩ := h
 exact ⟨A, c, e, hc, Kd.C_below hC hb⟩
def Ag (b : Nat) (w W : World) : Prop := w.heap.size ≤ W.heap.size ∧ ∀ k, b ≤ k → k < w.heap.size → W.heap[k]? = w.heap[k]?
theorem Ag.refl (b : Nat) (w : World) : Ag b w w := ⟨Nat.le_refl _, fun _ _ _ => rfl⟩
theorem Ag.trans {b : Nat} {w W X : World} (h : Ag b w W) (h2 : Ag b W X) : Ag b w X := ⟨Nat.le_trans h.1 h2.1, fun k hb hk => (h2.2 k hb (Nat.lt_of_lt_of_le hk h.1)).trans (h.2 k hb hk)⟩
theorem Ag.of_below {b : Nat} {w W : World} (h : Below w.heap.size w W) : Ag b w W := ⟨h.size, fun k _ hk => h.block k hk⟩
theorem Ag.set {b g o : Nat} (w : World) (hg : g < b) (u : Value) : Ag b w (w.setCell ⟨g, o, none⟩ u) := ⟨Nat.le_of_eq (by simp), fun k hk _ => Below.heap_setCell w _ u k (show k ≠ g by omega)⟩
def RowL (b : Nat) (w : World) (v : Value) (xs : List Int) : Prop := ∀ W, Ag b w W → RowI W v xs
theorem RowL.ag {b : Nat} {w w1 : World} {v : Value} {xs : List Int} (h : RowL b w v xs) (hb : Ag b w w1) : RowL b w1 v xs := fun W hW => h W (hb.trans hW)
theorem RowL.now {b : Nat} {w : World} {v : Value} {xs : List Int} (h : RowL b w v xs) : RowI w v xs := h w (Ag.refl _ _)
theorem RowL.new {b : Nat} {w : World} (xs : List Int) (hb : b ≤ w.heap.size) (hm : xs.length ≤ 9223372036854775807) : RowL b (w.alloc (.cells (xs.map (Value.int .i64)).toArray 3)) (.slice (some ⟨w.heap.size, 0, none⟩) xs.length xs.length) xs := by
 intro W hW
 refine ⟨_, _, rfl, Nat.le_refl _, rfl, hm, fun _ => ⟨_, rfl, fun j p hj => ⟨[.int .i64 p], rfl, rfl, fun i u hu => ?_⟩⟩⟩
 have h1 : W.heap[w.heap.size]? = some (.cells (xs.map (Value.int .i64)).toArray 3 (0, 0)) := (hW.2 w.heap.size hb (by simp)).trans (blk_new w _)
 match i, hu with
 | 0, hu =>
  injection hu with hu
  subst hu
  have h2 := blk_cell h1 (j * 1 + 0)
  show W.cell? (Addr.add ⟨w.heap.size, 0, none⟩ (j * 1 + 0)) = _
  rw [add_at, Nat.zero_add]
  refine h2.trans ?_
  simp [hj]
 | i + 1, hu => cases hu
set_option maxHeartbeats 2000000 in
set_option maxRecDepth 100000 in
theorem G_calls (g : Int) (v : Value) (xs : List Int) (w : World) (hv : RowI w v xs) :
  Calls Try.prog 52 #[.int .i64 g, v] w fun e w' => e = .returned (.agg #[.int .i64 1, .int .i64 g, v, .int .i64 0, .int .i64 (-1), .int .i64 0]) ∧ Below w.heap.size w w' := by
 have hu57 := Try.underlying57
 obtain ⟨A, c, rfl, hc, hC⟩ := hv
 have HB := Aside0.mk (Below.refl w.heap.size w)
 clear hC hc
 go_enter Try.func52, Try.ntmps52
 go_wp2_with (first | ((with_reducible refine gate_dst (N := 4) rfl ?_); refine box_event ?hg (N := 4) ?hd (cs := #[.int .i64 0, .int .i64 0, .slice none 0 0, .int .i64 0, .int .i64 0, .int .i64 0]) (t := 57) ?hr ?_; (case hd => rfl); (case hg => rfl); (case hr => first | (go_simp; done) | (go_simp; rfl)); intro gb hg w3 hbox hb; have BK := Aside0.mk hbox; have GW := Aside0.mk (show w.heap.size ≤ gb by rw [hg]; exact Nat.le_refl _); have HB' := Aside0.mk (below_step HB.out hb); clear HB; have HB := HB'; clear HB' hbox hb hg; have y0 : w3.cell? ⟨gb, 0, none⟩ = some (.int .i64 0) := (blk_cell BK.out 0).trans rfl; have y1 : w3.cell? ⟨gb, 1, none⟩ = some (.int .i64 0) := (blk_cell BK.out 1).trans rfl; have y2 : w3.cell? ⟨gb, 2, none⟩ = some (.slice none 0 0) := (blk_cell BK.out 2).trans rfl; have y3 : w3.cell? ⟨gb, 3, none⟩ = some (.int .i64 0) := (blk_cell BK.out 3).trans rfl; have y4 : w3.cell? ⟨gb, 4, none⟩ = some (.int .i64 0) := (blk_cell BK.out 4).trans rfl; have y5 : w3.cell? ⟨gb, 5, none⟩ = some (.int .i64 0) := (blk_cell BK.out 5).trans rfl; have f0 := blk_frozen BK.out 0; have f1 := blk_frozen BK.out 1; have f2 := blk_frozen BK.out 2; have f3 := blk_frozen BK.out 3; have f4 := blk_frozen BK.out 4; have f5 := blk_frozen BK.out 5))
 refine bodyPost_ret (results_cell_row rfl _ _ gb 57 #[.int .i64 1, .int .i64 g, .slice A xs.length c, .int .i64 0, .int .i64 (-1), .int .i64 0] (0, 0) _ rfl (blk_put (cs := #[.int .i64 1, .int .i64 g, .slice A xs.length c, .int .i64 0, .int .i64 (-1), .int .i64 0]) (blk_put (cs := #[.int .i64 1, .int .i64 g, .slice A xs.length c, .int .i64 0, .int .i64 0, .int .i64 0]) (blk_put (cs := #[.int .i64 1, .int .i64 g, .slice A xs.length c, .int .i64 0, .int .i64 0, .int .i64 0]) (blk_put (cs := #[.int .i64 1, .int .i64 g, .slice none 0 0, .int .i64 0, .int .i64 0, .int .i64 0]) (blk_put (cs := #[.int .i64 1, .int .i64 0, .slice none 0 0, .int .i64 0, .int .i64 0, .int .i64 0]) (blk_put (cs := #[.int .i64 0, .int .i64 0, .slice none 0 0, .int .i64 0, .int .i64 0, .int .i64 0]) BK.out 0 _ rfl) 1 _ rfl) 2 _ rfl) 3 _ rfl) 4 _ rfl) 5 _ rfl) hu57 rfl (by kernel_rfl)) rfl ?_
 exact ⟨rfl, below_set (below_set (below_set (below_set (below_set (below_set HB.out GW.out) GW.out) GW.out) GW.out) GW.out) GW.out⟩
def exOps : List S57 := [⟨1, 2, [0], 0, -1, 0⟩, ⟨1, 11, [0, 1], 0, -1, 0⟩, ⟨1, 2, [2], 0, -1, 0⟩, ⟨4, 0, [1, 2], 0, -1, 0⟩, ⟨1, 2, [2], 0, -1, 0⟩]
def OpsL (b : Nat) (w : World) (v : Value) : Prop := ∃ A, v = .slice A 5 5 ∧ ∀ W, Ag b w W → Kd.C k57 W A 5 exOps
theorem OpsL.ag {b : Nat} {w w1 : World} {v : Value} (h : OpsL b w v) (hb : Ag b w w1) : OpsL b w1 v := by
 obtain ⟨A, e, hC⟩ := h
 exact ⟨A, e, fun W hW => hC W (hb.trans hW)⟩
def gv (k g : Int) (v : Value) : Value := .agg #[.int .i64 k, .int .i64 g, v, .int .i64 0, .int .i64 (-1), .int .i64 0]
def gcells (k g : Int) (v : Value) : List Value := [.int .i64 k, .int .i64 g, v, .int .i64 0, .int .i64 (-1), .int .i64 0]
def ExI (w0 : World) (g0 g1 : Nat) (ub u3 : Value) (l : Array Bool) (a : Act) (w : World) : Prop :=
 ∃ v4 v5 v6 v7 v8 v9 v10 v11 v12 v13 v14 : Value, a = ⟨#[.pointer (some ⟨g0, 0, none⟩), .pointer (some ⟨g1, 0, none⟩), ub, u3, v4, v5, v6, v7, v8, v9, v10, v11, v12, v13, v14], []⟩ ∧ l.size = 12 ∧ Below w0.heap.size w0 w ∧ w0.heap.size ≤ g0 ∧ g0 < g1 ∧ g1 < w.heap.size ∧
  w.heap[g1]? = some (.cells (gcells 4 0 ub).toArray 57 (0, 0)) ∧ RowL (g0 + 1) w ub [1, 2] ∧ (l.getD 11 true = false → w.heap[g0]? = some (.cells #[.int .i64 0, .int .i64 0, .slice none 0 0] 24 (0, 0))) ∧
  (l.getD 0 false = true → RowL (g0 + 1) w v4 [0]) ∧ (l.getD 1 false = true → (v5 = gv 1 2 v4 ∧ RowL (g0 + 1) w v4 [0] ∧ l.getD 0 false = true)) ∧ (l.getD 2 false = true → RowL (g0 + 1) w v6 [0, 1]) ∧ (l.getD 3 false = true → (v7 = gv 1 11 v6 ∧ RowL (g0 + 1) w v6 [0, 1] ∧ l.getD 2 false = true)) ∧ (l.getD 4 false = true → RowL (g0 + 1) w v8 [2]) ∧ (l.getD 5 false = true → (v9 = gv 1 2 v8 ∧ RowL (g0 + 1) w v8 [2] ∧ l.getD 4 false = true)) ∧ (l.getD 6 false = true → v10 = gv 4 0 ub) ∧ (l.getD 7 false = true → RowL (g0 + 1) w v11 [2]) ∧ (l.getD 8 false = true → (v12 = gv 1 2 v11 ∧ RowL (g0 + 1) w v11 [2] ∧ l.getD 7 false = true)) ∧ (l.getD 9 false = true → OpsL (g0 + 1) w v13) ∧ (l.getD 10 false = true → (v14 = .agg #[.int .i64 3, .int .i64 0, v13] ∧ l.getD 9 false = true)) ∧ (l.getD 11 false = true → (w.heap[g0]? = some (.cells #[.int .i64 3, .int .i64 0, v13] 24 (0, 0)) ∧ l.getD 9 false = true))
theorem gv_K {b : Nat} {w W : World} {k g : Int} {v : Value} {xs : List Int} (h : RowL b w v xs) (hW : Ag b w W) : k57.K W ⟨k, g, xs, 0, -1, 0⟩ (gcells k g v) := by
 obtain ⟨A, c, rfl, hc, hC⟩ := h W hW
 exact k57_mk W ⟨k, g, xs, 0, -1, 0⟩ hc hC
theorem OpsL.new {b : Nat} {w : World} {v4 v6 v8 ub v11 : Value} (hb : b ≤ w.heap.size) (h4 : RowL b w v4 [0]) (h6 : RowL b w v6 [0, 1]) (h8 : RowL b w v8 [2]) (hu : RowL b w ub [1, 2]) (h11 : RowL b w v11 [2]) :
  OpsL b (w.alloc (.cells (gcells 1 2 v4 ++ gcells 1 11 v6 ++ gcells 1 2 v8 ++ gcells 4 0 ub ++ gcells 1 2 v11).toArray 57)) (.slice (some ⟨w.heap.size, 0, none⟩) 5 5) := by
 refine ⟨_, rfl, fun W hW => ⟨rfl, by omega, fun _ => ⟨_, rfl, fun j p hj => ?_⟩⟩⟩
 have h1 : W.heap[w.heap.size]? = some (.cells (gcells 1 2 v4 ++ gcells 1 11 v6 ++ gcells 1 2 v8 ++ gcells 4 0 ub ++ gcells 1 2 v11).toArray 57 (0, 0)) := (hW.2 w.heap.size hb (by simp)).trans (blk_new w _)
 have hA : Ag b w W := (Ag.of_below (below_alloc (Below.refl _ _) _)).trans hW
 have hc : ∀ (j i : Nat), W.cell? (Addr.add ⟨w.heap.size, 0, none⟩ (j * 6 + i)) = (gcells 1 2 v4 ++ gcells 1 11 v6 ++ gcells 1 2 v8 ++ gcells 4 0 ub ++ gcells 1 2 v11).toArray[j * 6 + i]? := fun j i => by
  rw [add_at, Nat.zero_add]
  exact blk_cell h1 _
 match j, hj with
 | 0, hj =>
  cases hj
  refine ⟨gcells 1 2 v4, rfl, gv_K h4 hA, fun i u hu => (hc 0 i).trans ?_⟩
  match i, hu with
  | 0, hu => exact hu
  | 1, hu => exact hu
  | 2, hu => exact hu
  | 3, hu => exact hu
  | 4, hu => exact hu
  | 5, hu => exact hu
  | i + 6, hu => cases hu
 | 1, hj =>
  cases hj
  refine ⟨gcells 1 11 v6, rfl, gv_K h6 hA, fun i u hu => (hc 1 i).trans ?_⟩
  match i, hu with
  | 0, hu => exact hu
  | 1, hu => exact hu
  | 2, hu => exact hu
  | 3, hu => exact hu
  | 4, hu => exact hu
  | 5, hu => exact hu
  | i + 6, hu => cases hu
 | 2, hj =>
  cases hj
  refine ⟨gcells 1 2 v8, rfl, gv_K h8 hA, fun i u hu => (hc 2 i).trans ?_⟩
  match i, hu with
  | 0, hu => exact hu
  | 1, hu => exact hu
  | 2, hu => exact hu
  | 3, hu => exact hu
  | 4, hu => exact hu
  | 5, hu => exact hu
  | i + 6, hu => cases hu
 | 3, hj =>
  cases hj
  refine ⟨gcells 4 0 ub, rfl, gv_K hu hA, fun i u hu => (hc 3 i).trans ?_⟩
  match i, hu with
  | 0, hu => exact hu
  | 1, hu => exact hu
  | 2, hu => exact hu
  | 3, hu => exact hu
  | 4, hu => exact hu
  | 5, hu => exact hu
  | i + 6, hu => cases hu
 | 4, hj =>
  cases hj
  refine ⟨gcells 1 2 v11, rfl, gv_K h11 hA, fun i u hu => (hc 4 i).trans ?_⟩
  match i, hu with
  | 0, hu => exact hu
  | 1, hu => exact hu
  | 2, hu => exact hu
  | 3, hu => exact hu
  | 4, hu => exact hu
  | 5, hu => exact hu
  | i + 6, hu => cases hu
 | j + 5, hj => cases hj
theorem skip_step {P : Program} {ops : Array Oper} {Q : Exit → Act → World → Prop} {oi : Oper} {a : Act} {w w1 : World} {K : Act → World → Prop} (hw : Region.wanted oi (yielded ops a.tmps) = true) (hrun : (execOp a.eval oi).run P w = .ok .skip w1) (h : K (a.put oi.dst undef) w1) : if Region.wanted oi (yielded ops a.tmps) = true then Oper.wp P oi a w K Q else K (a.put oi.dst undef) w := by
 rw [if_pos hw]
 unfold Oper.wp
 rw [hrun, Oper.upon_skip]
 exact h
theorem bk36 {l : Array Bool} {i j : Nat} (h : i ≠ j) (hx : (l.setIfInBounds i true).getD j false = true) : l.getD j false = true := (getD_set_ne false h).symm.trans hx
theorem bk36t {l : Array Bool} {i j : Nat} (h : i ≠ j) (hx : (l.setIfInBounds i true).getD j true = false) : l.getD j true = false := (getD_set_ne true h).symm.trans hx
theorem no36 {l : Array Bool} {i : Nat} (h : l.getD i true = false) (h2 : l.getD i false = true) : False := by
 rw [Array.getD_eq_getD_getElem?] at h h2
 cases hx : l[i]? with
 | none => rw [hx] at h; cases h
 | some b => rw [hx] at h h2; exact absurd (h.symm.trans h2) (by decide)
theorem all36 (i : Nat) (oi : Oper) (h : (opsOf Try.f36 2)[i]? = some oi) : i < 12 := (Array.getElem?_eq_some_iff.1 h).1
set_option maxHeartbeats 2000000 in
set_option maxRecDepth 100000 in
theorem step36_0 {w : World} {g0 g1 : Nat} {ub : Value} {Q : Exit → Act → World → Prop} (hu24 : Try.prog.underlying 24 = some (.struct #[{ name := "Qubits", type := 3, offset := 0, embedded := false, tag := "", pkgPath := "", byteOffset := 0 }, { name := "Bits", type := 3, offset := 1, embedded := false, tag := "", pkgPath := "", byteOffset := 8 }, { name := "Ops", type := 22, offset := 2, embedded := false, tag := "", pkgPath := "", byteOffset := 16 }])) (l : Array Bool) (a : Act) (W : World) (hI : ExI w g0 g1 ub (gv 4 0 ub) l a W) (oi : Oper) (hoi : (opsOf Try.f36 2)[0]? = some oi) (haf : ∀ e ∈ oi.after, Region.binds .any e = true → l.getD e.on false = true) (hl0 : l.getD 0 true = false) (K : Act → World → Prop) (hK : Shut (∀ a' w', ExI w g0 g1 ub (gv 4 0 ub) (l.setIfInBounds 0 true) a' w' → K a' w')) : if Region.wanted oi (yielded (opsOf Try.f36 2) a.tmps) = true then Oper.wp Try.prog oi a W K Q else K (a.put oi.dst undef) W := by
 have hu57 := Try.underlying57
 obtain ⟨v4, v5, v6, v7, v8, v9, v10, v11, v12, v13, v14, rfl, hl, hB, h0, h1, h2, h3, h4, hz, F0, F1, F2, F3, F4, F5, F6, F7, F8, F9, F10, F11⟩ := hI
 obtain rfl := Option.some.inj ((show (opsOf Try.f36 2)[0]? = some ({ dst := some 4, op := .buildSlice 25 1 #[(0, .const (.int .i64 0))], type := 25, pos := "law.go:20", after := #[], guard := none } : Oper) from by kernel_rfl).symm.trans hoi)
 have hb := below_alloc (Below.refl W.heap.size W) (.cells #[.int .i64 0] 3)
 have hA : Ag (g0 + 1) W _ := Ag.of_below hb
 refine yields_step (N := some 4) (v := .slice (some ⟨W.heap.size, 0, none⟩) 1 1) (w1 := W.alloc (.cells #[.int .i64 0] 3)) rfl rfl (by first | (go_simp; done) | (go_simp; rfl)) (hK.out _ _ ?_)
 exact ⟨_, _, _, _, _, _, _, _, _, _, _, rfl, by simp [hl], below_step hB hb, h0, h1, Nat.lt_of_lt_of_le h2 hb.size, blk_below h3 hb, h4.ag hA, fun h => blk_below (hz (bk36t (by decide) h)) hb, fun _ => RowL.new (b := g0 + 1) (w := W) [0] (by omega) (by decide), fun h => (no36 hl0 (F1 (bk36 (by decide) h)).2.2).elim, fun h => (F2 (bk36 (by decide) h)).ag hA, fun h => ⟨(F3 (bk36 (by decide) h)).1, (F3 (bk36 (by decide) h)).2.1.ag hA, getD_set_true (F3 (bk36 (by decide) h)).2.2⟩, fun h => (F4 (bk36 (by decide) h)).ag hA, fun h => ⟨(F5 (bk36 (by decide) h)).1, (F5 (bk36 (by decide) h)).2.1.ag hA, getD_set_true (F5 (bk36 (by decide) h)).2.2⟩, fun h => F6 (bk36 (by decide) h), fun h => (F7 (bk36 (by decide) h)).ag hA, fun h => ⟨(F8 (bk36 (by decide) h)).1, (F8 (bk36 (by decide) h)).2.1.ag hA, getD_set_true (F8 (bk36 (by decide) h)).2.2⟩, fun h => (F9 (bk36 (by decide) h)).ag hA, fun h => ⟨(F10 (bk36 (by decide) h)).1, getD_set_true (F10 (bk36 (by decide) h)).2⟩, fun h => ⟨blk_below (F11 (bk36 (by decide) h)).1 hb, getD_set_true (F11 (bk36 (by decide) h)).2⟩⟩
set_option maxHeartbeats 2000000 in
set_option maxRecDepth 100000 in
theorem step36_1 {w : World} {g0 g1 : Nat} {ub : Value} {Q : Exit → Act → World → Prop} (hu24 : Try.prog.underlying 24 = some (.struct #[{ name := "Qubits", type := 3, offset := 0, embedded := false, tag := "", pkgPath := "", byteOffset := 0 }, { name := "Bits", type := 3, offset := 1, embedded := false, tag := "", pkgPath := "", byteOffset := 8 }, { name := "Ops", type := 22, offset := 2, embedded := false, tag := "", pkgPath := "", byteOffset := 16 }])) (l : Array Bool) (a : Act) (W : World) (hI : ExI w g0 g1 ub (gv 4 0 ub) l a W) (oi : Oper) (hoi : (opsOf Try.f36 2)[1]? = some oi) (haf : ∀ e ∈ oi.after, Region.binds .any e = true → l.getD e.on false = true) (hl0 : l.getD 1 true = false) (K : Act → World → Prop) (hK : Shut (∀ a' w', ExI w g0 g1 ub (gv 4 0 ub) (l.setIfInBounds 1 true) a' w' → K a' w')) : if Region.wanted oi (yielded (opsOf Try.f36 2) a.tmps) = true then Oper.wp Try.prog oi a W K Q else K (a.put oi.dst undef) W := by
 have hu57 := Try.underlying57
 obtain ⟨v4, v5, v6, v7, v8, v9, v10, v11, v12, v13, v14, rfl, hl, hB, h0, h1, h2, h3, h4, hz, F0, F1, F2, F3, F4, F5, F6, F7, F8, F9, F10, F11⟩ := hI
 obtain rfl := Option.some.inj ((show (opsOf Try.f36 2)[1]? = some ({ dst := some 5, op := .call { callee := .value (.func 52), args := #[.const (.int .i64 2), .tmp 4], argTypes := #[55, 25] }, type := 57, pos := "law.go:20", after := #[{ on := 0, ground := .data }], guard := none } : Oper) from by kernel_rfl).symm.trans hoi)
 refine goes_ Try.func52 (by kernel_rfl) rfl #[.int .i64 2, v4] (by rfl) rfl rfl (by simp [Act.eval]) ?_
 refine (G_calls 2 v4 [0] W (F0 (haf ⟨0, .data⟩ (by simp) rfl)).now).mono ?_
 rintro e W1 ⟨rfl, hb⟩
 have hA : Ag (g0 + 1) W _ := Ag.of_below hb
 exact ⟨_, rfl, hK.out _ _ ⟨_, _, _, _, _, _, _, _, _, _, _, rfl, by simp [hl], below_step hB hb, h0, h1, Nat.lt_of_lt_of_le h2 hb.size, blk_below h3 hb, h4.ag hA, fun h => blk_below (hz (bk36t (by decide) h)) hb, fun h => (F0 (bk36 (by decide) h)).ag hA, fun _ => ⟨rfl, (F0 (haf ⟨0, .data⟩ (by simp) rfl)).ag hA, getD_set_true (haf ⟨0, .data⟩ (by simp) rfl)⟩, fun h => (F2 (bk36 (by decide) h)).ag hA, fun h => ⟨(F3 (bk36 (by decide) h)).1, (F3 (bk36 (by decide) h)).2.1.ag hA, getD_set_true (F3 (bk36 (by decide) h)).2.2⟩, fun h => (F4 (bk36 (by decide) h)).ag hA, fun h => ⟨(F5 (bk36 (by decide) h)).1, (F5 (bk36 (by decide) h)).2.1.ag hA, getD_set_true (F5 (bk36 (by decide) h)).2.2⟩, fun h => F6 (bk36 (by decide) h), fun h => (F7 (bk36 (by decide) h)).ag hA, fun h => ⟨(F8 (bk36 (by decide) h)).1, (F8 (bk36 (by decide) h)).2.1.ag hA, getD_set_true (F8 (bk36 (by decide) h)).2.2⟩, fun h => (F9 (bk36 (by decide) h)).ag hA, fun h => ⟨(F10 (bk36 (by decide) h)).1, getD_set_true (F10 (bk36 (by decide) h)).2⟩, fun h => ⟨blk_below (F11 (bk36 (by decide) h)).1 hb, getD_set_true (F11 (bk36 (by decide) h)).2⟩⟩⟩
set_option maxHeartbeats 2000000 in
set_option maxRecDepth 100000 in
theorem step36_2 {w : World} {g0 g1 : Nat} {ub : Value} {Q : Exit → Act → World → Prop} (hu24 : Try.prog.underlying 24 = some (.struct #[{ name := "Qubits", type := 3, offset := 0, embedded := false, tag := "", pkgPath := "", byteOffset := 0 }, { name := "Bits", type := 3, offset := 1, embedded := false, tag := "", pkgPath := "", byteOffset := 8 }, { name := "Ops", type := 22, offset := 2, embedded := false, tag := "", pkgPath := "", byteOffset := 16 }])) (l : Array Bool) (a : Act) (W : World) (hI : ExI w g0 g1 ub (gv 4 0 ub) l a W) (oi : Oper) (hoi : (opsOf Try.f36 2)[2]? = some oi) (haf : ∀ e ∈ oi.after, Region.binds .any e = true → l.getD e.on false = true) (hl0 : l.getD 2 true = false) (K : Act → World → Prop) (hK : Shut (∀ a' w', ExI w g0 g1 ub (gv 4 0 ub) (l.setIfInBounds 2 true) a' w' → K a' w')) : if Region.wanted oi (yielded (opsOf Try.f36 2) a.tmps) = true then Oper.wp Try.prog oi a W K Q else K (a.put oi.dst undef) W := by
 have hu57 := Try.underlying57
 obtain ⟨v4, v5, v6, v7, v8, v9, v10, v11, v12, v13, v14, rfl, hl, hB, h0, h1, h2, h3, h4, hz, F0, F1, F2, F3, F4, F5, F6, F7, F8, F9, F10, F11⟩ := hI
 obtain rfl := Option.some.inj ((show (opsOf Try.f36 2)[2]? = some ({ dst := some 6, op := .buildSlice 25 2 #[(0, .const (.int .i64 0)), (1, .const (.int .i64 1))], type := 25, pos := "law.go:20", after := #[], guard := none } : Oper) from by kernel_rfl).symm.trans hoi)
 have hb := below_alloc (Below.refl W.heap.size W) (.cells #[.int .i64 0, .int .i64 1] 3)
 have hA : Ag (g0 + 1) W _ := Ag.of_below hb
 refine yields_step (N := some 6) (v := .slice (some ⟨W.heap.size, 0, none⟩) 2 2) (w1 := W.alloc (.cells #[.int .i64 0, .int .i64 1] 3)) rfl rfl (by first | (go_simp; done) | (go_simp; rfl)) (hK.out _ _ ?_)
 exact ⟨_, _, _, _, _, _, _, _, _, _, _, rfl, by simp [hl], below_step hB hb, h0, h1, Nat.lt_of_lt_of_le h2 hb.size, blk_below h3 hb, h4.ag hA, fun h => blk_below (hz (bk36t (by decide) h)) hb, fun h => (F0 (bk36 (by decide) h)).ag hA, fun h => ⟨(F1 (bk36 (by decide) h)).1, (F1 (bk36 (by decide) h)).2.1.ag hA, getD_set_true (F1 (bk36 (by decide) h)).2.2⟩, fun _ => RowL.new (b := g0 + 1) (w := W) [0, 1] (by omega) (by decide), fun h => (no36 hl0 (F3 (bk36 (by decide) h)).2.2).elim, fun h => (F4 (bk36 (by decide) h)).ag hA, fun h => ⟨(F5 (bk36 (by decide) h)).1, (F5 (bk36 (by decide) h)).2.1.ag hA, getD_set_true (F5 (bk36 (by decide) h)).2.2⟩, fun h => F6 (bk36 (by decide) h), fun h => (F7 (bk36 (by decide) h)).ag hA, fun h => ⟨(F8 (bk36 (by decide) h)).1, (F8 (bk36 (by decide) h)).2.1.ag hA, getD_set_true (F8 (bk36 (by decide) h)).2.2⟩, fun h => (F9 (bk36 (by decide) h)).ag hA, fun h => ⟨(F10 (bk36 (by decide) h)).1, getD_set_true (F10 (bk36 (by decide) h)).2⟩, fun h => ⟨blk_below (F11 (bk36 (by decide) h)).1 hb, getD_set_true (F11 (bk36 (by decide) h)).2⟩⟩
set_option maxHeartbeats 2000000 in
set_option maxRecDepth 100000 in
theorem step36_3 {w : World} {g0 g1 : Nat} {ub : Value} {Q : Exit → Act → World → Prop} (hu24 : Try.prog.underlying 24 = some (.struct #[{ name := "Qubits", type := 3, offset := 0, embedded := false, tag := "", pkgPath := "", byteOffset := 0 }, { name := "Bits", type := 3, offset := 1, embedded := false, tag := "", pkgPath := "", byteOffset := 8 }, { name := "Ops", type := 22, offset := 2, embedded := false, tag := "", pkgPath := "", byteOffset := 16 }])) (l : Array Bool) (a : Act) (W : World) (hI : ExI w g0 g1 ub (gv 4 0 ub) l a W) (oi : Oper) (hoi : (opsOf Try.f36 2)[3]? = some oi) (haf : ∀ e ∈ oi.after, Region.binds .any e = true → l.getD e.on false = true) (hl0 : l.getD 3 true = false) (K : Act → World → Prop) (hK : Shut (∀ a' w', ExI w g0 g1 ub (gv 4 0 ub) (l.setIfInBounds 3 true) a' w' → K a' w')) : if Region.wanted oi (yielded (opsOf Try.f36 2) a.tmps) = true then Oper.wp Try.prog oi a W K Q else K (a.put oi.dst undef) W := by
 have hu57 := Try.underlying57
 obtain ⟨v4, v5, v6, v7, v8, v9, v10, v11, v12, v13, v14, rfl, hl, hB, h0, h1, h2, h3, h4, hz, F0, F1, F2, F3, F4, F5, F6, F7, F8, F9, F10, F11⟩ := hI
 obtain rfl := Option.some.inj ((show (opsOf Try.f36 2)[3]? = some ({ dst := some 7, op := .call { callee := .value (.func 52), args := #[.const (.int .i64 11), .tmp 6], argTypes := #[55, 25] }, type := 57, pos := "law.go:20", after := #[{ on := 2, ground := .data }, { on := 1, ground := .chain }], guard := none } : Oper) from by kernel_rfl).symm.trans hoi)
 refine goes_ Try.func52 (by kernel_rfl) rfl #[.int .i64 11, v6] (by rfl) rfl rfl (by simp [Act.eval]) ?_
 refine (G_calls 11 v6 [0, 1] W (F2 (haf ⟨2, .data⟩ (by simp) rfl)).now).mono ?_
 rintro e W1 ⟨rfl, hb⟩
 have hA : Ag (g0 + 1) W _ := Ag.of_below hb
 exact ⟨_, rfl, hK.out _ _ ⟨_, _, _, _, _, _, _, _, _, _, _, rfl, by simp [hl], below_step hB hb, h0, h1, Nat.lt_of_lt_of_le h2 hb.size, blk_below h3 hb, h4.ag hA, fun h => blk_below (hz (bk36t (by decide) h)) hb, fun h => (F0 (bk36 (by decide) h)).ag hA, fun h => ⟨(F1 (bk36 (by decide) h)).1, (F1 (bk36 (by decide) h)).2.1.ag hA, getD_set_true (F1 (bk36 (by decide) h)).2.2⟩, fun h => (F2 (bk36 (by decide) h)).ag hA, fun _ => ⟨rfl, (F2 (haf ⟨2, .data⟩ (by simp) rfl)).ag hA, getD_set_true (haf ⟨2, .data⟩ (by simp) rfl)⟩, fun h => (F4 (bk36 (by decide) h)).ag hA, fun h => ⟨(F5 (bk36 (by decide) h)).1, (F5 (bk36 (by decide) h)).2.1.ag hA, getD_set_true (F5 (bk36 (by decide) h)).2.2⟩, fun h => F6 (bk36 (by decide) h), fun h => (F7 (bk36 (by decide) h)).ag hA, fun h => ⟨(F8 (bk36 (by decide) h)).1, (F8 (bk36 (by decide) h)).2.1.ag hA, getD_set_true (F8 (bk36 (by decide) h)).2.2⟩, fun h => (F9 (bk36 (by decide) h)).ag hA, fun h => ⟨(F10 (bk36 (by decide) h)).1, getD_set_true (F10 (bk36 (by decide) h)).2⟩, fun h => ⟨blk_below (F11 (bk36 (by decide) h)).1 hb, getD_set_true (F11 (bk36 (by decide) h)).2⟩⟩⟩
set_option maxHeartbeats 2000000 in
set_option maxRecDepth 100000 in
theorem step36_4 {w : World} {g0 g1 : Nat} {ub : Value} {Q : Exit → Act → World → Prop} (hu24 : Try.prog.underlying 24 = some (.struct #[{ name := "Qubits", type := 3, offset := 0, embedded := false, tag := "", pkgPath := "", byteOffset := 0 }, { name := "Bits", type := 3, offset := 1, embedded := false, tag := "", pkgPath := "", byteOffset := 8 }, { name := "Ops", type := 22, offset := 2, embedded := false, tag := "", pkgPath := "", byteOffset := 16 }])) (l : Array Bool) (a : Act) (W : World) (hI : ExI w g0 g1 ub (gv 4 0 ub) l a W) (oi : Oper) (hoi : (opsOf Try.f36 2)[4]? = some oi) (haf : ∀ e ∈ oi.after, Region.binds .any e = true → l.getD e.on false = true) (hl0 : l.getD 4 true = false) (K : Act → World → Prop) (hK : Shut (∀ a' w', ExI w g0 g1 ub (gv 4 0 ub) (l.setIfInBounds 4 true) a' w' → K a' w')) : if Region.wanted oi (yielded (opsOf Try.f36 2) a.tmps) = true then Oper.wp Try.prog oi a W K Q else K (a.put oi.dst undef) W := by
 have hu57 := Try.underlying57
 obtain ⟨v4, v5, v6, v7, v8, v9, v10, v11, v12, v13, v14, rfl, hl, hB, h0, h1, h2, h3, h4, hz, F0, F1, F2, F3, F4, F5, F6, F7, F8, F9, F10, F11⟩ := hI
 obtain rfl := Option.some.inj ((show (opsOf Try.f36 2)[4]? = some ({ dst := some 8, op := .buildSlice 25 1 #[(0, .const (.int .i64 2))], type := 25, pos := "law.go:20", after := #[], guard := none } : Oper) from by kernel_rfl).symm.trans hoi)
 have hb := below_alloc (Below.refl W.heap.size W) (.cells #[.int .i64 2] 3)
 have hA : Ag (g0 + 1) W _ := Ag.of_below hb
 refine yields_step (N := some 8) (v := .slice (some ⟨W.heap.size, 0, none⟩) 1 1) (w1 := W.alloc (.cells #[.int .i64 2] 3)) rfl rfl (by first | (go_simp; done) | (go_simp; rfl)) (hK.out _ _ ?_)
 exact ⟨_, _, _, _, _, _, _, _, _, _, _, rfl, by simp [hl], below_step hB hb, h0, h1, Nat.lt_of_lt_of_le h2 hb.size, blk_below h3 hb, h4.ag hA, fun h => blk_below (hz (bk36t (by decide) h)) hb, fun h => (F0 (bk36 (by decide) h)).ag hA, fun h => ⟨(F1 (bk36 (by decide) h)).1, (F1 (bk36 (by decide) h)).2.1.ag hA, getD_set_true (F1 (bk36 (by decide) h)).2.2⟩, fun h => (F2 (bk36 (by decide) h)).ag hA, fun h => ⟨(F3 (bk36 (by decide) h)).1, (F3 (bk36 (by decide) h)).2.1.ag hA, getD_set_true (F3 (bk36 (by decide) h)).2.2⟩, fun _ => RowL.new (b := g0 + 1) (w := W) [2] (by omega) (by decide), fun h => (no36 hl0 (F5 (bk36 (by decide) h)).2.2).elim, fun h => F6 (bk36 (by decide) h), fun h => (F7 (bk36 (by decide) h)).ag hA, fun h => ⟨(F8 (bk36 (by decide) h)).1, (F8 (bk36 (by decide) h)).2.1.ag hA, getD_set_true (F8 (bk36 (by decide) h)).2.2⟩, fun h => (F9 (bk36 (by decide) h)).ag hA, fun h => ⟨(F10 (bk36 (by decide) h)).1, getD_set_true (F10 (bk36 (by decide) h)).2⟩, fun h => ⟨blk_below (F11 (bk36 (by decide) h)).1 hb, getD_set_true (F11 (bk36 (by decide) h)).2⟩⟩
set_option maxHeartbeats 2000000 in
set_option maxRecDepth 100000 in
theorem step36_5 {w : World} {g0 g1 : Nat} {ub : Value} {Q : Exit → Act → World → Prop} (hu24 : Try.prog.underlying 24 = some (.struct #[{ name := "Qubits", type := 3, offset := 0, embedded := false, tag := "", pkgPath := "", byteOffset := 0 }, { name := "Bits", type := 3, offset := 1, embedded := false, tag := "", pkgPath := "", byteOffset := 8 }, { name := "Ops", type := 22, offset := 2, embedded := false, tag := "", pkgPath := "", byteOffset := 16 }])) (l : Array Bool) (a : Act) (W : World) (hI : ExI w g0 g1 ub (gv 4 0 ub) l a W) (oi : Oper) (hoi : (opsOf Try.f36 2)[5]? = some oi) (haf : ∀ e ∈ oi.after, Region.binds .any e = true → l.getD e.on false = true) (hl0 : l.getD 5 true = false) (K : Act → World → Prop) (hK : Shut (∀ a' w', ExI w g0 g1 ub (gv 4 0 ub) (l.setIfInBounds 5 true) a' w' → K a' w')) : if Region.wanted oi (yielded (opsOf Try.f36 2) a.tmps) = true then Oper.wp Try.prog oi a W K Q else K (a.put oi.dst undef) W := by
 have hu57 := Try.underlying57
 obtain ⟨v4, v5, v6, v7, v8, v9, v10, v11, v12, v13, v14, rfl, hl, hB, h0, h1, h2, h3, h4, hz, F0, F1, F2, F3, F4, F5, F6, F7, F8, F9, F10, F11⟩ := hI
 obtain rfl := Option.some.inj ((show (opsOf Try.f36 2)[5]? = some ({ dst := some 9, op := .call { callee := .value (.func 52), args := #[.const (.int .i64 2), .tmp 8], argTypes := #[55, 25] }, type := 57, pos := "law.go:20", after := #[{ on := 4, ground := .data }, { on := 3, ground := .chain }], guard := none } : Oper) from by kernel_rfl).symm.trans hoi)
 refine goes_ Try.func52 (by kernel_rfl) rfl #[.int .i64 2, v8] (by rfl) rfl rfl (by simp [Act.eval]) ?_
 refine (G_calls 2 v8 [2] W (F4 (haf ⟨4, .data⟩ (by simp) rfl)).now).mono ?_
 rintro e W1 ⟨rfl, hb⟩
 have hA : Ag (g0 + 1) W _ := Ag.of_below hb
 exact ⟨_, rfl, hK.out _ _ ⟨_, _, _, _, _, _, _, _, _, _, _, rfl, by simp [hl], below_step hB hb, h0, h1, Nat.lt_of_lt_of_le h2 hb.size, blk_below h3 hb, h4.ag hA, fun h => blk_below (hz (bk36t (by decide) h)) hb, fun h => (F0 (bk36 (by decide) h)).ag hA, fun h => ⟨(F1 (bk36 (by decide) h)).1, (F1 (bk36 (by decide) h)).2.1.ag hA, getD_set_true (F1 (bk36 (by decide) h)).2.2⟩, fun h => (F2 (bk36 (by decide) h)).ag hA, fun h => ⟨(F3 (bk36 (by decide) h)).1, (F3 (bk36 (by decide) h)).2.1.ag hA, getD_set_true (F3 (bk36 (by decide) h)).2.2⟩, fun h => (F4 (bk36 (by decide) h)).ag hA, fun _ => ⟨rfl, (F4 (haf ⟨4, .data⟩ (by simp) rfl)).ag hA, getD_set_true (haf ⟨4, .data⟩ (by simp) rfl)⟩, fun h => F6 (bk36 (by decide) h), fun h => (F7 (bk36 (by decide) h)).ag hA, fun h => ⟨(F8 (bk36 (by decide) h)).1, (F8 (bk36 (by decide) h)).2.1.ag hA, getD_set_true (F8 (bk36 (by decide) h)).2.2⟩, fun h => (F9 (bk36 (by decide) h)).ag hA, fun h => ⟨(F10 (bk36 (by decide) h)).1, getD_set_true (F10 (bk36 (by decide) h)).2⟩, fun h => ⟨blk_below (F11 (bk36 (by decide) h)).1 hb, getD_set_true (F11 (bk36 (by decide) h)).2⟩⟩⟩
set_option maxHeartbeats 2000000 in
set_option maxRecDepth 100000 in
theorem step36_6 {w : World} {g0 g1 : Nat} {ub : Value} {Q : Exit → Act → World → Prop} (hu24 : Try.prog.underlying 24 = some (.struct #[{ name := "Qubits", type := 3, offset := 0, embedded := false, tag := "", pkgPath := "", byteOffset := 0 }, { name := "Bits", type := 3, offset := 1, embedded := false, tag := "", pkgPath := "", byteOffset := 8 }, { name := "Ops", type := 22, offset := 2, embedded := false, tag := "", pkgPath := "", byteOffset := 16 }])) (l : Array Bool) (a : Act) (W : World) (hI : ExI w g0 g1 ub (gv 4 0 ub) l a W) (oi : Oper) (hoi : (opsOf Try.f36 2)[6]? = some oi) (haf : ∀ e ∈ oi.after, Region.binds .any e = true → l.getD e.on false = true) (hl0 : l.getD 6 true = false) (K : Act → World → Prop) (hK : Shut (∀ a' w', ExI w g0 g1 ub (gv 4 0 ub) (l.setIfInBounds 6 true) a' w' → K a' w')) : if Region.wanted oi (yielded (opsOf Try.f36 2) a.tmps) = true then Oper.wp Try.prog oi a W K Q else K (a.put oi.dst undef) W := by
 have hu57 := Try.underlying57
 obtain ⟨v4, v5, v6, v7, v8, v9, v10, v11, v12, v13, v14, rfl, hl, hB, h0, h1, h2, h3, h4, hz, F0, F1, F2, F3, F4, F5, F6, F7, F8, F9, F10, F11⟩ := hI
 obtain rfl := Option.some.inj ((show (opsOf Try.f36 2)[6]? = some ({ dst := some 10, op := .load 57 (.tmp 1), type := 57, pos := "law.go:20", after := #[], guard := none } : Oper) from by kernel_rfl).symm.trans hoi)
 have y0 : W.cell? ⟨g1, 0, none⟩ = some (.int .i64 4) := (blk_cell h3 0).trans rfl
 have y1 : W.cell? ⟨g1, 1, none⟩ = some (.int .i64 0) := (blk_cell h3 1).trans rfl
 have y2 : W.cell? ⟨g1, 2, none⟩ = some (ub) := (blk_cell h3 2).trans rfl
 have y3 : W.cell? ⟨g1, 3, none⟩ = some (.int .i64 0) := (blk_cell h3 3).trans rfl
 have y4 : W.cell? ⟨g1, 4, none⟩ = some (.int .i64 (-1)) := (blk_cell h3 4).trans rfl
 have y5 : W.cell? ⟨g1, 5, none⟩ = some (.int .i64 0) := (blk_cell h3 5).trans rfl
 have hb := Below.refl W.heap.size W
 have hA : Ag (g0 + 1) W _ := Ag.of_below hb
 refine yields_step (N := some 10) (v := gv 4 0 ub) (w1 := W) rfl rfl (by unfold gv; first | (go_simp; done) | (go_simp; rfl)) (hK.out _ _ ?_)
 exact ⟨_, _, _, _, _, _, _, _, _, _, _, rfl, by simp [hl], below_step hB hb, h0, h1, Nat.lt_of_lt_of_le h2 hb.size, blk_below h3 hb, h4.ag hA, fun h => blk_below (hz (bk36t (by decide) h)) hb, fun h => (F0 (bk36 (by decide) h)).ag hA, fun h => ⟨(F1 (bk36 (by decide) h)).1, (F1 (bk36 (by decide) h)).2.1.ag hA, getD_set_true (F1 (bk36 (by decide) h)).2.2⟩, fun h => (F2 (bk36 (by decide) h)).ag hA, fun h => ⟨(F3 (bk36 (by decide) h)).1, (F3 (bk36 (by decide) h)).2.1.ag hA, getD_set_true (F3 (bk36 (by decide) h)).2.2⟩, fun h => (F4 (bk36 (by decide) h)).ag hA, fun h => ⟨(F5 (bk36 (by decide) h)).1, (F5 (bk36 (by decide) h)).2.1.ag hA, getD_set_true (F5 (bk36 (by decide) h)).2.2⟩, fun _ => rfl, fun h => (F7 (bk36 (by decide) h)).ag hA, fun h => ⟨(F8 (bk36 (by decide) h)).1, (F8 (bk36 (by decide) h)).2.1.ag hA, getD_set_true (F8 (bk36 (by decide) h)).2.2⟩, fun h => (F9 (bk36 (by decide) h)).ag hA, fun h => ⟨(F10 (bk36 (by decide) h)).1, getD_set_true (F10 (bk36 (by decide) h)).2⟩, fun h => ⟨blk_below (F11 (bk36 (by decide) h)).1 hb, getD_set_true (F11 (bk36 (by decide) h)).2⟩⟩
set_option maxHeartbeats 2000000 in
set_option maxRecDepth 100000 in
theorem step36_7 {w : World} {g0 g1 : Nat} {ub : Value} {Q : Exit → Act → World → Prop} (hu24 : Try.prog.underlying 24 = some (.struct #[{ name := "Qubits", type := 3, offset := 0, embedded := false, tag := "", pkgPath := "", byteOffset := 0 }, { name := "Bits", type := 3, offset := 1, embedded := false, tag := "", pkgPath := "", byteOffset := 8 }, { name := "Ops", type := 22, offset := 2, embedded := false, tag := "", pkgPath := "", byteOffset := 16 }])) (l : Array Bool) (a : Act) (W : World) (hI : ExI w g0 g1 ub (gv 4 0 ub) l a W) (oi : Oper) (hoi : (opsOf Try.f36 2)[7]? = some oi) (haf : ∀ e ∈ oi.after, Region.binds .any e = true → l.getD e.on false = true) (hl0 : l.getD 7 true = false) (K : Act → World → Prop) (hK : Shut (∀ a' w', ExI w g0 g1 ub (gv 4 0 ub) (l.setIfInBounds 7 true) a' w' → K a' w')) : if Region.wanted oi (yielded (opsOf Try.f36 2) a.tmps) = true then Oper.wp Try.prog oi a W K Q else K (a.put oi.dst undef) W := by
 have hu57 := Try.underlying57
 obtain ⟨v4, v5, v6, v7, v8, v9, v10, v11, v12, v13, v14, rfl, hl, hB, h0, h1, h2, h3, h4, hz, F0, F1, F2, F3, F4, F5, F6, F7, F8, F9, F10, F11⟩ := hI
 obtain rfl := Option.some.inj ((show (opsOf Try.f36 2)[7]? = some ({ dst := some 11, op := .buildSlice 25 1 #[(0, .const (.int .i64 2))], type := 25, pos := "law.go:20", after := #[], guard := none } : Oper) from by kernel_rfl).symm.trans hoi)
 have hb := below_alloc (Below.refl W.heap.size W) (.cells #[.int .i64 2] 3)
 have hA : Ag (g0 + 1) W _ := Ag.of_below hb
 refine yields_step (N := some 11) (v := .slice (some ⟨W.heap.size, 0, none⟩) 1 1) (w1 := W.alloc (.cells #[.int .i64 2] 3)) rfl rfl (by first | (go_simp; done) | (go_simp; rfl)) (hK.out _ _ ?_)
 exact ⟨_, _, _, _, _, _, _, _, _, _, _, rfl, by simp [hl], below_step hB hb, h0, h1, Nat.lt_of_lt_of_le h2 hb.size, blk_below h3 hb, h4.ag hA, fun h => blk_below (hz (bk36t (by decide) h)) hb, fun h => (F0 (bk36 (by decide) h)).ag hA, fun h => ⟨(F1 (bk36 (by decide) h)).1, (F1 (bk36 (by decide) h)).2.1.ag hA, getD_set_true (F1 (bk36 (by decide) h)).2.2⟩, fun h => (F2 (bk36 (by decide) h)).ag hA, fun h => ⟨(F3 (bk36 (by decide) h)).1, (F3 (bk36 (by decide) h)).2.1.ag hA, getD_set_true (F3 (bk36 (by decide) h)).2.2⟩, fun h => (F4 (bk36 (by decide) h)).ag hA, fun h => ⟨(F5 (bk36 (by decide) h)).1, (F5 (bk36 (by decide) h)).2.1.ag hA, getD_set_true (F5 (bk36 (by decide) h)).2.2⟩, fun h => F6 (bk36 (by decide) h), fun _ => RowL.new (b := g0 + 1) (w := W) [2] (by omega) (by decide), fun h => (no36 hl0 (F8 (bk36 (by decide) h)).2.2).elim, fun h => (F9 (bk36 (by decide) h)).ag hA, fun h => ⟨(F10 (bk36 (by decide) h)).1, getD_set_true (F10 (bk36 (by decide) h)).2⟩, fun h => ⟨blk_below (F11 (bk36 (by decide) h)).1 hb, getD_set_true (F11 (bk36 (by decide) h)).2⟩⟩
set_option maxHeartbeats 2000000 in
set_option maxRecDepth 100000 in
theorem step36_8 {w : World} {g0 g1 : Nat} {ub : Value} {Q : Exit → Act → World → Prop} (hu24 : Try.prog.underlying 24 = some (.struct #[{ name := "Qubits", type := 3, offset := 0, embedded := false, tag := "", pkgPath := "", byteOffset := 0 }, { name := "Bits", type := 3, offset := 1, embedded := false, tag := "", pkgPath := "", byteOffset := 8 }, { name := "Ops", type := 22, offset := 2, embedded := false, tag := "", pkgPath := "", byteOffset := 16 }])) (l : Array Bool) (a : Act) (W : World) (hI : ExI w g0 g1 ub (gv 4 0 ub) l a W) (oi : Oper) (hoi : (opsOf Try.f36 2)[8]? = some oi) (haf : ∀ e ∈ oi.after, Region.binds .any e = true → l.getD e.on false = true) (hl0 : l.getD 8 true = false) (K : Act → World → Prop) (hK : Shut (∀ a' w', ExI w g0 g1 ub (gv 4 0 ub) (l.setIfInBounds 8 true) a' w' → K a' w')) : if Region.wanted oi (yielded (opsOf Try.f36 2) a.tmps) = true then Oper.wp Try.prog oi a W K Q else K (a.put oi.dst undef) W := by
 have hu57 := Try.underlying57
 obtain ⟨v4, v5, v6, v7, v8, v9, v10, v11, v12, v13, v14, rfl, hl, hB, h0, h1, h2, h3, h4, hz, F0, F1, F2, F3, F4, F5, F6, F7, F8, F9, F10, F11⟩ := hI
 obtain rfl := Option.some.inj ((show (opsOf Try.f36 2)[8]? = some ({ dst := some 12, op := .call { callee := .value (.func 52), args := #[.const (.int .i64 2), .tmp 11], argTypes := #[55, 25] }, type := 57, pos := "law.go:20", after := #[{ on := 7, ground := .data }, { on := 5, ground := .chain }], guard := none } : Oper) from by kernel_rfl).symm.trans hoi)
 refine goes_ Try.func52 (by kernel_rfl) rfl #[.int .i64 2, v11] (by rfl) rfl rfl (by simp [Act.eval]) ?_
 refine (G_calls 2 v11 [2] W (F7 (haf ⟨7, .data⟩ (by simp) rfl)).now).mono ?_
 rintro e W1 ⟨rfl, hb⟩
 have hA : Ag (g0 + 1) W _ := Ag.of_below hb
 exact ⟨_, rfl, hK.out _ _ ⟨_, _, _, _, _, _, _, _, _, _, _, rfl, by simp [hl], below_step hB hb, h0, h1, Nat.lt_of_lt_of_le h2 hb.size, blk_below h3 hb, h4.ag hA, fun h => blk_below (hz (bk36t (by decide) h)) hb, fun h => (F0 (bk36 (by decide) h)).ag hA, fun h => ⟨(F1 (bk36 (by decide) h)).1, (F1 (bk36 (by decide) h)).2.1.ag hA, getD_set_true (F1 (bk36 (by decide) h)).2.2⟩, fun h => (F2 (bk36 (by decide) h)).ag hA, fun h => ⟨(F3 (bk36 (by decide) h)).1, (F3 (bk36 (by decide) h)).2.1.ag hA, getD_set_true (F3 (bk36 (by decide) h)).2.2⟩, fun h => (F4 (bk36 (by decide) h)).ag hA, fun h => ⟨(F5 (bk36 (by decide) h)).1, (F5 (bk36 (by decide) h)).2.1.ag hA, getD_set_true (F5 (bk36 (by decide) h)).2.2⟩, fun h => F6 (bk36 (by decide) h), fun h => (F7 (bk36 (by decide) h)).ag hA, fun _ => ⟨rfl, (F7 (haf ⟨7, .data⟩ (by simp) rfl)).ag hA, getD_set_true (haf ⟨7, .data⟩ (by simp) rfl)⟩, fun h => (F9 (bk36 (by decide) h)).ag hA, fun h => ⟨(F10 (bk36 (by decide) h)).1, getD_set_true (F10 (bk36 (by decide) h)).2⟩, fun h => ⟨blk_below (F11 (bk36 (by decide) h)).1 hb, getD_set_true (F11 (bk36 (by decide) h)).2⟩⟩⟩
set_option maxHeartbeats 2000000 in
set_option maxRecDepth 100000 in
theorem step36_9 {w : World} {g0 g1 : Nat} {ub : Value} {Q : Exit → Act → World → Prop} (hu24 : Try.prog.underlying 24 = some (.struct #[{ name := "Qubits", type := 3, offset := 0, embedded := false, tag := "", pkgPath := "", byteOffset := 0 }, { name := "Bits", type := 3, offset := 1, embedded := false, tag := "", pkgPath := "", byteOffset := 8 }, { name := "Ops", type := 22, offset := 2, embedded := false, tag := "", pkgPath := "", byteOffset := 16 }])) (l : Array Bool) (a : Act) (W : World) (hI : ExI w g0 g1 ub (gv 4 0 ub) l a W) (oi : Oper) (hoi : (opsOf Try.f36 2)[9]? = some oi) (haf : ∀ e ∈ oi.after, Region.binds .any e = true → l.getD e.on false = true) (hl0 : l.getD 9 true = false) (K : Act → World → Prop) (hK : Shut (∀ a' w', ExI w g0 g1 ub (gv 4 0 ub) (l.setIfInBounds 9 true) a' w' → K a' w')) : if Region.wanted oi (yielded (opsOf Try.f36 2) a.tmps) = true then Oper.wp Try.prog oi a W K Q else K (a.put oi.dst undef) W := by
 have hu57 := Try.underlying57
 obtain ⟨v4, v5, v6, v7, v8, v9, v10, v11, v12, v13, v14, rfl, hl, hB, h0, h1, h2, h3, h4, hz, F0, F1, F2, F3, F4, F5, F6, F7, F8, F9, F10, F11⟩ := hI
 obtain rfl := Option.some.inj ((show (opsOf Try.f36 2)[9]? = some ({ dst := some 13, op := .buildSlice 22 5 #[(0, .tmp 5), (1, .tmp 7), (2, .tmp 9), (3, .tmp 10), (4, .tmp 12)], type := 22, pos := "law.go:20", after := #[{ on := 1, ground := .data }, { on := 3, ground := .data }, { on := 5, ground := .data }, { on := 6, ground := .data }, { on := 8, ground := .data }], guard := none } : Oper) from by kernel_rfl).symm.trans hoi)
 obtain ⟨rfl, R0, _⟩ := F1 (haf ⟨1, .data⟩ (by simp) rfl)
 obtain ⟨rfl, R2, _⟩ := F3 (haf ⟨3, .data⟩ (by simp) rfl)
 obtain ⟨rfl, R4, _⟩ := F5 (haf ⟨5, .data⟩ (by simp) rfl)
 obtain ⟨rfl, R7, _⟩ := F8 (haf ⟨8, .data⟩ (by simp) rfl)
 obtain rfl := F6 (haf ⟨6, .data⟩ (by simp) rfl)
 have hb := below_alloc (Below.refl W.heap.size W) (.cells (gcells 1 2 v4 ++ gcells 1 11 v6 ++ gcells 1 2 v8 ++ gcells 4 0 ub ++ gcells 1 2 v11).toArray 57)
 have hA : Ag (g0 + 1) W _ := Ag.of_below hb
 refine yields_step (N := some 13) (v := .slice (some ⟨W.heap.size, 0, none⟩) 5 5) (w1 := W.alloc (.cells (gcells 1 2 v4 ++ gcells 1 11 v6 ++ gcells 1 2 v8 ++ gcells 4 0 ub ++ gcells 1 2 v11).toArray 57)) rfl rfl (by unfold gv; first | (go_simp; done) | (go_simp; rfl)) (hK.out _ _ ?_)
 exact ⟨_, _, _, _, _, _, _, _, _, _, _, rfl, by simp [hl], below_step hB hb, h0, h1, Nat.lt_of_lt_of_le h2 hb.size, blk_below h3 hb, h4.ag hA, fun h => blk_below (hz (bk36t (by decide) h)) hb, fun h => (F0 (bk36 (by decide) h)).ag hA, fun h => ⟨(F1 (bk36 (by decide) h)).1, (F1 (bk36 (by decide) h)).2.1.ag hA, getD_set_true (F1 (bk36 (by decide) h)).2.2⟩, fun h => (F2 (bk36 (by decide) h)).ag hA, fun h => ⟨(F3 (bk36 (by decide) h)).1, (F3 (bk36 (by decide) h)).2.1.ag hA, getD_set_true (F3 (bk36 (by decide) h)).2.2⟩, fun h => (F4 (bk36 (by decide) h)).ag hA, fun h => ⟨(F5 (bk36 (by decide) h)).1, (F5 (bk36 (by decide) h)).2.1.ag hA, getD_set_true (F5 (bk36 (by decide) h)).2.2⟩, fun h => F6 (bk36 (by decide) h), fun h => (F7 (bk36 (by decide) h)).ag hA, fun h => ⟨(F8 (bk36 (by decide) h)).1, (F8 (bk36 (by decide) h)).2.1.ag hA, getD_set_true (F8 (bk36 (by decide) h)).2.2⟩, fun _ => OpsL.new (by omega) R0 R2 R4 h4 R7, fun h => (no36 hl0 (F10 (bk36 (by decide) h)).2).elim, fun h => (no36 hl0 (F11 (bk36 (by decide) h)).2).elim⟩
set_option maxHeartbeats 2000000 in
set_option maxRecDepth 100000 in
theorem step36_10 {w : World} {g0 g1 : Nat} {ub : Value} {Q : Exit → Act → World → Prop} (hu24 : Try.prog.underlying 24 = some (.struct #[{ name := "Qubits", type := 3, offset := 0, embedded := false, tag := "", pkgPath := "", byteOffset := 0 }, { name := "Bits", type := 3, offset := 1, embedded := false, tag := "", pkgPath := "", byteOffset := 8 }, { name := "Ops", type := 22, offset := 2, embedded := false, tag := "", pkgPath := "", byteOffset := 16 }])) (l : Array Bool) (a : Act) (W : World) (hI : ExI w g0 g1 ub (gv 4 0 ub) l a W) (oi : Oper) (hoi : (opsOf Try.f36 2)[10]? = some oi) (haf : ∀ e ∈ oi.after, Region.binds .any e = true → l.getD e.on false = true) (hl0 : l.getD 10 true = false) (K : Act → World → Prop) (hK : Shut (∀ a' w', ExI w g0 g1 ub (gv 4 0 ub) (l.setIfInBounds 10 true) a' w' → K a' w')) : if Region.wanted oi (yielded (opsOf Try.f36 2) a.tmps) = true then Oper.wp Try.prog oi a W K Q else K (a.put oi.dst undef) W := by
 have hu57 := Try.underlying57
 obtain ⟨v4, v5, v6, v7, v8, v9, v10, v11, v12, v13, v14, rfl, hl, hB, h0, h1, h2, h3, h4, hz, F0, F1, F2, F3, F4, F5, F6, F7, F8, F9, F10, F11⟩ := hI
 obtain rfl := Option.some.inj ((show (opsOf Try.f36 2)[10]? = some ({ dst := some 14, op := .build 24 #[(0, .const (.int .i64 3)), (2, .tmp 13)], type := 24, pos := "law.go:20", after := #[{ on := 9, ground := .data }], guard := none } : Oper) from by kernel_rfl).symm.trans hoi)
 obtain ⟨A, rfl, hC⟩ := F9 (haf ⟨9, .data⟩ (by simp) rfl)
 have hb := Below.refl W.heap.size W
 have hA : Ag (g0 + 1) W _ := Ag.of_below hb
 refine yields_step (N := some 14) (v := .agg #[.int .i64 3, .int .i64 0, .slice A 5 5]) (w1 := W) rfl rfl (by first | (go_simp; done) | (go_simp; rfl)) (hK.out _ _ ?_)
 exact ⟨_, _, _, _, _, _, _, _, _, _, _, rfl, by simp [hl], below_step hB hb, h0, h1, Nat.lt_of_lt_of_le h2 hb.size, blk_below h3 hb, h4.ag hA, fun h => blk_below (hz (bk36t (by decide) h)) hb, fun h => (F0 (bk36 (by decide) h)).ag hA, fun h => ⟨(F1 (bk36 (by decide) h)).1, (F1 (bk36 (by decide) h)).2.1.ag hA, getD_set_true (F1 (bk36 (by decide) h)).2.2⟩, fun h => (F2 (bk36 (by decide) h)).ag hA, fun h => ⟨(F3 (bk36 (by decide) h)).1, (F3 (bk36 (by decide) h)).2.1.ag hA, getD_set_true (F3 (bk36 (by decide) h)).2.2⟩, fun h => (F4 (bk36 (by decide) h)).ag hA, fun h => ⟨(F5 (bk36 (by decide) h)).1, (F5 (bk36 (by decide) h)).2.1.ag hA, getD_set_true (F5 (bk36 (by decide) h)).2.2⟩, fun h => F6 (bk36 (by decide) h), fun h => (F7 (bk36 (by decide) h)).ag hA, fun h => ⟨(F8 (bk36 (by decide) h)).1, (F8 (bk36 (by decide) h)).2.1.ag hA, getD_set_true (F8 (bk36 (by decide) h)).2.2⟩, fun h => (F9 (bk36 (by decide) h)).ag hA, fun _ => ⟨rfl, getD_set_true (haf ⟨9, .data⟩ (by simp) rfl)⟩, fun h => ⟨blk_below (F11 (bk36 (by decide) h)).1 hb, getD_set_true (F11 (bk36 (by decide) h)).2⟩⟩
set_option maxHeartbeats 2000000 in
set_option maxRecDepth 100000 in
theorem step36_11 {w : World} {g0 g1 : Nat} {ub : Value} {Q : Exit → Act → World → Prop} (hu24 : Try.prog.underlying 24 = some (.struct #[{ name := "Qubits", type := 3, offset := 0, embedded := false, tag := "", pkgPath := "", byteOffset := 0 }, { name := "Bits", type := 3, offset := 1, embedded := false, tag := "", pkgPath := "", byteOffset := 8 }, { name := "Ops", type := 22, offset := 2, embedded := false, tag := "", pkgPath := "", byteOffset := 16 }])) (l : Array Bool) (a : Act) (W : World) (hI : ExI w g0 g1 ub (gv 4 0 ub) l a W) (oi : Oper) (hoi : (opsOf Try.f36 2)[11]? = some oi) (haf : ∀ e ∈ oi.after, Region.binds .any e = true → l.getD e.on false = true) (hl0 : l.getD 11 true = false) (K : Act → World → Prop) (hK : Shut (∀ a' w', ExI w g0 g1 ub (gv 4 0 ub) (l.setIfInBounds 11 true) a' w' → K a' w')) : if Region.wanted oi (yielded (opsOf Try.f36 2) a.tmps) = true then Oper.wp Try.prog oi a W K Q else K (a.put oi.dst undef) W := by
 have hu57 := Try.underlying57
 obtain ⟨v4, v5, v6, v7, v8, v9, v10, v11, v12, v13, v14, rfl, hl, hB, h0, h1, h2, h3, h4, hz, F0, F1, F2, F3, F4, F5, F6, F7, F8, F9, F10, F11⟩ := hI
 obtain rfl := Option.some.inj ((show (opsOf Try.f36 2)[11]? = some ({ dst := none, op := .store 24 (.tmp 0) (.tmp 14), type := 0, pos := "law.go:20", after := #[{ on := 10, ground := .data }, { on := 8, ground := .chain }, { on := 0, ground := .phase }, { on := 1, ground := .phase }, { on := 2, ground := .phase }, { on := 3, ground := .phase }, { on := 4, ground := .phase }, { on := 5, ground := .phase }, { on := 6, ground := .phase }, { on := 7, ground := .phase }, { on := 8, ground := .phase }, { on := 9, ground := .phase }, { on := 10, ground := .phase }], guard := none } : Oper) from by kernel_rfl).symm.trans hoi)
 have hz := hz hl0
 obtain ⟨A, rfl, hC⟩ := F9 (haf ⟨9, .phase⟩ (by simp) rfl)
 obtain ⟨rfl, hl9⟩ := F10 (haf ⟨10, .data⟩ (by simp) rfl)
 have y0 : W.cell? ⟨g0, 0, none⟩ = some (.int .i64 0) := (blk_cell hz 0).trans rfl
 have f0 := blk_frozen hz 0
 have y1 : W.cell? ⟨g0, 1, none⟩ = some (.int .i64 0) := (blk_cell hz 1).trans rfl
 have f1 := blk_frozen hz 1
 have y2 : W.cell? ⟨g0, 2, none⟩ = some (.slice none 0 0) := (blk_cell hz 2).trans rfl
 have f2 := blk_frozen hz 2
 have hA : Ag (g0 + 1) W (((W.setCell ⟨g0, 0, none⟩ (.int .i64 3)).setCell ⟨g0, 1, none⟩ (.int .i64 0)).setCell ⟨g0, 2, none⟩ (.slice A 5 5)) := ((Ag.set W (Nat.lt_succ_self g0) _).trans (Ag.set _ (Nat.lt_succ_self g0) _)).trans (Ag.set _ (Nat.lt_succ_self g0) _)
 refine skip_step (w1 := (((W.setCell ⟨g0, 0, none⟩ (.int .i64 3)).setCell ⟨g0, 1, none⟩ (.int .i64 0)).setCell ⟨g0, 2, none⟩ (.slice A 5 5))) rfl (by first | (go_simp; done) | (go_simp; rfl)) (hK.out _ _ ?_)
 exact ⟨_, _, _, _, _, _, _, _, _, _, _, rfl, by simp [hl], below_set (below_set (below_set hB h0) h0) h0, h0, h1, Nat.lt_of_lt_of_le h2 hA.1, (hA.2 g1 h1 h2).trans h3, h4.ag hA, fun h => by simp [hl] at h, fun h => (F0 (bk36 (by decide) h)).ag hA, fun h => ⟨(F1 (bk36 (by decide) h)).1, (F1 (bk36 (by decide) h)).2.1.ag hA, getD_set_true (F1 (bk36 (by decide) h)).2.2⟩, fun h => (F2 (bk36 (by decide) h)).ag hA, fun h => ⟨(F3 (bk36 (by decide) h)).1, (F3 (bk36 (by decide) h)).2.1.ag hA, getD_set_true (F3 (bk36 (by decide) h)).2.2⟩, fun h => (F4 (bk36 (by decide) h)).ag hA, fun h => ⟨(F5 (bk36 (by decide) h)).1, (F5 (bk36 (by decide) h)).2.1.ag hA, getD_set_true (F5 (bk36 (by decide) h)).2.2⟩, fun h => F6 (bk36 (by decide) h), fun h => (F7 (bk36 (by decide) h)).ag hA, fun h => ⟨(F8 (bk36 (by decide) h)).1, (F8 (bk36 (by decide) h)).2.1.ag hA, getD_set_true (F8 (bk36 (by decide) h)).2.2⟩, fun h => (OpsL.ag ⟨A, rfl, hC⟩ hA), fun h => ⟨rfl, getD_set_true hl9⟩, fun _ => ⟨blk_put (cs := #[.int .i64 3, .int .i64 0, .slice none 0 0]) (blk_put (cs := #[.int .i64 3, .int .i64 0, .slice none 0 0]) (blk_put (cs := #[.int .i64 0, .int .i64 0, .slice none 0 0]) hz 0 _ rfl) 1 _ rfl) 2 _ rfl, getD_set_true hl9⟩⟩
set_option maxHeartbeats 4000000 in
set_option maxRecDepth 100000 in
theorem Example_calls (w : World) : Calls Try.prog 36 #[] w fun e w' => ∃ A, e = .returned (.agg #[.int .i64 3, .int .i64 0, .slice A 5 5]) ∧ Kd.C k57 w' A 5 exOps ∧ Below w.heap.size w w' := by
 have hu24 := Try.underlying24
 have hu57 := Try.underlying57
 have HB := Aside0.mk (Below.refl w.heap.size w)
 go_enter Try.func36, Try.ntmps36
 go_wp2_with (first | ((with_reducible refine gate_dst (N := 0) rfl ?_); refine box_event ?hg (N := 0) ?hd (cs := #[.int .i64 0, .int .i64 0, .slice none 0 0]) (t := 24) ?hr ?_; (case hd => rfl); (case hg => rfl); (case hr => first | (go_simp; done) | (go_simp; rfl)); intro g0 hg w1 hbox hb; have BK0 := Aside0.mk hbox; have GW := Aside0.mk (show w.heap.size ≤ g0 by rw [hg]; exact Nat.le_refl _); have G0 := Aside0.mk (show g0 < w1.heap.size from blk_lt hbox); have HB' := Aside0.mk (below_step HB.out hb); clear HB; have HB := HB'; clear HB' hbox hb hg))
 have HR := Aside0.mk (show RowL (g0 + 1) (w1.alloc (.cells #[.int .i64 1, .int .i64 2] 3)) (.slice (some ⟨w1.heap.size, 0, none⟩) 2 2) [1, 2] from RowL.new (b := g0 + 1) (w := w1) [1, 2] G0.out (by decide))
 have hb := below_alloc (Below.refl w1.heap.size w1) (.cells #[.int .i64 1, .int .i64 2] 3)
 have HB' := Aside0.mk (below_step HB.out hb)
 have BK0' := Aside0.mk (blk_below BK0.out hb)
 have G0' := Aside0.mk (Nat.lt_of_lt_of_le G0.out hb.size)
 have hs : w1.heap.size + 1 = (w1.alloc (.cells #[.int .i64 1, .int .i64 2] 3)).heap.size := by simp
 rw [hs]
 clear hs HB BK0 hb G0
 generalize (Value.slice (some ⟨w1.heap.size, 0, none⟩) 2 2) = ub at HR ⊢
 generalize w1.alloc (.cells #[.int .i64 1, .int .i64 2] 3) = w2 at HR HB' BK0' G0' ⊢
 have hb := below_alloc (Below.refl w2.heap.size w2) (.cells #[.int .i64 4, .int .i64 0, ub, .int .i64 0, .int .i64 (-1), .int .i64 0] 57)
 have HR' := Aside0.mk (HR.out.ag (Ag.of_below hb))
 have HB := Aside0.mk (below_step HB'.out hb)
 have BK0 := Aside0.mk (blk_below BK0'.out hb)
 have BK1 := Aside0.mk (blk_new w2 (.cells #[.int .i64 4, .int .i64 0, ub, .int .i64 0, .int .i64 (-1), .int .i64 0] 57))
 have G1 := Aside0.mk (blk_lt BK1.out)
 clear HR HB' BK0' hb
 have G01 := G0'
 clear G0'
 generalize w2.alloc (.cells #[.int .i64 4, .int .i64 0, ub, .int .i64 0, .int .i64 (-1), .int .i64 0] 57) = w3 at HR' HB BK0 BK1 G1 ⊢
 generalize w2.heap.size = g1 at BK1 G1 G01 ⊢
 refine start_ (n := 12) (S := fun _ => True) (ds := []) (Array.replicate 12 false) (by kernel_rfl) rfl rfl trivial (fun _ => ?_)
 refine reg_inv (ExI w g0 g1 ub (gv 4 0 ub)) ?_ ?_ ?_ ?_ 12 _ _ _ ?_ (by decide)
 ·intro l a W hI i oi hoi hl haf K hK
  have hi := all36 i oi hoi
  match i, hi with
  | 0, _ => exact step36_0 hu24 l a W hI oi hoi haf hl K hK
  | 1, _ => exact step36_1 hu24 l a W hI oi hoi haf hl K hK
  | 2, _ => exact step36_2 hu24 l a W hI oi hoi haf hl K hK
  | 3, _ => exact step36_3 hu24 l a W hI oi hoi haf hl K hK
  | 4, _ => exact step36_4 hu24 l a W hI oi hoi haf hl K hK
  | 5, _ => exact step36_5 hu24 l a W hI oi hoi haf hl K hK
  | 6, _ => exact step36_6 hu24 l a W hI oi hoi haf hl K hK
  | 7, _ => exact step36_7 hu24 l a W hI oi hoi haf hl K hK
  | 8, _ => exact step36_8 hu24 l a W hI oi hoi haf hl K hK
  | 9, _ => exact step36_9 hu24 l a W hI oi hoi haf hl K hK
  | 10, _ => exact step36_10 hu24 l a W hI oi hoi haf hl K hK
  | 11, _ => exact step36_11 hu24 l a W hI oi hoi haf hl K hK
 ·rintro l a W ⟨v4, v5, v6, v7, v8, v9, v10, v11, v12, v13, v14, rfl, hl, hB, h0, h1, h2, h3, h4, hz, F0, F1, F2, F3, F4, F5, F6, F7, F8, F9, F10, F11⟩ hd
  have hall : ∀ i : Nat, i < 12 → l.getD i false = true := fun i hi => by
   have h5 := hd i _ (Array.getElem?_eq_getElem (xs := opsOf Try.f36 2) (Nat.lt_of_lt_of_eq hi (by kernel_rfl : 12 = (opsOf Try.f36 2).size)))
   rw [Array.getD_eq_getD_getElem?, Array.getElem?_eq_getElem (show i < l.size by omega)] at h5 ⊢
   exact h5
  replace F11 := F11 (hall 11 (by decide))
  obtain ⟨A, rfl, hC⟩ := F9 (hall 9 (by decide))
  replace hC := hC W (Ag.refl _ _)
  clear F0 F1 F2 F3 F4 F5 F6 F7 F8 F9 F10 hz hall hd h3 h4
  go_wp2
  refine bodyPost_ret (results_cell_row rfl _ _ g0 24 #[.int .i64 3, .int .i64 0, .slice A 5 5] (0, 0) _ rfl F11.1 hu24 rfl (by kernel_rfl)) rfl ?_
  exact ⟨A, rfl, hC, hB⟩
 ·rintro l a W ⟨v4, v5, v6, v7, v8, v9, v10, v11, v12, v13, v14, _, hl, _⟩
  exact hl
 ·intro i oi hoi e he
  have hi : i < 12 := (Array.getElem?_eq_some_iff.1 hoi).1
  have hac : (opsOf Try.f36 2).toList.zipIdx.all (fun p => p.1.after.all (fun e => decide (e.on < p.2))) = true := by kernel_rfl
  have h1 := List.all_eq_true.1 hac (oi, i) (List.mem_zipIdx_iff_getElem?.2 (by rw [Array.getElem?_toList]; exact hoi))
  exact of_decide_eq_true (Array.all_eq_true_iff_forall_mem.1 h1 e he)
 ·have hn : ∀ i : Nat, (Array.replicate 12 false).getD i false = true → False := fun i h => by
   rw [Array.getD_eq_getD_getElem?, Array.getElem?_replicate] at h
   split at h <;> simp at h
  refine ⟨undef, undef, undef, undef, undef, undef, undef, undef, undef, undef, undef, rfl, by simp, below_drew HB.out, GW.out, G01.out, G1.out, BK1.out, HR'.out.ag (Ag.of_below (below_drew (Below.refl _ _))), fun _ => BK0.out, ?_, ?_, ?_, ?_, ?_, ?_, ?_, ?_, ?_, ?_, ?_, ?_⟩
  all_goals exact fun h => (hn _ h).elim
end Go.Proofs.Ytpnfhddcnnoclaa.Px
