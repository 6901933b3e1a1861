import Derived.Test.YtpnfhddcnnoclaaTell4
namespace Go.Proofs.Ytpnfhddcnnoclaa.Px
open Go.RowKit Go.Proofs.YtpnfhddcnnoclaaW.PrintWords Go.Proofs.YtpnfhddcnnoclaaW.PrintLast Go.Proofs.YtpnfhddcnnoclaaW.PrintMore
attribute [local go_sem] max2_int min2_int max_two min_two max_three min_three max_four min_four
set_option linter.unusedVariables false
set_option linter.unusedSimpArgs false
def phasorref19_Future.f (k : Nat) (a0_0 : Int) (a0_1 : Int) (l0_2 : List (S57)) (l1 : List Int) : Option (List Int × Int) := (phasorref19_cone.f k a0_0 a0_1 l0_2 l1 false).bind fun bt7102 => (some (bt7102.1, bt7102.2))
set_option maxHeartbeats 8000000 in
set_option maxRecDepth 100000 in
theorem phasorref19_Future.calls (k : Nat) (a0_0 : Int) (a0_1 : Int) (A0_2 : Option Addr) (c0_2 : Nat) (l0_2 : List (S57)) (A1 : Option Addr) (c1 : Nat) (l1 : List Int) (r1 : List Int) (r2 : Int) (w : World) (hr0_2 : Kd.C k57 w A0_2 l0_2.length l0_2) (hc0_2 : l0_2.length ≤ c0_2) (hr1 : Kd.C (Kd.int .i64) w A1 l1.length l1) (hc1 : l1.length ≤ c1) (h : phasorref19_Future.f k a0_0 a0_1 l0_2 l1 = some (r1, r2)) :
  Calls Try.prog 14 #[.agg #[.int .i64 a0_0, .int .i64 a0_1, .slice A0_2 l0_2.length c0_2], .slice A1 l1.length c1] w fun e w' => ∃ v0_ : Value, e = .returned (.tuple #[v0_, .int .i64 r2]) ∧ Kd.R (Kd.int .i64) 3 w' w.heap.size (fun _ => True) v0_ r1 ∧ Below w.heap.size w w' := by
 have hu24 := Try.underlying24
 have HR0_2 := Aside0.mk hr0_2
 have HC0_2 := Aside0.mk hc0_2
 clear hr0_2 hc0_2
 have HR1 := Aside0.mk hr1
 have HC1 := Aside0.mk hc1
 clear hr1 hc1
 have HB := Aside0.mk (Below.refl w.heap.size w)
 have H : ((phasorref19_cone.f k a0_0 a0_1 l0_2 l1 false).bind fun bt7102 => (some (bt7102.1, bt7102.2))) = some (r1, r2) := h
 clear h
 replace H := Option.bind_eq_some_iff.mp H
 obtain ⟨⟨t7102, t7105⟩, A30, H⟩ := H
 replace H : (some (t7102, t7105)) = some (r1, r2) := H
 have A3 := Aside0.mk A30
 clear A30
 simp only [Option.some.injEq, Prod.mk.injEq] at H
 obtain ⟨rfl, rfl⟩ := H
 go_enter Try.func14, Try.ntmps14
 go_wp2_with (first | ((with_reducible refine gate_dst (N := 2) rfl ?_); refine box_event ?hg (N := 2) ?hd (cs := #[.int .i64 a0_0, .int .i64 a0_1, .slice A0_2 l0_2.length c0_2]) (t := 24) ?hr ?_; (case hd => rfl); (case hg => rfl); (case hr => first | (go_simp; done) | (go_simp; rfl)); intro gb7101 hg w4 hbox hb; have n0_ := Aside0.mk (below_step (by repeat (first | (with_reducible first | exact HB.out | apply below_alloc | apply pw_below_drewN | apply below_drew1) | exact HB.out)) hb); have n1_ := Aside0.mk (hbox); have n2_ := Aside0.mk ((by rw [hg]; exact (below_size (by repeat (first | (with_reducible first | exact HB.out | apply below_alloc | apply pw_below_drewN | apply below_drew1) | exact HB.out))) : w.heap.size ≤ gb7101)); have n3_ := Aside0.mk ((by rw [hg]; exact (below_size (by repeat (first | (with_reducible first | exact HB.out | apply below_alloc | apply pw_below_drewN | apply below_drew1) | exact HB.out))) : w.heap.size ≤ gb7101)); clear HB; have HB := n0_; have BK7101 := n1_; have GW7101 := n2_; have GE7101 := n3_; clear n0_ n1_ n2_ n3_; clear hb hbox hg; have hcz5_0 : w4.cell? ⟨gb7101, 0, none⟩ = some (.int .i64 a0_0) := (blk_cell BK7101.out 0).trans rfl; have hcz5_1 : w4.cell? ⟨gb7101, 1, none⟩ = some (.int .i64 a0_1) := (blk_cell BK7101.out 1).trans rfl; have hcz5_2 : w4.cell? ⟨gb7101, 2, none⟩ = some (.slice A0_2 l0_2.length c0_2) := (blk_cell BK7101.out 2).trans rfl; have hfz5_0 := blk_frozen BK7101.out 0; have hfz5_1 := blk_frozen BK7101.out 1; have hfz5_2 := blk_frozen BK7101.out 2) | ((with_reducible refine gate_callee (f := 33) rfl ?_); refine goesL_ (some 8) rfl rfl Try.func33 (by kernel_rfl) rfl #[.agg #[.int .i64 a0_0, .int .i64 a0_1, .slice A0_2 l0_2.length c0_2], .slice A1 l1.length c1, .bool false] rfl (by (try simp only [List.map_toArray, List.map_cons, List.map_nil]); first | done | rfl | (simp only [List.length_drop, List.length_take]; rfl)) ?_; (with_reducible refine (phasorref19_cone.calls k a0_0 a0_1 _ _ l0_2 _ _ l1 false t7102 t7105 _ ?side1 ?side2 ?side3 ?side4 A3.out).mono ?_); (case side1 => repeat (first | exact (Kd.C_below HR0_2.out HB.out) | (with_reducible refine Kd.C_alloc ?_ _) | (with_reducible refine Kd.C_drewN ?_ _) | (with_reducible refine Kd.C_drew ?_))); (case side2 => exact HC0_2.out); (case side3 => repeat (first | exact (Kd.C_below HR1.out HB.out) | (with_reducible refine Kd.C_alloc ?_ _) | (with_reducible refine Kd.C_drewN ?_ _) | (with_reducible refine Kd.C_drew ?_))); (case side4 => exact HC1.out); rintro e w6 ⟨v7103, rfl, ho0, hb⟩; refine ⟨_, rfl, ?_⟩; have n0_ := Aside0.mk (Kd.R_lower ho0 (below_size (by repeat (first | (with_reducible first | exact HB.out | apply below_alloc | apply pw_below_drewN | apply below_drew1 | refine below_set ?_ GE7101.out) | exact HB.out)))); have n1_ := Aside0.mk (blk_below (g := gb7101) (o := .cells #[.int .i64 a0_0, .int .i64 a0_1, .slice A0_2 l0_2.length c0_2] 24 (0, 0)) (by (with_reducible repeat (first | refine blk_drewN ?_ _ | refine blk_drew ?_ | refine blk_alloc ?_ _)); exact BK7101.out) hb); have n2_ := Aside0.mk (below_step (by repeat (first | (with_reducible first | exact HB.out | apply below_alloc | apply pw_below_drewN | apply below_drew1 | refine below_set ?_ GE7101.out) | exact HB.out)) hb); clear BK7101; clear HB; have HO7104 := n0_; have BK7101 := n1_; have HB := n2_; clear n0_ n1_ n2_; (try clear hb); (try clear hb2); (try clear hk); (try clear hi); (try clear ho0)))
 go_ret2
 exact ⟨_, by first | rfl | (simp [errW_none, errW_some] <;> rfl) | (simp [*, errW_none, errW_some] <;> rfl), by (with_reducible repeat (first | apply Kd.R_alloc | apply Kd.R_drewN | apply Kd.R_drew)); exact HO7104.out, by repeat (first | (with_reducible first | exact HB.out | apply below_alloc | apply pw_below_drewN | apply below_drew1 | refine below_set ?_ GE7101.out) | exact HB.out)⟩
def phasorref19_touch.f (k : Nat) (a0_0 : Int) (a0_1 : Int) (l0_2 : List (S57)) (a1 : Int) (a2 : Int) : Option (Bool) := if 0 ≤ a1 then (if a1 < (l0_2.length : Int) then ((phasorref19_wires.f ((rd_T57 l0_2 a1).f0) ((rd_T57 l0_2 a1).f1) ((rd_T57 l0_2 a1).f2) ((rd_T57 l0_2 a1).f3) ((rd_T57 l0_2 a1).f4) ((rd_T57 l0_2 a1).f5)).bind fun t14603 => (if 0 ≤ a2 then (if a2 < (l0_2.length : Int) then ((phasorref19_wires.f ((rd_T57 l0_2 a2).f0) ((rd_T57 l0_2 a2).f1) ((rd_T57 l0_2 a2).f2) ((rd_T57 l0_2 a2).f3) ((rd_T57 l0_2 a2).f4) ((rd_T57 l0_2 a2).f5)).bind fun t14607 => ((phasorref19_meet.f k t14603 t14607).bind fun t14610 => (some t14610))) else (none)) else (none))) else (none)) else (none)
def phasorref19_touch.T1 : Bool × List (List Nat × List Nat) := (true, [([], []), ([0], [0]), ([], []), ([1, 2], [1, 2]), ([3], [3]), ([4], [4]), ([], []), ([6], [6]), ([], []), ([7, 8], [7, 8]), ([9], [9]), ([10, 5], [10]), ([5, 11, 11], [5, 11]), ([12, 12, 0, 1, 2, 3, 4, 5, 6, 7, 8, 9, 10, 11, 12], [12])])
def phasorref19_touch.B1 : List Nat := [0, 1, 0, 7, 15, 31, 0, 64, 0, 448, 960, 2047, 4095, 8191]
theorem phasorref19_touch.tab1 : rtab .any (opsOf Try.f29 1) = phasorref19_touch.T1 := by kernel_rfl
theorem phasorref19_touch.bits1 : waitsOk phasorref19_touch.T1.2 phasorref19_touch.B1 = true := by kernel_rfl
set_option maxHeartbeats 8000000 in
set_option maxRecDepth 100000 in
theorem phasorref19_touch.calls (k : Nat) (a0_0 : Int) (a0_1 : Int) (A0_2 : Option Addr) (c0_2 : Nat) (l0_2 : List (S57)) (a1 : Int) (a2 : Int) (r : Bool) (w : World) (hr0_2 : Kd.C k57 w A0_2 l0_2.length l0_2) (hc0_2 : l0_2.length ≤ c0_2) (h : phasorref19_touch.f k a0_0 a0_1 l0_2 a1 a2 = some r) :
  Calls Try.prog 29 #[.agg #[.int .i64 a0_0, .int .i64 a0_1, .slice A0_2 l0_2.length c0_2], .int .i64 a1, .int .i64 a2] w fun e w' => e = .returned (.bool r) ∧ Below w.heap.size w w' := by
 have hu24 := Try.underlying24
 have hu57 := Try.underlying57
 have HR0_2 := Aside0.mk hr0_2
 have HC0_2 := Aside0.mk hc0_2
 clear hr0_2 hc0_2
 have HB := Aside0.mk (Below.refl w.heap.size w)
 have H : (if 0 ≤ a1 then (if a1 < (l0_2.length : Int) then ((phasorref19_wires.f ((rd_T57 l0_2 a1).f0) ((rd_T57 l0_2 a1).f1) ((rd_T57 l0_2 a1).f2) ((rd_T57 l0_2 a1).f3) ((rd_T57 l0_2 a1).f4) ((rd_T57 l0_2 a1).f5)).bind fun t14603 => (if 0 ≤ a2 then (if a2 < (l0_2.length : Int) then ((phasorref19_wires.f ((rd_T57 l0_2 a2).f0) ((rd_T57 l0_2 a2).f1) ((rd_T57 l0_2 a2).f2) ((rd_T57 l0_2 a2).f3) ((rd_T57 l0_2 a2).f4) ((rd_T57 l0_2 a2).f5)).bind fun t14607 => ((phasorref19_meet.f k t14603 t14607).bind fun t14610 => (some t14610))) else (none)) else (none))) else (none)) else (none)) = some r := h
 clear h
 by_cases c4 : 0 ≤ a1
 ·rw [if_pos c4] at H
  have c4b0 : decide (0 ≤ a1) = true := decide_eq_true c4
  clear c4
  by_cases c5 : a1 < (l0_2.length : Int)
  ·rw [if_pos c5] at H
   have c5b0 : decide (a1 < (l0_2.length : Int)) = true := decide_eq_true c5
   clear c5
   replace H := Option.bind_eq_some_iff.mp H
   obtain ⟨t14603, A60, H⟩ := H
   replace H : (if 0 ≤ a2 then (if a2 < (l0_2.length : Int) then ((phasorref19_wires.f ((rd_T57 l0_2 a2).f0) ((rd_T57 l0_2 a2).f1) ((rd_T57 l0_2 a2).f2) ((rd_T57 l0_2 a2).f3) ((rd_T57 l0_2 a2).f4) ((rd_T57 l0_2 a2).f5)).bind fun t14607 => ((phasorref19_meet.f k t14603 t14607).bind fun t14610 => (some t14610))) else (none)) else (none)) = some r := H
   have A6 := Aside0.mk A60
   clear A60
   by_cases c7 : 0 ≤ a2
   ·rw [if_pos c7] at H
    have c7b0 : decide (0 ≤ a2) = true := decide_eq_true c7
    clear c7
    by_cases c8 : a2 < (l0_2.length : Int)
    ·rw [if_pos c8] at H
     have c8b0 : decide (a2 < (l0_2.length : Int)) = true := decide_eq_true c8
     clear c8
     replace H := Option.bind_eq_some_iff.mp H
     obtain ⟨t14607, A90, H⟩ := H
     replace H : ((phasorref19_meet.f k t14603 t14607).bind fun t14610 => (some t14610)) = some r := H
     have A9 := Aside0.mk A90
     clear A90
     replace H := Option.bind_eq_some_iff.mp H
     obtain ⟨t14610, A100, H⟩ := H
     replace H : (some t14610) = some r := H
     have A10 := Aside0.mk A100
     clear A100
     obtain rfl := Option.some.inj H
     go_enter Try.func29, Try.ntmps29
     try go_wp2_with (first | ((with_reducible refine gate_dst (N := 3) rfl ?_); refine box_event ?hg (N := 3) ?hd (cs := #[.int .i64 a0_0, .int .i64 a0_1, .slice A0_2 l0_2.length c0_2]) (t := 24) ?hr ?_; (case hd => rfl); (case hg => rfl); (case hr => first | (go_simp; done) | (go_simp; rfl)); intro gb14601 hg w11 hbox hb; have n0_ := Aside0.mk (below_step (by repeat (first | (with_reducible first | exact HB.out | apply below_alloc | apply pw_below_drewN | apply below_drew1) | exact HB.out)) hb); have n1_ := Aside0.mk (hbox); have n2_ := Aside0.mk ((by rw [hg]; exact (below_size (by repeat (first | (with_reducible first | exact HB.out | apply below_alloc | apply pw_below_drewN | apply below_drew1) | exact HB.out))) : w.heap.size ≤ gb14601)); have n3_ := Aside0.mk ((by rw [hg]; exact (below_size (by repeat (first | (with_reducible first | exact HB.out | apply below_alloc | apply pw_below_drewN | apply below_drew1) | exact HB.out))) : w.heap.size ≤ gb14601)); clear HB; have HB := n0_; have BK14601 := n1_; have GW14601 := n2_; have GE14601 := n3_; clear n0_ n1_ n2_ n3_; clear hb hbox hg))
     have n0_ := Aside0.mk (blk_drew BK14601.out)
     have n1_ := Aside0.mk (below_drew1 HB.out)
     clear BK14601
     clear HB
     have BK14601 := n0_
     have HB := n1_
     clear n0_ n1_
     have p14602 : 0 ≤ (a1 : Int) := of_decide_eq_true (by first | (with_reducible assumption) | assumption)
     have q14602 : a1 < (l0_2.length : Int) := of_decide_eq_true (by first | (with_reducible assumption) | assumption)
     obtain ⟨ad14602, A14602_2, c14602_2, e14602, hx14602_0, hx14602_1, hx14602_2, hx14602_3, hx14602_4, hx14602_5, hl14602_2, hi14602_2⟩ := at_T57 HR0_2.out a1 p14602 q14602
     have hw14602_5 := hx14602_5
     have hw14602_4 := hx14602_4
     have hw14602_3 := hx14602_3
     have hw14602_2 := hx14602_2
     have hw14602_1 := hx14602_1
     have hw14602_0 := hx14602_0
     cases e14602
     replace hx14602_0 := (HB.out.cell (World.block_lt_of_cell? w _ hx14602_0)).trans hx14602_0
     replace hx14602_1 := (HB.out.cell (World.block_lt_of_cell? w _ hx14602_1)).trans hx14602_1
     replace hx14602_2 := (HB.out.cell (World.block_lt_of_cell? w _ hx14602_2)).trans hx14602_2
     replace hx14602_3 := (HB.out.cell (World.block_lt_of_cell? w _ hx14602_3)).trans hx14602_3
     replace hx14602_4 := (HB.out.cell (World.block_lt_of_cell? w _ hx14602_4)).trans hx14602_4
     replace hx14602_5 := (HB.out.cell (World.block_lt_of_cell? w _ hx14602_5)).trans hx14602_5
     have HR14602_2 := Aside0.mk hi14602_2
     have HC14602_2 := Aside0.mk hl14602_2
     clear hi14602_2 hl14602_2
     replace p14602 := eq_true p14602
     replace q14602 := eq_true q14602
     have p14606 : 0 ≤ (a2 : Int) := of_decide_eq_true (by first | (with_reducible assumption) | assumption)
     have q14606 : a2 < (l0_2.length : Int) := of_decide_eq_true (by first | (with_reducible assumption) | assumption)
     obtain ⟨ad14606, A14606_2, c14606_2, e14606, hx14606_0, hx14606_1, hx14606_2, hx14606_3, hx14606_4, hx14606_5, hl14606_2, hi14606_2⟩ := at_T57 HR0_2.out a2 p14606 q14606
     have hw14606_5 := hx14606_5
     have hw14606_4 := hx14606_4
     have hw14606_3 := hx14606_3
     have hw14606_2 := hx14606_2
     have hw14606_1 := hx14606_1
     have hw14606_0 := hx14606_0
     obtain rfl : ad14602 = ad14606 := (by injection e14606)
     replace hx14606_0 := (HB.out.cell (World.block_lt_of_cell? w _ hx14606_0)).trans hx14606_0
     replace hx14606_1 := (HB.out.cell (World.block_lt_of_cell? w _ hx14606_1)).trans hx14606_1
     replace hx14606_2 := (HB.out.cell (World.block_lt_of_cell? w _ hx14606_2)).trans hx14606_2
     replace hx14606_3 := (HB.out.cell (World.block_lt_of_cell? w _ hx14606_3)).trans hx14606_3
     replace hx14606_4 := (HB.out.cell (World.block_lt_of_cell? w _ hx14606_4)).trans hx14606_4
     replace hx14606_5 := (HB.out.cell (World.block_lt_of_cell? w _ hx14606_5)).trans hx14606_5
     have HR14606_2 := Aside0.mk hi14606_2
     have HC14606_2 := Aside0.mk hl14606_2
     clear hi14606_2 hl14606_2
     replace p14606 := eq_true p14606
     replace q14606 := eq_true q14606
     refine start_ (n := 14) (S := fun w' => w'.cell? ⟨gb14601, 0, none⟩ = some (.int .i64 a0_0) ∧ w'.cell? ⟨gb14601, 1, none⟩ = some (.int .i64 a0_1) ∧ w'.cell? ⟨gb14601, 2, none⟩ = some (.slice (some ad14602) l0_2.length c0_2) ∧ w'.cell? (ad14602.add ((a1).toNat * 6)) = some (.int .i64 ((rd_T57 l0_2 a1).f0)) ∧ w'.cell? ⟨(ad14602.add ((a1).toNat * 6)).block, (ad14602.add ((a1).toNat * 6)).off + 1, none⟩ = some (.int .i64 ((rd_T57 l0_2 a1).f1)) ∧ w'.cell? ⟨(ad14602.add ((a1).toNat * 6)).block, (ad14602.add ((a1).toNat * 6)).off + 2, none⟩ = some (.slice A14602_2 ((rd_T57 l0_2 a1).f2).length c14602_2) ∧ w'.cell? ⟨(ad14602.add ((a1).toNat * 6)).block, (ad14602.add ((a1).toNat * 6)).off + 3, none⟩ = some (.int .i64 ((rd_T57 l0_2 a1).f3)) ∧ w'.cell? ⟨(ad14602.add ((a1).toNat * 6)).block, (ad14602.add ((a1).toNat * 6)).off + 4, none⟩ = some (.int .i64 ((rd_T57 l0_2 a1).f4)) ∧ w'.cell? ⟨(ad14602.add ((a1).toNat * 6)).block, (ad14602.add ((a1).toNat * 6)).off + 5, none⟩ = some (.int .i64 ((rd_T57 l0_2 a1).f5)) ∧ w'.cell? (ad14602.add ((a2).toNat * 6)) = some (.int .i64 ((rd_T57 l0_2 a2).f0)) ∧ w'.cell? ⟨(ad14602.add ((a2).toNat * 6)).block, (ad14602.add ((a2).toNat * 6)).off + 1, none⟩ = some (.int .i64 ((rd_T57 l0_2 a2).f1)) ∧ w'.cell? ⟨(ad14602.add ((a2).toNat * 6)).block, (ad14602.add ((a2).toNat * 6)).off + 2, none⟩ = some (.slice A14606_2 ((rd_T57 l0_2 a2).f2).length c14606_2) ∧ w'.cell? ⟨(ad14602.add ((a2).toNat * 6)).block, (ad14602.add ((a2).toNat * 6)).off + 3, none⟩ = some (.int .i64 ((rd_T57 l0_2 a2).f3)) ∧ w'.cell? ⟨(ad14602.add ((a2).toNat * 6)).block, (ad14602.add ((a2).toNat * 6)).off + 4, none⟩ = some (.int .i64 ((rd_T57 l0_2 a2).f4)) ∧ w'.cell? ⟨(ad14602.add ((a2).toNat * 6)).block, (ad14602.add ((a2).toNat * 6)).off + 5, none⟩ = some (.int .i64 ((rd_T57 l0_2 a2).f5))) (ds := []) #[false, false, false, false, false, false, false, false, false, false, false, false, false, false] (by kernel_rfl) rfl rfl ⟨(blk_cell BK14601.out 0).trans rfl, (blk_cell BK14601.out 1).trans rfl, (blk_cell BK14601.out 2).trans rfl, ((HB.out.cell (World.block_lt_of_cell? w _ hw14602_0)).trans hw14602_0), ((HB.out.cell (World.block_lt_of_cell? w _ hw14602_1)).trans hw14602_1), ((HB.out.cell (World.block_lt_of_cell? w _ hw14602_2)).trans hw14602_2), ((HB.out.cell (World.block_lt_of_cell? w _ hw14602_3)).trans hw14602_3), ((HB.out.cell (World.block_lt_of_cell? w _ hw14602_4)).trans hw14602_4), ((HB.out.cell (World.block_lt_of_cell? w _ hw14602_5)).trans hw14602_5), ((HB.out.cell (World.block_lt_of_cell? w _ hw14606_0)).trans hw14606_0), ((HB.out.cell (World.block_lt_of_cell? w _ hw14606_1)).trans hw14606_1), ((HB.out.cell (World.block_lt_of_cell? w _ hw14606_2)).trans hw14606_2), ((HB.out.cell (World.block_lt_of_cell? w _ hw14606_3)).trans hw14606_3), ((HB.out.cell (World.block_lt_of_cell? w _ hw14606_4)).trans hw14606_4), ((HB.out.cell (World.block_lt_of_cell? w _ hw14606_5)).trans hw14606_5)⟩ (fun hHeld => ?_); refine with_tabW phasorref19_touch.tab1 phasorref19_touch.bits1 (fun HT_ HW_ => ?_)
     generalize w11.drew = w12 at BK14601 HB HR14602_2 HR14606_2 hx14602_0 hx14602_1 hx14602_2 hx14602_3 hx14602_4 hx14602_5 hx14606_0 hx14606_1 hx14606_2 hx14606_3 hx14606_4 hx14606_5 hHeld ⊢
     refine pure_ (i := 0) (N := some 7) (v := ?_) (a' := ?_) #[true, false, false, false, false, false, false, false, false, false, false, false, false, false] rfl rfl (any_of HT_.out (by kernel_rfl)) (fun _ _ _ h => h) (Or.inl ⟨by rfl, ?_⟩) ?_ ?_
     rotate_left
     ·intro w'
      go_simp
      with_reducible rfl
     rotate_left
     ·simp only [Act.put, List.setIfInBounds_toArray, List.set_cons_zero, List.set_cons_succ, i64_w, i32_w]
      rfl
     refine pure_ (i := 2) (N := some 9) (v := ?_) (a' := ?_) #[true, false, true, false, false, false, false, false, false, false, false, false, false, false] rfl rfl (any_of HT_.out (by kernel_rfl)) (fun _ _ _ h => h) (Or.inl ⟨by rfl, ?_⟩) ?_ ?_
     rotate_left
     ·intro w'
      go_simp
      with_reducible rfl
     rotate_left
     ·simp only [Act.put, List.setIfInBounds_toArray, List.set_cons_zero, List.set_cons_succ, i64_w, i32_w]
      rfl
     refine pure_ (i := 6) (N := some 13) (v := ?_) (a' := ?_) #[true, false, true, false, false, false, true, false, false, false, false, false, false, false] rfl rfl (any_of HT_.out (by kernel_rfl)) (fun _ _ _ h => h) (Or.inl ⟨by rfl, ?_⟩) ?_ ?_
     rotate_left
     ·intro w'
      go_simp
      with_reducible rfl
     rotate_left
     ·simp only [Act.put, List.setIfInBounds_toArray, List.set_cons_zero, List.set_cons_succ, i64_w, i32_w]
      rfl
     refine pure_ (i := 8) (N := some 15) (v := ?_) (a' := ?_) #[true, false, true, false, false, false, true, false, true, false, false, false, false, false] rfl rfl (any_of HT_.out (by kernel_rfl)) (fun _ _ _ h => h) (Or.inl ⟨by rfl, ?_⟩) ?_ ?_
     rotate_left
     ·intro w'
      go_simp
      with_reducible rfl
     rotate_left
     ·simp only [Act.put, List.setIfInBounds_toArray, List.set_cons_zero, List.set_cons_succ, i64_w, i32_w]
      rfl
     refine take_ (i := 1) (N := some 8) (v := ?_) (a' := ?_) #[true, true, true, false, false, false, true, false, true, false, false, false, false, false] rfl rfl (take_ofW HT_.out HW_.out (by kernel_rfl)) (fun _ _ _ h => h) (Or.inl ⟨by rfl, ?_⟩) hHeld ?_ ?_
     rotate_left
     ·rintro w' ⟨s0, s1, s2, s3, s4, s5, s6, s7, s8, s9, s10, s11, s12, s13, s14⟩
      go_simp
      with_reducible rfl
     rotate_left
     ·simp only [Act.put, List.setIfInBounds_toArray, List.set_cons_zero, List.set_cons_succ, i64_w, i32_w]
      rfl
     refine pure_ (i := 3) (N := some 10) (v := ?_) (a' := ?_) #[true, true, true, true, false, false, true, false, true, false, false, false, false, false] rfl rfl (any_of HT_.out (by kernel_rfl)) (fun _ _ _ h => h) (Or.inl ⟨by rfl, ?_⟩) ?_ ?_
     rotate_left
     ·intro w'
      go_simp
      with_reducible rfl
     rotate_left
     ·simp only [Act.put, List.setIfInBounds_toArray, List.set_cons_zero, List.set_cons_succ, i64_w, i32_w]
      rfl
     refine take_ (i := 4) (N := some 11) (v := ?_) (a' := ?_) #[true, true, true, true, true, false, true, false, true, false, false, false, false, false] rfl rfl (take_ofW HT_.out HW_.out (by kernel_rfl)) (fun _ _ _ h => h) (Or.inl ⟨by rfl, ?_⟩) hHeld ?_ ?_
     rotate_left
     ·rintro w' ⟨s0, s1, s2, s3, s4, s5, s6, s7, s8, s9, s10, s11, s12, s13, s14⟩
      go_simp
      with_reducible rfl
     rotate_left
     ·simp only [Act.put, List.setIfInBounds_toArray, List.set_cons_zero, List.set_cons_succ, i64_w, i32_w]
      rfl
     refine take_ (i := 7) (N := some 14) (v := ?_) (a' := ?_) #[true, true, true, true, true, false, true, true, true, false, false, false, false, false] rfl rfl (take_ofW HT_.out HW_.out (by kernel_rfl)) (fun _ _ _ h => h) (Or.inl ⟨by rfl, ?_⟩) hHeld ?_ ?_
     rotate_left
     ·rintro w' ⟨s0, s1, s2, s3, s4, s5, s6, s7, s8, s9, s10, s11, s12, s13, s14⟩
      go_simp
      with_reducible rfl
     rotate_left
     ·simp only [Act.put, List.setIfInBounds_toArray, List.set_cons_zero, List.set_cons_succ, i64_w, i32_w]
      rfl
     refine pure_ (i := 9) (N := some 16) (v := ?_) (a' := ?_) #[true, true, true, true, true, false, true, true, true, true, false, false, false, false] rfl rfl (any_of HT_.out (by kernel_rfl)) (fun _ _ _ h => h) (Or.inl ⟨by rfl, ?_⟩) ?_ ?_
     rotate_left
     ·intro w'
      go_simp
      with_reducible rfl
     rotate_left
     ·simp only [Act.put, List.setIfInBounds_toArray, List.set_cons_zero, List.set_cons_succ, i64_w, i32_w]
      rfl
     refine take_ (i := 10) (N := some 17) (v := ?_) (a' := ?_) #[true, true, true, true, true, false, true, true, true, true, true, false, false, false] rfl rfl (take_ofW HT_.out HW_.out (by kernel_rfl)) (fun _ _ _ h => h) (Or.inl ⟨by rfl, ?_⟩) hHeld ?_ ?_
     rotate_left
     ·rintro w' ⟨s0, s1, s2, s3, s4, s5, s6, s7, s8, s9, s10, s11, s12, s13, s14⟩
      go_simp
      with_reducible rfl
     rotate_left
     ·simp only [Act.put, List.setIfInBounds_toArray, List.set_cons_zero, List.set_cons_succ, i64_w, i32_w]
      rfl
     refine one_ (i := 5) (N := some 12) #[true, true, true, true, true, true, true, true, true, true, true, false, false, false] rfl rfl (one_of HT_.out (by kernel_rfl)) (by decide) (fun K hK => ?_)
     refine goes_ Try.func45 (by kernel_rfl) rfl #[.agg #[.int .i64 ((rd_T57 l0_2 a1).f0), .int .i64 ((rd_T57 l0_2 a1).f1), .slice A14602_2 ((rd_T57 l0_2 a1).f2).length c14602_2, .int .i64 ((rd_T57 l0_2 a1).f3), .int .i64 ((rd_T57 l0_2 a1).f4), .int .i64 ((rd_T57 l0_2 a1).f5)]] (by rfl) rfl rfl (by (try simp only [List.map_toArray, List.map_cons, List.map_nil]); first | done | rfl | (simp only [List.length_drop, List.length_take]; rfl)) ?_
     with_reducible refine (phasorref19_wires.calls ((rd_T57 l0_2 a1).f0) ((rd_T57 l0_2 a1).f1) _ _ ((rd_T57 l0_2 a1).f2) ((rd_T57 l0_2 a1).f3) ((rd_T57 l0_2 a1).f4) ((rd_T57 l0_2 a1).f5) t14603 _ ?side1 ?side2 A6.out).mono ?_
     (case side1 => repeat (first | exact (Kd.C_below HR14602_2.out HB.out) | (with_reducible refine Kd.C_alloc ?_ _) | (with_reducible refine Kd.C_drewN ?_ _) | (with_reducible refine Kd.C_drew ?_)))
     (case side2 => exact HC14602_2.out)
     rintro e w13 ⟨v14604, rfl, ho0, hb⟩
     refine ⟨_, rfl, ?_⟩
     have n0_ := Aside0.mk (Kd.R_lower ho0 (below_size (by repeat (first | (with_reducible first | exact HB.out | apply below_alloc | apply pw_below_drewN | apply below_drew1 | refine below_set ?_ GE14601.out) | exact HB.out))))
     have n1_ := Aside0.mk (blk_below (g := gb14601) (o := .cells #[.int .i64 a0_0, .int .i64 a0_1, .slice (some ad14602) l0_2.length c0_2] 24 (0, 0)) (by (with_reducible repeat (first | refine blk_drewN ?_ _ | refine blk_drew ?_ | refine blk_alloc ?_ _)); exact BK14601.out) hb)
     have n2_ := Aside0.mk (below_step (by repeat (first | (with_reducible first | exact HB.out | apply below_alloc | apply pw_below_drewN | apply below_drew1 | refine below_set ?_ GE14601.out) | exact HB.out)) hb)
     clear BK14601
     clear HB
     have HO14605 := n0_
     have BK14601 := n1_
     have HB := n2_
     clear n0_ n1_ n2_
     (try clear hb)
     (try clear hb2)
     (try clear hk)
     (try clear hi)
     (try clear ho0)
     refine hK.out _ _ ⟨(blk_cell BK14601.out 0).trans rfl, (blk_cell BK14601.out 1).trans rfl, (blk_cell BK14601.out 2).trans rfl, ((HB.out.cell (World.block_lt_of_cell? w _ hw14602_0)).trans hw14602_0), ((HB.out.cell (World.block_lt_of_cell? w _ hw14602_1)).trans hw14602_1), ((HB.out.cell (World.block_lt_of_cell? w _ hw14602_2)).trans hw14602_2), ((HB.out.cell (World.block_lt_of_cell? w _ hw14602_3)).trans hw14602_3), ((HB.out.cell (World.block_lt_of_cell? w _ hw14602_4)).trans hw14602_4), ((HB.out.cell (World.block_lt_of_cell? w _ hw14602_5)).trans hw14602_5), ((HB.out.cell (World.block_lt_of_cell? w _ hw14606_0)).trans hw14606_0), ((HB.out.cell (World.block_lt_of_cell? w _ hw14606_1)).trans hw14606_1), ((HB.out.cell (World.block_lt_of_cell? w _ hw14606_2)).trans hw14606_2), ((HB.out.cell (World.block_lt_of_cell? w _ hw14606_3)).trans hw14606_3), ((HB.out.cell (World.block_lt_of_cell? w _ hw14606_4)).trans hw14606_4), ((HB.out.cell (World.block_lt_of_cell? w _ hw14606_5)).trans hw14606_5)⟩ (fun hHeld => ?_)
     clear hK K
     refine norm_ (a' := ?_) ?_ ?_
     rotate_left
     ·show Act.put _ (some 12) _ = _
      simp only [Act.put, List.setIfInBounds_toArray, List.set_cons_zero, List.set_cons_succ, i64_w, i32_w]
      rfl
     refine one_ (i := 11) (N := some 18) #[true, true, true, true, true, true, true, true, true, true, true, true, false, false] rfl rfl (one_of HT_.out (by kernel_rfl)) (by decide) (fun K hK => ?_)
     refine goes_ Try.func45 (by kernel_rfl) rfl #[.agg #[.int .i64 ((rd_T57 l0_2 a2).f0), .int .i64 ((rd_T57 l0_2 a2).f1), .slice A14606_2 ((rd_T57 l0_2 a2).f2).length c14606_2, .int .i64 ((rd_T57 l0_2 a2).f3), .int .i64 ((rd_T57 l0_2 a2).f4), .int .i64 ((rd_T57 l0_2 a2).f5)]] (by rfl) rfl rfl (by (try simp only [List.map_toArray, List.map_cons, List.map_nil]); first | done | rfl | (simp only [List.length_drop, List.length_take]; rfl)) ?_
     with_reducible refine (phasorref19_wires.calls ((rd_T57 l0_2 a2).f0) ((rd_T57 l0_2 a2).f1) _ _ ((rd_T57 l0_2 a2).f2) ((rd_T57 l0_2 a2).f3) ((rd_T57 l0_2 a2).f4) ((rd_T57 l0_2 a2).f5) t14607 _ ?side1 ?side2 A9.out).mono ?_
     (case side1 => repeat (first | exact (Kd.C_below HR14606_2.out HB.out) | (with_reducible refine Kd.C_alloc ?_ _) | (with_reducible refine Kd.C_drewN ?_ _) | (with_reducible refine Kd.C_drew ?_)))
     (case side2 => exact HC14606_2.out)
     rintro e w14 ⟨v14608, rfl, ho0, hb⟩
     refine ⟨_, rfl, ?_⟩
     have n0_ := Aside0.mk (Kd.R_elder' (by (with_reducible repeat (first | apply Kd.R_alloc | apply Kd.R_drewN | apply Kd.R_drew)); exact HO14605.out) (Kd.R_base ho0) hb)
     have n1_ := Aside0.mk (Kd.R_lower (Kd.R_new' ho0 (Kd.R_lt (by (with_reducible repeat (first | apply Kd.R_alloc | apply Kd.R_drewN | apply Kd.R_drew)); exact HO14605.out))) (below_size (by repeat (first | (with_reducible first | exact HB.out | apply below_alloc | apply pw_below_drewN | apply below_drew1 | refine below_set ?_ GE14601.out) | exact HB.out))))
     have n2_ := Aside0.mk (blk_below (g := gb14601) (o := .cells #[.int .i64 a0_0, .int .i64 a0_1, .slice (some ad14602) l0_2.length c0_2] 24 (0, 0)) (by (with_reducible repeat (first | refine blk_drewN ?_ _ | refine blk_drew ?_ | refine blk_alloc ?_ _)); exact BK14601.out) hb)
     have n3_ := Aside0.mk (below_step (by repeat (first | (with_reducible first | exact HB.out | apply below_alloc | apply pw_below_drewN | apply below_drew1 | refine below_set ?_ GE14601.out) | exact HB.out)) hb)
     clear HO14605
     clear BK14601
     clear HB
     have HO14605 := n0_
     have HO14609 := n1_
     have BK14601 := n2_
     have HB := n3_
     clear n0_ n1_ n2_ n3_
     (try clear hb)
     (try clear hb2)
     (try clear hk)
     (try clear hi)
     (try clear ho0)
     obtain ⟨Ao15, co15, eo15⟩ := Kd.R_slice HO14605.out
     (first | subst eo15 | (injection eo15 with f1_ f2_ f3_; have f4_ := f1_.symm; have f5_ := f3_.symm; clear f1_ f2_ f3_; subst f4_; subst f5_))
     obtain ⟨Ao16, co16, eo16⟩ := Kd.R_slice HO14609.out
     (first | subst eo16 | (injection eo16 with f1_ f2_ f3_; have f4_ := f1_.symm; have f5_ := f3_.symm; clear f1_ f2_ f3_; subst f4_; subst f5_))
     refine hK.out _ _ ⟨(blk_cell BK14601.out 0).trans rfl, (blk_cell BK14601.out 1).trans rfl, (blk_cell BK14601.out 2).trans rfl, ((HB.out.cell (World.block_lt_of_cell? w _ hw14602_0)).trans hw14602_0), ((HB.out.cell (World.block_lt_of_cell? w _ hw14602_1)).trans hw14602_1), ((HB.out.cell (World.block_lt_of_cell? w _ hw14602_2)).trans hw14602_2), ((HB.out.cell (World.block_lt_of_cell? w _ hw14602_3)).trans hw14602_3), ((HB.out.cell (World.block_lt_of_cell? w _ hw14602_4)).trans hw14602_4), ((HB.out.cell (World.block_lt_of_cell? w _ hw14602_5)).trans hw14602_5), ((HB.out.cell (World.block_lt_of_cell? w _ hw14606_0)).trans hw14606_0), ((HB.out.cell (World.block_lt_of_cell? w _ hw14606_1)).trans hw14606_1), ((HB.out.cell (World.block_lt_of_cell? w _ hw14606_2)).trans hw14606_2), ((HB.out.cell (World.block_lt_of_cell? w _ hw14606_3)).trans hw14606_3), ((HB.out.cell (World.block_lt_of_cell? w _ hw14606_4)).trans hw14606_4), ((HB.out.cell (World.block_lt_of_cell? w _ hw14606_5)).trans hw14606_5)⟩ (fun hHeld => ?_)
     clear hK K
     refine norm_ (a' := ?_) ?_ ?_
     rotate_left
     ·show Act.put _ (some 18) _ = _
      simp only [Act.put, List.setIfInBounds_toArray, List.set_cons_zero, List.set_cons_succ, i64_w, i32_w]
      rfl
     refine one_ (i := 12) (N := some 19) #[true, true, true, true, true, true, true, true, true, true, true, true, true, false] rfl rfl (one_of HT_.out (by kernel_rfl)) (by decide) (fun K hK => ?_)
     refine goes_ Try.func44 (by kernel_rfl) rfl #[.slice Ao15 t14603.length co15, .slice Ao16 t14607.length co16] (by rfl) rfl rfl (by (try simp only [List.map_toArray, List.map_cons, List.map_nil]); first | done | rfl | (simp only [List.length_drop, List.length_take]; rfl)) ?_
     with_reducible refine (phasorref19_meet.calls k _ _ t14603 _ _ t14607 t14610 _ ?side1 ?side2 ?side3 ?side4 A10.out).mono ?_
     (case side1 => repeat (first | exact (Kd.R_reads' HO14605.out).2.2 | (with_reducible refine Kd.C_alloc ?_ _) | (with_reducible refine Kd.C_drewN ?_ _) | (with_reducible refine Kd.C_drew ?_)))
     (case side2 => exact (Kd.R_reads' HO14605.out).2.1)
     (case side3 => repeat (first | exact (Kd.R_reads' HO14609.out).2.2 | (with_reducible refine Kd.C_alloc ?_ _) | (with_reducible refine Kd.C_drewN ?_ _) | (with_reducible refine Kd.C_drew ?_)))
     (case side4 => exact (Kd.R_reads' HO14609.out).2.1)
     rintro e w' ⟨rfl, ⟨nd, rfl⟩⟩
     refine ⟨_, rfl, ?_⟩
     refine hK.out _ _ ⟨(blk_cell BK14601.out 0).trans rfl, (blk_cell BK14601.out 1).trans rfl, (blk_cell BK14601.out 2).trans rfl, ((HB.out.cell (World.block_lt_of_cell? w _ hw14602_0)).trans hw14602_0), ((HB.out.cell (World.block_lt_of_cell? w _ hw14602_1)).trans hw14602_1), ((HB.out.cell (World.block_lt_of_cell? w _ hw14602_2)).trans hw14602_2), ((HB.out.cell (World.block_lt_of_cell? w _ hw14602_3)).trans hw14602_3), ((HB.out.cell (World.block_lt_of_cell? w _ hw14602_4)).trans hw14602_4), ((HB.out.cell (World.block_lt_of_cell? w _ hw14602_5)).trans hw14602_5), ((HB.out.cell (World.block_lt_of_cell? w _ hw14606_0)).trans hw14606_0), ((HB.out.cell (World.block_lt_of_cell? w _ hw14606_1)).trans hw14606_1), ((HB.out.cell (World.block_lt_of_cell? w _ hw14606_2)).trans hw14606_2), ((HB.out.cell (World.block_lt_of_cell? w _ hw14606_3)).trans hw14606_3), ((HB.out.cell (World.block_lt_of_cell? w _ hw14606_4)).trans hw14606_4), ((HB.out.cell (World.block_lt_of_cell? w _ hw14606_5)).trans hw14606_5)⟩ (fun hHeld => ?_)
     clear hK K
     refine norm_ (a' := ?_) ?_ ?_
     rotate_left
     ·show Act.put _ (some 19) _ = _
      simp only [Act.put, List.setIfInBounds_toArray, List.set_cons_zero, List.set_cons_succ, i64_w, i32_w]
      rfl
     refine pure_ (i := 13) (N := some 6) (v := ?_) (a' := ?_) #[true, true, true, true, true, true, true, true, true, true, true, true, true, true] rfl rfl (any_of HT_.out (by kernel_rfl)) (fun _ _ _ h => h) (Or.inl ⟨by rfl, ?_⟩) ?_ ?_
     rotate_left
     ·intro w'
      go_simp
      with_reducible rfl
     rotate_left
     ·simp only [Act.put, List.setIfInBounds_toArray, List.set_cons_zero, List.set_cons_succ, i64_w, i32_w]
      rfl
     refine done_ (done_of HT_.out (by kernel_rfl)) ?_
     try go_wp2
     go_ret
     exact ⟨by first | rfl | (simp [errW_none, errW_some] <;> rfl) | (simp [*, errW_none, errW_some] <;> rfl), by repeat (first | (with_reducible first | exact HB.out | apply below_alloc | apply pw_below_drewN | apply below_drew1 | refine below_set ?_ GE14601.out) | exact HB.out)⟩
    ·rw [if_neg c8] at H
     exact absurd H (by simp)
   ·rw [if_neg c7] at H
    exact absurd H (by simp)
  ·rw [if_neg c5] at H
   exact absurd H (by simp)
 ·rw [if_neg c4] at H
  exact absurd H (by simp)
mutual
def phasorref19_Early.l0 : Nat → List Int → Int → Int → Int → List (S57) → Option (List Int × Int)
 | 0, _, _, _, _, _ => none
 | k + 1, x4, x5, x3602000, x3602001, x3602002 => if x5 < (x3602002.length : Int) then (phasorref19_Early.l1 k x4 x5 0 0 x3602000 x3602001 x3602002) else (some (x4, 0))
def phasorref19_Early.l1 : Nat → List Int → Int → Int → Int → Int → Int → List (S57) → Option (List Int × Int)
 | 0, _, _, _, _, _, _, _ => none
 | k + 1, x4, x5, x6, x7, x3602000, x3602001, x3602002 => if x7 < x5 then ((phasorref19_touch.f k x3602000 x3602001 x3602002 x5 x7).bind fun t3603 => (if t3603 = true then (if 0 ≤ x7 then (if x7 < (x4.length : Int) then (phasorref19_Early.l1 k x4 x5 (mx x6 (rd x4 x7)) (wrap64 (x7 + 1)) x3602000 x3602001 x3602002) else (none)) else (none)) else (phasorref19_Early.l1 k x4 x5 x6 (wrap64 (x7 + 1)) x3602000 x3602001 x3602002))) else ((phasorref19_bar.f x3602000 x3602001 x3602002 x5).bind fun t3605 => (if t3605 = true then (if x4.length < 17592186044416 then (phasorref19_Early.l0 k (x4 ++ [x6]) (wrap64 (x5 + 1)) x3602000 x3602001 x3602002) else (none)) else (if x4.length < 17592186044416 then (phasorref19_Early.l0 k (x4 ++ [wrap64 (x6 + 1)]) (wrap64 (x5 + 1)) x3602000 x3602001 x3602002) else (none))))
end
def phasorref19_Early.f (k : Nat) (a0_0 : Int) (a0_1 : Int) (l0_2 : List (S57)) : Option (List Int × Int) := (phasorref08_May.f k a0_0 a0_1 l0_2).bind fun t3602 => (if t3602 = true then (phasorref19_Early.l0 k ([] : List Int) 0 a0_0 a0_1 l0_2) else (some (([] : List Int), 80)))
set_option maxHeartbeats 8000000 in
set_option maxRecDepth 100000 in
theorem phasorref19_Early.calls (k : Nat) (a0_0 : Int) (a0_1 : Int) (A0_2 : Option Addr) (c0_2 : Nat) (l0_2 : List (S57)) (r1 : List Int) (r2 : Int) (w : World) (hr0_2 : Kd.C k57 w A0_2 l0_2.length l0_2) (hc0_2 : l0_2.length ≤ c0_2) (h : phasorref19_Early.f k a0_0 a0_1 l0_2 = some (r1, r2)) :
  Calls Try.prog 7 #[.agg #[.int .i64 a0_0, .int .i64 a0_1, .slice A0_2 l0_2.length c0_2]] w fun e w' => ∃ v0_ : Value, e = .returned (.tuple #[v0_, .int .i64 r2]) ∧ Kd.R (Kd.int .i64) 3 w' w.heap.size (fun _ => True) v0_ r1 ∧ Below w.heap.size w w' := by
 have hu24 := Try.underlying24
 have HR0_2 := Aside0.mk hr0_2
 have HC0_2 := Aside0.mk hc0_2
 clear hr0_2 hc0_2
 have HB := Aside0.mk (Below.refl w.heap.size w)
 have H : ((phasorref08_May.f k a0_0 a0_1 l0_2).bind fun t3602 => (if t3602 = true then (phasorref19_Early.l0 k ([] : List Int) 0 a0_0 a0_1 l0_2) else (some (([] : List Int), 80)))) = some (r1, r2) := h
 clear h
 replace H := Option.bind_eq_some_iff.mp H
 obtain ⟨t3602, A20, H⟩ := H
 replace H : (if t3602 = true then (phasorref19_Early.l0 k ([] : List Int) 0 a0_0 a0_1 l0_2) else (some (([] : List Int), 80))) = some (r1, r2) := H
 have A2 := Aside0.mk A20
 clear A20
 by_cases c3 : t3602 = true
 ·subst c3
  have H1 : (phasorref19_Early.l0 k ([] : List Int) 0 a0_0 a0_1 l0_2) = some (r1, r2) := by rw [if_pos rfl] at H; exact H
  clear H
  have H := H1
  clear H1
  have H' := Aside0.mk H
  clear H
  go_enter Try.func7, Try.ntmps7
  go_wp2_with (first | ((with_reducible refine gate_dst (N := 1) rfl ?_); refine box_event ?hg (N := 1) ?hd (cs := #[.int .i64 a0_0, .int .i64 a0_1, .slice A0_2 l0_2.length c0_2]) (t := 24) ?hr ?_; (case hd => rfl); (case hg => rfl); (case hr => first | (go_simp; done) | (go_simp; rfl)); intro gb3601 hg w4 hbox hb; have n0_ := Aside0.mk (below_step (by repeat (first | (with_reducible first | exact HB.out | apply below_alloc | apply pw_below_drewN | apply below_drew1) | exact HB.out)) hb); have n1_ := Aside0.mk (hbox); have n2_ := Aside0.mk ((by rw [hg]; exact (below_size (by repeat (first | (with_reducible first | exact HB.out | apply below_alloc | apply pw_below_drewN | apply below_drew1) | exact HB.out))) : w.heap.size ≤ gb3601)); have n3_ := Aside0.mk ((by rw [hg]; exact (below_size (by repeat (first | (with_reducible first | exact HB.out | apply below_alloc | apply pw_below_drewN | apply below_drew1) | exact HB.out))) : w.heap.size ≤ gb3601)); clear HB; have HB := n0_; have BK3601 := n1_; have GW3601 := n2_; have GE3601 := n3_; clear n0_ n1_ n2_ n3_; clear hb hbox hg; have hcz5_0 : w4.cell? ⟨gb3601, 0, none⟩ = some (.int .i64 a0_0) := (blk_cell BK3601.out 0).trans rfl; have hcz5_1 : w4.cell? ⟨gb3601, 1, none⟩ = some (.int .i64 a0_1) := (blk_cell BK3601.out 1).trans rfl; have hcz5_2 : w4.cell? ⟨gb3601, 2, none⟩ = some (.slice A0_2 l0_2.length c0_2) := (blk_cell BK3601.out 2).trans rfl; have hfz5_0 := blk_frozen BK3601.out 0; have hfz5_1 := blk_frozen BK3601.out 1; have hfz5_2 := blk_frozen BK3601.out 2) | ((with_reducible refine gate_callee (f := 28) rfl ?_); refine goesL_ (some 9) rfl rfl Try.func28 (by kernel_rfl) rfl #[.agg #[.int .i64 a0_0, .int .i64 a0_1, .slice A0_2 l0_2.length c0_2]] rfl (by (try simp only [List.map_toArray, List.map_cons, List.map_nil]); first | done | rfl | (simp only [List.length_drop, List.length_take]; rfl)) ?_; (with_reducible refine (phasorref08_May.calls k a0_0 a0_1 _ _ l0_2 true _ ?side1 ?side2 A2.out).mono ?_); (case side1 => repeat (first | exact (Kd.C_below HR0_2.out HB.out) | (with_reducible refine Kd.C_alloc ?_ _) | (with_reducible refine Kd.C_drewN ?_ _) | (with_reducible refine Kd.C_drew ?_))); (case side2 => exact HC0_2.out); rintro e w6 ⟨rfl, hb⟩; refine ⟨_, rfl, ?_⟩; have n0_ := Aside0.mk (blk_below (g := gb3601) (o := .cells #[.int .i64 a0_0, .int .i64 a0_1, .slice A0_2 l0_2.length c0_2] 24 (0, 0)) (by (with_reducible repeat (first | refine blk_drewN ?_ _ | refine blk_drew ?_ | refine blk_alloc ?_ _)); exact BK3601.out) hb); have n1_ := Aside0.mk (below_step (by repeat (first | (with_reducible first | exact HB.out | apply below_alloc | apply pw_below_drewN | apply below_drew1 | refine below_set ?_ GE3601.out) | exact HB.out)) hb); clear BK3601; clear HB; have BK3601 := n0_; have HB := n1_; clear n0_ n1_; (try clear hb); (try clear hb2); (try clear hk); (try clear hi)))
  go_loopg [4, 5] k (fun kq v4 v5 w' => ∃ (x4_1 : List Int) (x5_1 : Int), v5 = .int .i64 x5_1 ∧ Aside0 (phasorref19_Early.l0 kq x4_1 x5_1 a0_0 a0_1 l0_2 = some (r1, r2)) ∧ Aside0 (kq ≤ k) ∧ Aside0 (Kd.R (Kd.int .i64) 3 w' w.heap.size (fun _ => True) v4 x4_1) ∧ Aside0 (w'.heap[gb3601]? = some (.cells #[.int .i64 a0_0, .int .i64 a0_1, (.slice A0_2 l0_2.length c0_2)] 24 (0, 0))) ∧ Aside0 (Below w.heap.size w w'))
  case atStart => exact ⟨(([] : List Int)), (0), (by first | rfl | (simp; done) | (simp [*]; done)), H', ⟨Nat.le_refl _⟩, ⟨by first | exact Kd.R_nil _ _ _ _ _ | exact Kd.N_nil _ _ _ _ _ | exact Kd.V_nil _ _ _ _ _ | exact Kd.Q_nil _ _ _ _ _ | exact Kd.S_nil _ _ _ _ _⟩, ⟨by (with_reducible repeat (first | refine blk_drewN ?_ _ | refine blk_drew ?_ | refine blk_alloc ?_ _)); exact BK3601.out⟩, ⟨by repeat (first | (with_reducible first | exact HB.out | apply below_alloc | apply pw_below_drewN | apply below_drew1 | refine below_set ?_ GE3601.out) | exact HB.out)⟩⟩
  case round =>
   clear H'
   try clear c2
   try clear p2
   try clear c3
   try clear hcz5_0
   try clear hcz5_1
   try clear hcz5_2
   try clear hfz5_0
   try clear hfz5_1
   try clear hfz5_2
   obtain ⟨x4_1, x5_1, rfl, HA, HK1, HO_4, BK3601, HB⟩ := hrel
   cases gk with
   | zero => exact absurd HA.out (by simp [phasorref19_Early.l0])
   | succ k1 =>
    have H := HA.out
    clear HA
    simp only [phasorref19_Early.l0] at H
    by_cases c7 : x5_1 < (l0_2.length : Int)
    ·rw [if_pos c7] at H
     have c7b0 : decide (x5_1 < (l0_2.length : Int)) = true := decide_eq_true c7
     clear c7
     have H' := Aside0.mk H
     clear H
     have hcz8_0 : wr.cell? ⟨gb3601, 0, none⟩ = some (.int .i64 a0_0) := (blk_cell BK3601.out 0).trans rfl
     have hcz8_1 : wr.cell? ⟨gb3601, 1, none⟩ = some (.int .i64 a0_1) := (blk_cell BK3601.out 1).trans rfl
     have hcz8_2 : wr.cell? ⟨gb3601, 2, none⟩ = some (.slice A0_2 l0_2.length c0_2) := (blk_cell BK3601.out 2).trans rfl
     have hfz8_0 := blk_frozen BK3601.out 0
     have hfz8_1 := blk_frozen BK3601.out 1
     have hfz8_2 := blk_frozen BK3601.out 2
     go_wp2
     go_loopg [6, 7] k1 (fun kq v6 v7 w' => ∃ (x6_2 : Int) (x7_2 : Int), v6 = .int .i64 x6_2 ∧ v7 = .int .i64 x7_2 ∧ Aside0 (phasorref19_Early.l1 kq x4_1 x5_1 x6_2 x7_2 a0_0 a0_1 l0_2 = some (r1, r2)) ∧ Aside0 (kq ≤ k1) ∧ Aside0 (Kd.R (Kd.int .i64) 3 w' w.heap.size (fun _ => True) u4 x4_1) ∧ Aside0 (w'.heap[gb3601]? = some (.cells #[.int .i64 a0_0, .int .i64 a0_1, (.slice A0_2 l0_2.length c0_2)] 24 (0, 0))) ∧ Aside0 (Below w.heap.size w w'))
     case atStart => exact ⟨(0), (0), (by first | rfl | (simp; done) | (simp [*]; done)), (by first | rfl | (simp; done) | (simp [*]; done)), H', ⟨Nat.le_refl _⟩, ⟨by (with_reducible repeat (first | apply Kd.R_alloc | apply Kd.R_drewN | apply Kd.R_drew)); exact HO_4.out⟩, ⟨by (with_reducible repeat (first | refine blk_drewN ?_ _ | refine blk_drew ?_ | refine blk_alloc ?_ _)); exact BK3601.out⟩, ⟨by repeat (first | (with_reducible first | exact HB.out | apply below_alloc | apply pw_below_drewN | apply below_drew1 | refine below_set ?_ GE3601.out) | exact HB.out)⟩⟩
     case round =>
      clear H'
      try clear c2
      try clear p2
      try clear c3
      try clear c7
      try clear c7b0
      try clear hcz5_0
      try clear hcz5_1
      try clear hcz5_2
      try clear hcz8_0
      try clear hcz8_1
      try clear hcz8_2
      try clear hfz5_0
      try clear hfz5_1
      try clear hfz5_2
      try clear hfz8_0
      try clear hfz8_1
      try clear hfz8_2
      try clear p2
      obtain ⟨x6_2, x7_2, rfl, rfl, HA, HK2, HO_4, BK3601, HB⟩ := hrel
      cases gk with
      | zero => exact absurd HA.out (by simp [phasorref19_Early.l1])
      | succ k2 =>
       have H := HA.out
       clear HA
       simp only [phasorref19_Early.l1] at H
       by_cases c9 : x7_2 < x5_1
       ·rw [if_pos c9] at H
        have c9b0 : decide (x7_2 < x5_1) = true := decide_eq_true c9
        clear c9
        replace H := Option.bind_eq_some_iff.mp H
        obtain ⟨t3603, A100, H⟩ := H
        replace H : (if t3603 = true then (if 0 ≤ x7_2 then (if x7_2 < (x4_1.length : Int) then (phasorref19_Early.l1 k2 x4_1 x5_1 (mx x6_2 (rd x4_1 x7_2)) (wrap64 (x7_2 + 1)) a0_0 a0_1 l0_2) else (none)) else (none)) else (phasorref19_Early.l1 k2 x4_1 x5_1 x6_2 (wrap64 (x7_2 + 1)) a0_0 a0_1 l0_2)) = some (r1, r2) := H
        have A10 := Aside0.mk A100
        clear A100
        by_cases c11 : t3603 = true
        ·subst c11
         have H1 : (if 0 ≤ x7_2 then (if x7_2 < (x4_1.length : Int) then (phasorref19_Early.l1 k2 x4_1 x5_1 (mx x6_2 (rd x4_1 x7_2)) (wrap64 (x7_2 + 1)) a0_0 a0_1 l0_2) else (none)) else (none)) = some (r1, r2) := by rw [if_pos rfl] at H; exact H
         clear H
         have H := H1
         clear H1
         by_cases c12 : 0 ≤ x7_2
         ·rw [if_pos c12] at H
          have c12b0 : decide (0 ≤ x7_2) = true := decide_eq_true c12
          clear c12
          by_cases c13 : x7_2 < (x4_1.length : Int)
          ·rw [if_pos c13] at H
           have c13b0 : decide (x7_2 < (x4_1.length : Int)) = true := decide_eq_true c13
           clear c13
           obtain ⟨ji14, hji14⟩ : ∃ j_ : Int, (mx x6_2 (rd x4_1 x7_2)) = j_ := ⟨_, rfl⟩
           replace H : (phasorref19_Early.l1 k2 x4_1 x5_1 ji14 (wrap64 (x7_2 + 1)) a0_0 a0_1 l0_2) = some (r1, r2) := by first | (rw [hji14] at H; exact H) | (simp only [hji14] at H ⊢; exact H)
           (try rw [hji14] at A10)
           have hji14_ : (if x6_2 < (rd x4_1 x7_2) then (rd x4_1 x7_2) else x6_2) = ji14 := hji14
           have H' := Aside0.mk H
           clear H
           have hcz15_0 : wr.cell? ⟨gb3601, 0, none⟩ = some (.int .i64 a0_0) := (blk_cell BK3601.out 0).trans rfl
           have hcz15_1 : wr.cell? ⟨gb3601, 1, none⟩ = some (.int .i64 a0_1) := (blk_cell BK3601.out 1).trans rfl
           have hcz15_2 : wr.cell? ⟨gb3601, 2, none⟩ = some (.slice A0_2 l0_2.length c0_2) := (blk_cell BK3601.out 2).trans rfl
           have hfz15_0 := blk_frozen BK3601.out 0
           have hfz15_1 := blk_frozen BK3601.out 1
           have hfz15_2 := blk_frozen BK3601.out 2
           go_wp2_with (first | ((with_reducible refine gate_callee (f := 29) rfl ?_); refine goesL_ (some 26) rfl rfl Try.func29 (by kernel_rfl) rfl #[.agg #[.int .i64 a0_0, .int .i64 a0_1, .slice A0_2 l0_2.length c0_2], .int .i64 x5_1, .int .i64 x7_2] rfl (by (try simp only [List.map_toArray, List.map_cons, List.map_nil]); first | done | rfl | (simp only [List.length_drop, List.length_take]; rfl)) ?_; (with_reducible refine (phasorref19_touch.calls k2 a0_0 a0_1 _ _ l0_2 x5_1 x7_2 true _ ?side1 ?side2 A10.out).mono ?_); (case side1 => repeat (first | exact (Kd.C_below HR0_2.out HB.out) | (with_reducible refine Kd.C_alloc ?_ _) | (with_reducible refine Kd.C_drewN ?_ _) | (with_reducible refine Kd.C_drew ?_))); (case side2 => exact HC0_2.out); rintro e w16 ⟨rfl, hb⟩; refine ⟨_, rfl, ?_⟩; have n0_ := Aside0.mk (Kd.R_below (by (with_reducible repeat (first | apply Kd.R_alloc | apply Kd.R_drewN | apply Kd.R_drew)); exact HO_4.out) hb); have n1_ := Aside0.mk (blk_below (g := gb3601) (o := .cells #[.int .i64 a0_0, .int .i64 a0_1, .slice A0_2 l0_2.length c0_2] 24 (0, 0)) (by (with_reducible repeat (first | refine blk_drewN ?_ _ | refine blk_drew ?_ | refine blk_alloc ?_ _)); exact BK3601.out) hb); have n2_ := Aside0.mk (below_step (by repeat (first | (with_reducible first | exact HB.out | apply below_alloc | apply pw_below_drewN | apply below_drew1 | refine below_set ?_ GE3601.out) | exact HB.out)) hb); clear HO_4; clear BK3601; clear HB; have HO_4 := n0_; have BK3601 := n1_; have HB := n2_; clear n0_ n1_ n2_; (try clear hb); (try clear hb2); (try clear hk); (try clear hi); obtain ⟨Ao17, co17, eo17⟩ := Kd.R_slice HO_4.out; subst eo17; have p3604 : 0 ≤ (x7_2 : Int) := of_decide_eq_true (by first | (with_reducible assumption) | assumption); have q3604 : x7_2 < (x4_1.length : Int) := of_decide_eq_true (by first | (with_reducible assumption) | assumption); obtain ⟨ad3604, e3604, hx3604_0⟩ := Kd.at_int (Kd.R_reads' HO_4.out).2.2 x7_2 p3604 q3604; cases e3604; replace p3604 := eq_true p3604; replace q3604 := eq_true q3604))
           go_roundg k2
           case measure => have := HK1.out; have := HK2.out; omega
           case rel => exact ⟨(ji14), (wrap64 (x7_2 + 1)), (by first | rfl | (simp; done) | (simp only [← hji14] <;> (first | rfl | simp)) | (simp [*]; done)), (by first | rfl | (simp; done) | (simp [*]; done)), H', ⟨by have := HK1.out; have := HK2.out; omega⟩, ⟨by (with_reducible repeat (first | apply Kd.R_alloc | apply Kd.R_drewN | apply Kd.R_drew)); exact HO_4.out⟩, ⟨by (with_reducible repeat (first | refine blk_drewN ?_ _ | refine blk_drew ?_ | refine blk_alloc ?_ _)); exact BK3601.out⟩, ⟨by repeat (first | (with_reducible first | exact HB.out | apply below_alloc | apply pw_below_drewN | apply below_drew1 | refine below_set ?_ GE3601.out) | exact HB.out)⟩⟩
          ·rw [if_neg c13] at H
           exact absurd H (by simp)
         ·rw [if_neg c12] at H
          exact absurd H (by simp)
        ·replace c11 := Bool.eq_false_iff.mpr c11
         subst c11
         have H1 : (phasorref19_Early.l1 k2 x4_1 x5_1 x6_2 (wrap64 (x7_2 + 1)) a0_0 a0_1 l0_2) = some (r1, r2) := by rw [if_neg (show ¬ (false = true) by decide)] at H; exact H
         clear H
         have H := H1
         clear H1
         have H' := Aside0.mk H
         clear H
         have hcz18_0 : wr.cell? ⟨gb3601, 0, none⟩ = some (.int .i64 a0_0) := (blk_cell BK3601.out 0).trans rfl
         have hcz18_1 : wr.cell? ⟨gb3601, 1, none⟩ = some (.int .i64 a0_1) := (blk_cell BK3601.out 1).trans rfl
         have hcz18_2 : wr.cell? ⟨gb3601, 2, none⟩ = some (.slice A0_2 l0_2.length c0_2) := (blk_cell BK3601.out 2).trans rfl
         have hfz18_0 := blk_frozen BK3601.out 0
         have hfz18_1 := blk_frozen BK3601.out 1
         have hfz18_2 := blk_frozen BK3601.out 2
         go_wp2_with (first | ((with_reducible refine gate_callee (f := 29) rfl ?_); refine goesL_ (some 26) rfl rfl Try.func29 (by kernel_rfl) rfl #[.agg #[.int .i64 a0_0, .int .i64 a0_1, .slice A0_2 l0_2.length c0_2], .int .i64 x5_1, .int .i64 x7_2] rfl (by (try simp only [List.map_toArray, List.map_cons, List.map_nil]); first | done | rfl | (simp only [List.length_drop, List.length_take]; rfl)) ?_; (with_reducible refine (phasorref19_touch.calls k2 a0_0 a0_1 _ _ l0_2 x5_1 x7_2 false _ ?side1 ?side2 A10.out).mono ?_); (case side1 => repeat (first | exact (Kd.C_below HR0_2.out HB.out) | (with_reducible refine Kd.C_alloc ?_ _) | (with_reducible refine Kd.C_drewN ?_ _) | (with_reducible refine Kd.C_drew ?_))); (case side2 => exact HC0_2.out); rintro e w19 ⟨rfl, hb⟩; refine ⟨_, rfl, ?_⟩; have n0_ := Aside0.mk (Kd.R_below (by (with_reducible repeat (first | apply Kd.R_alloc | apply Kd.R_drewN | apply Kd.R_drew)); exact HO_4.out) hb); have n1_ := Aside0.mk (blk_below (g := gb3601) (o := .cells #[.int .i64 a0_0, .int .i64 a0_1, .slice A0_2 l0_2.length c0_2] 24 (0, 0)) (by (with_reducible repeat (first | refine blk_drewN ?_ _ | refine blk_drew ?_ | refine blk_alloc ?_ _)); exact BK3601.out) hb); have n2_ := Aside0.mk (below_step (by repeat (first | (with_reducible first | exact HB.out | apply below_alloc | apply pw_below_drewN | apply below_drew1 | refine below_set ?_ GE3601.out) | exact HB.out)) hb); clear HO_4; clear BK3601; clear HB; have HO_4 := n0_; have BK3601 := n1_; have HB := n2_; clear n0_ n1_ n2_; (try clear hb); (try clear hb2); (try clear hk); (try clear hi)))
         go_roundg k2
         case measure => have := HK1.out; have := HK2.out; omega
         case rel => exact ⟨(x6_2), (wrap64 (x7_2 + 1)), (by first | rfl | (simp; done) | (simp [*]; done)), (by first | rfl | (simp; done) | (simp [*]; done)), H', ⟨by have := HK1.out; have := HK2.out; omega⟩, ⟨by (with_reducible repeat (first | apply Kd.R_alloc | apply Kd.R_drewN | apply Kd.R_drew)); exact HO_4.out⟩, ⟨by (with_reducible repeat (first | refine blk_drewN ?_ _ | refine blk_drew ?_ | refine blk_alloc ?_ _)); exact BK3601.out⟩, ⟨by repeat (first | (with_reducible first | exact HB.out | apply below_alloc | apply pw_below_drewN | apply below_drew1 | refine below_set ?_ GE3601.out) | exact HB.out)⟩⟩
       ·rw [if_neg c9] at H
        have c9b0 : decide (x7_2 < x5_1) = false := decide_eq_false c9
        clear c9
        replace H := Option.bind_eq_some_iff.mp H
        obtain ⟨t3605, A200, H⟩ := H
        replace H : (if t3605 = true then (if x4_1.length < 17592186044416 then (phasorref19_Early.l0 k2 (x4_1 ++ [x6_2]) (wrap64 (x5_1 + 1)) a0_0 a0_1 l0_2) else (none)) else (if x4_1.length < 17592186044416 then (phasorref19_Early.l0 k2 (x4_1 ++ [wrap64 (x6_2 + 1)]) (wrap64 (x5_1 + 1)) a0_0 a0_1 l0_2) else (none))) = some (r1, r2) := H
        have A20 := Aside0.mk A200
        clear A200
        by_cases c21 : t3605 = true
        ·subst c21
         have H1 : (if x4_1.length < 17592186044416 then (phasorref19_Early.l0 k2 (x4_1 ++ [x6_2]) (wrap64 (x5_1 + 1)) a0_0 a0_1 l0_2) else (none)) = some (r1, r2) := by rw [if_pos rfl] at H; exact H
         clear H
         have H := H1
         clear H1
         by_cases c22 : x4_1.length < 17592186044416
         ·rw [if_pos c22] at H
          have LMc22 := Aside0.mk c22
          clear c22
          obtain ⟨y3606, hy3606⟩ : ∃ y_ : List Int, y_ = (x4_1 ++ [x6_2]) := ⟨_, rfl⟩
          replace H : (phasorref19_Early.l0 k2 y3606 (wrap64 (x5_1 + 1)) a0_0 a0_1 l0_2) = some (r1, r2) := by first | (rw [hy3606]; with_reducible exact H) | (have H2_ := (Option.bind_some _ _).symm.trans H; rw [hy3606]; with_reducible exact H2_) | (have H2_ := (Option.bind_some _ _).symm.trans H; with_reducible exact H2_) | with_reducible exact H | (rw [hy3606]; exact H) | exact H
          have Ny3606 := Aside0.mk hy3606
          clear hy3606
          have H' := Aside0.mk H
          clear H
          have hcz23_0 : wr.cell? ⟨gb3601, 0, none⟩ = some (.int .i64 a0_0) := (blk_cell BK3601.out 0).trans rfl
          have hcz23_1 : wr.cell? ⟨gb3601, 1, none⟩ = some (.int .i64 a0_1) := (blk_cell BK3601.out 1).trans rfl
          have hcz23_2 : wr.cell? ⟨gb3601, 2, none⟩ = some (.slice A0_2 l0_2.length c0_2) := (blk_cell BK3601.out 2).trans rfl
          have hfz23_0 := blk_frozen BK3601.out 0
          have hfz23_1 := blk_frozen BK3601.out 1
          have hfz23_2 := blk_frozen BK3601.out 2
          go_wp2_with (first | ((with_reducible refine gate_callee (f := 30) rfl ?_); refine goesL_ (some 35) rfl rfl Try.func30 (by kernel_rfl) rfl #[.agg #[.int .i64 a0_0, .int .i64 a0_1, .slice A0_2 l0_2.length c0_2], .int .i64 x5_1] rfl (by (try simp only [List.map_toArray, List.map_cons, List.map_nil]); first | done | rfl | (simp only [List.length_drop, List.length_take]; rfl)) ?_; (with_reducible refine (phasorref19_bar.calls a0_0 a0_1 _ _ l0_2 x5_1 true _ ?side1 ?side2 A20.out).mono ?_); (case side1 => repeat (first | exact (Kd.C_below HR0_2.out HB.out) | (with_reducible refine Kd.C_alloc ?_ _) | (with_reducible refine Kd.C_drewN ?_ _) | (with_reducible refine Kd.C_drew ?_))); (case side2 => exact HC0_2.out); rintro e w24 ⟨rfl, hb⟩; refine ⟨_, rfl, ?_⟩; have n0_ := Aside0.mk (Kd.R_below (by (with_reducible repeat (first | apply Kd.R_alloc | apply Kd.R_drewN | apply Kd.R_drew)); exact HO_4.out) hb); have n1_ := Aside0.mk (blk_below (g := gb3601) (o := .cells #[.int .i64 a0_0, .int .i64 a0_1, .slice A0_2 l0_2.length c0_2] 24 (0, 0)) (by (with_reducible repeat (first | refine blk_drewN ?_ _ | refine blk_drew ?_ | refine blk_alloc ?_ _)); exact BK3601.out) hb); have n2_ := Aside0.mk (below_step (by repeat (first | (with_reducible first | exact HB.out | apply below_alloc | apply pw_below_drewN | apply below_drew1 | refine below_set ?_ GE3601.out) | exact HB.out)) hb); clear HO_4; clear BK3601; clear HB; have HO_4 := n0_; have BK3601 := n1_; have HB := n2_; clear n0_ n1_ n2_; (try clear hb); (try clear hb2); (try clear hk); (try clear hi)) | ((with_reducible refine gate_builtin (b := .append) (xs := #[.tmp 39, .tmp 41]) rfl ?_); at_builtin; refine Kd.R_append (Kd.int .i64) (w0 := w) w.heap.size rfl (.tmp 39) (.tmp 41) 25 3 (.int .i64 0) 8 rfl Try.underlying25 info3 rfl (by decide) (by omega) u4 x4_1 x6_2 [.int .i64 x6_2] (fun _ => True) (fun _ => False) rfl rfl ?aP (fun _ hk => hk.elim) ?aF ?aO ?aB ?aS ?aL ?_; (case aP => exact rfl); (case aB => exact (by repeat (first | (with_reducible first | exact HB.out | apply below_alloc | apply pw_below_drewN | apply below_drew1 | refine below_set ?_ GE3601.out) | exact HB.out))); (case aF => exact (fun _ _ => trivial)); (case aO => exact (by (with_reducible repeat (first | apply Kd.R_alloc | apply Kd.R_drewN | apply Kd.R_drew)); exact HO_4.out)); (case aS => exact (below_size (by repeat (first | (with_reducible first | exact HB.out | apply below_alloc | apply pw_below_drewN | apply below_drew1 | refine below_set ?_ GE3601.out) | exact HB.out)))); (case aL => have := LMc22.out; omega); intro v3607 w25 ho hb hg hat; rw [← Ny3606.out] at ho; have n0_ := Aside0.mk (blk_grown (g := gb3601) (o := .cells #[.int .i64 a0_0, .int .i64 a0_1, .slice A0_2 l0_2.length c0_2] 24 (0, 0)) (by (with_reducible repeat (first | refine blk_drewN ?_ _ | refine blk_drew ?_ | refine blk_alloc ?_ _)); exact BK3601.out) hg (Kd.R_ne HO_4.out BK3601.out (by decide))); have n1_ := Aside0.mk (hb); have n2_ := Aside0.mk (ho); clear BK3601; clear HB; clear HO_4; have BK3601 := n0_; have HB := n1_; have HO3608 := n2_; clear n0_ n1_ n2_; clear ho hb hg hat))
          go_roundg k2
          case measure => have := HK1.out; have := HK2.out; omega
          case rel => exact ⟨(y3606), (wrap64 (x5_1 + 1)), (by first | rfl | (simp; done) | (simp [*]; done)), H', ⟨by have := HK1.out; have := HK2.out; omega⟩, ⟨by (with_reducible repeat (first | apply Kd.R_alloc | apply Kd.R_drewN | apply Kd.R_drew)); exact HO3608.out⟩, ⟨by (with_reducible repeat (first | refine blk_drewN ?_ _ | refine blk_drew ?_ | refine blk_alloc ?_ _)); exact BK3601.out⟩, ⟨by repeat (first | (with_reducible first | exact HB.out | apply below_alloc | apply pw_below_drewN | apply below_drew1 | refine below_set ?_ GE3601.out) | exact HB.out)⟩⟩
         ·rw [if_neg c22] at H
          exact absurd H (by simp)
        ·replace c21 := Bool.eq_false_iff.mpr c21
         subst c21
         have H1 : (if x4_1.length < 17592186044416 then (phasorref19_Early.l0 k2 (x4_1 ++ [wrap64 (x6_2 + 1)]) (wrap64 (x5_1 + 1)) a0_0 a0_1 l0_2) else (none)) = some (r1, r2) := by rw [if_neg (show ¬ (false = true) by decide)] at H; exact H
         clear H
         have H := H1
         clear H1
         by_cases c26 : x4_1.length < 17592186044416
         ·rw [if_pos c26] at H
          have LMc26 := Aside0.mk c26
          clear c26
          obtain ⟨y3609, hy3609⟩ : ∃ y_ : List Int, y_ = (x4_1 ++ [wrap64 (x6_2 + 1)]) := ⟨_, rfl⟩
          replace H : (phasorref19_Early.l0 k2 y3609 (wrap64 (x5_1 + 1)) a0_0 a0_1 l0_2) = some (r1, r2) := by first | (rw [hy3609]; with_reducible exact H) | (have H2_ := (Option.bind_some _ _).symm.trans H; rw [hy3609]; with_reducible exact H2_) | (have H2_ := (Option.bind_some _ _).symm.trans H; with_reducible exact H2_) | with_reducible exact H | (rw [hy3609]; exact H) | exact H
          have Ny3609 := Aside0.mk hy3609
          clear hy3609
          have H' := Aside0.mk H
          clear H
          have hcz27_0 : wr.cell? ⟨gb3601, 0, none⟩ = some (.int .i64 a0_0) := (blk_cell BK3601.out 0).trans rfl
          have hcz27_1 : wr.cell? ⟨gb3601, 1, none⟩ = some (.int .i64 a0_1) := (blk_cell BK3601.out 1).trans rfl
          have hcz27_2 : wr.cell? ⟨gb3601, 2, none⟩ = some (.slice A0_2 l0_2.length c0_2) := (blk_cell BK3601.out 2).trans rfl
          have hfz27_0 := blk_frozen BK3601.out 0
          have hfz27_1 := blk_frozen BK3601.out 1
          have hfz27_2 := blk_frozen BK3601.out 2
          go_wp2_with (first | ((with_reducible refine gate_callee (f := 30) rfl ?_); refine goesL_ (some 35) rfl rfl Try.func30 (by kernel_rfl) rfl #[.agg #[.int .i64 a0_0, .int .i64 a0_1, .slice A0_2 l0_2.length c0_2], .int .i64 x5_1] rfl (by (try simp only [List.map_toArray, List.map_cons, List.map_nil]); first | done | rfl | (simp only [List.length_drop, List.length_take]; rfl)) ?_; (with_reducible refine (phasorref19_bar.calls a0_0 a0_1 _ _ l0_2 x5_1 false _ ?side1 ?side2 A20.out).mono ?_); (case side1 => repeat (first | exact (Kd.C_below HR0_2.out HB.out) | (with_reducible refine Kd.C_alloc ?_ _) | (with_reducible refine Kd.C_drewN ?_ _) | (with_reducible refine Kd.C_drew ?_))); (case side2 => exact HC0_2.out); rintro e w28 ⟨rfl, hb⟩; refine ⟨_, rfl, ?_⟩; have n0_ := Aside0.mk (Kd.R_below (by (with_reducible repeat (first | apply Kd.R_alloc | apply Kd.R_drewN | apply Kd.R_drew)); exact HO_4.out) hb); have n1_ := Aside0.mk (blk_below (g := gb3601) (o := .cells #[.int .i64 a0_0, .int .i64 a0_1, .slice A0_2 l0_2.length c0_2] 24 (0, 0)) (by (with_reducible repeat (first | refine blk_drewN ?_ _ | refine blk_drew ?_ | refine blk_alloc ?_ _)); exact BK3601.out) hb); have n2_ := Aside0.mk (below_step (by repeat (first | (with_reducible first | exact HB.out | apply below_alloc | apply pw_below_drewN | apply below_drew1 | refine below_set ?_ GE3601.out) | exact HB.out)) hb); clear HO_4; clear BK3601; clear HB; have HO_4 := n0_; have BK3601 := n1_; have HB := n2_; clear n0_ n1_ n2_; (try clear hb); (try clear hb2); (try clear hk); (try clear hi)) | ((with_reducible refine gate_builtin (b := .append) (xs := #[.tmp 39, .tmp 41]) rfl ?_); at_builtin; refine Kd.R_append (Kd.int .i64) (w0 := w) w.heap.size rfl (.tmp 39) (.tmp 41) 25 3 (.int .i64 0) 8 rfl Try.underlying25 info3 rfl (by decide) (by omega) u4 x4_1 (wrap64 (x6_2 + 1)) [.int .i64 (wrap64 (x6_2 + 1))] (fun _ => True) (fun _ => False) rfl rfl ?aP (fun _ hk => hk.elim) ?aF ?aO ?aB ?aS ?aL ?_; (case aP => exact rfl); (case aB => exact (by repeat (first | (with_reducible first | exact HB.out | apply below_alloc | apply pw_below_drewN | apply below_drew1 | refine below_set ?_ GE3601.out) | exact HB.out))); (case aF => exact (fun _ _ => trivial)); (case aO => exact (by (with_reducible repeat (first | apply Kd.R_alloc | apply Kd.R_drewN | apply Kd.R_drew)); exact HO_4.out)); (case aS => exact (below_size (by repeat (first | (with_reducible first | exact HB.out | apply below_alloc | apply pw_below_drewN | apply below_drew1 | refine below_set ?_ GE3601.out) | exact HB.out)))); (case aL => have := LMc26.out; omega); intro v3610 w29 ho hb hg hat; rw [← Ny3609.out] at ho; have n0_ := Aside0.mk (blk_grown (g := gb3601) (o := .cells #[.int .i64 a0_0, .int .i64 a0_1, .slice A0_2 l0_2.length c0_2] 24 (0, 0)) (by (with_reducible repeat (first | refine blk_drewN ?_ _ | refine blk_drew ?_ | refine blk_alloc ?_ _)); exact BK3601.out) hg (Kd.R_ne HO_4.out BK3601.out (by decide))); have n1_ := Aside0.mk (hb); have n2_ := Aside0.mk (ho); clear BK3601; clear HB; clear HO_4; have BK3601 := n0_; have HB := n1_; have HO3611 := n2_; clear n0_ n1_ n2_; clear ho hb hg hat))
          go_roundg k2
          case measure => have := HK1.out; have := HK2.out; omega
          case rel => exact ⟨(y3609), (wrap64 (x5_1 + 1)), (by first | rfl | (simp; done) | (simp [*]; done)), H', ⟨by have := HK1.out; have := HK2.out; omega⟩, ⟨by (with_reducible repeat (first | apply Kd.R_alloc | apply Kd.R_drewN | apply Kd.R_drew)); exact HO3611.out⟩, ⟨by (with_reducible repeat (first | refine blk_drewN ?_ _ | refine blk_drew ?_ | refine blk_alloc ?_ _)); exact BK3601.out⟩, ⟨by repeat (first | (with_reducible first | exact HB.out | apply below_alloc | apply pw_below_drewN | apply below_drew1 | refine below_set ?_ GE3601.out) | exact HB.out)⟩⟩
         ·rw [if_neg c26] at H
          exact absurd H (by simp)
    ·rw [if_neg c7] at H
     have c7b0 : decide (x5_1 < (l0_2.length : Int)) = false := decide_eq_false c7
     clear c7
     simp only [Option.some.injEq, Prod.mk.injEq] at H
     obtain ⟨rfl, rfl⟩ := H
     have hcz30_0 : wr.cell? ⟨gb3601, 0, none⟩ = some (.int .i64 a0_0) := (blk_cell BK3601.out 0).trans rfl
     have hcz30_1 : wr.cell? ⟨gb3601, 1, none⟩ = some (.int .i64 a0_1) := (blk_cell BK3601.out 1).trans rfl
     have hcz30_2 : wr.cell? ⟨gb3601, 2, none⟩ = some (.slice A0_2 l0_2.length c0_2) := (blk_cell BK3601.out 2).trans rfl
     have hfz30_0 := blk_frozen BK3601.out 0
     have hfz30_1 := blk_frozen BK3601.out 1
     have hfz30_2 := blk_frozen BK3601.out 2
     go_wp2
     go_ret2
     exact ⟨_, by first | rfl | (simp [errW_none, errW_some] <;> rfl) | (simp [*, errW_none, errW_some] <;> rfl), by (with_reducible repeat (first | apply Kd.R_alloc | apply Kd.R_drewN | apply Kd.R_drew)); exact HO_4.out, by repeat (first | (with_reducible first | exact HB.out | apply below_alloc | apply pw_below_drewN | apply below_drew1 | refine below_set ?_ GE3601.out) | exact HB.out)⟩
 ·replace c3 := Bool.eq_false_iff.mpr c3
  subst c3
  have H1 : (some (([] : List Int), 80)) = some (r1, r2) := by rw [if_neg (show ¬ (false = true) by decide)] at H; exact H
  clear H
  have H := H1
  clear H1
  simp only [Option.some.injEq, Prod.mk.injEq] at H
  obtain ⟨rfl, rfl⟩ := H
  go_enter Try.func7, Try.ntmps7
  go_wp2_with (first | ((with_reducible refine gate_dst (N := 1) rfl ?_); refine box_event ?hg (N := 1) ?hd (cs := #[.int .i64 a0_0, .int .i64 a0_1, .slice A0_2 l0_2.length c0_2]) (t := 24) ?hr ?_; (case hd => rfl); (case hg => rfl); (case hr => first | (go_simp; done) | (go_simp; rfl)); intro gb3601 hg w31 hbox hb; have n0_ := Aside0.mk (below_step (by repeat (first | (with_reducible first | exact HB.out | apply below_alloc | apply pw_below_drewN | apply below_drew1) | exact HB.out)) hb); have n1_ := Aside0.mk (hbox); have n2_ := Aside0.mk ((by rw [hg]; exact (below_size (by repeat (first | (with_reducible first | exact HB.out | apply below_alloc | apply pw_below_drewN | apply below_drew1) | exact HB.out))) : w.heap.size ≤ gb3601)); have n3_ := Aside0.mk ((by rw [hg]; exact (below_size (by repeat (first | (with_reducible first | exact HB.out | apply below_alloc | apply pw_below_drewN | apply below_drew1) | exact HB.out))) : w.heap.size ≤ gb3601)); clear HB; have HB := n0_; have BK3601 := n1_; have GW3601 := n2_; have GE3601 := n3_; clear n0_ n1_ n2_ n3_; clear hb hbox hg; have hcz32_0 : w31.cell? ⟨gb3601, 0, none⟩ = some (.int .i64 a0_0) := (blk_cell BK3601.out 0).trans rfl; have hcz32_1 : w31.cell? ⟨gb3601, 1, none⟩ = some (.int .i64 a0_1) := (blk_cell BK3601.out 1).trans rfl; have hcz32_2 : w31.cell? ⟨gb3601, 2, none⟩ = some (.slice A0_2 l0_2.length c0_2) := (blk_cell BK3601.out 2).trans rfl; have hfz32_0 := blk_frozen BK3601.out 0; have hfz32_1 := blk_frozen BK3601.out 1; have hfz32_2 := blk_frozen BK3601.out 2) | ((with_reducible refine gate_callee (f := 28) rfl ?_); refine goesL_ (some 9) rfl rfl Try.func28 (by kernel_rfl) rfl #[.agg #[.int .i64 a0_0, .int .i64 a0_1, .slice A0_2 l0_2.length c0_2]] rfl (by (try simp only [List.map_toArray, List.map_cons, List.map_nil]); first | done | rfl | (simp only [List.length_drop, List.length_take]; rfl)) ?_; (with_reducible refine (phasorref08_May.calls k a0_0 a0_1 _ _ l0_2 false _ ?side1 ?side2 A2.out).mono ?_); (case side1 => repeat (first | exact (Kd.C_below HR0_2.out HB.out) | (with_reducible refine Kd.C_alloc ?_ _) | (with_reducible refine Kd.C_drewN ?_ _) | (with_reducible refine Kd.C_drew ?_))); (case side2 => exact HC0_2.out); rintro e w33 ⟨rfl, hb⟩; refine ⟨_, rfl, ?_⟩; have n0_ := Aside0.mk (blk_below (g := gb3601) (o := .cells #[.int .i64 a0_0, .int .i64 a0_1, .slice A0_2 l0_2.length c0_2] 24 (0, 0)) (by (with_reducible repeat (first | refine blk_drewN ?_ _ | refine blk_drew ?_ | refine blk_alloc ?_ _)); exact BK3601.out) hb); have n1_ := Aside0.mk (below_step (by repeat (first | (with_reducible first | exact HB.out | apply below_alloc | apply pw_below_drewN | apply below_drew1 | refine below_set ?_ GE3601.out) | exact HB.out)) hb); clear BK3601; clear HB; have BK3601 := n0_; have HB := n1_; clear n0_ n1_; (try clear hb); (try clear hb2); (try clear hk); (try clear hi)))
  go_ret2
  exact ⟨_, by first | rfl | (simp [errW_none, errW_some] <;> rfl) | (simp [*, errW_none, errW_some] <;> rfl), by first | exact Kd.R_nil _ _ _ _ _ | exact Kd.N_nil _ _ _ _ _ | exact Kd.V_nil _ _ _ _ _ | exact Kd.Q_nil _ _ _ _ _ | exact Kd.S_nil _ _ _ _ _, by repeat (first | (with_reducible first | exact HB.out | apply below_alloc | apply pw_below_drewN | apply below_drew1 | refine below_set ?_ GE3601.out) | exact HB.out)⟩
def phasorref19_Depth.l0 : Nat → List Int → Int → Int → Int → Option (Int × Int)
 | 0, _, _, _, _ => none
 | k + 1, x4, x5, x6, x7 => if x7 < (x4.length : Int) then (if 0 ≤ x7 then (phasorref19_Depth.l0 k x4 x5 (mx x6 (rd x4 x7)) (wrap64 (x7 + 1))) else (none)) else (some (x6, x5))
def phasorref19_Depth.f (k : Nat) (a0_0 : Int) (a0_1 : Int) (l0_2 : List (S57)) : Option (Int × Int) := (phasorref19_Early.f k a0_0 a0_1 l0_2).bind fun bt8102 => (phasorref19_Depth.l0 k bt8102.1 bt8102.2 0 0)
set_option maxHeartbeats 8000000 in
set_option maxRecDepth 100000 in
theorem phasorref19_Depth.calls (k : Nat) (a0_0 : Int) (a0_1 : Int) (A0_2 : Option Addr) (c0_2 : Nat) (l0_2 : List (S57)) (r1 : Int) (r2 : Int) (w : World) (hr0_2 : Kd.C k57 w A0_2 l0_2.length l0_2) (hc0_2 : l0_2.length ≤ c0_2) (h : phasorref19_Depth.f k a0_0 a0_1 l0_2 = some (r1, r2)) :
  Calls Try.prog 16 #[.agg #[.int .i64 a0_0, .int .i64 a0_1, .slice A0_2 l0_2.length c0_2]] w fun e w' => e = .returned (.tuple #[.int .i64 r1, .int .i64 r2]) ∧ Below w.heap.size w w' := by
 have hu24 := Try.underlying24
 have HR0_2 := Aside0.mk hr0_2
 have HC0_2 := Aside0.mk hc0_2
 clear hr0_2 hc0_2
 have HB := Aside0.mk (Below.refl w.heap.size w)
 have H : ((phasorref19_Early.f k a0_0 a0_1 l0_2).bind fun bt8102 => (phasorref19_Depth.l0 k bt8102.1 bt8102.2 0 0)) = some (r1, r2) := h
 clear h
 replace H := Option.bind_eq_some_iff.mp H
 obtain ⟨⟨t8102, t8105⟩, A20, H⟩ := H
 replace H : (phasorref19_Depth.l0 k t8102 t8105 0 0) = some (r1, r2) := H
 have A2 := Aside0.mk A20
 clear A20
 have H' := Aside0.mk H
 clear H
 go_enter Try.func16, Try.ntmps16
 go_wp2_with (first | ((with_reducible refine gate_dst (N := 1) rfl ?_); refine box_event ?hg (N := 1) ?hd (cs := #[.int .i64 a0_0, .int .i64 a0_1, .slice A0_2 l0_2.length c0_2]) (t := 24) ?hr ?_; (case hd => rfl); (case hg => rfl); (case hr => first | (go_simp; done) | (go_simp; rfl)); intro gb8101 hg w3 hbox hb; have n0_ := Aside0.mk (below_step (by repeat (first | (with_reducible first | exact HB.out | apply below_alloc | apply pw_below_drewN | apply below_drew1) | exact HB.out)) hb); have n1_ := Aside0.mk (hbox); have n2_ := Aside0.mk ((by rw [hg]; exact (below_size (by repeat (first | (with_reducible first | exact HB.out | apply below_alloc | apply pw_below_drewN | apply below_drew1) | exact HB.out))) : w.heap.size ≤ gb8101)); have n3_ := Aside0.mk ((by rw [hg]; exact (below_size (by repeat (first | (with_reducible first | exact HB.out | apply below_alloc | apply pw_below_drewN | apply below_drew1) | exact HB.out))) : w.heap.size ≤ gb8101)); clear HB; have HB := n0_; have BK8101 := n1_; have GW8101 := n2_; have GE8101 := n3_; clear n0_ n1_ n2_ n3_; clear hb hbox hg; have hcz4_0 : w3.cell? ⟨gb8101, 0, none⟩ = some (.int .i64 a0_0) := (blk_cell BK8101.out 0).trans rfl; have hcz4_1 : w3.cell? ⟨gb8101, 1, none⟩ = some (.int .i64 a0_1) := (blk_cell BK8101.out 1).trans rfl; have hcz4_2 : w3.cell? ⟨gb8101, 2, none⟩ = some (.slice A0_2 l0_2.length c0_2) := (blk_cell BK8101.out 2).trans rfl; have hfz4_0 := blk_frozen BK8101.out 0; have hfz4_1 := blk_frozen BK8101.out 1; have hfz4_2 := blk_frozen BK8101.out 2) | ((with_reducible refine gate_callee (f := 7) rfl ?_); refine goesL_ (some 10) rfl rfl Try.func7 (by kernel_rfl) rfl #[.agg #[.int .i64 a0_0, .int .i64 a0_1, .slice A0_2 l0_2.length c0_2]] rfl (by (try simp only [List.map_toArray, List.map_cons, List.map_nil]); first | done | rfl | (simp only [List.length_drop, List.length_take]; rfl)) ?_; (with_reducible refine (phasorref19_Early.calls k a0_0 a0_1 _ _ l0_2 t8102 t8105 _ ?side1 ?side2 A2.out).mono ?_); (case side1 => repeat (first | exact (Kd.C_below HR0_2.out HB.out) | (with_reducible refine Kd.C_alloc ?_ _) | (with_reducible refine Kd.C_drewN ?_ _) | (with_reducible refine Kd.C_drew ?_))); (case side2 => exact HC0_2.out); rintro e w5 ⟨v8103, rfl, ho0, hb⟩; refine ⟨_, rfl, ?_⟩; have n0_ := Aside0.mk (Kd.R_lower ho0 (below_size (by repeat (first | (with_reducible first | exact HB.out | apply below_alloc | apply pw_below_drewN | apply below_drew1 | refine below_set ?_ GE8101.out) | exact HB.out)))); have n1_ := Aside0.mk (blk_below (g := gb8101) (o := .cells #[.int .i64 a0_0, .int .i64 a0_1, .slice A0_2 l0_2.length c0_2] 24 (0, 0)) (by (with_reducible repeat (first | refine blk_drewN ?_ _ | refine blk_drew ?_ | refine blk_alloc ?_ _)); exact BK8101.out) hb); have n2_ := Aside0.mk (below_step (by repeat (first | (with_reducible first | exact HB.out | apply below_alloc | apply pw_below_drewN | apply below_drew1 | refine below_set ?_ GE8101.out) | exact HB.out)) hb); clear BK8101; clear HB; have HO8104 := n0_; have BK8101 := n1_; have HB := n2_; clear n0_ n1_ n2_; (try clear hb); (try clear hb2); (try clear hk); (try clear hi); (try clear ho0)))
 go_loopg [6, 7] k (fun kq v6 v7 w' => ∃ (x6_1 : Int) (x7_1 : Int), v6 = .int .i64 x6_1 ∧ v7 = .int .i64 x7_1 ∧ Aside0 (phasorref19_Depth.l0 kq t8102 t8105 x6_1 x7_1 = some (r1, r2)) ∧ Aside0 (kq ≤ k) ∧ Aside0 (Kd.R (Kd.int .i64) 3 w' w.heap.size (fun _ => True) v8103 t8102) ∧ Aside0 (w'.heap[gb8101]? = some (.cells #[.int .i64 a0_0, .int .i64 a0_1, (.slice A0_2 l0_2.length c0_2)] 24 (0, 0))) ∧ Aside0 (Below w.heap.size w w'))
 case atStart => exact ⟨(0), (0), (by first | rfl | (simp; done) | (simp [*]; done)), (by first | rfl | (simp; done) | (simp [*]; done)), H', ⟨Nat.le_refl _⟩, ⟨by (with_reducible repeat (first | apply Kd.R_alloc | apply Kd.R_drewN | apply Kd.R_drew)); exact HO8104.out⟩, ⟨by (with_reducible repeat (first | refine blk_drewN ?_ _ | refine blk_drew ?_ | refine blk_alloc ?_ _)); exact BK8101.out⟩, ⟨by repeat (first | (with_reducible first | exact HB.out | apply below_alloc | apply pw_below_drewN | apply below_drew1 | refine below_set ?_ GE8101.out) | exact HB.out)⟩⟩
 case round =>
  clear H'
  try clear c1
  try clear p2
  try clear hcz4_0
  try clear hcz4_1
  try clear hcz4_2
  try clear hfz4_0
  try clear hfz4_1
  try clear hfz4_2
  obtain ⟨x6_1, x7_1, rfl, rfl, HA, HK1, HO_4, BK8101, HB⟩ := hrel
  cases gk with
  | zero => exact absurd HA.out (by simp [phasorref19_Depth.l0])
  | succ k1 =>
   have H := HA.out
   clear HA
   simp only [phasorref19_Depth.l0] at H
   by_cases c6 : x7_1 < (t8102.length : Int)
   ·rw [if_pos c6] at H
    have c6b0 : decide (x7_1 < (t8102.length : Int)) = true := decide_eq_true c6
    clear c6
    by_cases c7 : 0 ≤ x7_1
    ·rw [if_pos c7] at H
     have c7b0 : decide (0 ≤ x7_1) = true := decide_eq_true c7
     clear c7
     obtain ⟨ji8, hji8⟩ : ∃ j_ : Int, (mx x6_1 (rd t8102 x7_1)) = j_ := ⟨_, rfl⟩
     replace H : (phasorref19_Depth.l0 k1 t8102 t8105 ji8 (wrap64 (x7_1 + 1))) = some (r1, r2) := by first | (rw [hji8] at H; exact H) | (simp only [hji8] at H ⊢; exact H)
     have hji8_ : (if x6_1 < (rd t8102 x7_1) then (rd t8102 x7_1) else x6_1) = ji8 := hji8
     have H' := Aside0.mk H
     clear H
     obtain ⟨Ao9, co9, eo9⟩ := Kd.R_slice HO_4.out
     subst eo9
     have p8106 : 0 ≤ (x7_1 : Int) := of_decide_eq_true (by first | (with_reducible assumption) | assumption)
     have q8106 : x7_1 < (t8102.length : Int) := of_decide_eq_true (by first | (with_reducible assumption) | assumption)
     obtain ⟨ad8106, e8106, hx8106_0⟩ := Kd.at_int (Kd.R_reads' HO_4.out).2.2 x7_1 p8106 q8106
     cases e8106
     replace p8106 := eq_true p8106
     replace q8106 := eq_true q8106
     go_wp2
     go_roundg k1
     case measure => have := HK1.out; omega
     case rel => exact ⟨(ji8), (wrap64 (x7_1 + 1)), (by first | rfl | (simp; done) | (simp only [← hji8] <;> (first | rfl | simp)) | (simp [*]; done)), (by first | rfl | (simp; done) | (simp [*]; done)), H', ⟨by have := HK1.out; omega⟩, ⟨by (with_reducible repeat (first | apply Kd.R_alloc | apply Kd.R_drewN | apply Kd.R_drew)); exact HO_4.out⟩, ⟨by (with_reducible repeat (first | refine blk_drewN ?_ _ | refine blk_drew ?_ | refine blk_alloc ?_ _)); exact BK8101.out⟩, ⟨by repeat (first | (with_reducible first | exact HB.out | apply below_alloc | apply pw_below_drewN | apply below_drew1 | refine below_set ?_ GE8101.out) | exact HB.out)⟩⟩
    ·rw [if_neg c7] at H
     exact absurd H (by simp)
   ·rw [if_neg c6] at H
    have c6b0 : decide (x7_1 < (t8102.length : Int)) = false := decide_eq_false c6
    clear c6
    simp only [Option.some.injEq, Prod.mk.injEq] at H
    obtain ⟨rfl, rfl⟩ := H
    obtain ⟨Ao10, co10, eo10⟩ := Kd.R_slice HO_4.out
    subst eo10
    go_wp2
    go_ret2
    exact ⟨by first | rfl | (simp [errW_none, errW_some] <;> rfl) | (simp [*, errW_none, errW_some] <;> rfl), by repeat (first | (with_reducible first | exact HB.out | apply below_alloc | apply pw_below_drewN | apply below_drew1 | refine below_set ?_ GE8101.out) | exact HB.out)⟩
mutual
def phasorref19_Late.l0 : Nat → Int → List Int → Int → Int → Int → List (S57) → Option (List Int × Int)
 | 0, _, _, _, _, _, _ => none
 | k + 1, x4, x6, x7, x5102000, x5102001, x5102002 => if x7 ≥ 0 then (if 0 ≤ x7 then (if x7 < (x6.length : Int) then (phasorref19_Late.l1 k x4 (x6.set (x7 : Int).toNat x4) x7 (wrap64 (x7 + 1)) x5102000 x5102001 x5102002) else (none)) else (none)) else (some (x6, 0))
def phasorref19_Late.l1 : Nat → Int → List Int → Int → Int → Int → Int → List (S57) → Option (List Int × Int)
 | 0, _, _, _, _, _, _, _ => none
 | k + 1, x4, x6, x7, x8, x5102000, x5102001, x5102002 => if x8 < (x6.length : Int) then ((phasorref19_touch.f k x5102000 x5102001 x5102002 x7 x8).bind fun t5108 => (if t5108 = true then ((phasorref19_bar.f x5102000 x5102001 x5102002 x8).bind fun t5109 => (if t5109 = true then (if 0 ≤ x7 then (if x7 < (x6.length : Int) then (if 0 ≤ x8 then (phasorref19_Late.l1 k x4 (x6.set (x7 : Int).toNat (mn (rd x6 x7) (rd x6 x8))) x7 (wrap64 (x8 + 1)) x5102000 x5102001 x5102002) else (none)) else (none)) else (none)) else (if 0 ≤ x7 then (if x7 < (x6.length : Int) then (if 0 ≤ x8 then (phasorref19_Late.l1 k x4 (x6.set (x7 : Int).toNat (mn (rd x6 x7) (wrap64 ((rd x6 x8) - 1)))) x7 (wrap64 (x8 + 1)) x5102000 x5102001 x5102002) else (none)) else (none)) else (none)))) else (phasorref19_Late.l1 k x4 x6 x7 (wrap64 (x8 + 1)) x5102000 x5102001 x5102002))) else (phasorref19_Late.l0 k x4 x6 (wrap64 (x7 - 1)) x5102000 x5102001 x5102002)
end
def phasorref19_Late.f (k : Nat) (a0_0 : Int) (a0_1 : Int) (l0_2 : List (S57)) : Option (List Int × Int) := (phasorref19_Depth.f k a0_0 a0_1 l0_2).bind fun bt5102 => (if bt5102.2 = 0 then (if 0 ≤ (l0_2.length : Int) then (if ((l0_2.length : Int) : Int).toNat ≤ 35184372088832 then ((some (List.replicate ((l0_2.length : Int) : Int).toNat 0 : List Int)).bind fun y5104 => (phasorref19_Late.l0 k bt5102.1 y5104 (wrap64 ((y5104.length : Int) - 1)) a0_0 a0_1 l0_2)) else (none)) else (none)) else (some (([] : List Int), bt5102.2)))
def phasorref19_Late.T14 : Bool × List (List Nat × List Nat) := (true, [([], []), ([], []), ([], []), ([], []), ([2, 3], [2, 3]), ([4], [4]), ([], []), ([], []), ([6, 7], [6, 7]), ([8], [8]), ([5, 9], [5, 9]), ([0, 1, 0, 1, 2, 3, 4, 5, 6, 7, 8, 9, 10], [0, 1]), ([11, 10, 0, 1, 2, 3, 4, 5, 6, 7, 8, 9, 10], [10, 11])])
def phasorref19_Late.B14 : List Nat := [0, 0, 0, 0, 12, 28, 0, 0, 192, 448, 1020, 2047, 4095]
theorem phasorref19_Late.tab14 : rtab .any (opsOf Try.f10 14) = phasorref19_Late.T14 := by kernel_rfl
theorem phasorref19_Late.bits14 : waitsOk phasorref19_Late.T14.2 phasorref19_Late.B14 = true := by kernel_rfl
def phasorref19_Late.T15 : Bool × List (List Nat × List Nat) := (true, [([], []), ([], []), ([], []), ([], []), ([2, 3], [2, 3]), ([4], [4]), ([], []), ([], []), ([6, 7], [6, 7]), ([8], [8]), ([9], [9]), ([5, 10], [5, 10]), ([0, 1, 0, 1, 2, 3, 4, 5, 6, 7, 8, 9, 10, 11], [0, 1]), ([12, 11, 0, 1, 2, 3, 4, 5, 6, 7, 8, 9, 10, 11], [11, 12])])
def phasorref19_Late.B15 : List Nat := [0, 0, 0, 0, 12, 28, 0, 0, 192, 448, 960, 2044, 4095, 8191]
theorem phasorref19_Late.tab15 : rtab .any (opsOf Try.f10 15) = phasorref19_Late.T15 := by kernel_rfl
theorem phasorref19_Late.bits15 : waitsOk phasorref19_Late.T15.2 phasorref19_Late.B15 = true := by kernel_rfl
set_option maxHeartbeats 8000000 in
set_option maxRecDepth 100000 in
theorem phasorref19_Late.calls (k : Nat) (a0_0 : Int) (a0_1 : Int) (A0_2 : Option Addr) (c0_2 : Nat) (l0_2 : List (S57)) (r1 : List Int) (r2 : Int) (w : World) (hr0_2 : Kd.C k57 w A0_2 l0_2.length l0_2) (hc0_2 : l0_2.length ≤ c0_2) (h : phasorref19_Late.f k a0_0 a0_1 l0_2 = some (r1, r2)) :
  Calls Try.prog 10 #[.agg #[.int .i64 a0_0, .int .i64 a0_1, .slice A0_2 l0_2.length c0_2]] w fun e w' => ∃ v0_ : Value, e = .returned (.tuple #[v0_, .int .i64 r2]) ∧ Kd.R (Kd.int .i64) 3 w' w.heap.size (fun _ => True) v0_ r1 ∧ Below w.heap.size w w' := by
 have hu24 := Try.underlying24
 have HR0_2 := Aside0.mk hr0_2
 have HC0_2 := Aside0.mk hc0_2
 clear hr0_2 hc0_2
 have HB := Aside0.mk (Below.refl w.heap.size w)
 have H : ((phasorref19_Depth.f k a0_0 a0_1 l0_2).bind fun bt5102 => (if bt5102.2 = 0 then (if 0 ≤ (l0_2.length : Int) then (if ((l0_2.length : Int) : Int).toNat ≤ 35184372088832 then ((some (List.replicate ((l0_2.length : Int) : Int).toNat 0 : List Int)).bind fun y5104 => (phasorref19_Late.l0 k bt5102.1 y5104 (wrap64 ((y5104.length : Int) - 1)) a0_0 a0_1 l0_2)) else (none)) else (none)) else (some (([] : List Int), bt5102.2)))) = some (r1, r2) := h
 clear h
 replace H := Option.bind_eq_some_iff.mp H
 obtain ⟨⟨t5102, t5103⟩, A20, H⟩ := H
 replace H : (if t5103 = 0 then (if 0 ≤ (l0_2.length : Int) then (if ((l0_2.length : Int) : Int).toNat ≤ 35184372088832 then ((some (List.replicate ((l0_2.length : Int) : Int).toNat 0 : List Int)).bind fun y5104 => (phasorref19_Late.l0 k t5102 y5104 (wrap64 ((y5104.length : Int) - 1)) a0_0 a0_1 l0_2)) else (none)) else (none)) else (some (([] : List Int), t5103))) = some (r1, r2) := H
 have A2 := Aside0.mk A20
 clear A20
 by_cases c3 : t5103 = 0
 ·rw [if_pos c3] at H
  have c3b0 : (t5103 == 0) = true := beq_iff_eq.mpr c3
  have c3b1 : (t5103 != 0) = false := bne_eq_false_iff_eq.mpr c3
  clear c3
  by_cases c4 : 0 ≤ (l0_2.length : Int)
  ·rw [if_pos c4] at H
   have c4b0 := eq_true c4
   have c4b1 : decide (0 ≤ (l0_2.length : Int)) = true := decide_eq_true c4
   clear c4
   by_cases c5 : ((l0_2.length : Int) : Int).toNat ≤ 35184372088832
   ·rw [if_pos c5] at H
    have c5b0 := eq_true c5
    have c5b1 : decide (((l0_2.length : Int) : Int).toNat ≤ 35184372088832) = true := decide_eq_true c5
    clear c5
    obtain ⟨y5104, hy5104⟩ : ∃ y_ : List Int, y_ = (List.replicate ((l0_2.length : Int) : Int).toNat 0) := ⟨_, rfl⟩
    replace H : (phasorref19_Late.l0 k t5102 y5104 (wrap64 ((y5104.length : Int) - 1)) a0_0 a0_1 l0_2) = some (r1, r2) := by first | (rw [hy5104]; with_reducible exact H) | (have H2_ := (Option.bind_some _ _).symm.trans H; rw [hy5104]; with_reducible exact H2_) | (have H2_ := (Option.bind_some _ _).symm.trans H; with_reducible exact H2_) | with_reducible exact H | (rw [hy5104]; exact H) | exact H
    have Ny5104 := Aside0.mk hy5104
    clear hy5104
    have H' := Aside0.mk H
    clear H
    go_enter Try.func10, Try.ntmps10
    go_wp2_with (first | ((with_reducible refine gate_dst (N := 1) rfl ?_); refine box_event ?hg (N := 1) ?hd (cs := #[.int .i64 a0_0, .int .i64 a0_1, .slice A0_2 l0_2.length c0_2]) (t := 24) ?hr ?_; (case hd => rfl); (case hg => rfl); (case hr => first | (go_simp; done) | (go_simp; rfl)); intro gb5101 hg w6 hbox hb; have n0_ := Aside0.mk (below_step (by repeat (first | (with_reducible first | exact HB.out | apply below_alloc | apply pw_below_drewN | apply below_drew1) | exact HB.out)) hb); have n1_ := Aside0.mk (hbox); have n2_ := Aside0.mk ((by rw [hg]; exact (below_size (by repeat (first | (with_reducible first | exact HB.out | apply below_alloc | apply pw_below_drewN | apply below_drew1) | exact HB.out))) : w.heap.size ≤ gb5101)); have n3_ := Aside0.mk ((by rw [hg]; exact (below_size (by repeat (first | (with_reducible first | exact HB.out | apply below_alloc | apply pw_below_drewN | apply below_drew1) | exact HB.out))) : w.heap.size ≤ gb5101)); clear HB; have HB := n0_; have BK5101 := n1_; have GW5101 := n2_; have GE5101 := n3_; clear n0_ n1_ n2_ n3_; clear hb hbox hg; have hcz7_0 : w6.cell? ⟨gb5101, 0, none⟩ = some (.int .i64 a0_0) := (blk_cell BK5101.out 0).trans rfl; have hcz7_1 : w6.cell? ⟨gb5101, 1, none⟩ = some (.int .i64 a0_1) := (blk_cell BK5101.out 1).trans rfl; have hcz7_2 : w6.cell? ⟨gb5101, 2, none⟩ = some (.slice A0_2 l0_2.length c0_2) := (blk_cell BK5101.out 2).trans rfl; have hfz7_0 := blk_frozen BK5101.out 0; have hfz7_1 := blk_frozen BK5101.out 1; have hfz7_2 := blk_frozen BK5101.out 2) | ((with_reducible refine gate_callee (f := 16) rfl ?_); refine goesL_ (some 11) rfl rfl Try.func16 (by kernel_rfl) rfl #[.agg #[.int .i64 a0_0, .int .i64 a0_1, .slice A0_2 l0_2.length c0_2]] rfl (by (try simp only [List.map_toArray, List.map_cons, List.map_nil]); first | done | rfl | (simp only [List.length_drop, List.length_take]; rfl)) ?_; (with_reducible refine (phasorref19_Depth.calls k a0_0 a0_1 _ _ l0_2 t5102 t5103 _ ?side1 ?side2 A2.out).mono ?_); (case side1 => repeat (first | exact (Kd.C_below HR0_2.out HB.out) | (with_reducible refine Kd.C_alloc ?_ _) | (with_reducible refine Kd.C_drewN ?_ _) | (with_reducible refine Kd.C_drew ?_))); (case side2 => exact HC0_2.out); rintro e w8 ⟨rfl, hb⟩; refine ⟨_, rfl, ?_⟩; have n0_ := Aside0.mk (blk_below (g := gb5101) (o := .cells #[.int .i64 a0_0, .int .i64 a0_1, .slice A0_2 l0_2.length c0_2] 24 (0, 0)) (by (with_reducible repeat (first | refine blk_drewN ?_ _ | refine blk_drew ?_ | refine blk_alloc ?_ _)); exact BK5101.out) hb); have n1_ := Aside0.mk (below_step (by repeat (first | (with_reducible first | exact HB.out | apply below_alloc | apply pw_below_drewN | apply below_drew1 | refine below_set ?_ GE5101.out) | exact HB.out)) hb); clear BK5101; clear HB; have BK5101 := n0_; have HB := n1_; clear n0_ n1_; (try clear hb); (try clear hb2); (try clear hk); (try clear hi); have hcz9_0 : w8.cell? ⟨gb5101, 0, none⟩ = some (.int .i64 a0_0) := (blk_cell BK5101.out 0).trans rfl; have hcz9_1 : w8.cell? ⟨gb5101, 1, none⟩ = some (.int .i64 a0_1) := (blk_cell BK5101.out 1).trans rfl; have hcz9_2 : w8.cell? ⟨gb5101, 2, none⟩ = some (.slice A0_2 l0_2.length c0_2) := (blk_cell BK5101.out 2).trans rfl; have hfz9_0 := blk_frozen BK5101.out 0; have hfz9_1 := blk_frozen BK5101.out 1; have hfz9_2 := blk_frozen BK5101.out 2) | ((with_reducible refine gate_dst (N := 20) rfl ?_); refine Kd.R_make (Kd.int .i64) _ 3 rfl (N := 20) rfl 25 _ _ rfl (l0_2.length : Int) rfl rfl Try.underlying25 (.int .i64 0) 8 info3 rfl (by decide) (by omega) 0 (ok := fun _ => True) (okp := fun _ => True) rfl (fun _ hk => hk) trivial (of_decide_eq_true (by first | (with_reducible assumption) | assumption)) (Nat.le_trans (Nat.mul_le_mul_right _ (of_decide_eq_true (by first | (with_reducible assumption) | assumption) : (l0_2.length : Int).toNat ≤ 35184372088832)) (by omega)) (Below.refl _ _) (Nat.le_refl _) ?_; intro v5105 w10 ho11 hb hg_ hnew_; clear hg_ hnew_; (first | rw [← Ny5104.out] at ho11 | (simp only [Int.reduceToNat] at ho11; rw [← Ny5104.out] at ho11)); have n0_ := Aside0.mk (Kd.R_lower ho11 (below_size (by repeat (first | (with_reducible first | exact HB.out | apply below_alloc | apply pw_below_drewN | apply below_drew1 | refine below_set ?_ GE5101.out) | exact HB.out)))); have n1_ := Aside0.mk (blk_below (g := gb5101) (o := .cells #[.int .i64 a0_0, .int .i64 a0_1, .slice A0_2 l0_2.length c0_2] 24 (0, 0)) (by (with_reducible repeat (first | refine blk_drewN ?_ _ | refine blk_drew ?_ | refine blk_alloc ?_ _)); exact BK5101.out) hb); have n2_ := Aside0.mk (below_step (by repeat (first | (with_reducible first | exact HB.out | apply below_alloc | apply pw_below_drewN | apply below_drew1 | refine below_set ?_ GE5101.out) | exact HB.out)) hb); clear BK5101; clear HB; have HO5106 := n0_; have BK5101 := n1_; have HB := n2_; clear n0_ n1_ n2_; clear hb ho11; obtain ⟨Ao12, co12, eo12⟩ := Kd.R_slice HO5106.out; subst eo12))
    go_loopg [7] k (fun kq v7 w' => ∃ (x6_1 : List Int) (x7_1 : Int), v7 = .int .i64 x7_1 ∧ Aside0 (phasorref19_Late.l0 kq t5102 x6_1 x7_1 a0_0 a0_1 l0_2 = some (r1, r2)) ∧ Aside0 (kq ≤ k) ∧ Aside0 (Kd.R (Kd.int .i64) 3 w' w.heap.size (fun _ => True) (.slice Ao12 y5104.length co12) x6_1) ∧ Aside0 (w'.heap[gb5101]? = some (.cells #[.int .i64 a0_0, .int .i64 a0_1, (.slice A0_2 l0_2.length c0_2)] 24 (0, 0))) ∧ Aside0 (Below w.heap.size w w'))
    case atStart => exact ⟨(y5104), (wrap64 ((y5104.length : Int) - 1)), (by first | rfl | (simp; done) | (simp [*]; done)), H', ⟨Nat.le_refl _⟩, ⟨by (with_reducible repeat (first | apply Kd.R_alloc | apply Kd.R_drewN | apply Kd.R_drew)); exact HO5106.out⟩, ⟨by (with_reducible repeat (first | refine blk_drewN ?_ _ | refine blk_drew ?_ | refine blk_alloc ?_ _)); exact BK5101.out⟩, ⟨by repeat (first | (with_reducible first | exact HB.out | apply below_alloc | apply pw_below_drewN | apply below_drew1 | refine below_set ?_ GE5101.out) | exact HB.out)⟩⟩
    case round =>
     clear H'
     try clear c1
     try clear p2
     try clear c3
     try clear c3b0
     try clear c3b1
     try clear c4
     try clear c4b0
     try clear c4b1
     try clear c5
     try clear c5b0
     try clear c5b1
     try clear p6
     try clear c10
     try clear hcz7_0
     try clear hcz7_1
     try clear hcz7_2
     try clear hcz9_0
     try clear hcz9_1
     try clear hcz9_2
     try clear hfz7_0
     try clear hfz7_1
     try clear hfz7_2
     try clear hfz9_0
     try clear hfz9_1
     try clear hfz9_2
     obtain ⟨x6_1, x7_1, rfl, HA, HK1, HO_6, BK5101, HB⟩ := hrel
     have hl6_1 := (Kd.R_reads' HO_6.out).1
     rw [hl6_1] at HO_6
     (try simp only [hl6_1])
     (try simp only [hl6_1] at BK5101)
     cases gk with
     | zero => exact absurd HA.out (by simp [phasorref19_Late.l0])
     | succ k1 =>
      have H := HA.out
      clear HA
      simp only [phasorref19_Late.l0] at H
      by_cases c13 : x7_1 ≥ 0
      ·rw [if_pos c13] at H
       have c13b0 : decide (0 ≤ x7_1) = true := decide_eq_true c13
       clear c13
       by_cases c14 : 0 ≤ x7_1
       ·rw [if_pos c14] at H
        have c14b0 : decide (0 ≤ x7_1) = true := decide_eq_true c14
        clear c14
        by_cases c15 : x7_1 < (x6_1.length : Int)
        ·rw [if_pos c15] at H
         have c15b0 : decide (x7_1 < (x6_1.length : Int)) = true := decide_eq_true c15
         clear c15
         obtain ⟨y5107, hy5107⟩ : ∃ y_ : List Int, y_ = (x6_1.set (x7_1 : Int).toNat t5102) := ⟨_, rfl⟩
         replace H : (phasorref19_Late.l1 k1 t5102 y5107 x7_1 (wrap64 (x7_1 + 1)) a0_0 a0_1 l0_2) = some (r1, r2) := by first | (rw [hy5107]; with_reducible exact H) | (have H2_ := (Option.bind_some _ _).symm.trans H; rw [hy5107]; with_reducible exact H2_) | (have H2_ := (Option.bind_some _ _).symm.trans H; with_reducible exact H2_) | with_reducible exact H | (rw [hy5107]; exact H) | exact H
         have Ny5107 := Aside0.mk hy5107
         clear hy5107
         have H' := Aside0.mk H
         clear H
         have p16 : 0 ≤ (x7_1 : Int) := of_decide_eq_true (by first | (with_reducible assumption) | assumption)
         have q16 : (x7_1 : Int) < ((x6_1.length : Int) : Int) := of_decide_eq_true (by first | (with_reducible assumption) | assumption)
         obtain ⟨go16, co16, eo16, gb16, gl16, cl16, HG16⟩ := Kd.R_form HO_6.out (by omega)
         (first | cases eo16 | (injection eo16 with ea_ en_ ec_; (first | subst ea_ | (injection ea_ with ea_; subst ea_)); subst ec_; clear en_))
         have GB16 := Aside0.mk gb16
         have GG16 := Aside0.mk HG16
         clear gb16 gl16 HG16
         obtain ⟨hx16_0, hf16_0⟩ := Kd.R_celln 0 HO_6.out (x7_1 : Int) p16 q16
         replace p16 := eq_true p16
         replace q16 := eq_true q16
         have HP17 := Kd.R_putg HO_6.out (x7_1 : Int) t5102
         go_wp2_with (first | ((with_reducible refine gate_store (t := 3) (p := 31) rfl ?_); refine store_event (t := 3) (p := 31) (v := ?vo_w18) (w1 := (wr.setCell ⟨go16, (x7_1 : Int).toNat, none⟩ (.int .i64 t5102))) ?hg ?ho ?hn ?hr ?_; (case ho => rfl); (case hg => rfl); (case hn => rfl); (case hr => first | (go_simp; done) | (go_simp; rfl)); intro w18 hw; have hg : wr.grownBy w18 (some go16) := (by rw [hw]; exact HP17.2); have hp_ : Kd.R (Kd.int .i64) 3 w18 w.heap.size (fun _ => True) (.slice (some ⟨go16, 0, none⟩) x6_1.length co12) y5107 := (by rw [hw, Ny5107.out]; exact HP17.1); clear HP17; have n0_ := Aside0.mk (hp_); have n1_ := Aside0.mk (blk_grown (g := gb5101) (o := .cells #[.int .i64 a0_0, .int .i64 a0_1, .slice A0_2 l0_2.length c0_2] 24 (0, 0)) (by (with_reducible repeat (first | refine blk_drewN ?_ _ | refine blk_drew ?_ | refine blk_alloc ?_ _)); exact BK5101.out) hg (Kd.R_ne HO_6.out BK5101.out (by decide))); have n2_ := Aside0.mk ((by rw [hw]; exact below_set (HB.out) GB16.out : Below w.heap.size w w18)); clear HO_6; clear BK5101; clear HB; have HO_6 := n0_; have BK5101 := n1_; have HB := n2_; clear n0_ n1_ n2_; clear hg hw hp_))
         go_loopg [8] k1 (fun kq v8 w' => ∃ (x6_2 : List Int) (x8_2 : Int), v8 = .int .i64 x8_2 ∧ Aside0 (phasorref19_Late.l1 kq t5102 x6_2 x7_1 x8_2 a0_0 a0_1 l0_2 = some (r1, r2)) ∧ Aside0 (kq ≤ k1) ∧ Aside0 (Kd.R (Kd.int .i64) 3 w' w.heap.size (fun _ => True) (.slice (some ⟨go16, 0, none⟩) x6_1.length co12) x6_2) ∧ Aside0 (w'.heap[gb5101]? = some (.cells #[.int .i64 a0_0, .int .i64 a0_1, (.slice A0_2 l0_2.length c0_2)] 24 (0, 0))) ∧ Aside0 (Below w.heap.size w w'))
         case atStart => exact ⟨(y5107), (wrap64 (x7_1 + 1)), (by first | rfl | (simp; done) | (simp [*]; done)), H', ⟨Nat.le_refl _⟩, ⟨by (try simp only [hl6_1]); (with_reducible repeat (first | apply Kd.R_alloc | apply Kd.R_drewN | apply Kd.R_drew)); exact HO_6.out⟩, ⟨by (try simp only [hl6_1]); (with_reducible repeat (first | refine blk_drewN ?_ _ | refine blk_drew ?_ | refine blk_alloc ?_ _)); exact BK5101.out⟩, ⟨by repeat (first | (with_reducible first | exact HB.out | apply below_alloc | apply pw_below_drewN | apply below_drew1 | refine below_set ?_ GE5101.out) | exact HB.out)⟩⟩
         case round =>
          clear H'
          try clear c1
          try clear p1
          try clear q1
          try clear hx1
          try clear hf1
          try clear p2
          try clear c3
          try clear c3b0
          try clear c3b1
          try clear c4
          try clear c4b0
          try clear c4b1
          try clear c5
          try clear c5b0
          try clear c5b1
          try clear p6
          try clear c10
          try clear c13
          try clear c13b0
          try clear c14
          try clear c14b0
          try clear c15
          try clear c15b0
          try clear c16
          try clear p16
          try clear q16
          try clear hx16
          try clear hf16
          try clear hcz7_0
          try clear hcz7_1
          try clear hcz7_2
          try clear hcz9_0
          try clear hcz9_1
          try clear hcz9_2
          try clear hfz7_0
          try clear hfz7_1
          try clear hfz7_2
          try clear hfz9_0
          try clear hfz9_1
          try clear hfz9_2
          try clear hx16_0
          try clear p16
          try clear p2
          try clear p6
          try clear q16
          obtain ⟨x6_2, x8_2, rfl, HA, HK2, HO_6, BK5101, HB⟩ := hrel
          have hl6_2 := (Kd.R_reads' HO_6.out).1
          rw [hl6_2] at HO_6
          (try simp only [hl6_2])
          (try simp only [hl6_2] at BK5101)
          cases gk with
          | zero => exact absurd HA.out (by simp [phasorref19_Late.l1])
          | succ k2 =>
           have H := HA.out
           clear HA
           simp only [phasorref19_Late.l1] at H
           by_cases c19 : x8_2 < (x6_2.length : Int)
           ·rw [if_pos c19] at H
            have c19b0 : decide (x8_2 < (x6_2.length : Int)) = true := decide_eq_true c19
            clear c19
            replace H := Option.bind_eq_some_iff.mp H
            obtain ⟨t5108, A200, H⟩ := H
            replace H : (if t5108 = true then ((phasorref19_bar.f a0_0 a0_1 l0_2 x8_2).bind fun t5109 => (if t5109 = true then (if 0 ≤ x7_1 then (if x7_1 < (x6_2.length : Int) then (if 0 ≤ x8_2 then (phasorref19_Late.l1 k2 t5102 (x6_2.set (x7_1 : Int).toNat (mn (rd x6_2 x7_1) (rd x6_2 x8_2))) x7_1 (wrap64 (x8_2 + 1)) a0_0 a0_1 l0_2) else (none)) else (none)) else (none)) else (if 0 ≤ x7_1 then (if x7_1 < (x6_2.length : Int) then (if 0 ≤ x8_2 then (phasorref19_Late.l1 k2 t5102 (x6_2.set (x7_1 : Int).toNat (mn (rd x6_2 x7_1) (wrap64 ((rd x6_2 x8_2) - 1)))) x7_1 (wrap64 (x8_2 + 1)) a0_0 a0_1 l0_2) else (none)) else (none)) else (none)))) else (phasorref19_Late.l1 k2 t5102 x6_2 x7_1 (wrap64 (x8_2 + 1)) a0_0 a0_1 l0_2)) = some (r1, r2) := H
            have A20 := Aside0.mk A200
            clear A200
            by_cases c21 : t5108 = true
            ·subst c21
             have H1 : ((phasorref19_bar.f a0_0 a0_1 l0_2 x8_2).bind fun t5109 => (if t5109 = true then (if 0 ≤ x7_1 then (if x7_1 < (x6_2.length : Int) then (if 0 ≤ x8_2 then (phasorref19_Late.l1 k2 t5102 (x6_2.set (x7_1 : Int).toNat (mn (rd x6_2 x7_1) (rd x6_2 x8_2))) x7_1 (wrap64 (x8_2 + 1)) a0_0 a0_1 l0_2) else (none)) else (none)) else (none)) else (if 0 ≤ x7_1 then (if x7_1 < (x6_2.length : Int) then (if 0 ≤ x8_2 then (phasorref19_Late.l1 k2 t5102 (x6_2.set (x7_1 : Int).toNat (mn (rd x6_2 x7_1) (wrap64 ((rd x6_2 x8_2) - 1)))) x7_1 (wrap64 (x8_2 + 1)) a0_0 a0_1 l0_2) else (none)) else (none)) else (none)))) = some (r1, r2) := by rw [if_pos rfl] at H; exact H
             clear H
             have H := H1
             clear H1
             replace H := Option.bind_eq_some_iff.mp H
             obtain ⟨t5109, A220, H⟩ := H
             replace H : (if t5109 = true then (if 0 ≤ x7_1 then (if x7_1 < (x6_2.length : Int) then (if 0 ≤ x8_2 then (phasorref19_Late.l1 k2 t5102 (x6_2.set (x7_1 : Int).toNat (mn (rd x6_2 x7_1) (rd x6_2 x8_2))) x7_1 (wrap64 (x8_2 + 1)) a0_0 a0_1 l0_2) else (none)) else (none)) else (none)) else (if 0 ≤ x7_1 then (if x7_1 < (x6_2.length : Int) then (if 0 ≤ x8_2 then (phasorref19_Late.l1 k2 t5102 (x6_2.set (x7_1 : Int).toNat (mn (rd x6_2 x7_1) (wrap64 ((rd x6_2 x8_2) - 1)))) x7_1 (wrap64 (x8_2 + 1)) a0_0 a0_1 l0_2) else (none)) else (none)) else (none))) = some (r1, r2) := H
             have A22 := Aside0.mk A220
             clear A220
             by_cases c23 : t5109 = true
             ·subst c23
              have H1 : (if 0 ≤ x7_1 then (if x7_1 < (x6_2.length : Int) then (if 0 ≤ x8_2 then (phasorref19_Late.l1 k2 t5102 (x6_2.set (x7_1 : Int).toNat (mn (rd x6_2 x7_1) (rd x6_2 x8_2))) x7_1 (wrap64 (x8_2 + 1)) a0_0 a0_1 l0_2) else (none)) else (none)) else (none)) = some (r1, r2) := by rw [if_pos rfl] at H; exact H
              clear H
              have H := H1
              clear H1
              by_cases c24 : 0 ≤ x7_1
              ·rw [if_pos c24] at H
               have c24b0 : decide (0 ≤ x7_1) = true := decide_eq_true c24
               clear c24
               by_cases c25 : x7_1 < (x6_2.length : Int)
               ·rw [if_pos c25] at H
                have c25b0 : decide (x7_1 < (x6_2.length : Int)) = true := decide_eq_true c25
                clear c25
                by_cases c26 : 0 ≤ x8_2
                ·rw [if_pos c26] at H
                 have c26b0 : decide (0 ≤ x8_2) = true := decide_eq_true c26
                 clear c26
                 obtain ⟨ji27, hji27⟩ : ∃ j_ : Int, (mn (rd x6_2 x7_1) (rd x6_2 x8_2)) = j_ := ⟨_, rfl⟩
                 replace H : (phasorref19_Late.l1 k2 t5102 (x6_2.set (x7_1 : Int).toNat (ji27)) x7_1 (wrap64 (x8_2 + 1)) a0_0 a0_1 l0_2) = some (r1, r2) := by first | (rw [hji27] at H; exact H) | (simp only [hji27] at H ⊢; exact H)
                 (try rw [hji27] at A20)
                 (try rw [hji27] at A22)
                 have hji27_ : (if (rd x6_2 x8_2) < (rd x6_2 x7_1) then (rd x6_2 x8_2) else (rd x6_2 x7_1)) = ji27 := hji27
                 obtain ⟨y5112, hy5112⟩ : ∃ y_ : List Int, y_ = (x6_2.set (x7_1 : Int).toNat (ji27)) := ⟨_, rfl⟩
                 replace H : (phasorref19_Late.l1 k2 t5102 y5112 x7_1 (wrap64 (x8_2 + 1)) a0_0 a0_1 l0_2) = some (r1, r2) := by first | (rw [hy5112]; with_reducible exact H) | (have H2_ := (Option.bind_some _ _).symm.trans H; rw [hy5112]; with_reducible exact H2_) | (have H2_ := (Option.bind_some _ _).symm.trans H; with_reducible exact H2_) | with_reducible exact H | (rw [hy5112]; exact H) | exact H
                 have Ny5112 := Aside0.mk hy5112
                 clear hy5112
                 have H' := Aside0.mk H
                 clear H
                 have hcz29_0 : wr.cell? ⟨gb5101, 0, none⟩ = some (.int .i64 a0_0) := (blk_cell BK5101.out 0).trans rfl
                 have hcz29_1 : wr.cell? ⟨gb5101, 1, none⟩ = some (.int .i64 a0_1) := (blk_cell BK5101.out 1).trans rfl
                 have hcz29_2 : wr.cell? ⟨gb5101, 2, none⟩ = some (.slice A0_2 l0_2.length c0_2) := (blk_cell BK5101.out 2).trans rfl
                 have hfz29_0 := blk_frozen BK5101.out 0
                 have hfz29_1 := blk_frozen BK5101.out 1
                 have hfz29_2 := blk_frozen BK5101.out 2
                 try go_wp2_with (first | ((with_reducible refine gate_callee (f := 29) rfl ?_); refine goesL_ (some 43) rfl rfl Try.func29 (by kernel_rfl) rfl #[.agg #[.int .i64 a0_0, .int .i64 a0_1, .slice A0_2 l0_2.length c0_2], .int .i64 x7_1, .int .i64 x8_2] rfl (by (try simp only [List.map_toArray, List.map_cons, List.map_nil]); first | done | rfl | (simp only [List.length_drop, List.length_take]; rfl)) ?_; (with_reducible refine (phasorref19_touch.calls k2 a0_0 a0_1 _ _ l0_2 x7_1 x8_2 true _ ?side1 ?side2 A20.out).mono ?_); (case side1 => repeat (first | exact (Kd.C_below HR0_2.out HB.out) | (with_reducible refine Kd.C_alloc ?_ _) | (with_reducible refine Kd.C_drewN ?_ _) | (with_reducible refine Kd.C_drew ?_))); (case side2 => exact HC0_2.out); rintro e w30 ⟨rfl, hb⟩; refine ⟨_, rfl, ?_⟩; have n0_ := Aside0.mk (Kd.R_below (by (with_reducible repeat (first | apply Kd.R_alloc | apply Kd.R_drewN | apply Kd.R_drew)); exact HO_6.out) hb); have n1_ := Aside0.mk (blk_below (g := gb5101) (o := .cells #[.int .i64 a0_0, .int .i64 a0_1, .slice A0_2 l0_2.length c0_2] 24 (0, 0)) (by (with_reducible repeat (first | refine blk_drewN ?_ _ | refine blk_drew ?_ | refine blk_alloc ?_ _)); exact BK5101.out) hb); have n2_ := Aside0.mk (below_step (by repeat (first | (with_reducible first | exact HB.out | apply below_alloc | apply pw_below_drewN | apply below_drew1 | refine below_set ?_ GE5101.out) | exact HB.out)) hb); clear HO_6; clear BK5101; clear HB; have HO_6 := n0_; have BK5101 := n1_; have HB := n2_; clear n0_ n1_ n2_; (try clear hb); (try clear hb2); (try clear hk); (try clear hi); have hcz31_0 : w30.cell? ⟨gb5101, 0, none⟩ = some (.int .i64 a0_0) := (blk_cell BK5101.out 0).trans rfl; have hcz31_1 : w30.cell? ⟨gb5101, 1, none⟩ = some (.int .i64 a0_1) := (blk_cell BK5101.out 1).trans rfl; have hcz31_2 : w30.cell? ⟨gb5101, 2, none⟩ = some (.slice A0_2 l0_2.length c0_2) := (blk_cell BK5101.out 2).trans rfl; have hfz31_0 := blk_frozen BK5101.out 0; have hfz31_1 := blk_frozen BK5101.out 1; have hfz31_2 := blk_frozen BK5101.out 2) | ((with_reducible refine gate_callee (f := 30) rfl ?_); refine goesL_ (some 47) rfl rfl Try.func30 (by kernel_rfl) rfl #[.agg #[.int .i64 a0_0, .int .i64 a0_1, .slice A0_2 l0_2.length c0_2], .int .i64 x8_2] rfl (by (try simp only [List.map_toArray, List.map_cons, List.map_nil]); first | done | rfl | (simp only [List.length_drop, List.length_take]; rfl)) ?_; (with_reducible refine (phasorref19_bar.calls a0_0 a0_1 _ _ l0_2 x8_2 true _ ?side1 ?side2 A22.out).mono ?_); (case side1 => repeat (first | exact (Kd.C_below HR0_2.out HB.out) | (with_reducible refine Kd.C_alloc ?_ _) | (with_reducible refine Kd.C_drewN ?_ _) | (with_reducible refine Kd.C_drew ?_))); (case side2 => exact HC0_2.out); rintro e w32 ⟨rfl, hb⟩; refine ⟨_, rfl, ?_⟩; have n0_ := Aside0.mk (Kd.R_below (by (with_reducible repeat (first | apply Kd.R_alloc | apply Kd.R_drewN | apply Kd.R_drew)); exact HO_6.out) hb); have n1_ := Aside0.mk (blk_below (g := gb5101) (o := .cells #[.int .i64 a0_0, .int .i64 a0_1, .slice A0_2 l0_2.length c0_2] 24 (0, 0)) (by (with_reducible repeat (first | refine blk_drewN ?_ _ | refine blk_drew ?_ | refine blk_alloc ?_ _)); exact BK5101.out) hb); have n2_ := Aside0.mk (below_step (by repeat (first | (with_reducible first | exact HB.out | apply below_alloc | apply pw_below_drewN | apply below_drew1 | refine below_set ?_ GE5101.out) | exact HB.out)) hb); clear HO_6; clear BK5101; clear HB; have HO_6 := n0_; have BK5101 := n1_; have HB := n2_; clear n0_ n1_ n2_; (try clear hb); (try clear hb2); (try clear hk); (try clear hi)))
                 have n0_ := Aside0.mk (Kd.R_drew HO_6.out)
                 have n1_ := Aside0.mk (blk_drew BK5101.out)
                 have n2_ := Aside0.mk (below_drew1 HB.out)
                 clear HO_6
                 clear BK5101
                 clear HB
                 have HO_6 := n0_
                 have BK5101 := n1_
                 have HB := n2_
                 clear n0_ n1_ n2_
                 have p5110 : 0 ≤ (x7_1 : Int) := of_decide_eq_true (by first | (with_reducible assumption) | assumption)
                 have q5110 : x7_1 < (x6_2.length : Int) := of_decide_eq_true (by first | (with_reducible assumption) | assumption)
                 obtain ⟨ad5110, e5110, hx5110_0⟩ := Kd.at_int (Kd.R_reads' HO_6.out).2.2 x7_1 p5110 q5110
                 obtain rfl : (⟨go16, 0, none⟩ : Addr) = ad5110 := (by injection e5110)
                 (first | simp only [add_plain] at hx5110_0 | simp only [add_at] at hx5110_0 | simp only [Addr.add, Nat.zero_add] at hx5110_0 | skip)
                 replace p5110 := eq_true p5110
                 replace q5110 := eq_true q5110
                 have p5111 : 0 ≤ (x8_2 : Int) := of_decide_eq_true (by first | (with_reducible assumption) | assumption)
                 have q5111 : x8_2 < (x6_2.length : Int) := of_decide_eq_true (by first | (with_reducible assumption) | assumption)
                 obtain ⟨ad5111, e5111, hx5111_0⟩ := Kd.at_int (Kd.R_reads' HO_6.out).2.2 x8_2 p5111 q5111
                 obtain rfl : (⟨go16, 0, none⟩ : Addr) = ad5111 := (by injection e5111)
                 (first | simp only [add_plain] at hx5111_0 | simp only [add_at] at hx5111_0 | simp only [Addr.add, Nat.zero_add] at hx5111_0 | skip)
                 replace p5111 := eq_true p5111
                 replace q5111 := eq_true q5111
                 have p28 : 0 ≤ (x7_1 : Int) := of_decide_eq_true (by first | (with_reducible assumption) | assumption)
                 have q28 : (x7_1 : Int) < ((x6_2.length : Int) : Int) := of_decide_eq_true (by first | (with_reducible assumption) | assumption)
                 obtain ⟨hx28_0, hf28_0⟩ := Kd.R_celln 0 HO_6.out (x7_1 : Int) p28 q28
                 replace p28 := eq_true p28
                 replace q28 := eq_true q28
                 have HP34 := Kd.R_putn HO_6.out (x7_1 : Int) ji27
                 rw [← Ny5112.out] at HP34
                 have HQ34 := Aside0.mk HP34
                 clear HP34
                 refine start_ (n := 13) (S := fun w' => w'.cell? ⟨go16, (x7_1).toNat, none⟩ = some (.int .i64 (rd x6_2 x7_1)) ∧ w'.cell? ⟨go16, (x8_2).toNat, none⟩ = some (.int .i64 (rd x6_2 x8_2))) (ds := [12]) #[false, false, false, false, false, false, false, false, false, false, false, false, false] (by kernel_rfl) rfl rfl ⟨hx5110_0, hx5111_0⟩ (fun hHeld => ?_); refine with_tabW phasorref19_Late.tab14 phasorref19_Late.bits14 (fun HT_ HW_ => ?_)
                 generalize w32.drew = w33 at HO_6 BK5101 HB HQ34 hf28_0 hx28_0 hx5110_0 hx5111_0 hHeld ⊢
                 refine pure_ (i := 0) (N := some 48) (v := ?_) (a' := ?_) #[true, false, false, false, false, false, false, false, false, false, false, false, false] rfl rfl (any_of HT_.out (by kernel_rfl)) (fun _ _ _ h => h) (Or.inl ⟨by rfl, ?_⟩) ?_ ?_
                 rotate_left
                 ·intro w'
                  go_simp
                  with_reducible rfl
                 rotate_left
                 ·simp only [Act.put, List.setIfInBounds_toArray, List.set_cons_zero, List.set_cons_succ, i64_w, i32_w]
                  rfl
                 refine pure_ (i := 1) (N := some 49) (v := ?_) (a' := ?_) #[true, true, false, false, false, false, false, false, false, false, false, false, false] rfl rfl (any_of HT_.out (by kernel_rfl)) (fun _ _ _ h => h) (Or.inl ⟨by rfl, ?_⟩) ?_ ?_
                 rotate_left
                 ·intro w'
                  go_simp
                  with_reducible rfl
                 rotate_left
                 ·simp only [Act.put, List.setIfInBounds_toArray, List.set_cons_zero, List.set_cons_succ, i64_w, i32_w]
                  rfl
                 refine pure_ (i := 2) (N := some 50) (v := ?_) (a' := ?_) #[true, true, true, false, false, false, false, false, false, false, false, false, false] rfl rfl (any_of HT_.out (by kernel_rfl)) (fun _ _ _ h => h) (Or.inl ⟨by rfl, ?_⟩) ?_ ?_
                 rotate_left
                 ·intro w'
                  go_simp
                  with_reducible rfl
                 rotate_left
                 ·simp only [Act.put, List.setIfInBounds_toArray, List.set_cons_zero, List.set_cons_succ, i64_w, i32_w]
                  rfl
                 refine pure_ (i := 3) (N := some 51) (v := ?_) (a' := ?_) #[true, true, true, true, false, false, false, false, false, false, false, false, false] rfl rfl (any_of HT_.out (by kernel_rfl)) (fun _ _ _ h => h) (Or.inl ⟨by rfl, ?_⟩) ?_ ?_
                 rotate_left
                 ·intro w'
                  go_simp
                  with_reducible rfl
                 rotate_left
                 ·simp only [Act.put, List.setIfInBounds_toArray, List.set_cons_zero, List.set_cons_succ, i64_w, i32_w]
                  rfl
                 refine pure_ (i := 4) (N := some 52) (v := ?_) (a' := ?_) #[true, true, true, true, true, false, false, false, false, false, false, false, false] rfl rfl (any_of HT_.out (by kernel_rfl)) (fun _ _ _ h => h) (Or.inl ⟨by rfl, ?_⟩) ?_ ?_
                 rotate_left
                 ·intro w'
                  go_simp
                  with_reducible rfl
                 rotate_left
                 ·simp only [Act.put, List.setIfInBounds_toArray, List.set_cons_zero, List.set_cons_succ, i64_w, i32_w]
                  rfl
                 refine pure_ (i := 6) (N := some 54) (v := ?_) (a' := ?_) #[true, true, true, true, true, false, true, false, false, false, false, false, false] rfl rfl (any_of HT_.out (by kernel_rfl)) (fun _ _ _ h => h) (Or.inl ⟨by rfl, ?_⟩) ?_ ?_
                 rotate_left
                 ·intro w'
                  go_simp
                  with_reducible rfl
                 rotate_left
                 ·simp only [Act.put, List.setIfInBounds_toArray, List.set_cons_zero, List.set_cons_succ, i64_w, i32_w]
                  rfl
                 refine pure_ (i := 7) (N := some 55) (v := ?_) (a' := ?_) #[true, true, true, true, true, false, true, true, false, false, false, false, false] rfl rfl (any_of HT_.out (by kernel_rfl)) (fun _ _ _ h => h) (Or.inl ⟨by rfl, ?_⟩) ?_ ?_
                 rotate_left
                 ·intro w'
                  go_simp
                  with_reducible rfl
                 rotate_left
                 ·simp only [Act.put, List.setIfInBounds_toArray, List.set_cons_zero, List.set_cons_succ, i64_w, i32_w]
                  rfl
                 refine pure_ (i := 8) (N := some 56) (v := ?_) (a' := ?_) #[true, true, true, true, true, false, true, true, true, false, false, false, false] rfl rfl (any_of HT_.out (by kernel_rfl)) (fun _ _ _ h => h) (Or.inl ⟨by rfl, ?_⟩) ?_ ?_
                 rotate_left
                 ·intro w'
                  go_simp
                  with_reducible rfl
                 rotate_left
                 ·simp only [Act.put, List.setIfInBounds_toArray, List.set_cons_zero, List.set_cons_succ, i64_w, i32_w]
                  rfl
                 refine take_ (i := 5) (N := some 53) (v := ?_) (a' := ?_) #[true, true, true, true, true, true, true, true, true, false, false, false, false] rfl rfl (take_ofW HT_.out HW_.out (by kernel_rfl)) (fun _ _ _ h => h) (Or.inl ⟨by rfl, ?_⟩) hHeld ?_ ?_
                 rotate_left
                 ·rintro w' ⟨s0, s1⟩
                  go_simp
                  with_reducible rfl
                 rotate_left
                 ·simp only [Act.put, List.setIfInBounds_toArray, List.set_cons_zero, List.set_cons_succ, i64_w, i32_w]
                  rfl
                 refine take_ (i := 9) (N := some 57) (v := ?_) (a' := ?_) #[true, true, true, true, true, true, true, true, true, true, false, false, false] rfl rfl (take_ofW HT_.out HW_.out (by kernel_rfl)) (fun _ _ _ h => h) (Or.inl ⟨by rfl, ?_⟩) hHeld ?_ ?_
                 rotate_left
                 ·rintro w' ⟨s0, s1⟩
                  go_simp
                  with_reducible rfl
                 rotate_left
                 ·simp only [Act.put, List.setIfInBounds_toArray, List.set_cons_zero, List.set_cons_succ, i64_w, i32_w]
                  rfl
                 refine pure_ (i := 10) (N := some 58) (v := ?_) (a' := ?_) #[true, true, true, true, true, true, true, true, true, true, true, false, false] rfl rfl (any_of HT_.out (by kernel_rfl)) (fun _ _ _ h => h) (Or.inl ⟨by rfl, ?_⟩) ?_ ?_
                 rotate_left
                 ·intro w'
                  go_simp
                  with_reducible rfl
                 rotate_left
                 ·simp only [Act.put, List.setIfInBounds_toArray, List.set_cons_zero, List.set_cons_succ, i64_w, i32_w]
                  rfl
                 refine pure_ (i := 11) (N := some 59) (v := ?_) (a' := ?_) #[true, true, true, true, true, true, true, true, true, true, true, true, false] rfl rfl (any_of HT_.out (by kernel_rfl)) (fun _ _ _ h => h) (Or.inl ⟨by rfl, ?_⟩) ?_ ?_
                 rotate_left
                 ·intro w'
                  go_simp
                  with_reducible rfl
                 rotate_left
                 ·simp only [Act.put, List.setIfInBounds_toArray, List.set_cons_zero, List.set_cons_succ, i64_w, i32_w]
                  rfl
                 refine last_ (i := 12) (N := none) #[true, true, true, true, true, true, true, true, true, true, true, true, true] rfl rfl (one_of HT_.out (by kernel_rfl)) (by decide) (fun K hK => ?_)
                 refine skip_ (w1 := ?_) (by rfl) rfl ?_ ?_
                 rotate_left
                 ·go_simp
                  rfl
                 refine hK.out _ _ ?_
                 clear hK K
                 refine done_ (done_of HT_.out (by kernel_rfl)) ?_
                 try go_wp2
                 (try simp only [← hl6_2])
                 go_roundg k2
                 case measure => have := HK1.out; have := HK2.out; omega
                 case rel => exact ⟨(y5112), (wrap64 (x8_2 + 1)), (by first | rfl | (simp; done) | (simp [*]; done)), H', ⟨by have := HK1.out; have := HK2.out; omega⟩, ⟨by (try simp only [hl6_1]); (try simp only [hl6_2]); (with_reducible repeat (first | apply Kd.R_alloc | apply Kd.R_drewN | apply Kd.R_drew)); exact HQ34.out⟩, ⟨by (try simp only [hl6_1]); (try simp only [hl6_2]); (with_reducible repeat (first | refine blk_drewN ?_ _ | refine blk_drew ?_ | refine blk_alloc ?_ _)); refine blk_far ?_ (by have h_ := Kd.R_ne HO_6.out BK5101.out (by decide); intro e_; exact h_ (by rw [e_]; rfl)) _; (with_reducible repeat (first | refine blk_drewN ?_ _ | refine blk_drew ?_ | refine blk_alloc ?_ _)); exact BK5101.out⟩, ⟨by repeat (first | (with_reducible first | exact HB.out | apply below_alloc | apply pw_below_drewN | apply below_drew1 | refine below_set ?_ GB16.out | refine below_set ?_ GE5101.out) | exact HB.out)⟩⟩
                ·rw [if_neg c26] at H
                 exact absurd H (by simp)
               ·rw [if_neg c25] at H
                exact absurd H (by simp)
              ·rw [if_neg c24] at H
               exact absurd H (by simp)
             ·replace c23 := Bool.eq_false_iff.mpr c23
              subst c23
              have H1 : (if 0 ≤ x7_1 then (if x7_1 < (x6_2.length : Int) then (if 0 ≤ x8_2 then (phasorref19_Late.l1 k2 t5102 (x6_2.set (x7_1 : Int).toNat (mn (rd x6_2 x7_1) (wrap64 ((rd x6_2 x8_2) - 1)))) x7_1 (wrap64 (x8_2 + 1)) a0_0 a0_1 l0_2) else (none)) else (none)) else (none)) = some (r1, r2) := by rw [if_neg (show ¬ (false = true) by decide)] at H; exact H
              clear H
              have H := H1
              clear H1
              by_cases c35 : 0 ≤ x7_1
              ·rw [if_pos c35] at H
               have c35b0 : decide (0 ≤ x7_1) = true := decide_eq_true c35
               clear c35
               by_cases c36 : x7_1 < (x6_2.length : Int)
               ·rw [if_pos c36] at H
                have c36b0 : decide (x7_1 < (x6_2.length : Int)) = true := decide_eq_true c36
                clear c36
                by_cases c37 : 0 ≤ x8_2
                ·rw [if_pos c37] at H
                 have c37b0 : decide (0 ≤ x8_2) = true := decide_eq_true c37
                 clear c37
                 obtain ⟨ji38, hji38⟩ : ∃ j_ : Int, (mn (rd x6_2 x7_1) (wrap64 ((rd x6_2 x8_2) - 1))) = j_ := ⟨_, rfl⟩
                 replace H : (phasorref19_Late.l1 k2 t5102 (x6_2.set (x7_1 : Int).toNat (ji38)) x7_1 (wrap64 (x8_2 + 1)) a0_0 a0_1 l0_2) = some (r1, r2) := by first | (rw [hji38] at H; exact H) | (simp only [hji38] at H ⊢; exact H)
                 (try rw [hji38] at A20)
                 (try rw [hji38] at A22)
                 have hji38_ : (if (wrap64 ((rd x6_2 x8_2) - 1)) < (rd x6_2 x7_1) then (wrap64 ((rd x6_2 x8_2) - 1)) else (rd x6_2 x7_1)) = ji38 := hji38
                 obtain ⟨y5115, hy5115⟩ : ∃ y_ : List Int, y_ = (x6_2.set (x7_1 : Int).toNat (ji38)) := ⟨_, rfl⟩
                 replace H : (phasorref19_Late.l1 k2 t5102 y5115 x7_1 (wrap64 (x8_2 + 1)) a0_0 a0_1 l0_2) = some (r1, r2) := by first | (rw [hy5115]; with_reducible exact H) | (have H2_ := (Option.bind_some _ _).symm.trans H; rw [hy5115]; with_reducible exact H2_) | (have H2_ := (Option.bind_some _ _).symm.trans H; with_reducible exact H2_) | with_reducible exact H | (rw [hy5115]; exact H) | exact H
                 have Ny5115 := Aside0.mk hy5115
                 clear hy5115
                 have H' := Aside0.mk H
                 clear H
                 have hcz40_0 : wr.cell? ⟨gb5101, 0, none⟩ = some (.int .i64 a0_0) := (blk_cell BK5101.out 0).trans rfl
                 have hcz40_1 : wr.cell? ⟨gb5101, 1, none⟩ = some (.int .i64 a0_1) := (blk_cell BK5101.out 1).trans rfl
                 have hcz40_2 : wr.cell? ⟨gb5101, 2, none⟩ = some (.slice A0_2 l0_2.length c0_2) := (blk_cell BK5101.out 2).trans rfl
                 have hfz40_0 := blk_frozen BK5101.out 0
                 have hfz40_1 := blk_frozen BK5101.out 1
                 have hfz40_2 := blk_frozen BK5101.out 2
                 try go_wp2_with (first | ((with_reducible refine gate_callee (f := 29) rfl ?_); refine goesL_ (some 43) rfl rfl Try.func29 (by kernel_rfl) rfl #[.agg #[.int .i64 a0_0, .int .i64 a0_1, .slice A0_2 l0_2.length c0_2], .int .i64 x7_1, .int .i64 x8_2] rfl (by (try simp only [List.map_toArray, List.map_cons, List.map_nil]); first | done | rfl | (simp only [List.length_drop, List.length_take]; rfl)) ?_; (with_reducible refine (phasorref19_touch.calls k2 a0_0 a0_1 _ _ l0_2 x7_1 x8_2 true _ ?side1 ?side2 A20.out).mono ?_); (case side1 => repeat (first | exact (Kd.C_below HR0_2.out HB.out) | (with_reducible refine Kd.C_alloc ?_ _) | (with_reducible refine Kd.C_drewN ?_ _) | (with_reducible refine Kd.C_drew ?_))); (case side2 => exact HC0_2.out); rintro e w41 ⟨rfl, hb⟩; refine ⟨_, rfl, ?_⟩; have n0_ := Aside0.mk (Kd.R_below (by (with_reducible repeat (first | apply Kd.R_alloc | apply Kd.R_drewN | apply Kd.R_drew)); exact HO_6.out) hb); have n1_ := Aside0.mk (blk_below (g := gb5101) (o := .cells #[.int .i64 a0_0, .int .i64 a0_1, .slice A0_2 l0_2.length c0_2] 24 (0, 0)) (by (with_reducible repeat (first | refine blk_drewN ?_ _ | refine blk_drew ?_ | refine blk_alloc ?_ _)); exact BK5101.out) hb); have n2_ := Aside0.mk (below_step (by repeat (first | (with_reducible first | exact HB.out | apply below_alloc | apply pw_below_drewN | apply below_drew1 | refine below_set ?_ GE5101.out) | exact HB.out)) hb); clear HO_6; clear BK5101; clear HB; have HO_6 := n0_; have BK5101 := n1_; have HB := n2_; clear n0_ n1_ n2_; (try clear hb); (try clear hb2); (try clear hk); (try clear hi); have hcz42_0 : w41.cell? ⟨gb5101, 0, none⟩ = some (.int .i64 a0_0) := (blk_cell BK5101.out 0).trans rfl; have hcz42_1 : w41.cell? ⟨gb5101, 1, none⟩ = some (.int .i64 a0_1) := (blk_cell BK5101.out 1).trans rfl; have hcz42_2 : w41.cell? ⟨gb5101, 2, none⟩ = some (.slice A0_2 l0_2.length c0_2) := (blk_cell BK5101.out 2).trans rfl; have hfz42_0 := blk_frozen BK5101.out 0; have hfz42_1 := blk_frozen BK5101.out 1; have hfz42_2 := blk_frozen BK5101.out 2) | ((with_reducible refine gate_callee (f := 30) rfl ?_); refine goesL_ (some 47) rfl rfl Try.func30 (by kernel_rfl) rfl #[.agg #[.int .i64 a0_0, .int .i64 a0_1, .slice A0_2 l0_2.length c0_2], .int .i64 x8_2] rfl (by (try simp only [List.map_toArray, List.map_cons, List.map_nil]); first | done | rfl | (simp only [List.length_drop, List.length_take]; rfl)) ?_; (with_reducible refine (phasorref19_bar.calls a0_0 a0_1 _ _ l0_2 x8_2 false _ ?side1 ?side2 A22.out).mono ?_); (case side1 => repeat (first | exact (Kd.C_below HR0_2.out HB.out) | (with_reducible refine Kd.C_alloc ?_ _) | (with_reducible refine Kd.C_drewN ?_ _) | (with_reducible refine Kd.C_drew ?_))); (case side2 => exact HC0_2.out); rintro e w43 ⟨rfl, hb⟩; refine ⟨_, rfl, ?_⟩; have n0_ := Aside0.mk (Kd.R_below (by (with_reducible repeat (first | apply Kd.R_alloc | apply Kd.R_drewN | apply Kd.R_drew)); exact HO_6.out) hb); have n1_ := Aside0.mk (blk_below (g := gb5101) (o := .cells #[.int .i64 a0_0, .int .i64 a0_1, .slice A0_2 l0_2.length c0_2] 24 (0, 0)) (by (with_reducible repeat (first | refine blk_drewN ?_ _ | refine blk_drew ?_ | refine blk_alloc ?_ _)); exact BK5101.out) hb); have n2_ := Aside0.mk (below_step (by repeat (first | (with_reducible first | exact HB.out | apply below_alloc | apply pw_below_drewN | apply below_drew1 | refine below_set ?_ GE5101.out) | exact HB.out)) hb); clear HO_6; clear BK5101; clear HB; have HO_6 := n0_; have BK5101 := n1_; have HB := n2_; clear n0_ n1_ n2_; (try clear hb); (try clear hb2); (try clear hk); (try clear hi)))
                 have n0_ := Aside0.mk (Kd.R_drew HO_6.out)
                 have n1_ := Aside0.mk (blk_drew BK5101.out)
                 have n2_ := Aside0.mk (below_drew1 HB.out)
                 clear HO_6
                 clear BK5101
                 clear HB
                 have HO_6 := n0_
                 have BK5101 := n1_
                 have HB := n2_
                 clear n0_ n1_ n2_
                 have p5113 : 0 ≤ (x7_1 : Int) := of_decide_eq_true (by first | (with_reducible assumption) | assumption)
                 have q5113 : x7_1 < (x6_2.length : Int) := of_decide_eq_true (by first | (with_reducible assumption) | assumption)
                 obtain ⟨ad5113, e5113, hx5113_0⟩ := Kd.at_int (Kd.R_reads' HO_6.out).2.2 x7_1 p5113 q5113
                 obtain rfl : (⟨go16, 0, none⟩ : Addr) = ad5113 := (by injection e5113)
                 (first | simp only [add_plain] at hx5113_0 | simp only [add_at] at hx5113_0 | simp only [Addr.add, Nat.zero_add] at hx5113_0 | skip)
                 replace p5113 := eq_true p5113
                 replace q5113 := eq_true q5113
                 have p5114 : 0 ≤ (x8_2 : Int) := of_decide_eq_true (by first | (with_reducible assumption) | assumption)
                 have q5114 : x8_2 < (x6_2.length : Int) := of_decide_eq_true (by first | (with_reducible assumption) | assumption)
                 obtain ⟨ad5114, e5114, hx5114_0⟩ := Kd.at_int (Kd.R_reads' HO_6.out).2.2 x8_2 p5114 q5114
                 obtain rfl : (⟨go16, 0, none⟩ : Addr) = ad5114 := (by injection e5114)
                 (first | simp only [add_plain] at hx5114_0 | simp only [add_at] at hx5114_0 | simp only [Addr.add, Nat.zero_add] at hx5114_0 | skip)
                 replace p5114 := eq_true p5114
                 replace q5114 := eq_true q5114
                 have p39 : 0 ≤ (x7_1 : Int) := of_decide_eq_true (by first | (with_reducible assumption) | assumption)
                 have q39 : (x7_1 : Int) < ((x6_2.length : Int) : Int) := of_decide_eq_true (by first | (with_reducible assumption) | assumption)
                 obtain ⟨hx39_0, hf39_0⟩ := Kd.R_celln 0 HO_6.out (x7_1 : Int) p39 q39
                 replace p39 := eq_true p39
                 replace q39 := eq_true q39
                 have HP45 := Kd.R_putn HO_6.out (x7_1 : Int) ji38
                 rw [← Ny5115.out] at HP45
                 have HQ45 := Aside0.mk HP45
                 clear HP45
                 refine start_ (n := 14) (S := fun w' => w'.cell? ⟨go16, (x7_1).toNat, none⟩ = some (.int .i64 (rd x6_2 x7_1)) ∧ w'.cell? ⟨go16, (x8_2).toNat, none⟩ = some (.int .i64 (rd x6_2 x8_2))) (ds := [13]) #[false, false, false, false, false, false, false, false, false, false, false, false, false, false] (by kernel_rfl) rfl rfl ⟨hx5113_0, hx5114_0⟩ (fun hHeld => ?_); refine with_tabW phasorref19_Late.tab15 phasorref19_Late.bits15 (fun HT_ HW_ => ?_)
                 generalize w43.drew = w44 at HO_6 BK5101 HB HQ45 hf39_0 hx39_0 hx5113_0 hx5114_0 hHeld ⊢
                 refine pure_ (i := 0) (N := some 60) (v := ?_) (a' := ?_) #[true, false, false, false, false, false, false, false, false, false, false, false, false, false] rfl rfl (any_of HT_.out (by kernel_rfl)) (fun _ _ _ h => h) (Or.inl ⟨by rfl, ?_⟩) ?_ ?_
                 rotate_left
                 ·intro w'
                  go_simp
                  with_reducible rfl
                 rotate_left
                 ·simp only [Act.put, List.setIfInBounds_toArray, List.set_cons_zero, List.set_cons_succ, i64_w, i32_w]
                  rfl
                 refine pure_ (i := 1) (N := some 61) (v := ?_) (a' := ?_) #[true, true, false, false, false, false, false, false, false, false, false, false, false, false] rfl rfl (any_of HT_.out (by kernel_rfl)) (fun _ _ _ h => h) (Or.inl ⟨by rfl, ?_⟩) ?_ ?_
                 rotate_left
                 ·intro w'
                  go_simp
                  with_reducible rfl
                 rotate_left
                 ·simp only [Act.put, List.setIfInBounds_toArray, List.set_cons_zero, List.set_cons_succ, i64_w, i32_w]
                  rfl
                 refine pure_ (i := 2) (N := some 62) (v := ?_) (a' := ?_) #[true, true, true, false, false, false, false, false, false, false, false, false, false, false] rfl rfl (any_of HT_.out (by kernel_rfl)) (fun _ _ _ h => h) (Or.inl ⟨by rfl, ?_⟩) ?_ ?_
                 rotate_left
                 ·intro w'
                  go_simp
                  with_reducible rfl
                 rotate_left
                 ·simp only [Act.put, List.setIfInBounds_toArray, List.set_cons_zero, List.set_cons_succ, i64_w, i32_w]
                  rfl
                 refine pure_ (i := 3) (N := some 63) (v := ?_) (a' := ?_) #[true, true, true, true, false, false, false, false, false, false, false, false, false, false] rfl rfl (any_of HT_.out (by kernel_rfl)) (fun _ _ _ h => h) (Or.inl ⟨by rfl, ?_⟩) ?_ ?_
                 rotate_left
                 ·intro w'
                  go_simp
                  with_reducible rfl
                 rotate_left
                 ·simp only [Act.put, List.setIfInBounds_toArray, List.set_cons_zero, List.set_cons_succ, i64_w, i32_w]
                  rfl
                 refine pure_ (i := 4) (N := some 64) (v := ?_) (a' := ?_) #[true, true, true, true, true, false, false, false, false, false, false, false, false, false] rfl rfl (any_of HT_.out (by kernel_rfl)) (fun _ _ _ h => h) (Or.inl ⟨by rfl, ?_⟩) ?_ ?_
                 rotate_left
                 ·intro w'
                  go_simp
                  with_reducible rfl
                 rotate_left
                 ·simp only [Act.put, List.setIfInBounds_toArray, List.set_cons_zero, List.set_cons_succ, i64_w, i32_w]
                  rfl
                 refine pure_ (i := 6) (N := some 66) (v := ?_) (a' := ?_) #[true, true, true, true, true, false, true, false, false, false, false, false, false, false] rfl rfl (any_of HT_.out (by kernel_rfl)) (fun _ _ _ h => h) (Or.inl ⟨by rfl, ?_⟩) ?_ ?_
                 rotate_left
                 ·intro w'
                  go_simp
                  with_reducible rfl
                 rotate_left
                 ·simp only [Act.put, List.setIfInBounds_toArray, List.set_cons_zero, List.set_cons_succ, i64_w, i32_w]
                  rfl
                 refine pure_ (i := 7) (N := some 67) (v := ?_) (a' := ?_) #[true, true, true, true, true, false, true, true, false, false, false, false, false, false] rfl rfl (any_of HT_.out (by kernel_rfl)) (fun _ _ _ h => h) (Or.inl ⟨by rfl, ?_⟩) ?_ ?_
                 rotate_left
                 ·intro w'
                  go_simp
                  with_reducible rfl
                 rotate_left
                 ·simp only [Act.put, List.setIfInBounds_toArray, List.set_cons_zero, List.set_cons_succ, i64_w, i32_w]
                  rfl
                 refine pure_ (i := 8) (N := some 68) (v := ?_) (a' := ?_) #[true, true, true, true, true, false, true, true, true, false, false, false, false, false] rfl rfl (any_of HT_.out (by kernel_rfl)) (fun _ _ _ h => h) (Or.inl ⟨by rfl, ?_⟩) ?_ ?_
                 rotate_left
                 ·intro w'
                  go_simp
                  with_reducible rfl
                 rotate_left
                 ·simp only [Act.put, List.setIfInBounds_toArray, List.set_cons_zero, List.set_cons_succ, i64_w, i32_w]
                  rfl
                 refine take_ (i := 5) (N := some 65) (v := ?_) (a' := ?_) #[true, true, true, true, true, true, true, true, true, false, false, false, false, false] rfl rfl (take_ofW HT_.out HW_.out (by kernel_rfl)) (fun _ _ _ h => h) (Or.inl ⟨by rfl, ?_⟩) hHeld ?_ ?_
                 rotate_left
                 ·rintro w' ⟨s0, s1⟩
                  go_simp
                  with_reducible rfl
                 rotate_left
                 ·simp only [Act.put, List.setIfInBounds_toArray, List.set_cons_zero, List.set_cons_succ, i64_w, i32_w]
                  rfl
                 refine take_ (i := 9) (N := some 69) (v := ?_) (a' := ?_) #[true, true, true, true, true, true, true, true, true, true, false, false, false, false] rfl rfl (take_ofW HT_.out HW_.out (by kernel_rfl)) (fun _ _ _ h => h) (Or.inl ⟨by rfl, ?_⟩) hHeld ?_ ?_
                 rotate_left
                 ·rintro w' ⟨s0, s1⟩
                  go_simp
                  with_reducible rfl
                 rotate_left
                 ·simp only [Act.put, List.setIfInBounds_toArray, List.set_cons_zero, List.set_cons_succ, i64_w, i32_w]
                  rfl
                 refine pure_ (i := 10) (N := some 70) (v := ?_) (a' := ?_) #[true, true, true, true, true, true, true, true, true, true, true, false, false, false] rfl rfl (any_of HT_.out (by kernel_rfl)) (fun _ _ _ h => h) (Or.inl ⟨by rfl, ?_⟩) ?_ ?_
                 rotate_left
                 ·intro w'
                  go_simp
                  with_reducible rfl
                 rotate_left
                 ·simp only [Act.put, List.setIfInBounds_toArray, List.set_cons_zero, List.set_cons_succ, i64_w, i32_w]
                  rfl
                 refine pure_ (i := 11) (N := some 71) (v := ?_) (a' := ?_) #[true, true, true, true, true, true, true, true, true, true, true, true, false, false] rfl rfl (any_of HT_.out (by kernel_rfl)) (fun _ _ _ h => h) (Or.inl ⟨by rfl, ?_⟩) ?_ ?_
                 rotate_left
                 ·intro w'
                  go_simp
                  with_reducible rfl
                 rotate_left
                 ·simp only [Act.put, List.setIfInBounds_toArray, List.set_cons_zero, List.set_cons_succ, i64_w, i32_w]
                  rfl
                 refine pure_ (i := 12) (N := some 72) (v := ?_) (a' := ?_) #[true, true, true, true, true, true, true, true, true, true, true, true, true, false] rfl rfl (any_of HT_.out (by kernel_rfl)) (fun _ _ _ h => h) (Or.inl ⟨by rfl, ?_⟩) ?_ ?_
                 rotate_left
                 ·intro w'
                  go_simp
                  with_reducible rfl
                 rotate_left
                 ·simp only [Act.put, List.setIfInBounds_toArray, List.set_cons_zero, List.set_cons_succ, i64_w, i32_w]
                  rfl
                 refine last_ (i := 13) (N := none) #[true, true, true, true, true, true, true, true, true, true, true, true, true, true] rfl rfl (one_of HT_.out (by kernel_rfl)) (by decide) (fun K hK => ?_)
                 refine skip_ (w1 := ?_) (by rfl) rfl ?_ ?_
                 rotate_left
                 ·go_simp
                  rfl
                 refine hK.out _ _ ?_
                 clear hK K
                 refine done_ (done_of HT_.out (by kernel_rfl)) ?_
                 try go_wp2
                 (try simp only [← hl6_2])
                 go_roundg k2
                 case measure => have := HK1.out; have := HK2.out; omega
                 case rel => exact ⟨(y5115), (wrap64 (x8_2 + 1)), (by first | rfl | (simp; done) | (simp [*]; done)), H', ⟨by have := HK1.out; have := HK2.out; omega⟩, ⟨by (try simp only [hl6_1]); (try simp only [hl6_2]); (with_reducible repeat (first | apply Kd.R_alloc | apply Kd.R_drewN | apply Kd.R_drew)); exact HQ45.out⟩, ⟨by (try simp only [hl6_1]); (try simp only [hl6_2]); (with_reducible repeat (first | refine blk_drewN ?_ _ | refine blk_drew ?_ | refine blk_alloc ?_ _)); refine blk_far ?_ (by have h_ := Kd.R_ne HO_6.out BK5101.out (by decide); intro e_; exact h_ (by rw [e_]; rfl)) _; (with_reducible repeat (first | refine blk_drewN ?_ _ | refine blk_drew ?_ | refine blk_alloc ?_ _)); exact BK5101.out⟩, ⟨by repeat (first | (with_reducible first | exact HB.out | apply below_alloc | apply pw_below_drewN | apply below_drew1 | refine below_set ?_ GB16.out | refine below_set ?_ GE5101.out) | exact HB.out)⟩⟩
                ·rw [if_neg c37] at H
                 exact absurd H (by simp)
               ·rw [if_neg c36] at H
                exact absurd H (by simp)
              ·rw [if_neg c35] at H
               exact absurd H (by simp)
            ·replace c21 := Bool.eq_false_iff.mpr c21
             subst c21
             have H1 : (phasorref19_Late.l1 k2 t5102 x6_2 x7_1 (wrap64 (x8_2 + 1)) a0_0 a0_1 l0_2) = some (r1, r2) := by rw [if_neg (show ¬ (false = true) by decide)] at H; exact H
             clear H
             have H := H1
             clear H1
             have H' := Aside0.mk H
             clear H
             have hcz46_0 : wr.cell? ⟨gb5101, 0, none⟩ = some (.int .i64 a0_0) := (blk_cell BK5101.out 0).trans rfl
             have hcz46_1 : wr.cell? ⟨gb5101, 1, none⟩ = some (.int .i64 a0_1) := (blk_cell BK5101.out 1).trans rfl
             have hcz46_2 : wr.cell? ⟨gb5101, 2, none⟩ = some (.slice A0_2 l0_2.length c0_2) := (blk_cell BK5101.out 2).trans rfl
             have hfz46_0 := blk_frozen BK5101.out 0
             have hfz46_1 := blk_frozen BK5101.out 1
             have hfz46_2 := blk_frozen BK5101.out 2
             go_wp2_with (first | ((with_reducible refine gate_callee (f := 29) rfl ?_); refine goesL_ (some 43) rfl rfl Try.func29 (by kernel_rfl) rfl #[.agg #[.int .i64 a0_0, .int .i64 a0_1, .slice A0_2 l0_2.length c0_2], .int .i64 x7_1, .int .i64 x8_2] rfl (by (try simp only [List.map_toArray, List.map_cons, List.map_nil]); first | done | rfl | (simp only [List.length_drop, List.length_take]; rfl)) ?_; (with_reducible refine (phasorref19_touch.calls k2 a0_0 a0_1 _ _ l0_2 x7_1 x8_2 false _ ?side1 ?side2 A20.out).mono ?_); (case side1 => repeat (first | exact (Kd.C_below HR0_2.out HB.out) | (with_reducible refine Kd.C_alloc ?_ _) | (with_reducible refine Kd.C_drewN ?_ _) | (with_reducible refine Kd.C_drew ?_))); (case side2 => exact HC0_2.out); rintro e w47 ⟨rfl, hb⟩; refine ⟨_, rfl, ?_⟩; have n0_ := Aside0.mk (Kd.R_below (by (with_reducible repeat (first | apply Kd.R_alloc | apply Kd.R_drewN | apply Kd.R_drew)); exact HO_6.out) hb); have n1_ := Aside0.mk (blk_below (g := gb5101) (o := .cells #[.int .i64 a0_0, .int .i64 a0_1, .slice A0_2 l0_2.length c0_2] 24 (0, 0)) (by (with_reducible repeat (first | refine blk_drewN ?_ _ | refine blk_drew ?_ | refine blk_alloc ?_ _)); exact BK5101.out) hb); have n2_ := Aside0.mk (below_step (by repeat (first | (with_reducible first | exact HB.out | apply below_alloc | apply pw_below_drewN | apply below_drew1 | refine below_set ?_ GE5101.out) | exact HB.out)) hb); clear HO_6; clear BK5101; clear HB; have HO_6 := n0_; have BK5101 := n1_; have HB := n2_; clear n0_ n1_ n2_; (try clear hb); (try clear hb2); (try clear hk); (try clear hi)))
             (try simp only [← hl6_2])
             go_roundg k2
             case measure => have := HK1.out; have := HK2.out; omega
             case rel => exact ⟨(x6_2), (wrap64 (x8_2 + 1)), (by first | rfl | (simp; done) | (simp [*]; done)), H', ⟨by have := HK1.out; have := HK2.out; omega⟩, ⟨by (try simp only [hl6_1]); (try simp only [hl6_2]); (with_reducible repeat (first | apply Kd.R_alloc | apply Kd.R_drewN | apply Kd.R_drew)); exact HO_6.out⟩, ⟨by (try simp only [hl6_1]); (try simp only [hl6_2]); (with_reducible repeat (first | refine blk_drewN ?_ _ | refine blk_drew ?_ | refine blk_alloc ?_ _)); exact BK5101.out⟩, ⟨by repeat (first | (with_reducible first | exact HB.out | apply below_alloc | apply pw_below_drewN | apply below_drew1 | refine below_set ?_ GE5101.out) | exact HB.out)⟩⟩
           ·rw [if_neg c19] at H
            have c19b0 : decide (x8_2 < (x6_2.length : Int)) = false := decide_eq_false c19
            clear c19
            have H' := Aside0.mk H
            clear H
            go_wp2
            (try simp only [← hl6_1, ← hl6_2])
            go_roundg k2
            case measure => have := HK1.out; have := HK2.out; omega
            case rel => exact ⟨(x6_2), (wrap64 (x7_1 - 1)), (by first | rfl | (simp; done) | (simp [*]; done)), H', ⟨by have := HK1.out; have := HK2.out; omega⟩, ⟨by (try simp only [hl6_1]); (try simp only [hl6_2]); (with_reducible repeat (first | apply Kd.R_alloc | apply Kd.R_drewN | apply Kd.R_drew)); exact HO_6.out⟩, ⟨by (try simp only [hl6_1]); (try simp only [hl6_2]); (with_reducible repeat (first | refine blk_drewN ?_ _ | refine blk_drew ?_ | refine blk_alloc ?_ _)); exact BK5101.out⟩, ⟨by repeat (first | (with_reducible first | exact HB.out | apply below_alloc | apply pw_below_drewN | apply below_drew1 | refine below_set ?_ GE5101.out) | exact HB.out)⟩⟩
        ·rw [if_neg c15] at H
         exact absurd H (by simp)
       ·rw [if_neg c14] at H
        exact absurd H (by simp)
      ·rw [if_neg c13] at H
       have c13b0 : decide (0 ≤ x7_1) = false := decide_eq_false c13
       clear c13
       simp only [Option.some.injEq, Prod.mk.injEq] at H
       obtain ⟨rfl, rfl⟩ := H
       go_wp2
       go_ret2
       exact ⟨_, by first | rfl | (simp [errW_none, errW_some] <;> rfl) | (simp [*, errW_none, errW_some] <;> rfl), by (with_reducible repeat (first | apply Kd.R_alloc | apply Kd.R_drewN | apply Kd.R_drew)); exact HO_6.out, by repeat (first | (with_reducible first | exact HB.out | apply below_alloc | apply pw_below_drewN | apply below_drew1 | refine below_set ?_ GE5101.out) | exact HB.out)⟩
   ·rw [if_neg c5] at H
    exact absurd H (by simp)
  ·rw [if_neg c4] at H
   exact absurd H (by simp)
 ·rw [if_neg c3] at H
  have c3b0 : (t5103 == 0) = false := beq_eq_false_iff_ne.mpr c3
  have c3b1 : (t5103 != 0) = true := bne_iff_ne.mpr c3
  simp only [Option.some.injEq, Prod.mk.injEq] at H
  obtain ⟨rfl, rfl⟩ := H
  go_enter Try.func10, Try.ntmps10
  go_wp2_with (first | ((with_reducible refine gate_dst (N := 1) rfl ?_); refine box_event ?hg (N := 1) ?hd (cs := #[.int .i64 a0_0, .int .i64 a0_1, .slice A0_2 l0_2.length c0_2]) (t := 24) ?hr ?_; (case hd => rfl); (case hg => rfl); (case hr => first | (go_simp; done) | (go_simp; rfl)); intro gb5101 hg w48 hbox hb; have n0_ := Aside0.mk (below_step (by repeat (first | (with_reducible first | exact HB.out | apply below_alloc | apply pw_below_drewN | apply below_drew1) | exact HB.out)) hb); have n1_ := Aside0.mk (hbox); have n2_ := Aside0.mk ((by rw [hg]; exact (below_size (by repeat (first | (with_reducible first | exact HB.out | apply below_alloc | apply pw_below_drewN | apply below_drew1) | exact HB.out))) : w.heap.size ≤ gb5101)); have n3_ := Aside0.mk ((by rw [hg]; exact (below_size (by repeat (first | (with_reducible first | exact HB.out | apply below_alloc | apply pw_below_drewN | apply below_drew1) | exact HB.out))) : w.heap.size ≤ gb5101)); clear HB; have HB := n0_; have BK5101 := n1_; have GW5101 := n2_; have GE5101 := n3_; clear n0_ n1_ n2_ n3_; clear hb hbox hg; have hcz49_0 : w48.cell? ⟨gb5101, 0, none⟩ = some (.int .i64 a0_0) := (blk_cell BK5101.out 0).trans rfl; have hcz49_1 : w48.cell? ⟨gb5101, 1, none⟩ = some (.int .i64 a0_1) := (blk_cell BK5101.out 1).trans rfl; have hcz49_2 : w48.cell? ⟨gb5101, 2, none⟩ = some (.slice A0_2 l0_2.length c0_2) := (blk_cell BK5101.out 2).trans rfl; have hfz49_0 := blk_frozen BK5101.out 0; have hfz49_1 := blk_frozen BK5101.out 1; have hfz49_2 := blk_frozen BK5101.out 2) | ((with_reducible refine gate_callee (f := 16) rfl ?_); refine goesL_ (some 11) rfl rfl Try.func16 (by kernel_rfl) rfl #[.agg #[.int .i64 a0_0, .int .i64 a0_1, .slice A0_2 l0_2.length c0_2]] rfl (by (try simp only [List.map_toArray, List.map_cons, List.map_nil]); first | done | rfl | (simp only [List.length_drop, List.length_take]; rfl)) ?_; (with_reducible refine (phasorref19_Depth.calls k a0_0 a0_1 _ _ l0_2 t5102 t5103 _ ?side1 ?side2 A2.out).mono ?_); (case side1 => repeat (first | exact (Kd.C_below HR0_2.out HB.out) | (with_reducible refine Kd.C_alloc ?_ _) | (with_reducible refine Kd.C_drewN ?_ _) | (with_reducible refine Kd.C_drew ?_))); (case side2 => exact HC0_2.out); rintro e w50 ⟨rfl, hb⟩; refine ⟨_, rfl, ?_⟩; have n0_ := Aside0.mk (blk_below (g := gb5101) (o := .cells #[.int .i64 a0_0, .int .i64 a0_1, .slice A0_2 l0_2.length c0_2] 24 (0, 0)) (by (with_reducible repeat (first | refine blk_drewN ?_ _ | refine blk_drew ?_ | refine blk_alloc ?_ _)); exact BK5101.out) hb); have n1_ := Aside0.mk (below_step (by repeat (first | (with_reducible first | exact HB.out | apply below_alloc | apply pw_below_drewN | apply below_drew1 | refine below_set ?_ GE5101.out) | exact HB.out)) hb); clear BK5101; clear HB; have BK5101 := n0_; have HB := n1_; clear n0_ n1_; (try clear hb); (try clear hb2); (try clear hk); (try clear hi)))
  go_ret2
  exact ⟨_, by first | rfl | (simp [errW_none, errW_some] <;> rfl) | (simp [*, errW_none, errW_some] <;> rfl), by first | exact Kd.R_nil _ _ _ _ _ | exact Kd.N_nil _ _ _ _ _ | exact Kd.V_nil _ _ _ _ _ | exact Kd.Q_nil _ _ _ _ _ | exact Kd.S_nil _ _ _ _ _, by repeat (first | (with_reducible first | exact HB.out | apply below_alloc | apply pw_below_drewN | apply below_drew1 | refine below_set ?_ GE5101.out) | exact HB.out)⟩
def phasorref08_ints.l0 : Nat → List Int → List Int → Int → Option (Bool)
 | 0, _, _, _ => none
 | k + 1, x0, x1, x5 => if x5 < (x0.length : Int) then (if 0 ≤ x5 then (if x5 < (x1.length : Int) then (if (rd x0 x5) = (rd x1 x5) then (phasorref08_ints.l0 k x0 x1 (wrap64 (x5 + 1))) else (some false)) else (none)) else (none)) else (some true)
def phasorref08_ints.f (k : Nat) (l0 : List Int) (l1 : List Int) : Option (Bool) := if (l0.length : Int) = (l1.length : Int) then (phasorref08_ints.l0 k l0 l1 0) else (some false)
set_option maxHeartbeats 8000000 in
set_option maxRecDepth 100000 in
theorem phasorref08_ints.calls (k : Nat) (A0 : Option Addr) (c0 : Nat) (l0 : List Int) (A1 : Option Addr) (c1 : Nat) (l1 : List Int) (r : Bool) (w : World) (hr0 : Kd.C (Kd.int .i64) w A0 l0.length l0) (hc0 : l0.length ≤ c0) (hr1 : Kd.C (Kd.int .i64) w A1 l1.length l1) (hc1 : l1.length ≤ c1) (h : phasorref08_ints.f k l0 l1 = some r) :
  Calls Try.prog 51 #[.slice A0 l0.length c0, .slice A1 l1.length c1] w fun e w' => e = .returned (.bool r) ∧ Drawn0 w w' := by
 have HR0 := Aside0.mk hr0
 have HC0 := Aside0.mk hc0
 clear hr0 hc0
 have HR1 := Aside0.mk hr1
 have HC1 := Aside0.mk hc1
 clear hr1 hc1
 have H : (if (l0.length : Int) = (l1.length : Int) then (phasorref08_ints.l0 k l0 l1 0) else (some false)) = some r := h
 clear h
 by_cases c3 : (l0.length : Int) = (l1.length : Int)
 ·rw [if_pos c3] at H
  have c3b0 : ((l0.length : Int) == (l1.length : Int)) = true := beq_iff_eq.mpr c3
  have c3b1 : ((l0.length : Int) != (l1.length : Int)) = false := bne_eq_false_iff_eq.mpr c3
  have c3b2 : (l0.length == l1.length) = true := by first | simpa using c3 | (simp at c3 ⊢; omega)
  clear c3
  have H' := Aside0.mk H
  clear H
  go_enter Try.func51, Try.ntmps51
  go_wp2
  repeat (go_quiet (fail); try go_wp2)
  go_loopg [5] k (fun kq v5 w' => ∃ (x5_1 : Int), v5 = .int .i64 x5_1 ∧ Aside0 (phasorref08_ints.l0 kq l0 l1 x5_1 = some r) ∧ Aside0 (kq ≤ k) ∧ Drawn0 w w')
  case atStart => exact ⟨(0), (by first | rfl | (simp; done) | (simp [*]; done)), H', ⟨Nat.le_refl _⟩, by repeat (first | exact Drawn0.refl _ | apply Drawn0.step)⟩
  case round =>
   clear H'
   try clear c1
   try clear p2
   try clear c3
   try clear c3b0
   try clear c3b1
   try clear c3b2
   obtain ⟨x5_1, rfl, HA, HK1, ⟨m1, rfl⟩⟩ := hrel
   cases gk with
   | zero => exact absurd HA.out (by simp [phasorref08_ints.l0])
   | succ k1 =>
    have H := HA.out
    clear HA
    simp only [phasorref08_ints.l0] at H
    by_cases c4 : x5_1 < (l0.length : Int)
    ·rw [if_pos c4] at H
     have c4b0 : decide (x5_1 < (l0.length : Int)) = true := decide_eq_true c4
     clear c4
     by_cases c5 : 0 ≤ x5_1
     ·rw [if_pos c5] at H
      have c5b0 : decide (0 ≤ x5_1) = true := decide_eq_true c5
      clear c5
      by_cases c6 : x5_1 < (l1.length : Int)
      ·rw [if_pos c6] at H
       have c6b0 : decide (x5_1 < (l1.length : Int)) = true := decide_eq_true c6
       clear c6
       by_cases c7 : (rd l0 x5_1) = (rd l1 x5_1)
       ·rw [if_pos c7] at H
        have c7b0 : ((rd l0 x5_1) == (rd l1 x5_1)) = true := beq_iff_eq.mpr c7
        have c7b1 : ((rd l0 x5_1) != (rd l1 x5_1)) = false := bne_eq_false_iff_eq.mpr c7
        clear c7
        have H' := Aside0.mk H
        clear H
        have p25601 : 0 ≤ (x5_1 : Int) := of_decide_eq_true (by first | (with_reducible assumption) | assumption)
        have q25601 : x5_1 < (l0.length : Int) := of_decide_eq_true (by first | (with_reducible assumption) | assumption)
        obtain ⟨ad25601, e25601, hx25601_0⟩ := Kd.at_int HR0.out x5_1 p25601 q25601
        cases e25601
        replace p25601 := eq_true p25601
        replace q25601 := eq_true q25601
        have p25602 : 0 ≤ (x5_1 : Int) := of_decide_eq_true (by first | (with_reducible assumption) | assumption)
        have q25602 : x5_1 < (l1.length : Int) := of_decide_eq_true (by first | (with_reducible assumption) | assumption)
        obtain ⟨ad25602, e25602, hx25602_0⟩ := Kd.at_int HR1.out x5_1 p25602 q25602
        cases e25602
        replace p25602 := eq_true p25602
        replace q25602 := eq_true q25602
        go_wp2
        repeat (go_quiet (fail); try go_wp2)
        go_roundg k1
        case measure => have := HK1.out; omega
        case rel => exact ⟨(wrap64 (x5_1 + 1)), (by first | rfl | (simp; done) | (simp [*]; done)), H', ⟨by have := HK1.out; omega⟩, by repeat (first | exact Drawn0.refl _ | apply Drawn0.step)⟩
       ·rw [if_neg c7] at H
        have c7b0 : ((rd l0 x5_1) == (rd l1 x5_1)) = false := beq_eq_false_iff_ne.mpr c7
        have c7b1 : ((rd l0 x5_1) != (rd l1 x5_1)) = true := bne_iff_ne.mpr c7
        obtain rfl := Option.some.inj H
        have p25601 : 0 ≤ (x5_1 : Int) := of_decide_eq_true (by first | (with_reducible assumption) | assumption)
        have q25601 : x5_1 < (l0.length : Int) := of_decide_eq_true (by first | (with_reducible assumption) | assumption)
        obtain ⟨ad25601, e25601, hx25601_0⟩ := Kd.at_int HR0.out x5_1 p25601 q25601
        cases e25601
        replace p25601 := eq_true p25601
        replace q25601 := eq_true q25601
        have p25602 : 0 ≤ (x5_1 : Int) := of_decide_eq_true (by first | (with_reducible assumption) | assumption)
        have q25602 : x5_1 < (l1.length : Int) := of_decide_eq_true (by first | (with_reducible assumption) | assumption)
        obtain ⟨ad25602, e25602, hx25602_0⟩ := Kd.at_int HR1.out x5_1 p25602 q25602
        cases e25602
        replace p25602 := eq_true p25602
        replace q25602 := eq_true q25602
        go_wp2
        repeat (go_quiet (fail); try go_wp2)
        go_ret
        exact ⟨by first | rfl | (simp; done) | (simp [*]; done), by repeat (first | exact Drawn0.refl _ | apply Drawn0.step)⟩
      ·rw [if_neg c6] at H
       exact absurd H (by simp)
     ·rw [if_neg c5] at H
      exact absurd H (by simp)
    ·rw [if_neg c4] at H
     have c4b0 : decide (x5_1 < (l0.length : Int)) = false := decide_eq_false c4
     clear c4
     obtain rfl := Option.some.inj H
     go_wp2
     repeat (go_quiet (fail); try go_wp2)
     go_ret
     exact ⟨by first | rfl | (simp; done) | (simp [*]; done), by repeat (first | exact Drawn0.refl _ | apply Drawn0.step)⟩
 ·rw [if_neg c3] at H
  have c3b0 : ((l0.length : Int) == (l1.length : Int)) = false := beq_eq_false_iff_ne.mpr c3
  have c3b1 : ((l0.length : Int) != (l1.length : Int)) = true := bne_iff_ne.mpr c3
  have c3b2 : (l0.length == l1.length) = false := by first | simpa using c3 | (simp at c3 ⊢; omega)
  obtain rfl := Option.some.inj H
  go_enter Try.func51, Try.ntmps51
  go_wp2
  repeat (go_quiet (fail); try go_wp2)
  go_ret
  exact ⟨by first | rfl | (simp; done) | (simp [*]; done), by repeat (first | exact Drawn0.refl _ | apply Drawn0.step)⟩
end Go.Proofs.Ytpnfhddcnnoclaa.Px
