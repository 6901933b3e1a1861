import Derived.Test.YtpnfhddcnnoclaaTell6
namespace Go.Proofs.Ytpnfhddcnnoclaa.Px
open Go.RowKit Go.Proofs.YtpnfhddcnnoclaaW.PrintWords Go.Proofs.YtpnfhddcnnoclaaW.PrintLast Go.Proofs.YtpnfhddcnnoclaaW.PrintMore
attribute [local go_sem] max2_int min2_int max_two min_two max_three min_three max_four min_four
set_option linter.unusedVariables false
set_option linter.unusedSimpArgs false
def layers_Future.f (k : Nat) (a0_0 : Int) (a0_1 : Int) (l0_2 : List (S57)) (l1 : List Int) : Option (List Int × Int) := (layers_cone.f k a0_0 a0_1 l0_2 l1 false).bind fun bt6602 => (some (bt6602.1, bt6602.2))
set_option maxHeartbeats 8000000 in
set_option maxRecDepth 100000 in
theorem layers_Future.calls (k : Nat) (a0_0 : Int) (a0_1 : Int) (A0_2 : Option Addr) (c0_2 : Nat) (l0_2 : List (S57)) (A1 : Option Addr) (c1 : Nat) (l1 : List Int) (r1 : List Int) (r2 : Int) (w : World) (hr0_2 : Kd.C k57 w A0_2 l0_2.length l0_2) (hc0_2 : l0_2.length ≤ c0_2) (hr1 : Kd.C (Kd.int .i64) w A1 l1.length l1) (hc1 : l1.length ≤ c1) (h : layers_Future.f k a0_0 a0_1 l0_2 l1 = some (r1, r2)) :
  Calls Try.prog 13 #[.agg #[.int .i64 a0_0, .int .i64 a0_1, .slice A0_2 l0_2.length c0_2], .slice A1 l1.length c1] w fun e w' => ∃ v0_ : Value, e = .returned (.tuple #[v0_, .int .i64 r2]) ∧ Kd.R (Kd.int .i64) 3 w' w.heap.size (fun _ => True) v0_ r1 ∧ Below w.heap.size w w' := by
 have hu24 := Try.underlying24
 have HR0_2 := Aside0.mk hr0_2
 have HC0_2 := Aside0.mk hc0_2
 clear hr0_2 hc0_2
 have HR1 := Aside0.mk hr1
 have HC1 := Aside0.mk hc1
 clear hr1 hc1
 have HB := Aside0.mk (Below.refl w.heap.size w)
 have H : ((layers_cone.f k a0_0 a0_1 l0_2 l1 false).bind fun bt6602 => (some (bt6602.1, bt6602.2))) = some (r1, r2) := h
 clear h
 replace H := Option.bind_eq_some_iff.mp H
 obtain ⟨⟨t6602, t6605⟩, A30, H⟩ := H
 replace H : (some (t6602, t6605)) = some (r1, r2) := H
 have A3 := Aside0.mk A30
 clear A30
 simp only [Option.some.injEq, Prod.mk.injEq] at H
 obtain ⟨rfl, rfl⟩ := H
 go_enter Try.func13, Try.ntmps13
 go_wp2_with (first | ((with_reducible refine gate_dst (N := 2) rfl ?_); refine box_event ?hg (N := 2) ?hd (cs := #[.int .i64 a0_0, .int .i64 a0_1, .slice A0_2 l0_2.length c0_2]) (t := 24) ?hr ?_; (case hd => rfl); (case hg => rfl); (case hr => first | (go_simp; done) | (go_simp; rfl)); intro gb6601 hg w4 hbox hb; have n0_ := Aside0.mk (below_step (by repeat (first | (with_reducible first | exact HB.out | apply below_alloc | apply pw_below_drewN | apply below_drew1) | exact HB.out)) hb); have n1_ := Aside0.mk (hbox); have n2_ := Aside0.mk ((by rw [hg]; exact (below_size (by repeat (first | (with_reducible first | exact HB.out | apply below_alloc | apply pw_below_drewN | apply below_drew1) | exact HB.out))) : w.heap.size ≤ gb6601)); have n3_ := Aside0.mk ((by rw [hg]; exact (below_size (by repeat (first | (with_reducible first | exact HB.out | apply below_alloc | apply pw_below_drewN | apply below_drew1) | exact HB.out))) : w.heap.size ≤ gb6601)); clear HB; have HB := n0_; have BK6601 := n1_; have GW6601 := n2_; have GE6601 := n3_; clear n0_ n1_ n2_ n3_; clear hb hbox hg; have hcz5_0 : w4.cell? ⟨gb6601, 0, none⟩ = some (.int .i64 a0_0) := (blk_cell BK6601.out 0).trans rfl; have hcz5_1 : w4.cell? ⟨gb6601, 1, none⟩ = some (.int .i64 a0_1) := (blk_cell BK6601.out 1).trans rfl; have hcz5_2 : w4.cell? ⟨gb6601, 2, none⟩ = some (.slice A0_2 l0_2.length c0_2) := (blk_cell BK6601.out 2).trans rfl; have hfz5_0 := blk_frozen BK6601.out 0; have hfz5_1 := blk_frozen BK6601.out 1; have hfz5_2 := blk_frozen BK6601.out 2) | ((with_reducible refine gate_callee (f := 32) rfl ?_); refine goesL_ (some 8) rfl rfl Try.func32 (by kernel_rfl) rfl #[.agg #[.int .i64 a0_0, .int .i64 a0_1, .slice A0_2 l0_2.length c0_2], .slice A1 l1.length c1, .bool false] rfl (by (try simp only [List.map_toArray, List.map_cons, List.map_nil]); first | done | rfl | (simp only [List.length_drop, List.length_take]; rfl)) ?_; (with_reducible refine (layers_cone.calls k a0_0 a0_1 _ _ l0_2 _ _ l1 false t6602 t6605 _ ?side1 ?side2 ?side3 ?side4 A3.out).mono ?_); (case side1 => repeat (first | exact (Kd.C_below HR0_2.out HB.out) | (with_reducible refine Kd.C_alloc ?_ _) | (with_reducible refine Kd.C_drewN ?_ _) | (with_reducible refine Kd.C_drew ?_))); (case side2 => exact HC0_2.out); (case side3 => repeat (first | exact (Kd.C_below HR1.out HB.out) | (with_reducible refine Kd.C_alloc ?_ _) | (with_reducible refine Kd.C_drewN ?_ _) | (with_reducible refine Kd.C_drew ?_))); (case side4 => exact HC1.out); rintro e w6 ⟨v6603, rfl, ho0, hb⟩; refine ⟨_, rfl, ?_⟩; have n0_ := Aside0.mk (Kd.R_lower ho0 (below_size (by repeat (first | (with_reducible first | exact HB.out | apply below_alloc | apply pw_below_drewN | apply below_drew1 | refine below_set ?_ GE6601.out) | exact HB.out)))); have n1_ := Aside0.mk (blk_below (g := gb6601) (o := .cells #[.int .i64 a0_0, .int .i64 a0_1, .slice A0_2 l0_2.length c0_2] 24 (0, 0)) (by (with_reducible repeat (first | refine blk_drewN ?_ _ | refine blk_drew ?_ | refine blk_alloc ?_ _)); exact BK6601.out) hb); have n2_ := Aside0.mk (below_step (by repeat (first | (with_reducible first | exact HB.out | apply below_alloc | apply pw_below_drewN | apply below_drew1 | refine below_set ?_ GE6601.out) | exact HB.out)) hb); clear BK6601; clear HB; have HO6604 := n0_; have BK6601 := n1_; have HB := n2_; clear n0_ n1_ n2_; (try clear hb); (try clear hb2); (try clear hk); (try clear hi); (try clear ho0)))
 go_ret2
 exact ⟨_, by first | rfl | (simp [errW_none, errW_some] <;> rfl) | (simp [*, errW_none, errW_some] <;> rfl), by (with_reducible repeat (first | apply Kd.R_alloc | apply Kd.R_drewN | apply Kd.R_drew)); exact HO6604.out, by repeat (first | (with_reducible first | exact HB.out | apply below_alloc | apply pw_below_drewN | apply below_drew1 | refine below_set ?_ GE6601.out) | exact HB.out)⟩
theorem told_step {k : Nat} {wE wa wb : World} {va vb : Value} {xs bs zs : List Int} {e f : Int} {r : Bool} (hb1 : Below wE.heap.size wE wa) (ha : Kd.R (Kd.int .i64) 3 wa wE.heap.size (fun _ => True) va xs) (hb2 : Below wa.heap.size wa wb) (hbv : Kd.R (Kd.int .i64) 3 wb wa.heap.size (fun _ => True) vb bs) (h : phasorlaw19_told.f k xs e bs f = some (r, zs)) :
  Calls Try.prog 8 #[va, .int .i64 e, vb, .int .i64 f] wb fun e' w' => e' = .returned (.bool r) ∧ Below wE.heap.size wE w' := by
 obtain ⟨B, c, rfl, hc, hC⟩ := Kd.R_reads hbv
 have hK : ∀ W_, Kept wb W_ (fun k_ => k_ < wa.heap.size) → Kd.C (Kd.int .i64) W_ B bs.length bs := fun W_ hk => by
  have h1 := Kd.R_kept (Kd.R_mono (Kd.R_bound hbv) (ok' := fun k_ => wa.heap.size ≤ k_) (fun k_ hk_ => hk_.2.1)) hk (fun k_ h2 h3 => by omega)
  exact (Kd.R_reads' h1).2.2
 refine (phasorlaw19_told.calls k (fun k_ => k_ < wa.heap.size) va xs e B c bs f r zs wE wb (below_step hb1 hb2) (Kd.R_below (Kd.R_mono (Kd.R_bound ha) (fun k_ hk_ => hk_.2.2.1)) hb2) hK hc h).mono ?_
 rintro e' w' ⟨rfl, _, hb, _⟩
 exact ⟨rfl, hb⟩
set_option maxHeartbeats 8000000 in
set_option maxRecDepth 100000 in
theorem Tell_calls (k : Nat) (a0 a1 : Int) (A : Option Addr) (c : Nat) (l : List S57) (Ar : Option Addr) (cr : Nat) (q : List Int) (w : World) (hC : Kd.C k57 w A l.length l) (hc : l.length ≤ c) (hR : Kd.C (Kd.int .i64) w Ar q.length q) (hr : q.length ≤ cr)
  (es ls ps fs z1 z2 z3 z4 : List Int) (e1 e2 e3 e4 d e5 : Int) (hq : q.length * 8 ≤ 140737488355328)
  (f5 : phasorref08_Copy.f k a0 a1 l = some (a0, a1, l))
  (f6 : layers_Early.f k a0 a1 l = some (es, e1)) (f7 : phasorref19_Early.f k a0 a1 l = some (es, e1)) (t1 : phasorlaw19_told.f k es e1 es e1 = some (true, z1))
  (f9 : layers_Late.f k a0 a1 l = some (ls, e2)) (f10 : phasorref19_Late.f k a0 a1 l = some (ls, e2)) (t2 : phasorlaw19_told.f k ls e2 ls e2 = some (true, z2))
  (f11 : layers_Past.f k a0 a1 l q = some (ps, e3)) (f12 : phasorref19_Past.f k a0 a1 l q = some (ps, e3)) (t3 : phasorlaw19_told.f k ps e3 ps e3 = some (true, z3))
  (f13 : layers_Future.f k a0 a1 l q = some (fs, e4)) (f14 : phasorref19_Future.f k a0 a1 l q = some (fs, e4)) (t4 : phasorlaw19_told.f k fs e4 fs e4 = some (true, z4))
  (f15 : layers_Depth.f k a0 a1 l = some (d, e5)) (f16 : phasorref19_Depth.f k a0 a1 l = some (d, e5)) (f17 : phasorlaw19_ints.f k q q = some true) (f18 : phasorref08_Same.f k a0 a1 l a0 a1 l = some true) :
  Calls Try.prog 3 #[.agg #[.int .i64 a0, .int .i64 a1, .slice A l.length c], .slice Ar q.length cr] w fun e w' => e = .returned (.bool true) ∧ Below w.heap.size w w' := by
 have hu24 := Try.underlying24
 have hu57 := Try.underlying57
 have HB := Aside0.mk (Below.refl w.heap.size w)
 have HC := Aside0.mk hC; have HLc := Aside0.mk hc; have HR := Aside0.mk hR; have HRc := Aside0.mk hr; have HQL := Aside0.mk hq
 have F5 := Aside0.mk f5; have F6 := Aside0.mk f6; have F7 := Aside0.mk f7; have T1 := Aside0.mk t1; have F9 := Aside0.mk f9; have F10 := Aside0.mk f10; have T2 := Aside0.mk t2; have F11 := Aside0.mk f11; have F12 := Aside0.mk f12; have T3 := Aside0.mk t3; have F13 := Aside0.mk f13; have F14 := Aside0.mk f14; have T4 := Aside0.mk t4; have F15 := Aside0.mk f15; have F16 := Aside0.mk f16; have F17 := Aside0.mk f17; have F18 := Aside0.mk f18
 clear hC hc hR hr hq f5 f6 f7 t1 f9 f10 t2 f11 f12 t3 f13 f14 t4 f15 f16 f17 f18
 go_enter Try.func3, Try.ntmps3
 go_wp2_with (first | ((with_reducible refine gate_dst (N := 2) rfl ?_); refine box_event ?hg (N := 2) ?hd (cs := #[.int .i64 a0, .int .i64 a1, .slice A l.length c]) (t := 24) ?hr ?_; (case hd => rfl); (case hg => rfl); (case hr => first | (go_simp; done) | (go_simp; rfl)); intro gc hg w1 hbox hb; (try (have BC_ := Aside0.mk (blk_below BC.out hb); clear BC; have BC := BC_; clear BC_)); (try (have BX_ := Aside0.mk (blk_below BX.out hb); clear BX; have BX := BX_; clear BX_)); (try (have HC_ := Aside0.mk (Kd.C_below HC.out hb); clear HC; have HC := HC_; clear HC_)); (try (have HX_ := Aside0.mk (Kd.C_below HX.out hb); clear HX; have HX := HX_; clear HX_)); (try (have HQ_ := Aside0.mk (Kd.C_below HQ.out hb); clear HQ; have HQ := HQ_; clear HQ_)); (try (have HR_ := Aside0.mk (Kd.C_below HR.out hb); clear HR; have HR := HR_; clear HR_)); have HB_ := Aside0.mk (below_step HB.out hb); clear HB; have HB := HB_; clear HB_; (try clear z0 z1 z2); (try clear x0 x1 x2); (try (have z0 := (blk_cell BC.out 0).trans (rfl : _ = some ((.int .i64 a0) : Value)); have z1 := (blk_cell BC.out 1).trans (rfl : _ = some ((.int .i64 a1) : Value)); have z2 := (blk_cell BC.out 2).trans (rfl : _ = some ((.slice A l.length c) : Value)))); (try (have x0 := (blk_cell BX.out 0).trans (rfl : _ = some ((.int .i64 a0) : Value)); have x1 := (blk_cell BX.out 1).trans (rfl : _ = some ((.int .i64 a1) : Value)); have x2 := (blk_cell BX.out 2).trans (rfl : _ = some ((.slice Ax l.length cx) : Value)))); have BC := Aside0.mk hbox; clear hbox hg hb; have z0 := (blk_cell BC.out 0).trans (rfl : _ = some ((.int .i64 a0) : Value)); have z1 := (blk_cell BC.out 1).trans (rfl : _ = some ((.int .i64 a1) : Value)); have z2 := (blk_cell BC.out 2).trans (rfl : _ = some ((.slice A l.length c) : Value))) | (go_at_call 5; refine (phasorref08_Copy.calls k a0 a1 A c l a0 a1 l _ HC.out HLc.out F5.out).mono ?_; rintro e w2 ⟨v, rfl, ho, hb⟩; obtain ⟨Ax, cx, rfl, hle, hC⟩ := Kd.S_reads ho; (try (have BC_ := Aside0.mk (blk_below BC.out hb); clear BC; have BC := BC_; clear BC_)); (try (have BX_ := Aside0.mk (blk_below BX.out hb); clear BX; have BX := BX_; clear BX_)); (try (have HC_ := Aside0.mk (Kd.C_below HC.out hb); clear HC; have HC := HC_; clear HC_)); (try (have HX_ := Aside0.mk (Kd.C_below HX.out hb); clear HX; have HX := HX_; clear HX_)); (try (have HQ_ := Aside0.mk (Kd.C_below HQ.out hb); clear HQ; have HQ := HQ_; clear HQ_)); (try (have HR_ := Aside0.mk (Kd.C_below HR.out hb); clear HR; have HR := HR_; clear HR_)); have HB_ := Aside0.mk (below_step HB.out hb); clear HB; have HB := HB_; clear HB_; (try clear z0 z1 z2); (try clear x0 x1 x2); (try (have z0 := (blk_cell BC.out 0).trans (rfl : _ = some ((.int .i64 a0) : Value)); have z1 := (blk_cell BC.out 1).trans (rfl : _ = some ((.int .i64 a1) : Value)); have z2 := (blk_cell BC.out 2).trans (rfl : _ = some ((.slice A l.length c) : Value)))); (try (have x0 := (blk_cell BX.out 0).trans (rfl : _ = some ((.int .i64 a0) : Value)); have x1 := (blk_cell BX.out 1).trans (rfl : _ = some ((.int .i64 a1) : Value)); have x2 := (blk_cell BX.out 2).trans (rfl : _ = some ((.slice Ax l.length cx) : Value)))); have HX := Aside0.mk hC; have HXc := Aside0.mk hle; clear hC hle ho hb) | ((with_reducible refine gate_dst (N := 18) rfl ?_); have hbX := below_alloc (Below.refl w2.heap.size w2) (.cells #[.int .i64 a0, .int .i64 a1, .slice Ax l.length cx] 24); (try (have BC_ := Aside0.mk (blk_below BC.out hbX); clear BC; have BC := BC_; clear BC_)); (try (have BX_ := Aside0.mk (blk_below BX.out hbX); clear BX; have BX := BX_; clear BX_)); (try (have HC_ := Aside0.mk (Kd.C_below HC.out hbX); clear HC; have HC := HC_; clear HC_)); (try (have HX_ := Aside0.mk (Kd.C_below HX.out hbX); clear HX; have HX := HX_; clear HX_)); (try (have HQ_ := Aside0.mk (Kd.C_below HQ.out hbX); clear HQ; have HQ := HQ_; clear HQ_)); (try (have HR_ := Aside0.mk (Kd.C_below HR.out hbX); clear HR; have HR := HR_; clear HR_)); have HB_ := Aside0.mk (below_step HB.out hbX); clear HB; have HB := HB_; clear HB_; (try clear z0 z1 z2); (try clear x0 x1 x2); (try (have z0 := (blk_cell BC.out 0).trans (rfl : _ = some ((.int .i64 a0) : Value)); have z1 := (blk_cell BC.out 1).trans (rfl : _ = some ((.int .i64 a1) : Value)); have z2 := (blk_cell BC.out 2).trans (rfl : _ = some ((.slice A l.length c) : Value)))); (try (have x0 := (blk_cell BX.out 0).trans (rfl : _ = some ((.int .i64 a0) : Value)); have x1 := (blk_cell BX.out 1).trans (rfl : _ = some ((.int .i64 a1) : Value)); have x2 := (blk_cell BX.out 2).trans (rfl : _ = some ((.slice Ax l.length cx) : Value)))); have BX := Aside0.mk (blk_new w2 (.cells #[.int .i64 a0, .int .i64 a1, .slice Ax l.length cx] 24)); clear hbX; refine Kd.R_lit (Kd.int .i64) _ 3 ?hg (N := 18) ?hd (xs := ([] : List Int)) (inner := []) (ok := fun _ => True) (okp := fun _ => True) ?hr ?hp (fun _ hk => hk) trivial (Below.refl _ _) (Nat.le_refl _) (by simp) ?_; (case hd => rfl); (case hg => rfl); (case hr => first | (go_simp; done) | (go_simp; rfl)); (case hp => exact (Reps.none _ _)); intro v18 w8 ho hb hg_ hnew_; clear hg_ hnew_; have HO := Aside0.mk ho; have HBO := Aside0.mk hb; clear hb ho) | ((with_reducible refine gate_builtin (b := .append) (xs := #[.tmp 18, .tmp 19]) rfl ?_); at_builtin; refine Kd.R_append_row (Value.int .i64) (0 : Int) (w0 := w2.alloc (.cells #[.int .i64 a0, .int .i64 a1, .slice Ax l.length cx] 24)) (w2.alloc (.cells #[.int .i64 a0, .int .i64 a1, .slice Ax l.length cx] 24)).heap.size rfl (.tmp 18) (.tmp 19) 25 3 (.int .i64 0) 8 rfl Try.underlying25 info3 rfl (by decide) v18 [] q Ar q.length cr (fun _ => True) rfl rfl (fun _ _ => trivial) HO.out (Kd.C_below HR.out HBO.out) HBO.out HBO.out.size (by simpa using HQL.out) ?_; intro v6 w9 ho hb hg_ hnew_; clear hg_ hnew_ HO HBO; rw [List.nil_append] at ho; obtain ⟨Aq, cq, rfl, hle, hC⟩ := Kd.R_reads ho; (try (have BC_ := Aside0.mk (blk_below BC.out hb); clear BC; have BC := BC_; clear BC_)); (try (have BX_ := Aside0.mk (blk_below BX.out hb); clear BX; have BX := BX_; clear BX_)); (try (have HC_ := Aside0.mk (Kd.C_below HC.out hb); clear HC; have HC := HC_; clear HC_)); (try (have HX_ := Aside0.mk (Kd.C_below HX.out hb); clear HX; have HX := HX_; clear HX_)); (try (have HQ_ := Aside0.mk (Kd.C_below HQ.out hb); clear HQ; have HQ := HQ_; clear HQ_)); (try (have HR_ := Aside0.mk (Kd.C_below HR.out hb); clear HR; have HR := HR_; clear HR_)); have HB_ := Aside0.mk (below_step HB.out hb); clear HB; have HB := HB_; clear HB_; (try clear z0 z1 z2); (try clear x0 x1 x2); (try (have z0 := (blk_cell BC.out 0).trans (rfl : _ = some ((.int .i64 a0) : Value)); have z1 := (blk_cell BC.out 1).trans (rfl : _ = some ((.int .i64 a1) : Value)); have z2 := (blk_cell BC.out 2).trans (rfl : _ = some ((.slice A l.length c) : Value)))); (try (have x0 := (blk_cell BX.out 0).trans (rfl : _ = some ((.int .i64 a0) : Value)); have x1 := (blk_cell BX.out 1).trans (rfl : _ = some ((.int .i64 a1) : Value)); have x2 := (blk_cell BX.out 2).trans (rfl : _ = some ((.slice Ax l.length cx) : Value)))); have HQ := Aside0.mk hC; have HQc := Aside0.mk hle; clear hC hle ho hb) | (go_at_call 6; refine (layers_Early.calls k a0 a1 Ax cx l es e1 _ HX.out HXc.out F6.out).mono ?_; rintro e wa ⟨va, rfl, ho, hb⟩; have HA := Aside0.mk ho; have HBA := Aside0.mk hb; (try clear z0 z1 z2); (try clear x0 x1 x2); have z0 := (blk_cell (blk_below BC.out hb) 0).trans (rfl : _ = some ((.int .i64 a0) : Value)); have z1 := (blk_cell (blk_below BC.out hb) 1).trans (rfl : _ = some ((.int .i64 a1) : Value)); have z2 := (blk_cell (blk_below BC.out hb) 2).trans (rfl : _ = some ((.slice A l.length c) : Value)); clear ho hb) | (go_at_call 7; refine (phasorref19_Early.calls k a0 a1 A c l es e1 _ (Kd.C_below HC.out HBA.out) HLc.out F7.out).mono ?_; rintro e wb ⟨vb, rfl, ho, hb⟩; have HV := Aside0.mk ho; have HBV := Aside0.mk hb; clear z0 z1 z2 ho hb) | (go_at_call 9; refine (layers_Late.calls k a0 a1 Ax cx l ls e2 _ HX.out HXc.out F9.out).mono ?_; rintro e wa ⟨va, rfl, ho, hb⟩; have HA := Aside0.mk ho; have HBA := Aside0.mk hb; (try clear z0 z1 z2); (try clear x0 x1 x2); have z0 := (blk_cell (blk_below BC.out hb) 0).trans (rfl : _ = some ((.int .i64 a0) : Value)); have z1 := (blk_cell (blk_below BC.out hb) 1).trans (rfl : _ = some ((.int .i64 a1) : Value)); have z2 := (blk_cell (blk_below BC.out hb) 2).trans (rfl : _ = some ((.slice A l.length c) : Value)); clear ho hb) | (go_at_call 10; refine (phasorref19_Late.calls k a0 a1 A c l ls e2 _ (Kd.C_below HC.out HBA.out) HLc.out F10.out).mono ?_; rintro e wb ⟨vb, rfl, ho, hb⟩; have HV := Aside0.mk ho; have HBV := Aside0.mk hb; clear z0 z1 z2 ho hb) | (go_at_call 11; refine (layers_Past.calls k a0 a1 Ax cx l Aq cq q ps e3 _ HX.out HXc.out HQ.out HQc.out F11.out).mono ?_; rintro e wa ⟨va, rfl, ho, hb⟩; have HA := Aside0.mk ho; have HBA := Aside0.mk hb; (try clear z0 z1 z2); (try clear x0 x1 x2); have z0 := (blk_cell (blk_below BC.out hb) 0).trans (rfl : _ = some ((.int .i64 a0) : Value)); have z1 := (blk_cell (blk_below BC.out hb) 1).trans (rfl : _ = some ((.int .i64 a1) : Value)); have z2 := (blk_cell (blk_below BC.out hb) 2).trans (rfl : _ = some ((.slice A l.length c) : Value)); clear ho hb) | (go_at_call 12; refine (phasorref19_Past.calls k a0 a1 A c l Ar cr q ps e3 _ (Kd.C_below HC.out HBA.out) HLc.out (Kd.C_below HR.out HBA.out) HRc.out F12.out).mono ?_; rintro e wb ⟨vb, rfl, ho, hb⟩; have HV := Aside0.mk ho; have HBV := Aside0.mk hb; clear z0 z1 z2 ho hb) | (go_at_call 13; refine (layers_Future.calls k a0 a1 Ax cx l Aq cq q fs e4 _ HX.out HXc.out HQ.out HQc.out F13.out).mono ?_; rintro e wa ⟨va, rfl, ho, hb⟩; have HA := Aside0.mk ho; have HBA := Aside0.mk hb; (try clear z0 z1 z2); (try clear x0 x1 x2); have z0 := (blk_cell (blk_below BC.out hb) 0).trans (rfl : _ = some ((.int .i64 a0) : Value)); have z1 := (blk_cell (blk_below BC.out hb) 1).trans (rfl : _ = some ((.int .i64 a1) : Value)); have z2 := (blk_cell (blk_below BC.out hb) 2).trans (rfl : _ = some ((.slice A l.length c) : Value)); clear ho hb) | (go_at_call 14; refine (phasorref19_Future.calls k a0 a1 A c l Ar cr q fs e4 _ (Kd.C_below HC.out HBA.out) HLc.out (Kd.C_below HR.out HBA.out) HRc.out F14.out).mono ?_; rintro e wb ⟨vb, rfl, ho, hb⟩; have HV := Aside0.mk ho; have HBV := Aside0.mk hb; clear z0 z1 z2 ho hb) | (go_at_call 8; (first | refine (told_step HBA.out HA.out HBV.out HV.out T1.out).mono ?_ | refine (told_step HBA.out HA.out HBV.out HV.out T2.out).mono ?_ | refine (told_step HBA.out HA.out HBV.out HV.out T3.out).mono ?_ | refine (told_step HBA.out HA.out HBV.out HV.out T4.out).mono ?_); clear HA HV; rintro e w9 ⟨rfl, hb⟩; clear HBA HBV; (try (have BC_ := Aside0.mk (blk_below BC.out hb); clear BC; have BC := BC_; clear BC_)); (try (have BX_ := Aside0.mk (blk_below BX.out hb); clear BX; have BX := BX_; clear BX_)); (try (have HC_ := Aside0.mk (Kd.C_below HC.out hb); clear HC; have HC := HC_; clear HC_)); (try (have HX_ := Aside0.mk (Kd.C_below HX.out hb); clear HX; have HX := HX_; clear HX_)); (try (have HQ_ := Aside0.mk (Kd.C_below HQ.out hb); clear HQ; have HQ := HQ_; clear HQ_)); (try (have HR_ := Aside0.mk (Kd.C_below HR.out hb); clear HR; have HR := HR_; clear HR_)); have HB_ := Aside0.mk (below_step HB.out hb); clear HB; have HB := HB_; clear HB_; (try clear z0 z1 z2); (try clear x0 x1 x2); (try (have z0 := (blk_cell BC.out 0).trans (rfl : _ = some ((.int .i64 a0) : Value)); have z1 := (blk_cell BC.out 1).trans (rfl : _ = some ((.int .i64 a1) : Value)); have z2 := (blk_cell BC.out 2).trans (rfl : _ = some ((.slice A l.length c) : Value)))); (try (have x0 := (blk_cell BX.out 0).trans (rfl : _ = some ((.int .i64 a0) : Value)); have x1 := (blk_cell BX.out 1).trans (rfl : _ = some ((.int .i64 a1) : Value)); have x2 := (blk_cell BX.out 2).trans (rfl : _ = some ((.slice Ax l.length cx) : Value)))); clear hb) | (go_at_call 15; refine (layers_Depth.calls k a0 a1 Ax cx l d e5 _ HX.out HXc.out F15.out).mono ?_; rintro e w9 ⟨rfl, hb⟩; (try (have BC_ := Aside0.mk (blk_below BC.out hb); clear BC; have BC := BC_; clear BC_)); (try (have BX_ := Aside0.mk (blk_below BX.out hb); clear BX; have BX := BX_; clear BX_)); (try (have HC_ := Aside0.mk (Kd.C_below HC.out hb); clear HC; have HC := HC_; clear HC_)); (try (have HX_ := Aside0.mk (Kd.C_below HX.out hb); clear HX; have HX := HX_; clear HX_)); (try (have HQ_ := Aside0.mk (Kd.C_below HQ.out hb); clear HQ; have HQ := HQ_; clear HQ_)); (try (have HR_ := Aside0.mk (Kd.C_below HR.out hb); clear HR; have HR := HR_; clear HR_)); have HB_ := Aside0.mk (below_step HB.out hb); clear HB; have HB := HB_; clear HB_; (try clear z0 z1 z2); (try clear x0 x1 x2); (try (have z0 := (blk_cell BC.out 0).trans (rfl : _ = some ((.int .i64 a0) : Value)); have z1 := (blk_cell BC.out 1).trans (rfl : _ = some ((.int .i64 a1) : Value)); have z2 := (blk_cell BC.out 2).trans (rfl : _ = some ((.slice A l.length c) : Value)))); (try (have x0 := (blk_cell BX.out 0).trans (rfl : _ = some ((.int .i64 a0) : Value)); have x1 := (blk_cell BX.out 1).trans (rfl : _ = some ((.int .i64 a1) : Value)); have x2 := (blk_cell BX.out 2).trans (rfl : _ = some ((.slice Ax l.length cx) : Value)))); clear hb) | (go_at_call 16; refine (phasorref19_Depth.calls k a0 a1 A c l d e5 _ HC.out HLc.out F16.out).mono ?_; rintro e w9 ⟨rfl, hb⟩; (try (have BC_ := Aside0.mk (blk_below BC.out hb); clear BC; have BC := BC_; clear BC_)); (try (have BX_ := Aside0.mk (blk_below BX.out hb); clear BX; have BX := BX_; clear BX_)); (try (have HC_ := Aside0.mk (Kd.C_below HC.out hb); clear HC; have HC := HC_; clear HC_)); (try (have HX_ := Aside0.mk (Kd.C_below HX.out hb); clear HX; have HX := HX_; clear HX_)); (try (have HQ_ := Aside0.mk (Kd.C_below HQ.out hb); clear HQ; have HQ := HQ_; clear HQ_)); (try (have HR_ := Aside0.mk (Kd.C_below HR.out hb); clear HR; have HR := HR_; clear HR_)); have HB_ := Aside0.mk (below_step HB.out hb); clear HB; have HB := HB_; clear HB_; (try clear z0 z1 z2); (try clear x0 x1 x2); (try (have z0 := (blk_cell BC.out 0).trans (rfl : _ = some ((.int .i64 a0) : Value)); have z1 := (blk_cell BC.out 1).trans (rfl : _ = some ((.int .i64 a1) : Value)); have z2 := (blk_cell BC.out 2).trans (rfl : _ = some ((.slice A l.length c) : Value)))); (try (have x0 := (blk_cell BX.out 0).trans (rfl : _ = some ((.int .i64 a0) : Value)); have x1 := (blk_cell BX.out 1).trans (rfl : _ = some ((.int .i64 a1) : Value)); have x2 := (blk_cell BX.out 2).trans (rfl : _ = some ((.slice Ax l.length cx) : Value)))); clear hb) | (go_at_call 17; refine (phasorlaw19_ints.calls k Aq cq q Ar cr q true _ HQ.out HQc.out HR.out HRc.out F17.out).mono ?_; rintro e w9 ⟨rfl, hd⟩; have hb := hd.below; clear hd; (try (have BC_ := Aside0.mk (blk_below BC.out hb); clear BC; have BC := BC_; clear BC_)); (try (have BX_ := Aside0.mk (blk_below BX.out hb); clear BX; have BX := BX_; clear BX_)); (try (have HC_ := Aside0.mk (Kd.C_below HC.out hb); clear HC; have HC := HC_; clear HC_)); (try (have HX_ := Aside0.mk (Kd.C_below HX.out hb); clear HX; have HX := HX_; clear HX_)); (try (have HQ_ := Aside0.mk (Kd.C_below HQ.out hb); clear HQ; have HQ := HQ_; clear HQ_)); (try (have HR_ := Aside0.mk (Kd.C_below HR.out hb); clear HR; have HR := HR_; clear HR_)); have HB_ := Aside0.mk (below_step HB.out hb); clear HB; have HB := HB_; clear HB_; (try clear z0 z1 z2); (try clear x0 x1 x2); (try (have z0 := (blk_cell BC.out 0).trans (rfl : _ = some ((.int .i64 a0) : Value)); have z1 := (blk_cell BC.out 1).trans (rfl : _ = some ((.int .i64 a1) : Value)); have z2 := (blk_cell BC.out 2).trans (rfl : _ = some ((.slice A l.length c) : Value)))); (try (have x0 := (blk_cell BX.out 0).trans (rfl : _ = some ((.int .i64 a0) : Value)); have x1 := (blk_cell BX.out 1).trans (rfl : _ = some ((.int .i64 a1) : Value)); have x2 := (blk_cell BX.out 2).trans (rfl : _ = some ((.slice Ax l.length cx) : Value)))); clear hb) | (go_at_call 18; refine (phasorref08_Same.calls k a0 a1 Ax cx l a0 a1 A c l true _ HX.out HXc.out HC.out HLc.out F18.out).mono ?_; rintro e w9 ⟨rfl, hb⟩; (try (have BC_ := Aside0.mk (blk_below BC.out hb); clear BC; have BC := BC_; clear BC_)); (try (have BX_ := Aside0.mk (blk_below BX.out hb); clear BX; have BX := BX_; clear BX_)); (try (have HC_ := Aside0.mk (Kd.C_below HC.out hb); clear HC; have HC := HC_; clear HC_)); (try (have HX_ := Aside0.mk (Kd.C_below HX.out hb); clear HX; have HX := HX_; clear HX_)); (try (have HQ_ := Aside0.mk (Kd.C_below HQ.out hb); clear HQ; have HQ := HQ_; clear HQ_)); (try (have HR_ := Aside0.mk (Kd.C_below HR.out hb); clear HR; have HR := HR_; clear HR_)); have HB_ := Aside0.mk (below_step HB.out hb); clear HB; have HB := HB_; clear HB_; (try clear z0 z1 z2); (try clear x0 x1 x2); (try (have z0 := (blk_cell BC.out 0).trans (rfl : _ = some ((.int .i64 a0) : Value)); have z1 := (blk_cell BC.out 1).trans (rfl : _ = some ((.int .i64 a1) : Value)); have z2 := (blk_cell BC.out 2).trans (rfl : _ = some ((.slice A l.length c) : Value)))); (try (have x0 := (blk_cell BX.out 0).trans (rfl : _ = some ((.int .i64 a0) : Value)); have x1 := (blk_cell BX.out 1).trans (rfl : _ = some ((.int .i64 a1) : Value)); have x2 := (blk_cell BX.out 2).trans (rfl : _ = some ((.slice Ax l.length cx) : Value)))); clear hb) | (go_at_call 19; refine (heads_calls _).mono ?_; rintro e w9 ⟨rfl, hb⟩; (try (have BC_ := Aside0.mk (blk_below BC.out hb); clear BC; have BC := BC_; clear BC_)); (try (have BX_ := Aside0.mk (blk_below BX.out hb); clear BX; have BX := BX_; clear BX_)); (try (have HC_ := Aside0.mk (Kd.C_below HC.out hb); clear HC; have HC := HC_; clear HC_)); (try (have HX_ := Aside0.mk (Kd.C_below HX.out hb); clear HX; have HX := HX_; clear HX_)); (try (have HQ_ := Aside0.mk (Kd.C_below HQ.out hb); clear HQ; have HQ := HQ_; clear HQ_)); (try (have HR_ := Aside0.mk (Kd.C_below HR.out hb); clear HR; have HR := HR_; clear HR_)); have HB_ := Aside0.mk (below_step HB.out hb); clear HB; have HB := HB_; clear HB_; (try clear z0 z1 z2); (try clear x0 x1 x2); (try (have z0 := (blk_cell BC.out 0).trans (rfl : _ = some ((.int .i64 a0) : Value)); have z1 := (blk_cell BC.out 1).trans (rfl : _ = some ((.int .i64 a1) : Value)); have z2 := (blk_cell BC.out 2).trans (rfl : _ = some ((.slice A l.length c) : Value)))); (try (have x0 := (blk_cell BX.out 0).trans (rfl : _ = some ((.int .i64 a0) : Value)); have x1 := (blk_cell BX.out 1).trans (rfl : _ = some ((.int .i64 a1) : Value)); have x2 := (blk_cell BX.out 2).trans (rfl : _ = some ((.slice Ax l.length cx) : Value)))); clear hb))
 go_ret
 exact ⟨rfl, HB.out⟩
theorem w1n {i n : Nat} (h : i < n) (hn : n ≤ 9223372036854775807) : wrap64 ((i : Int) + 1) = ((i + 1 : Nat) : Int) := by unfold wrap64; omega
theorem law_ints_self (l : List Int) (hl : l.length ≤ 9223372036854775807) : ∀ (k i : Nat), i ≤ l.length → l.length - i < k → phasorlaw19_ints.l0 k l l (i : Int) = some true
  | 0, i, _, h => absurd h (by omega)
  | k + 1, i, hi, h => by
    rw [phasorlaw19_ints.l0]
    by_cases c : i < l.length
    · rw [if_pos (by omega), if_pos (by omega), if_pos (by omega), if_pos rfl, w1n c hl]
      exact law_ints_self l hl k (i + 1) c (by omega)
    · rw [if_neg (by omega)]
theorem ints_self (l : List Int) (hl : l.length ≤ 9223372036854775807) (k : Nat) (hk : l.length < k) : phasorlaw19_ints.f k l l = some true := by
  unfold phasorlaw19_ints.f
  rw [if_pos rfl]
  exact law_ints_self l hl k 0 (by omega) (by omega)
theorem told_go (b : Bool) : ∀ (k i : Nat) (l : List Int), l.length ≤ 9223372036854775807 → i ≤ l.length → l.length - i < k → ∃ z, phasorlaw19_told.l0 k l b (i : Int) = some (b, z)
  | 0, i, l, _, _, h => absurd h (by omega)
  | k + 1, i, l, hl, hi, h => by
    rw [phasorlaw19_told.l0]
    by_cases c : i < l.length
    · rw [if_pos (by omega), if_pos (by omega), w1n c hl]
      exact told_go b k (i + 1) _ (by rw [List.length_set]; exact hl) (by rw [List.length_set]; exact c) (by rw [List.length_set]; omega)
    · rw [if_neg (by omega)]
      exact ⟨_, rfl⟩
theorem told_self (l : List Int) (e : Int) (hl : l.length ≤ 9223372036854775807) (k : Nat) (hk : l.length + 1 < k) : ∃ z, phasorlaw19_told.f k l e l e = some (true, z) := by
  unfold phasorlaw19_told.f
  rw [ints_self l hl k (by omega)]
  obtain ⟨k, rfl⟩ : ∃ m, k = m + 1 := ⟨k - 1, by omega⟩
  simp only [Option.bind_some, if_true, beq_self_eq_true]
  rw [phasorlaw19_told.j0]
  exact told_go true k 0 l hl (by omega) (by omega)
theorem ints8_self (l : List Int) (hl : l.length ≤ 9223372036854775807) : ∀ (k i : Nat), i ≤ l.length → l.length - i < k → phasorref08_ints.l0 k l l (i : Int) = some true
  | 0, i, _, h => absurd h (by omega)
  | k + 1, i, hi, h => by
    rw [phasorref08_ints.l0]
    by_cases c : i < l.length
    · rw [if_pos (by omega), if_pos (by omega), if_pos (by omega), if_pos rfl, w1n c hl]
      exact ints8_self l hl k (i + 1) c (by omega)
    · rw [if_neg (by omega)]
theorem rd_T57_mem {l : List S57} {i : Nat} (h : i < l.length) : rd_T57 l (i : Int) ∈ l := by
  unfold rd_T57
  rw [Int.toNat_natCast, List.getD_eq_getElem?_getD, List.getElem?_eq_getElem h]
  exact List.getElem_mem h
theorem rd_T57_at {l : List S57} {i : Nat} (h : i < l.length) : rd_T57 l (i : Int) = l[i] := by
  unfold rd_T57
  rw [Int.toNat_natCast, List.getD_eq_getElem?_getD, List.getElem?_eq_getElem h]
  rfl
def Lim (N : Nat) (l : List S57) : Prop := l.length < 2199023255552 ∧ ∀ o ∈ l, o.f2.length < 17592186044416 ∧ o.f2.length < N
theorem same_go (a0 a1 b0 b1 : Int) (N : Nat) (l : List S57) (hL : Lim N l) : ∀ (k i : Nat), i ≤ l.length → l.length - i + N < k → phasorref08_Same.l0 k (i : Int) a0 a1 l b0 b1 l = some true
  | 0, i, _, h => absurd h (by omega)
  | k + 1, i, hi, h => by
    rw [phasorref08_Same.l0]
    by_cases c : i < l.length
    · obtain ⟨h1, h2⟩ := hL.2 _ (rd_T57_mem c)
      have h0 := hL.1
      rw [if_pos (by omega), if_pos (by omega), if_pos (by omega)]
      unfold phasorref08_SameOp.f phasorref08_ints.f
      simp only [if_true]
      rw [show (0 : Int) = ((0 : Nat) : Int) from rfl, ints8_self _ (by omega) k 0 (by omega) (by omega)]
      simp only [Option.bind_some, if_true]
      rw [w1n c (by omega)]
      exact same_go a0 a1 b0 b1 N l hL k (i + 1) c (by omega)
    · rw [if_neg (by omega)]
theorem same_self (a0 a1 : Int) (N : Nat) (l : List S57) (hL : Lim N l) (k : Nat) (hk : l.length + N + 1 < k) : phasorref08_Same.f k a0 a1 l a0 a1 l = some true := by
  unfold phasorref08_Same.f
  obtain ⟨k, rfl⟩ : ∃ m, k = m + 1 := ⟨k - 1, by omega⟩
  rw [if_pos rfl, if_pos rfl, phasorref08_Same.j0]
  simp only [bne_self_eq_false, Bool.false_eq_true, if_false]
  exact same_go a0 a1 a0 a1 N l hL k 0 (by omega) (by omega)
theorem copy_go (a0 a1 b0 b1 : Int) (N : Nat) (l : List S57) (hL : Lim N l) : ∀ (k i : Nat), i ≤ l.length → l.length - i < k → phasorref08_Copy.l0 k (i : Int) a0 a1 l b0 b1 (l.take i) = some (b0, b1, l)
  | 0, i, _, h => absurd h (by omega)
  | k + 1, i, hi, h => by
    rw [phasorref08_Copy.l0]
    by_cases c : i < l.length
    · obtain ⟨h1, h2⟩ := hL.2 _ (rd_T57_mem c)
      have h0 := hL.1
      rw [if_pos (by omega), if_pos (by omega), if_pos (by simpa using h1), if_pos (by rw [List.length_take]; omega), w1n c (by omega)]
      rw [rd_T57_at c, List.nil_append]
      rw [show l.take i ++ [(⟨l[i].f0, l[i].f1, l[i].f2, l[i].f3, l[i].f4, l[i].f5⟩ : S57)] = l.take (i + 1) from by rw [List.take_add_one, List.getElem?_eq_getElem c]; rfl]
      exact copy_go a0 a1 b0 b1 N l hL k (i + 1) c (by omega)
    · rw [if_neg (by omega), List.take_of_length_le (by omega)]
theorem copy_self (a0 a1 : Int) (N : Nat) (l : List S57) (hL : Lim N l) (k : Nat) (hk : l.length < k) : phasorref08_Copy.f k a0 a1 l = some (a0, a1, l) := by
  unfold phasorref08_Copy.f
  exact copy_go a0 a1 a0 a1 N l hL k 0 (by omega) (by omega)
def Bad (xs : List Int) (n : Int) (i : Nat) : Prop := rd xs i < 0 ∨ n ≤ rd xs i ∨ ∃ t : Nat, t < i ∧ rd xs t = rd xs i
def Uq (xs : List Int) (n : Int) (i : Nat) : Prop := ∀ j : Nat, i ≤ j → j < xs.length → ¬ Bad xs n j
theorem Uq.step {xs : List Int} {n : Int} {i : Nat} (h : i < xs.length) : Uq xs n i ↔ ¬ Bad xs n i ∧ Uq xs n (i + 1) := by
  constructor
  · intro hu
    exact ⟨hu i (Nat.le_refl _) h, fun j h1 h2 => hu j (by omega) h2⟩
  · rintro ⟨h1, h2⟩ j h3 h4
    by_cases e : j = i
    · subst e; exact h1
    · exact h2 j (by omega) h4
theorem Uq.last {xs : List Int} {n : Int} {i : Nat} (h : ¬ i < xs.length) : Uq xs n i := fun j h1 h2 => absurd h2 (by omega)
theorem rd_take {xs : List Int} {i t : Nat} (h : t < i) : rd (xs.take i) (t : Int) = rd xs t := by
  unfold rd
  simp only [Int.toNat_natCast, List.getD_eq_getElem?_getD, List.getElem?_take, if_pos h]
theorem index_go (xs : List Int) (x : Int) (hl : xs.length ≤ 9223372036854775807) : ∀ (k i : Nat), i ≤ xs.length → xs.length - i < k → ∃ r, slices_Index_int_int.l0 k xs x (xs.length : Int) (i : Int) = some r ∧ (0 ≤ r ↔ ∃ t : Nat, i ≤ t ∧ t < xs.length ∧ rd xs t = x)
  | 0, i, _, h => absurd h (by omega)
  | k + 1, i, hi, h => by
    rw [slices_Index_int_int.l0]
    by_cases c : i < xs.length
    · rw [if_pos (by omega), if_pos (by omega), if_pos (by omega)]
      by_cases e : x = rd xs i
      · rw [if_pos e]
        exact ⟨_, rfl, iff_of_true (by omega) ⟨i, Nat.le_refl _, c, e.symm⟩⟩
      · rw [if_neg e, w1n c hl]
        obtain ⟨r, h1, h2⟩ := index_go xs x hl k (i + 1) c (by omega)
        refine ⟨r, h1, h2.trans ⟨fun ⟨t, h3, h4, h5⟩ => ⟨t, by omega, h4, h5⟩, fun ⟨t, h3, h4, h5⟩ => ⟨t, ?_, h4, h5⟩⟩⟩
        by_cases e2 : t = i
        · subst e2; exact absurd h5.symm e
        · omega
    · rw [if_neg (by omega)]
      exact ⟨_, rfl, iff_of_false (by omega) (fun ⟨t, h1, h2, _⟩ => by omega)⟩
theorem contains_take (xs : List Int) (x : Int) (i : Nat) (hi : i ≤ xs.length) (hl : xs.length ≤ 9223372036854775807) (k : Nat) (hk : xs.length < k) : ∃ b, slices_Contains_int_int.f k (xs.take i) x = some b ∧ (b = true ↔ ∃ t : Nat, t < i ∧ rd xs t = x) := by
  unfold slices_Contains_int_int.f slices_Index_int_int.f
  have hlt : (xs.take i).length = i := by rw [List.length_take]; omega
  obtain ⟨r, h1, h2⟩ := index_go (xs.take i) x (by omega) k 0 (by omega) (by omega)
  rw [show ((0 : Nat) : Int) = 0 from rfl] at h1
  rw [h1]
  refine ⟨_, rfl, ?_⟩
  rw [decide_eq_true_iff]
  refine h2.trans ⟨fun ⟨t, _, h4, h5⟩ => ⟨t, by omega, by rw [← rd_take (i := i) (by omega)]; exact h5⟩, fun ⟨t, h3, h5⟩ => ⟨t, by omega, by omega, by rw [rd_take h3]; exact h5⟩⟩
theorem gcheck_go (xs : List Int) (n : Int) (hl : xs.length ≤ 9223372036854775807) : ∀ (k i : Nat), i ≤ xs.length → (xs.length - i) + xs.length + 1 < k → ∃ r, gate_Check.l0 k xs n xs (xs.length : Int) (i : Int) = some r ∧ (r = 0 ↔ Uq xs n i)
  | 0, i, _, h => absurd h (by omega)
  | k + 1, i, hi, h => by
    rw [gate_Check.l0]
    by_cases c : i < xs.length
    · rw [if_pos (by omega), if_pos (by omega), if_pos (by omega)]
      rw [Uq.step c]
      by_cases c1 : rd xs i < 0
      · rw [if_pos c1]
        exact ⟨_, rfl, iff_of_false (by decide) (fun h => h.1 (.inl c1))⟩
      · rw [if_neg c1]
        by_cases c2 : rd xs i ≥ n
        · rw [if_pos c2]
          exact ⟨_, rfl, iff_of_false (by decide) (fun h => h.1 (.inr (.inl c2)))⟩
        · rw [if_neg c2, if_pos (by omega), Int.toNat_natCast]
          obtain ⟨b, h1, h2⟩ := contains_take xs (rd xs i) i hi hl k (by omega)
          rw [h1, Option.bind_some]
          by_cases cb : b = true
          · rw [if_pos cb]
            exact ⟨_, rfl, iff_of_false (by decide) (fun h => h.1 (.inr (.inr (h2.1 cb))))⟩
          · rw [if_neg cb, w1n c hl]
            obtain ⟨r, h3, h4⟩ := gcheck_go xs n hl k (i + 1) c (by omega)
            refine ⟨r, h3, h4.trans ⟨fun hu => ⟨?_, hu⟩, fun hu => hu.2⟩⟩
            rintro (h5 | h5 | h5)
            · exact c1 h5
            · exact c2 h5
            · exact cb (h2.2 h5)
    · rw [if_neg (by omega)]
      exact ⟨_, rfl, iff_of_true rfl (Uq.last c)⟩
theorem rcheck_go (xs : List Int) (n : Int) (hl : xs.length ≤ 9223372036854775807) : ∀ (d i k : Nat), i + d = xs.length → d * (xs.length + 3) < k → ∃ r, phasorref06_Check.l0 k xs n (i : Int) = some r ∧ (r = 0 ↔ Uq xs n i)
  | 0, i, k, hi, h => by
    obtain ⟨k, rfl⟩ : ∃ m, k = m + 1 := ⟨k - 1, by omega⟩
    rw [phasorref06_Check.l0, if_neg (by omega)]
    exact ⟨_, rfl, iff_of_true rfl (Uq.last (by omega))⟩
  | d + 1, i, k, hi, h => by
    rw [Nat.succ_mul] at h
    obtain ⟨k, rfl⟩ : ∃ m, k = m + 2 := ⟨k - 2, by omega⟩
    have c : i < xs.length := by omega
    have hin : ∀ (e j k : Nat), j + e = i → e + 1 + d * (xs.length + 3) < k → ∃ r, phasorref06_Check.l1 k xs n (i : Int) (j : Int) = some r ∧ (r = 0 ↔ (¬ ∃ t : Nat, j ≤ t ∧ t < i ∧ rd xs t = rd xs i) ∧ Uq xs n (i + 1)) := by
      intro e
      induction e with
      | zero =>
        intro j k hj hk
        obtain ⟨k, rfl⟩ : ∃ m, k = m + 1 := ⟨k - 1, by omega⟩
        rw [phasorref06_Check.l1, if_neg (by omega), w1n c hl]
        obtain ⟨r, h1, h2⟩ := rcheck_go xs n hl d (i + 1) k (by omega) (by omega)
        exact ⟨r, h1, h2.trans ⟨fun hu => ⟨by rintro ⟨t, h3, h4, _⟩; omega, hu⟩, fun hu => hu.2⟩⟩
      | succ e ih =>
        intro j k hj hk
        obtain ⟨k, rfl⟩ : ∃ m, k = m + 1 := ⟨k - 1, by omega⟩
        rw [phasorref06_Check.l1, if_pos (by omega), if_pos (by omega), if_pos (by omega), if_pos (by omega), if_pos (by omega)]
        by_cases c1 : rd xs i = rd xs j
        · rw [if_pos c1]
          exact ⟨_, rfl, iff_of_false (by decide) (fun h => h.1 ⟨j, Nat.le_refl _, by omega, c1.symm⟩)⟩
        · rw [if_neg c1, w1n (by omega : j < xs.length) hl]
          obtain ⟨r, h1, h2⟩ := ih (j + 1) k (by omega) (by omega)
          refine ⟨r, h1, h2.trans ⟨fun hu => ⟨?_, hu.2⟩, fun hu => ⟨?_, hu.2⟩⟩⟩
          · rintro ⟨t, h3, h4, h5⟩
            by_cases e2 : t = j
            · subst e2; exact c1 h5.symm
            · exact hu.1 ⟨t, by omega, h4, h5⟩
          · rintro ⟨t, h3, h4, h5⟩
            exact hu.1 ⟨t, by omega, h4, h5⟩
    rw [phasorref06_Check.l0, if_pos (by omega), if_pos (by omega), Uq.step c]
    by_cases c1 : rd xs i < 0
    · rw [if_pos c1, phasorref06_Check.j1, if_pos rfl]
      exact ⟨_, rfl, iff_of_false (by decide) (fun h => h.1 (.inl c1))⟩
    · rw [if_neg c1, phasorref06_Check.j1]
      by_cases c2 : rd xs i ≥ n
      · rw [if_pos (decide_eq_true c2)]
        exact ⟨_, rfl, iff_of_false (by decide) (fun h => h.1 (.inr (.inl c2)))⟩
      · rw [if_neg (by simpa using c2)]
        obtain ⟨r, h1, h2⟩ := hin i 0 k (by omega) (by omega)
        refine ⟨r, h1, h2.trans ⟨fun hu => ⟨?_, hu.2⟩, fun hu => ⟨?_, hu.2⟩⟩⟩
        · rintro (h5 | h5 | ⟨t, h5, h6⟩)
          · exact c1 h5
          · exact c2 h5
          · exact hu.1 ⟨t, by omega, h5, h6⟩
        · rintro ⟨t, h3, h4, h5⟩
          exact hu.1 (.inr (.inr ⟨t, h4, h5⟩))
theorem unlike_go (xs : List Int) (n : Int) (hl : xs.length ≤ 9223372036854775807) : ∀ (d i k : Nat), i + d = xs.length → d * (xs.length + 3) < k → ∃ r : Bool, phasorref08_unlike.l0 k xs n (i : Int) = some r ∧ (r = true ↔ Uq xs n i)
  | 0, i, k, hi, h => by
    obtain ⟨k, rfl⟩ : ∃ m, k = m + 1 := ⟨k - 1, by omega⟩
    rw [phasorref08_unlike.l0, if_neg (by omega)]
    exact ⟨_, rfl, iff_of_true rfl (Uq.last (by omega))⟩
  | d + 1, i, k, hi, h => by
    rw [Nat.succ_mul] at h
    obtain ⟨k, rfl⟩ : ∃ m, k = m + 2 := ⟨k - 2, by omega⟩
    have c : i < xs.length := by omega
    have hin : ∀ (e j k : Nat), j + e = i → e + 1 + d * (xs.length + 3) < k → ∃ r : Bool, phasorref08_unlike.l1 k xs n (i : Int) (j : Int) = some r ∧ (r = true ↔ (¬ ∃ t : Nat, j ≤ t ∧ t < i ∧ rd xs t = rd xs i) ∧ Uq xs n (i + 1)) := by
      intro e
      induction e with
      | zero =>
        intro j k hj hk
        obtain ⟨k, rfl⟩ : ∃ m, k = m + 1 := ⟨k - 1, by omega⟩
        rw [phasorref08_unlike.l1, if_neg (by omega), w1n c hl]
        obtain ⟨r, h1, h2⟩ := unlike_go xs n hl d (i + 1) k (by omega) (by omega)
        exact ⟨r, h1, h2.trans ⟨fun hu => ⟨by rintro ⟨t, h3, h4, _⟩; omega, hu⟩, fun hu => hu.2⟩⟩
      | succ e ih =>
        intro j k hj hk
        obtain ⟨k, rfl⟩ : ∃ m, k = m + 1 := ⟨k - 1, by omega⟩
        rw [phasorref08_unlike.l1, if_pos (by omega), if_pos (by omega), if_pos (by omega), if_pos (by omega), if_pos (by omega)]
        by_cases c1 : rd xs j = rd xs i
        · rw [if_pos c1]
          exact ⟨_, rfl, iff_of_false (by decide) (fun h => h.1 ⟨j, Nat.le_refl _, by omega, c1⟩)⟩
        · rw [if_neg c1, w1n (by omega : j < xs.length) hl]
          obtain ⟨r, h1, h2⟩ := ih (j + 1) k (by omega) (by omega)
          refine ⟨r, h1, h2.trans ⟨fun hu => ⟨?_, hu.2⟩, fun hu => ⟨?_, hu.2⟩⟩⟩
          · rintro ⟨t, h3, h4, h5⟩
            by_cases e2 : t = j
            · subst e2; exact c1 h5
            · exact hu.1 ⟨t, by omega, h4, h5⟩
          · rintro ⟨t, h3, h4, h5⟩
            exact hu.1 ⟨t, by omega, h4, h5⟩
    rw [phasorref08_unlike.l0, if_pos (by omega), if_pos (by omega), Uq.step c]
    by_cases c1 : rd xs i < 0
    · rw [if_pos c1, phasorref08_unlike.j1, if_pos rfl]
      exact ⟨_, rfl, iff_of_false (by decide) (fun h => h.1 (.inl c1))⟩
    · rw [if_neg c1, phasorref08_unlike.j1]
      by_cases c2 : rd xs i ≥ n
      · rw [if_pos (decide_eq_true c2)]
        exact ⟨_, rfl, iff_of_false (by decide) (fun h => h.1 (.inr (.inl c2)))⟩
      · rw [if_neg (by simpa using c2)]
        obtain ⟨r, h1, h2⟩ := hin i 0 k (by omega) (by omega)
        refine ⟨r, h1, h2.trans ⟨fun hu => ⟨?_, hu.2⟩, fun hu => ⟨?_, hu.2⟩⟩⟩
        · rintro (h5 | h5 | ⟨t, h5, h6⟩)
          · exact c1 h5
          · exact c2 h5
          · exact hu.1 ⟨t, by omega, h5, h6⟩
        · rintro ⟨t, h3, h4, h5⟩
          exact hu.1 (.inr (.inr ⟨t, h4, h5⟩))
theorem qubits_go (xs : List Int) (n : Int) (hl : xs.length ≤ 9223372036854775807) : ∀ (d i k : Nat), i + d = xs.length → d * (xs.length + 3) < k → ∃ r : Bool, phasorref07_Qubits.l0 k xs n (i : Int) = some r ∧ (r = true ↔ Uq xs n i)
  | 0, i, k, hi, h => by
    obtain ⟨k, rfl⟩ : ∃ m, k = m + 1 := ⟨k - 1, by omega⟩
    rw [phasorref07_Qubits.l0, if_neg (by omega)]
    exact ⟨_, rfl, iff_of_true rfl (Uq.last (by omega))⟩
  | d + 1, i, k, hi, h => by
    rw [Nat.succ_mul] at h
    obtain ⟨k, rfl⟩ : ∃ m, k = m + 2 := ⟨k - 2, by omega⟩
    have c : i < xs.length := by omega
    have hin : ∀ (e j k : Nat), j + e = i → e + 1 + d * (xs.length + 3) < k → ∃ r : Bool, phasorref07_Qubits.l1 k xs n (i : Int) (j : Int) = some r ∧ (r = true ↔ (¬ ∃ t : Nat, j ≤ t ∧ t < i ∧ rd xs t = rd xs i) ∧ Uq xs n (i + 1)) := by
      intro e
      induction e with
      | zero =>
        intro j k hj hk
        obtain ⟨k, rfl⟩ : ∃ m, k = m + 1 := ⟨k - 1, by omega⟩
        rw [phasorref07_Qubits.l1, if_neg (by omega), w1n c hl]
        obtain ⟨r, h1, h2⟩ := qubits_go xs n hl d (i + 1) k (by omega) (by omega)
        exact ⟨r, h1, h2.trans ⟨fun hu => ⟨by rintro ⟨t, h3, h4, _⟩; omega, hu⟩, fun hu => hu.2⟩⟩
      | succ e ih =>
        intro j k hj hk
        obtain ⟨k, rfl⟩ : ∃ m, k = m + 1 := ⟨k - 1, by omega⟩
        rw [phasorref07_Qubits.l1, if_pos (by omega), if_pos (by omega), if_pos (by omega), if_pos (by omega), if_pos (by omega)]
        by_cases c1 : rd xs j = rd xs i
        · rw [if_pos c1]
          exact ⟨_, rfl, iff_of_false (by decide) (fun h => h.1 ⟨j, Nat.le_refl _, by omega, c1⟩)⟩
        · rw [if_neg c1, w1n (by omega : j < xs.length) hl]
          obtain ⟨r, h1, h2⟩ := ih (j + 1) k (by omega) (by omega)
          refine ⟨r, h1, h2.trans ⟨fun hu => ⟨?_, hu.2⟩, fun hu => ⟨?_, hu.2⟩⟩⟩
          · rintro ⟨t, h3, h4, h5⟩
            by_cases e2 : t = j
            · subst e2; exact c1 h5
            · exact hu.1 ⟨t, by omega, h4, h5⟩
          · rintro ⟨t, h3, h4, h5⟩
            exact hu.1 ⟨t, by omega, h4, h5⟩
    rw [phasorref07_Qubits.l0, if_pos (by omega), if_pos (by omega), Uq.step c]
    by_cases c1 : rd xs i < 0
    · rw [if_pos c1, phasorref07_Qubits.j1, if_pos rfl]
      exact ⟨_, rfl, iff_of_false (by decide) (fun h => h.1 (.inl c1))⟩
    · rw [if_neg c1, phasorref07_Qubits.j1]
      by_cases c2 : rd xs i ≥ n
      · rw [if_pos (decide_eq_true c2)]
        exact ⟨_, rfl, iff_of_false (by decide) (fun h => h.1 (.inr (.inl c2)))⟩
      · rw [if_neg (by simpa using c2)]
        obtain ⟨r, h1, h2⟩ := hin i 0 k (by omega) (by omega)
        refine ⟨r, h1, h2.trans ⟨fun hu => ⟨?_, hu.2⟩, fun hu => ⟨?_, hu.2⟩⟩⟩
        · rintro (h5 | h5 | ⟨t, h5, h6⟩)
          · exact c1 h5
          · exact c2 h5
          · exact hu.1 ⟨t, by omega, h5, h6⟩
        · rintro ⟨t, h3, h4, h5⟩
          exact hu.1 (.inr (.inr ⟨t, h4, h5⟩))
def arity (g : Int) : Int := if g < 1 ∨ 20 < g then 0 else if g ≤ 10 then 1 else if g ≤ 17 then 2 else 3
def GateOk (g : Int) (xs : List Int) (n : Int) : Prop := arity g ≠ 0 ∧ (xs.length : Int) = arity g ∧ Uq xs n 0
theorem gate_Check_spec (g : Int) (xs : List Int) (n : Int) (hl : xs.length ≤ 9223372036854775807) (k : Nat) (hk : 2 * xs.length + 1 < k) : ∃ r, gate_Check.f k g xs n = some r ∧ (r = 0 ↔ GateOk g xs n) := by
  unfold gate_Check.f GateOk
  have hA : gate_Arity.f g = some (arity g) := rfl
  rw [hA, Option.bind_some]
  by_cases c : arity g = 0
  · rw [if_pos c]
    exact ⟨_, rfl, iff_of_false (by decide) (fun h => h.1 c)⟩
  · rw [if_neg c, Option.bind_some]
    by_cases c2 : (xs.length : Int) = arity g
    · rw [if_pos c2]
      obtain ⟨r, h1, h2⟩ := gcheck_go xs n hl k 0 (by omega) (by omega)
      exact ⟨r, h1, h2.trans ⟨fun h => ⟨c, c2, h⟩, fun h => h.2.2⟩⟩
    · rw [if_neg c2]
      exact ⟨_, rfl, iff_of_false (by decide) (fun h => c2 h.2.1)⟩
theorem ref06_arity (g : Int) : ∃ b, phasorref06_Is.f g = some b ∧ (b = true ↔ arity g ≠ 0) ∧ (b = true → phasorref06_Arity.f g = some (arity g)) := by
  unfold phasorref06_Arity.f phasorref06_Is.f arity
  by_cases c : g ≥ 1
  · rw [if_pos c]
    refine ⟨_, rfl, ?_, ?_⟩
    · rw [decide_eq_true_iff]; split <;> (try split) <;> (try split) <;> omega
    · intro h
      rw [Option.bind_some, if_pos h]
      have := of_decide_eq_true h
      repeat' split
      all_goals first | rfl | omega
  · rw [if_neg c]
    refine ⟨_, rfl, iff_of_false (by decide) ?_, fun h => absurd h (by decide)⟩
    rw [if_pos (by omega)]
    simp
theorem ref06_Check_spec (g : Int) (xs : List Int) (n : Int) (hl : xs.length ≤ 9223372036854775807) (k : Nat) (hk : xs.length * (xs.length + 3) < k) : ∃ r, phasorref06_Check.f k g xs n = some r ∧ (r = 0 ↔ GateOk g xs n) := by
  unfold phasorref06_Check.f GateOk
  obtain ⟨b, h1, h2, h3⟩ := ref06_arity g
  rw [h1, Option.bind_some]
  by_cases c : b = true
  · rw [if_pos c, h3 c, Option.bind_some]
    by_cases c2 : (xs.length : Int) = arity g
    · rw [if_pos c2]
      obtain ⟨r, h4, h5⟩ := rcheck_go xs n hl xs.length 0 k (by omega) (by omega)
      exact ⟨r, h4, h5.trans ⟨fun h => ⟨h2.1 c, c2, h⟩, fun h => h.2.2⟩⟩
    · rw [if_neg c2]
      exact ⟨_, rfl, iff_of_false (by decide) (fun h => c2 h.2.1)⟩
  · rw [if_neg c]
    exact ⟨_, rfl, iff_of_false (by decide) (fun h => c (h2.2 h.1))⟩
def Tail (o : S57) (m : Int) : Prop := (o.f0 = 2 ∧ o.f2.length = 1 ∧ 0 ≤ o.f3 ∧ o.f3 < m) ∨ (o.f0 = 3 ∧ o.f2.length = 1 ∧ o.f3 = 0) ∨ (o.f0 = 4 ∧ o.f3 = 0)
def MayOp (o : S57) (n m : Int) : Prop :=
  (o.f0 = 1 ∧ GateOk o.f1 o.f2 n ∧ o.f3 = 0 ∧ ((o.f4 = -1 ∧ o.f5 = 0) ∨ (0 ≤ o.f4 ∧ o.f4 < m ∧ (o.f5 = 0 ∨ o.f5 = 1)))) ∨
  (o.f0 ≠ 1 ∧ o.f1 = 0 ∧ o.f4 = -1 ∧ o.f5 = 0 ∧ 0 < o.f2.length ∧ Uq o.f2 n 0 ∧ Tail o m)
theorem may_loop_go (xs : List Int) (n : Int) (hl : xs.length ≤ 9223372036854775807) (k : Nat) (hk : xs.length < k) : ∀ (r i : Nat), i + r = xs.length → ∃ b : Bool, may_loop k n xs r (i : Int) = some b ∧ (b = true ↔ Uq xs n i)
  | 0, i, hi => ⟨true, rfl, iff_of_true rfl (Uq.last (by omega))⟩
  | r + 1, i, hi => by
    have c : i < xs.length := by omega
    rw [may_loop, Uq.step c]
    by_cases c1 : rd xs i < 0
    · rw [if_pos c1]
      exact ⟨_, rfl, iff_of_false (by decide) (fun h => h.1 (.inl c1))⟩
    · rw [if_neg c1]
      by_cases c2 : rd xs i ≥ n
      · rw [if_pos c2]
        exact ⟨_, rfl, iff_of_false (by decide) (fun h => h.1 (.inr (.inl c2)))⟩
      · rw [if_neg c2, Int.toNat_natCast]
        obtain ⟨b, h1, h2⟩ := contains_take xs (rd xs i) i (by omega) hl k hk
        rw [h1, Option.bind_some]
        by_cases cb : b = true
        · rw [if_pos cb]
          exact ⟨_, rfl, iff_of_false (by decide) (fun h => h.1 (.inr (.inr (h2.1 cb))))⟩
        · rw [if_neg cb]
          obtain ⟨b', h3, h4⟩ := may_loop_go xs n hl k hk r (i + 1) (by omega)
          refine ⟨b', h3, h4.trans ⟨fun hu => ⟨?_, hu⟩, fun hu => hu.2⟩⟩
          rintro (h5 | h5 | h5)
          · exact c1 h5
          · exact c2 h5
          · exact cb (h2.2 h5)
theorem may_tail_iff (o : S57) (m : Int) : may_tail o.f0 o.f2 o.f3 m = true ↔ Tail o m := by
  unfold may_tail Tail
  repeat' split
  all_goals grind
theorem may_spec (o : S57) (n m : Int) (hl : o.f2.length ≤ 9223372036854775807) (k : Nat) (hk : 2 * o.f2.length + 2 < k) : ∃ b : Bool, circuit_may.f k o.f0 o.f1 o.f2 o.f3 o.f4 o.f5 n m = some b ∧ (b = true ↔ MayOp o n m) := by
  obtain ⟨r, h1, h2⟩ := gate_Check_spec o.f1 o.f2 n hl k (by omega)
  obtain ⟨b, h3, h4⟩ := may_loop_go o.f2 n hl k (by omega) o.f2.length 0 (by omega)
  have ht := may_tail_iff o m
  unfold circuit_may.f MayOp
  rw [h1, show may_loop k n o.f2 o.f2.length 0 = some b from h3]
  simp only [Option.bind_some]
  by_cases c : o.f0 = 1
  · rw [if_pos c]
    refine ⟨_, rfl, ?_⟩
    unfold may_gate
    grind
  · rw [if_neg c]
    have h8 : (o.f2.length : Int) = 0 ↔ ¬ 0 < o.f2.length := by omega
    repeat' split
    all_goals exact ⟨_, rfl, by grind⟩
theorem unlike_spec (xs : List Int) (n : Int) (hl : xs.length ≤ 9223372036854775807) (k : Nat) (hk : xs.length * (xs.length + 3) < k) : ∃ b : Bool, phasorref08_unlike.f k xs n = some b ∧ (b = true ↔ Uq xs n 0) := unlike_go xs n hl xs.length 0 k (by omega) hk
theorem qubits_spec (xs : List Int) (n : Int) (hl : xs.length ≤ 9223372036854775807) (k : Nat) (hk : xs.length * (xs.length + 3) < k) : ∃ b : Bool, phasorref07_Qubits.f k xs n = some b ∧ (b = true ↔ Uq xs n 0) := qubits_go xs n hl xs.length 0 k (by omega) hk
theorem op_spec (o : S57) (n m : Int) (hl : o.f2.length ≤ 9223372036854775807) (k : Nat) (hk : o.f2.length * (o.f2.length + 3) + 1 < k) : ∃ b : Bool, phasorref08_Op.f k o.f0 o.f1 o.f2 o.f3 o.f4 o.f5 n m = some b ∧ (b = true ↔ MayOp o n m) := by
  obtain ⟨k, rfl⟩ : ∃ j, k = j + 1 := ⟨k - 1, by omega⟩
  obtain ⟨r, h1, h2⟩ := ref06_Check_spec o.f1 o.f2 n hl k (by omega)
  obtain ⟨u, h3, h4⟩ := unlike_spec o.f2 n hl k (by omega)
  have hlen : (o.f2.length : Int) = 1 ↔ o.f2.length = 1 := by omega
  have hpos : (o.f2.length : Int) > 0 ↔ 0 < o.f2.length := by omega
  unfold phasorref08_Op.f MayOp Tail
  by_cases c4 : o.f4 = -1
  · rw [if_pos c4, phasorref08_Op.j0, h1, h3]
    simp only [Option.bind_some]
    repeat' split
    all_goals exact ⟨_, rfl, by grind⟩
  · rw [if_neg c4, phasorref08_Op.j0, h1, h3]
    simp only [Option.bind_some]
    repeat' split
    all_goals exact ⟨_, rfl, by grind⟩
def May (a0 a1 : Int) (l : List S57) : Prop := 0 ≤ a0 ∧ a0 ≤ 64 ∧ 0 ≤ a1 ∧ a1 ≤ 64 ∧ l.length ≤ 4096 ∧ ∀ o ∈ l, MayOp o a0 a1
def AllFrom (a0 a1 : Int) (l : List S57) (i : Nat) : Prop := ∀ j : Nat, i ≤ j → j < l.length → MayOp (rd_T57 l j) a0 a1
theorem AllFrom.step {a0 a1 : Int} {l : List S57} {i : Nat} (h : i < l.length) : AllFrom a0 a1 l i ↔ MayOp (rd_T57 l i) a0 a1 ∧ AllFrom a0 a1 l (i + 1) := by
  constructor
  · intro hu
    exact ⟨hu i (Nat.le_refl _) h, fun j h1 h2 => hu j (by omega) h2⟩
  · rintro ⟨h1, h2⟩ j h3 h4
    by_cases e : j = i
    · subst e; exact h1
    · exact h2 j (by omega) h4
theorem AllFrom.zero {a0 a1 : Int} {l : List S57} : AllFrom a0 a1 l 0 ↔ ∀ o ∈ l, MayOp o a0 a1 := by
  constructor
  · intro h o ho
    obtain ⟨j, hj, rfl⟩ := List.getElem_of_mem ho
    have := h j (Nat.zero_le _) hj
    rwa [rd_T57_at hj] at this
  · intro h j _ hj
    exact h _ (rd_T57_mem hj)
theorem check_go (a0 a1 : Int) (N : Nat) (l : List S57) (hL : Lim N l) : ∀ (k i : Nat), i ≤ l.length → (l.length - i) + 2 * N + 3 < k → ∃ x e : Int, circuit_Check.l0 k l (l.length : Int) (i : Int) a0 a1 l = some (x, e) ∧ (e = 0 ∨ e = 80) ∧ (e = 0 ↔ AllFrom a0 a1 l i)
  | 0, i, _, h => absurd h (by omega)
  | k + 1, i, hi, h => by
    rw [circuit_Check.l0]
    by_cases c : i < l.length
    · obtain ⟨h1, h2⟩ := hL.2 _ (rd_T57_mem c)
      have h0 := hL.1
      rw [if_pos (by omega), if_pos (by omega), if_pos (by omega), AllFrom.step c]
      obtain ⟨b, h3, h4⟩ := may_spec (rd_T57 l i) a0 a1 (by omega) k (by omega)
      rw [h3, Option.bind_some]
      by_cases cb : b = true
      · rw [if_pos cb, w1n c (by omega)]
        obtain ⟨x, e, h5, h6, h7⟩ := check_go a0 a1 N l hL k (i + 1) c (by omega)
        exact ⟨x, e, h5, h6, h7.trans ⟨fun h => ⟨h4.1 cb, h⟩, fun h => h.2⟩⟩
      · rw [if_neg cb]
        exact ⟨_, _, rfl, .inr rfl, iff_of_false (by decide) (fun h => cb (h4.2 h.1))⟩
    · rw [if_neg (by omega)]
      exact ⟨_, _, rfl, .inl rfl, iff_of_true rfl (fun j h1 h2 => absurd h2 (by omega))⟩
theorem check8_go (a0 a1 : Int) (N : Nat) (l : List S57) (hL : Lim N l) : ∀ (k i : Nat), i ≤ l.length → (l.length - i) + N * (N + 3) + 2 < k → ∃ x e : Int, phasorref08_Check.l0 k (i : Int) a0 a1 l = some (x, e) ∧ (e = 0 ∨ e = 80) ∧ (e = 0 ↔ AllFrom a0 a1 l i)
  | 0, i, _, h => absurd h (by omega)
  | k + 1, i, hi, h => by
    rw [phasorref08_Check.l0]
    by_cases c : i < l.length
    · obtain ⟨h1, h2⟩ := hL.2 _ (rd_T57_mem c)
      have h0 := hL.1
      rw [if_pos (by omega), if_pos (by omega), AllFrom.step c]
      have hm : (rd_T57 l i).f2.length * ((rd_T57 l i).f2.length + 3) ≤ N * (N + 3) := Nat.mul_le_mul (by omega) (by omega)
      obtain ⟨b, h3, h4⟩ := op_spec (rd_T57 l i) a0 a1 (by omega) k (by omega)
      rw [h3, Option.bind_some]
      by_cases cb : b = true
      · rw [if_pos cb, w1n c (by omega)]
        obtain ⟨x, e, h5, h6, h7⟩ := check8_go a0 a1 N l hL k (i + 1) c (by omega)
        exact ⟨x, e, h5, h6, h7.trans ⟨fun h => ⟨h4.1 cb, h⟩, fun h => h.2⟩⟩
      · rw [if_neg cb]
        exact ⟨_, _, rfl, .inr rfl, iff_of_false (by decide) (fun h => cb (h4.2 h.1))⟩
    · rw [if_neg (by omega)]
      exact ⟨_, _, rfl, .inl rfl, iff_of_true rfl (fun j h1 h2 => absurd h2 (by omega))⟩
theorem checked_spec (a0 a1 : Int) (N : Nat) (l : List S57) (hL : Lim N l) (k : Nat) (hk : l.length + 2 * N + 4 < k) : ∃ e : Int, layers_checked.f k a0 a1 l = some e ∧ (e = 0 ∨ e = 80) ∧ (e = 0 ↔ May a0 a1 l) := by
  obtain ⟨k, rfl⟩ : ∃ j, k = j + 1 := ⟨k - 1, by omega⟩
  obtain ⟨x, e, h1, h2, h3⟩ := check_go a0 a1 N l hL k 0 (by omega) (by omega)
  rw [AllFrom.zero] at h3
  have h4 : ∀ b : Bool, circuit_Check.j0 (k + 1) b a0 a1 l = some (if b = true then (-1, 80) else (x, e)) := fun b => by
    rw [circuit_Check.j0]
    cases b
    · rw [if_neg (by decide), if_neg (by decide)]; exact h1
    · rw [if_pos rfl, if_pos rfl]
  unfold layers_checked.f circuit_Check.f May
  simp only [h4]
  have hlen : ((l.length : Int) > 4096) ↔ 4096 < l.length := by omega
  repeat' split
  all_goals simp only [Option.bind_some]
  all_goals repeat' split
  all_goals exact ⟨_, rfl, by grind, by grind⟩
theorem may8_spec (a0 a1 : Int) (N : Nat) (l : List S57) (hL : Lim N l) (k : Nat) (hk : l.length + N * (N + 3) + 3 < k) : ∃ b : Bool, phasorref08_May.f k a0 a1 l = some b ∧ (b = true ↔ May a0 a1 l) := by
  obtain ⟨k, rfl⟩ : ∃ j, k = j + 1 := ⟨k - 1, by omega⟩
  obtain ⟨x, e, h1, h2, h3⟩ := check8_go a0 a1 N l hL k 0 (by omega) (by omega)
  rw [AllFrom.zero] at h3
  have h4 : ∀ b : Bool, phasorref08_Check.j0 (k + 1) b a0 a1 l = some (if b = true then (-1, 80) else (x, e)) := fun b => by
    rw [phasorref08_Check.j0]
    cases b
    · rw [if_neg (by decide), if_neg (by decide)]; exact h1
    · rw [if_pos rfl, if_pos rfl]
  unfold phasorref08_May.f phasorref08_Check.f May
  simp only [h4]
  have hlen : ((l.length : Int) > 4096) ↔ 4096 < l.length := by omega
  repeat' split
  all_goals simp only [Option.bind_some]
  all_goals repeat' split
  all_goals exact ⟨_, rfl, by grind⟩
theorem checked_yes {a0 a1 : Int} {N : Nat} {l : List S57} (hL : Lim N l) (hM : May a0 a1 l) {k : Nat} (hk : l.length + N * (N + 3) + 4 < k) : layers_checked.f k a0 a1 l = some 0 ∧ phasorref08_May.f k a0 a1 l = some true := by
  have hn : 2 * N ≤ N * (N + 3) := by rw [Nat.mul_add]; omega
  obtain ⟨e, h1, _, h2⟩ := checked_spec a0 a1 N l hL k (by omega)
  obtain ⟨b, h3, h4⟩ := may8_spec a0 a1 N l hL k (by omega)
  exact ⟨by rw [h1, h2.2 hM], by rw [h3, h4.2 hM]⟩
theorem checked_no {a0 a1 : Int} {N : Nat} {l : List S57} (hL : Lim N l) (hM : ¬ May a0 a1 l) {k : Nat} (hk : l.length + N * (N + 3) + 4 < k) : layers_checked.f k a0 a1 l = some 80 ∧ phasorref08_May.f k a0 a1 l = some false := by
  have hn : 2 * N ≤ N * (N + 3) := by rw [Nat.mul_add]; omega
  obtain ⟨e, h1, h5, h2⟩ := checked_spec a0 a1 N l hL k (by omega)
  obtain ⟨b, h3, h4⟩ := may8_spec a0 a1 N l hL k (by omega)
  refine ⟨?_, ?_⟩
  · rcases h5 with rfl | rfl
    · exact absurd (h2.1 rfl) hM
    · exact h1
  · cases b
    · exact h3
    · exact absurd (h4.1 rfl) hM
def wl (o : S57) : List Int := o.f2 ++ ((if o.f0 = 2 then [wrap64 (64 + o.f3)] else []) ++ (if o.f4 ≥ 0 then [wrap64 (64 + o.f4)] else []))
def wr (o : S57) : List Int := o.f2 ++ ((if o.f0 = 2 then [wrap64 (100 + o.f3)] else []) ++ (if o.f4 ≥ 0 then [wrap64 (100 + o.f4)] else []))
theorem wires_eq (o : S57) (h : o.f2.length < 17592186044410) : layers_wires.f o.f0 o.f1 o.f2 o.f3 o.f4 o.f5 = some (wl o) := by
  unfold layers_wires.f slices_Clone_int_int.f wl
  rw [if_pos (by omega), Option.bind_some]
  by_cases c : o.f0 = 2
  · rw [if_pos c, if_pos (by omega), Option.bind_some]
    by_cases d : o.f4 ≥ 0
    · rw [if_pos d, if_pos (by simp; omega)]; simp [c, d]
    · rw [if_neg d]; simp [c, d]
  · rw [if_neg c]
    by_cases d : o.f4 ≥ 0
    · rw [if_pos d, if_pos (by omega)]; simp [c, d]
    · rw [if_neg d]; simp [c, d]
theorem wires19_eq (o : S57) (h : o.f2.length < 17592186044410) : phasorref19_wires.f o.f0 o.f1 o.f2 o.f3 o.f4 o.f5 = some (wr o) := by
  unfold phasorref19_wires.f wr
  rw [Option.bind_some, if_pos (by simp; omega), Option.bind_some]
  simp only [List.nil_append]
  by_cases c : o.f0 = 2
  · rw [if_pos c, if_pos (by omega), Option.bind_some]
    by_cases d : o.f4 ≥ 0
    · rw [if_pos d, if_pos (by simp; omega)]; simp [c, d]
    · rw [if_neg d]; simp [c, d]
  · rw [if_neg c]
    by_cases d : o.f4 ≥ 0
    · rw [if_pos d, if_pos (by omega)]; simp [c, d]
    · rw [if_neg d]; simp [c, d]
def phi (x : Int) : Int := if x < 64 then x else x + 36
theorem phi_inj {x y : Int} (h : phi x = phi y) : x = y := by unfold phi at h; split at h <;> split at h <;> omega
theorem rd_mem_exists {xs : List Int} {x : Int} (h : x ∈ xs) : ∃ j : Nat, j < xs.length ∧ rd xs j = x := by
  obtain ⟨j, hj, rfl⟩ := List.getElem_of_mem h
  refine ⟨j, hj, ?_⟩
  unfold rd
  rw [Int.toNat_natCast, List.getD_eq_getElem?_getD, List.getElem?_eq_getElem hj]
  rfl
theorem rd_mem {xs : List Int} {j : Nat} (h : j < xs.length) : rd xs j ∈ xs := by
  unfold rd
  rw [Int.toNat_natCast, List.getD_eq_getElem?_getD, List.getElem?_eq_getElem h]
  exact List.getElem_mem h
theorem Uq.range {xs : List Int} {n : Int} (h : Uq xs n 0) : ∀ x ∈ xs, 0 ≤ x ∧ x < n := by
  intro x hx
  obtain ⟨j, hj, rfl⟩ := rd_mem_exists hx
  have := h j (Nat.zero_le _) hj
  unfold Bad at this
  by_cases c : rd xs j < 0
  · exact absurd (.inl c) this
  · by_cases d : n ≤ rd xs j
    · exact absurd (.inr (.inl d)) this
    · omega
theorem may_range {o : S57} {n m : Int} (h : MayOp o n m) : (∀ x ∈ o.f2, 0 ≤ x ∧ x < n) ∧ (o.f0 = 2 → 0 ≤ o.f3 ∧ o.f3 < m) ∧ (o.f4 ≥ 0 → o.f4 < m) := by
  unfold MayOp GateOk Tail at h
  rcases h with ⟨h0, ⟨_, _, hu⟩, h3, h4⟩ | ⟨h0, _, h4, _, _, hu, h5⟩
  · exact ⟨hu.range, by omega, by omega⟩
  · exact ⟨hu.range, by omega, by omega⟩
theorem wl_range {o : S57} {n m : Int} (h : MayOp o n m) (hn : n ≤ 64) (hm : m ≤ 64) : ∀ x ∈ wl o, 0 ≤ x ∧ x < 128 := by
  obtain ⟨h1, h2, h3⟩ := may_range h
  intro x hx
  unfold wl at hx
  rw [List.mem_append, List.mem_append] at hx
  rcases hx with hx | hx | hx
  · have := h1 x hx; omega
  · split at hx
    · rename_i c
      have := h2 c
      rw [List.mem_singleton] at hx
      unfold wrap64 at hx
      omega
    · cases hx
  · split at hx
    · rename_i c
      have := h3 c
      rw [List.mem_singleton] at hx
      unfold wrap64 at hx
      omega
    · cases hx
theorem wr_map {o : S57} {n m : Int} (h : MayOp o n m) (hn : n ≤ 64) (hm : m ≤ 64) : wr o = (wl o).map phi := by
  obtain ⟨h1, h2, h3⟩ := may_range h
  unfold wr wl
  rw [List.map_append, List.map_append]
  congr 1
  · refine (List.map_id o.f2).symm.trans (List.map_congr_left ?_)
    intro x hx
    have := h1 x hx
    unfold phi
    rw [if_pos (by omega)]
    rfl
  · congr 1
    · split
      · rename_i c
        have := h2 c
        simp only [List.map_cons, List.map_nil, phi]
        congr 1
        unfold wrap64
        split <;> omega
      · rfl
    · split
      · rename_i c
        have := h3 c
        simp only [List.map_cons, List.map_nil, phi]
        congr 1
        unfold wrap64
        split <;> omega
      · rfl
theorem wr_len (o : S57) : (wr o).length ≤ o.f2.length + 2 := by unfold wr; simp only [List.length_append]; split <;> split <;> simp
def Tch (a b : S57) : Prop := ∃ x, x ∈ wl a ∧ x ∈ wl b
theorem meet_go (xs ys : List Int) (hx : xs.length ≤ 9223372036854775807) (hy : ys.length ≤ 9223372036854775807) : ∀ (d i k : Nat), i + d = xs.length → d * (ys.length + 2) < k → ∃ b : Bool, phasorref19_meet.l0 k xs ys (i : Int) = some b ∧ (b = true ↔ ∃ t : Nat, i ≤ t ∧ t < xs.length ∧ rd xs t ∈ ys)
  | 0, i, k, hi, h => by
    obtain ⟨k, rfl⟩ : ∃ m, k = m + 1 := ⟨k - 1, by omega⟩
    rw [phasorref19_meet.l0, if_neg (by omega)]
    exact ⟨_, rfl, iff_of_false (by decide) (fun ⟨t, h1, h2, _⟩ => by omega)⟩
  | d + 1, i, k, hi, h => by
    rw [Nat.succ_mul] at h
    obtain ⟨k, rfl⟩ : ∃ m, k = m + 1 := ⟨k - 1, by omega⟩
    have c : i < xs.length := by omega
    have hin : ∀ (e j k : Nat), j + e = ys.length → e + 1 + d * (ys.length + 2) < k → ∃ b : Bool, phasorref19_meet.l1 k xs ys (i : Int) (j : Int) = some b ∧ (b = true ↔ (∃ u : Nat, j ≤ u ∧ u < ys.length ∧ rd xs i = rd ys u) ∨ ∃ t : Nat, i + 1 ≤ t ∧ t < xs.length ∧ rd xs t ∈ ys) := by
      intro e
      induction e with
      | zero =>
        intro j k hj hk
        obtain ⟨k, rfl⟩ : ∃ m, k = m + 1 := ⟨k - 1, by omega⟩
        rw [phasorref19_meet.l1, if_neg (by omega), w1n c hx]
        obtain ⟨r, h1, h2⟩ := meet_go xs ys hx hy d (i + 1) k (by omega) (by omega)
        exact ⟨r, h1, h2.trans ⟨fun hu => .inr hu, fun hu => hu.resolve_left (fun ⟨u, h3, h4, _⟩ => by omega)⟩⟩
      | succ e ih =>
        intro j k hj hk
        obtain ⟨k, rfl⟩ : ∃ m, k = m + 1 := ⟨k - 1, by omega⟩
        rw [phasorref19_meet.l1, if_pos (by omega), if_pos (by omega), if_pos (by omega), if_pos (by omega)]
        by_cases c1 : rd xs i = rd ys j
        · rw [if_pos c1]
          exact ⟨_, rfl, iff_of_true rfl (.inl ⟨j, Nat.le_refl _, by omega, c1⟩)⟩
        · rw [if_neg c1, w1n (by omega : j < ys.length) hy]
          obtain ⟨r, h1, h2⟩ := ih (j + 1) k (by omega) (by omega)
          refine ⟨r, h1, h2.trans ⟨fun hu => ?_, fun hu => ?_⟩⟩
          · rcases hu with ⟨u, h3, h4, h5⟩ | hu
            · exact .inl ⟨u, by omega, h4, h5⟩
            · exact .inr hu
          · rcases hu with ⟨u, h3, h4, h5⟩ | hu
            · by_cases e2 : u = j
              · subst e2; exact absurd h5 c1
              · exact .inl ⟨u, by omega, h4, h5⟩
            · exact .inr hu
    rw [phasorref19_meet.l0, if_pos (by omega)]
    obtain ⟨r, h1, h2⟩ := hin ys.length 0 k (by omega) (by omega)
    refine ⟨r, h1, h2.trans ⟨fun hu => ?_, fun hu => ?_⟩⟩
    · rcases hu with ⟨u, h3, h4, h5⟩ | ⟨t, h3, h4, h5⟩
      · exact ⟨i, Nat.le_refl _, c, by rw [h5]; exact rd_mem h4⟩
      · exact ⟨t, by omega, h4, h5⟩
    · obtain ⟨t, h3, h4, h5⟩ := hu
      by_cases e2 : t = i
      · subst e2
        obtain ⟨u, h6, h7⟩ := rd_mem_exists h5
        exact .inl ⟨u, Nat.zero_le _, h6, h7.symm⟩
      · exact .inr ⟨t, by omega, h4, h5⟩
theorem meet_spec (xs ys : List Int) (hx : xs.length ≤ 9223372036854775807) (hy : ys.length ≤ 9223372036854775807) (k : Nat) (hk : xs.length * (ys.length + 2) < k) : ∃ b : Bool, phasorref19_meet.f k xs ys = some b ∧ (b = true ↔ ∃ x, x ∈ xs ∧ x ∈ ys) := by
  obtain ⟨b, h1, h2⟩ := meet_go xs ys hx hy xs.length 0 k (by omega) hk
  refine ⟨b, h1, h2.trans ⟨fun ⟨t, _, h3, h4⟩ => ⟨_, rd_mem h3, h4⟩, fun ⟨x, h3, h4⟩ => ?_⟩⟩
  obtain ⟨t, h5, rfl⟩ := rd_mem_exists h3
  exact ⟨t, Nat.zero_le _, h5, h4⟩
theorem tch_wr {a b : S57} {n m : Int} (ha : MayOp a n m) (hb : MayOp b n m) (hn : n ≤ 64) (hm : m ≤ 64) : (∃ x, x ∈ wr a ∧ x ∈ wr b) ↔ Tch a b := by
  rw [wr_map ha hn hm, wr_map hb hn hm]
  constructor
  · rintro ⟨x, h1, h2⟩
    obtain ⟨y, h3, rfl⟩ := List.mem_map.1 h1
    obtain ⟨z, h4, h5⟩ := List.mem_map.1 h2
    obtain rfl := phi_inj h5
    exact ⟨z, h3, h4⟩
  · rintro ⟨x, h1, h2⟩
    exact ⟨phi x, List.mem_map_of_mem h1, List.mem_map_of_mem h2⟩
theorem touch_spec (a0 a1 : Int) (N : Nat) (l : List S57) (hL : Lim N l) (hN : N ≤ 17592186044410) (hM : May a0 a1 l) (i j : Nat) (hi : i < l.length) (hj : j < l.length) (k : Nat) (hk : (N + 2) * (N + 4) < k) : ∃ b : Bool, phasorref19_touch.f k a0 a1 l (i : Int) (j : Int) = some b ∧ (b = true ↔ Tch (rd_T57 l i) (rd_T57 l j)) := by
  obtain ⟨h1, h2⟩ := hL.2 _ (rd_T57_mem hi)
  obtain ⟨h3, h4⟩ := hL.2 _ (rd_T57_mem hj)
  have l1 := wr_len (rd_T57 l i)
  have l2 := wr_len (rd_T57 l j)
  unfold phasorref19_touch.f
  rw [if_pos (by omega), if_pos (by omega), wires19_eq _ (by omega), Option.bind_some, if_pos (by omega), if_pos (by omega), wires19_eq _ (by omega), Option.bind_some]
  have hm : (wr (rd_T57 l i)).length * ((wr (rd_T57 l j)).length + 2) ≤ (N + 2) * (N + 4) := Nat.mul_le_mul (by omega) (by omega)
  obtain ⟨b, h5, h6⟩ := meet_spec (wr (rd_T57 l i)) (wr (rd_T57 l j)) (by omega) (by omega) k (by omega)
  rw [h5, Option.bind_some]
  exact ⟨b, rfl, h6.trans (tch_wr (hM.2.2.2.2.2 _ (rd_T57_mem hi)) (hM.2.2.2.2.2 _ (rd_T57_mem hj)) hM.2.1 hM.2.2.2.1)⟩
theorem mx_le (a b : Int) : a ≤ mx a b ∧ b ≤ mx a b ∧ (mx a b = a ∨ mx a b = b) := by unfold mx; split <;> omega
theorem rd_append_lt {xs ys : List Int} {t : Nat} (h : t < xs.length) : rd (xs ++ ys) (t : Int) = rd xs t := by
  unfold rd
  simp only [Int.toNat_natCast, List.getD_eq_getElem?_getD, List.getElem?_append_left h]
theorem rd_append_self {xs : List Int} {x : Int} : rd (xs ++ [x]) (xs.length : Int) = x := by
  unfold rd
  simp [List.getD_eq_getElem?_getD]
theorem wire_max_spec (last : List Int) : ∀ (ws : List Int) (m : Int), (∀ w ∈ ws, 0 ≤ w ∧ w < 128) → ∃ M, wire_max last m ws = some M ∧ m ≤ M ∧ (M = m ∨ ∃ w ∈ ws, M = rd last w) ∧ ∀ w ∈ ws, rd last w ≤ M
  | [], m, _ => ⟨m, rfl, Int.le_refl _, .inl rfl, fun w h => by cases h⟩
  | w :: ws, m, h => by
    rw [wire_max, if_pos (h w (List.mem_cons_self ..))]
    obtain ⟨M, h1, h2, h3, h4⟩ := wire_max_spec last ws (mx m (rd last w)) (fun x hx => h x (List.mem_cons_of_mem _ hx))
    have h5 := mx_le m (rd last w)
    refine ⟨M, h1, by omega, ?_, fun x hx => ?_⟩
    · rcases h3 with h3 | ⟨x, hx, h3⟩
      · rcases h5.2.2 with h6 | h6
        · exact .inl (h3.trans h6)
        · exact .inr ⟨w, List.mem_cons_self .., h3.trans h6⟩
      · exact .inr ⟨x, List.mem_cons_of_mem _ hx, h3⟩
    · rcases List.mem_cons.1 hx with rfl | hx
      · omega
      · exact h4 x hx
theorem rd_set {xs : List Int} {i : Nat} {w v : Int} (h0 : 0 ≤ w) (hi : i < xs.length) : rd (xs.set i v) w = if w = i then v else rd xs w := by
  unfold rd
  rw [List.getD_eq_getElem?_getD, List.getD_eq_getElem?_getD, List.getElem?_set]
  by_cases c : w = i
  · rw [if_pos c, if_pos (by omega), if_pos hi]; rfl
  · rw [if_neg c, if_neg (by omega)]
theorem wire_set_spec (m : Int) : ∀ (ws last : List Int), last.length = 128 → (∀ w ∈ ws, 0 ≤ w ∧ w < 128) → ∃ l', wire_set m last ws = some l' ∧ l'.length = 128 ∧ ∀ w, 0 ≤ w → w < 128 → (w ∈ ws → rd l' w = m) ∧ (w ∉ ws → rd l' w = rd last w)
  | [], last, hl, _ => ⟨last, rfl, hl, fun w _ _ => ⟨fun h => absurd h List.not_mem_nil, fun _ => rfl⟩⟩
  | x :: ws, last, hl, h => by
    have hx := h x (List.mem_cons_self ..)
    rw [wire_set, if_pos hx]
    obtain ⟨l', h1, h2, h3⟩ := wire_set_spec m ws (last.set x.toNat m) (by rw [List.length_set]; exact hl) (fun y hy => h y (List.mem_cons_of_mem _ hy))
    refine ⟨l', h1, h2, fun w hw0 hw1 => ?_⟩
    obtain ⟨h4, h5⟩ := h3 w hw0 hw1
    have h6 := rd_set (xs := last) (i := x.toNat) (v := m) hw0 (by omega)
    constructor
    · intro hw
      by_cases c : w ∈ ws
      · exact h4 c
      · rcases List.mem_cons.1 hw with rfl | hw
        · rw [h5 c, h6, if_pos (by omega)]
        · exact absurd hw c
    · intro hw
      have c : w ∉ ws := fun hc => hw (List.mem_cons_of_mem _ hc)
      have d : w ≠ x := fun e => hw (by rw [e]; exact List.mem_cons_self ..)
      rw [h5 c, h6, if_neg (by omega)]
def IsMax (l : List S57) (ms : List Int) (i : Nat) (M : Int) : Prop := 0 ≤ M ∧ (M = 0 ∨ ∃ t : Nat, t < i ∧ Tch (rd_T57 l i) (rd_T57 l t) ∧ M = rd ms t) ∧ ∀ t : Nat, t < i → Tch (rd_T57 l i) (rd_T57 l t) → rd ms t ≤ M
def EarlyAt (l : List S57) (ms : List Int) (i : Nat) : Prop := ∃ M, IsMax l ms i M ∧ rd ms i = early_m (rd_T57 l i) M
theorem IsMax.congr {l : List S57} {ms ms' : List Int} {i : Nat} {M : Int} (h : IsMax l ms i M) (he : ∀ t : Nat, t < i → rd ms' t = rd ms t) : IsMax l ms' i M := by
  obtain ⟨h0, h1, h2⟩ := h
  refine ⟨h0, ?_, fun t ht hT => by rw [he t ht]; exact h2 t ht hT⟩
  rcases h1 with h1 | ⟨t, ht, hT, h1⟩
  · exact .inl h1
  · exact .inr ⟨t, ht, hT, by rw [he t ht]; exact h1⟩
theorem EarlyAt.congr {l : List S57} {ms ms' : List Int} {i : Nat} (h : EarlyAt l ms i) (he : ∀ t : Nat, t ≤ i → rd ms' t = rd ms t) : EarlyAt l ms' i := by
  obtain ⟨M, h1, h2⟩ := h
  exact ⟨M, h1.congr (fun t ht => he t (by omega)), by rw [he i (Nat.le_refl _)]; exact h2⟩
theorem IsMax.unique {l : List S57} {ms : List Int} {i : Nat} {M M' : Int} (h : IsMax l ms i M) (h' : IsMax l ms i M') : M = M' := by
  obtain ⟨a0, a1, a2⟩ := h
  obtain ⟨b0, b1, b2⟩ := h'
  have h1 : M ≤ M' := by
    rcases a1 with a1 | ⟨t, ht, hT, a1⟩
    · omega
    · have := b2 t ht hT; omega
  have h2 : M' ≤ M := by
    rcases b1 with b1 | ⟨t, ht, hT, b1⟩
    · omega
    · have := a2 t ht hT; omega
  omega
def EarlyP (l : List S57) (ms : List Int) (n : Nat) : Prop := ms.length = n ∧ ∀ i : Nat, i < n → EarlyAt l ms i
theorem ext_rd {xs ys : List Int} (h : xs.length = ys.length) (he : ∀ i : Nat, i < xs.length → rd xs i = rd ys i) : xs = ys := by
  apply List.ext_getElem h
  intro i h1 h2
  have := he i h1
  unfold rd at this
  rw [Int.toNat_natCast, List.getD_eq_getElem?_getD, List.getD_eq_getElem?_getD, List.getElem?_eq_getElem h1, List.getElem?_eq_getElem h2] at this
  exact this
theorem EarlyP.unique {l : List S57} {ms ms' : List Int} {n : Nat} (h : EarlyP l ms n) (h' : EarlyP l ms' n) : ms = ms' := by
  have hk : ∀ i : Nat, i < n → rd ms i = rd ms' i := by
    intro i
    induction i using Nat.strongRecOn with
    | ind i ih =>
      intro hi
      obtain ⟨M, h1, h2⟩ := h.2 i hi
      obtain ⟨M', h3, h4⟩ := h'.2 i hi
      have h5 := h3.congr (ms' := ms) (fun t ht => ih t ht (by omega))
      rw [h2, h4, h1.unique h5]
  exact ext_rd (h.1.trans h'.1.symm) (fun i hi => hk i (by rw [← h.1]; exact hi))
theorem early_m_le {o : S57} {M : Int} (h0 : 0 ≤ M) (h1 : M ≤ 1000000) : M ≤ early_m o M ∧ early_m o M ≤ M + 1 := by
  unfold early_m
  split
  · omega
  · unfold wrap64; omega
theorem EarlyP.bound {l : List S57} {ms : List Int} {n : Nat} (h : EarlyP l ms n) (hn : n ≤ 4096) : ∀ i : Nat, i < n → 0 ≤ rd ms i ∧ rd ms i ≤ i + 1 := by
  intro i
  induction i using Nat.strongRecOn with
  | ind i ih =>
    intro hi
    obtain ⟨M, ⟨a0, a1, a2⟩, h2⟩ := h.2 i hi
    have hM : M ≤ i := by
      rcases a1 with a1 | ⟨t, ht, hT, a1⟩
      · omega
      · have := ih t ht (by omega); omega
    have := early_m_le (o := rd_T57 l i) a0 (by omega)
    omega
theorem EarlyP.push {l : List S57} {ms : List Int} {n : Nat} {M : Int} (h : EarlyP l ms n) (hM : IsMax l ms n M) : EarlyP l (ms ++ [early_m (rd_T57 l n) M]) (n + 1) := by
  refine ⟨by simp [h.1], fun i hi => ?_⟩
  by_cases c : i < n
  · exact (h.2 i c).congr (fun t ht => rd_append_lt (by rw [h.1]; omega))
  · obtain rfl : i = n := by omega
    refine ⟨M, hM.congr (fun t ht => rd_append_lt (by rw [h.1]; omega)), ?_⟩
    have := rd_append_self (xs := ms) (x := early_m (rd_T57 l i) M)
    rwa [h.1] at this
def LastAt (l : List S57) (ms : List Int) (i : Nat) (last : List Int) : Prop := last.length = 128 ∧ ∀ w, 0 ≤ w → w < 128 → 0 ≤ rd last w ∧ (rd last w = 0 ∨ ∃ t : Nat, t < i ∧ w ∈ wl (rd_T57 l t) ∧ rd last w = rd ms t) ∧ ∀ t : Nat, t < i → w ∈ wl (rd_T57 l t) → rd ms t ≤ rd last w
theorem early_go_spec {a0 a1 : Int} {N : Nat} {l : List S57} (hL : Lim N l) (hN : N ≤ 17592186044410) (hM : May a0 a1 l) : ∀ (d i : Nat) (last out : List Int), i + d = l.length → EarlyP l out i → LastAt l out i last → ∃ ms, early_go last out (l.drop i) = some ms ∧ EarlyP l ms l.length
  | 0, i, last, out, hi, hE, hT => by
    rw [List.drop_of_length_le (by omega), early_go]
    obtain rfl : i = l.length := by omega
    exact ⟨out, rfl, hE⟩
  | d + 1, i, last, out, hi, hE, hT => by
    have c : i < l.length := by omega
    rw [List.drop_eq_getElem_cons c, ← rd_T57_at c, early_go]
    obtain ⟨h1, h2⟩ := hL.2 _ (rd_T57_mem c)
    have hlen := hM.2.2.2.2.1
    rw [wires_eq _ (by omega), Option.bind_some]
    have hr := wl_range (hM.2.2.2.2.2 _ (rd_T57_mem c)) hM.2.1 hM.2.2.2.1
    obtain ⟨M, h3, h4, h5, h6⟩ := wire_max_spec last (wl (rd_T57 l i)) 0 hr
    rw [h3, Option.bind_some]
    obtain ⟨last', h7, h8, h9⟩ := wire_set_spec (early_m (rd_T57 l i) M) (wl (rd_T57 l i)) last hT.1 hr
    rw [h7, Option.bind_some, if_pos (by rw [hE.1]; omega)]
    have hMx : IsMax l out i M := by
      refine ⟨h4, ?_, ?_⟩
      · rcases h5 with h5 | ⟨w, hw, h5⟩
        · exact .inl h5
        · obtain ⟨_, g1, _⟩ := hT.2 w (hr w hw).1 (hr w hw).2
          rcases g1 with g1 | ⟨t, g1, g2, g3⟩
          · exact .inl (h5.trans g1)
          · exact .inr ⟨t, g1, ⟨w, hw, g2⟩, h5.trans g3⟩
      · rintro t ht ⟨w, hw, hw2⟩
        obtain ⟨_, _, g2⟩ := hT.2 w (hr w hw).1 (hr w hw).2
        have := g2 t ht hw2
        have := h6 w hw
        omega
    have hE' := hE.push hMx
    have hb := hE'.bound (by omega)
    have hMb : M ≤ i := by
      rcases hMx.2.1 with g1 | ⟨t, ht, _, g1⟩
      · omega
      · have := hE.bound (by omega) t ht; omega
    have hme := early_m_le (o := rd_T57 l i) h4 (by omega)
    refine early_go_spec hL hN hM d (i + 1) last' (out ++ [early_m (rd_T57 l i) M]) (by omega) hE' ⟨h8, fun w hw0 hw1 => ?_⟩
    obtain ⟨g0, g1, g2⟩ := hT.2 w hw0 hw1
    obtain ⟨k1, k2⟩ := h9 w hw0 hw1
    have hself : rd (out ++ [early_m (rd_T57 l i) M]) i = early_m (rd_T57 l i) M := by
      have := rd_append_self (xs := out) (x := early_m (rd_T57 l i) M)
      rwa [hE.1] at this
    have hold : ∀ t : Nat, t < i → rd (out ++ [early_m (rd_T57 l i) M]) t = rd out t := fun t ht => rd_append_lt (by rw [hE.1]; exact ht)
    by_cases cw : w ∈ wl (rd_T57 l i)
    · rw [k1 cw]
      refine ⟨by omega, .inr ⟨i, by omega, cw, hself.symm⟩, fun t ht hw => ?_⟩
      by_cases e : t = i
      · subst e; omega
      · rw [hold t (by omega)]
        have := g2 t (by omega) hw
        have := h6 w cw
        omega
    · rw [k2 cw]
      refine ⟨g0, ?_, fun t ht hw => ?_⟩
      · rcases g1 with g1 | ⟨t, g1, g3, g4⟩
        · exact .inl g1
        · exact .inr ⟨t, by omega, g3, by rw [hold t g1]; exact g4⟩
      · by_cases e : t = i
        · subst e; exact absurd hw cw
        · rw [hold t (by omega)]
          exact g2 t (by omega) hw
theorem early_spec {a0 a1 : Int} {N : Nat} {l : List S57} (hL : Lim N l) (hN : N ≤ 17592186044410) (hM : May a0 a1 l) : ∃ ms, layers_early.f a0 a1 l = some ms ∧ EarlyP l ms l.length := by
  unfold layers_early.f
  refine early_go_spec hL hN hM l.length 0 (List.replicate 128 0) [] (by omega) ⟨rfl, fun i hi => absurd hi (by omega)⟩ ⟨by simp, fun w h0 h1 => ?_⟩
  have : rd (List.replicate 128 0) w = 0 := by
    unfold rd
    rw [List.getD_eq_getElem?_getD, List.getElem?_replicate]
    split <;> rfl
  exact ⟨by omega, .inl this, fun t ht => absurd ht (by omega)⟩
theorem ref_early_go {a0 a1 : Int} {N : Nat} {l : List S57} (hL : Lim N l) (hN : N ≤ 17592186044410) (hM : May a0 a1 l) : ∀ (d i : Nat) (ms : List Int) (k : Nat), i + d = l.length → EarlyP l ms i → d * (l.length + 2) + (N + 2) * (N + 4) + 1 < k → ∃ r, phasorref19_Early.l0 k ms (i : Int) a0 a1 l = some (r, 0) ∧ EarlyP l r l.length
  | 0, i, ms, k, hi, hE, h => by
    obtain ⟨k, rfl⟩ : ∃ m, k = m + 1 := ⟨k - 1, by omega⟩
    rw [phasorref19_Early.l0, if_neg (by omega)]
    obtain rfl : i = l.length := by omega
    exact ⟨ms, rfl, hE⟩
  | d + 1, i, ms, k, hi, hE, h => by
    rw [Nat.succ_mul] at h
    have hlen := hM.2.2.2.2.1
    obtain ⟨k, rfl⟩ : ∃ m, k = m + 1 := ⟨k - 1, by omega⟩
    have c : i < l.length := by omega
    have hin : ∀ (e j k : Nat) (m : Int), j + e = i → e + 1 + d * (l.length + 2) + (N + 2) * (N + 4) + 1 < k → (0 ≤ m ∧ (m = 0 ∨ ∃ t : Nat, t < j ∧ Tch (rd_T57 l i) (rd_T57 l t) ∧ m = rd ms t) ∧ ∀ t : Nat, t < j → Tch (rd_T57 l i) (rd_T57 l t) → rd ms t ≤ m) → ∃ r, phasorref19_Early.l1 k ms (i : Int) m (j : Int) a0 a1 l = some (r, 0) ∧ EarlyP l r l.length := by
      intro e
      induction e with
      | zero =>
        intro j k m hj hk hm
        obtain ⟨k, rfl⟩ : ∃ m, k = m + 1 := ⟨k - 1, by omega⟩
        obtain rfl : j = i := by omega
        have hp := EarlyP.push hE (M := m) hm
        rw [phasorref19_Early.l1, if_neg (by omega)]
        unfold phasorref19_bar.f
        rw [if_pos (by omega), if_pos (by omega), Option.bind_some, w1n c (by omega)]
        unfold early_m at hp
        by_cases c4 : (rd_T57 l j).f0 = 4
        · rw [if_pos (by rw [c4]; rfl), if_pos (by rw [hE.1]; omega)]
          rw [if_pos c4] at hp
          exact ref_early_go hL hN hM d (j + 1) _ k (by omega) hp (by omega)
        · rw [if_neg (by simpa using c4), if_pos (by rw [hE.1]; omega)]
          rw [if_neg c4] at hp
          exact ref_early_go hL hN hM d (j + 1) _ k (by omega) hp (by omega)
      | succ e ih =>
        intro j k m hj hk hm
        obtain ⟨k, rfl⟩ : ∃ m, k = m + 1 := ⟨k - 1, by omega⟩
        rw [phasorref19_Early.l1, if_pos (by omega)]
        obtain ⟨b, h1, h2⟩ := touch_spec a0 a1 N l hL hN hM i j c (by omega) k (by omega)
        rw [h1, Option.bind_some, w1n (by omega : j < l.length) (by omega)]
        obtain ⟨m0, m1, m2⟩ := hm
        by_cases cb : b = true
        · rw [if_pos cb, if_pos (by omega), if_pos (by rw [hE.1]; omega)]
          have hmx := mx_le m (rd ms j)
          refine ih (j + 1) k (mx m (rd ms j)) (by omega) (by omega) ⟨by omega, ?_, fun t ht hT => ?_⟩
          · rcases hmx.2.2 with g | g
            · rcases m1 with m1 | ⟨t, g1, g2, g3⟩
              · exact .inl (g.trans m1)
              · exact .inr ⟨t, by omega, g2, g.trans g3⟩
            · exact .inr ⟨j, by omega, h2.1 cb, g⟩
          · by_cases e2 : t = j
            · subst e2; omega
            · have := m2 t (by omega) hT; omega
        · rw [if_neg cb]
          refine ih (j + 1) k m (by omega) (by omega) ⟨m0, ?_, fun t ht hT => ?_⟩
          · rcases m1 with m1 | ⟨t, g1, g2, g3⟩
            · exact .inl m1
            · exact .inr ⟨t, by omega, g2, g3⟩
          · by_cases e2 : t = j
            · subst e2; exact absurd (h2.2 hT) cb
            · exact m2 t (by omega) hT
    rw [phasorref19_Early.l0, if_pos (by omega)]
    exact hin i 0 k 0 (by omega) (by omega) ⟨by omega, .inl rfl, fun t ht => absurd ht (by omega)⟩
def Big (N n k : Nat) : Prop := n * (n + 2) + n * (n + 2) + N * (N + 3) + (N + 2) * (N + 4) + 2 * n + 2 * N + 100 < k
theorem Early_yes {a0 a1 : Int} {N : Nat} {l : List S57} (hL : Lim N l) (hN : N ≤ 17592186044410) (hM : May a0 a1 l) {k : Nat} (hk : Big N l.length k) : ∃ ms, layers_Early.f k a0 a1 l = some (ms, 0) ∧ phasorref19_Early.f k a0 a1 l = some (ms, 0) ∧ EarlyP l ms l.length := by
  unfold Big at hk
  obtain ⟨c1, c2⟩ := checked_yes hL hM (k := k) (by omega)
  obtain ⟨ms, h1, h2⟩ := early_spec hL hN hM
  obtain ⟨ms', h3, h4⟩ := ref_early_go hL hN hM l.length 0 [] k (by omega) ⟨rfl, fun i hi => absurd hi (by omega)⟩ (by omega)
  obtain rfl := h2.unique h4
  unfold layers_Early.f phasorref19_Early.f
  rw [c1, c2, Option.bind_some, Option.bind_some, if_pos rfl, if_pos rfl, h1, Option.bind_some]
  exact ⟨ms, rfl, h3, h2⟩
theorem Early_no {a0 a1 : Int} {N : Nat} {l : List S57} (hL : Lim N l) (hM : ¬ May a0 a1 l) {k : Nat} (hk : Big N l.length k) : layers_Early.f k a0 a1 l = some ([], 80) ∧ phasorref19_Early.f k a0 a1 l = some ([], 80) := by
  unfold Big at hk
  obtain ⟨c1, c2⟩ := checked_no hL hM (k := k) (by omega)
  unfold layers_Early.f phasorref19_Early.f
  rw [c1, c2, Option.bind_some, Option.bind_some]
  exact ⟨rfl, rfl⟩
def IsTop (ms : List Int) (D : Int) : Prop := 0 ≤ D ∧ (D = 0 ∨ ∃ t : Nat, t < ms.length ∧ D = rd ms t) ∧ ∀ t : Nat, t < ms.length → rd ms t ≤ D
theorem IsTop.unique {ms : List Int} {D D' : Int} (h : IsTop ms D) (h' : IsTop ms D') : D = D' := by
  obtain ⟨a0, a1, a2⟩ := h
  obtain ⟨b0, b1, b2⟩ := h'
  have h1 : D ≤ D' := by
    rcases a1 with a1 | ⟨t, ht, a1⟩
    · omega
    · have := b2 t ht; omega
  have h2 : D' ≤ D := by
    rcases b1 with b1 | ⟨t, ht, b1⟩
    · omega
    · have := a2 t ht; omega
  omega
theorem max_go (ms : List Int) (hl : ms.length ≤ 9223372036854775807) : ∀ (k i : Nat) (m : Int), i ≤ ms.length → ms.length - i < k → (0 ≤ m ∧ (m = 0 ∨ ∃ t : Nat, t < i ∧ m = rd ms t) ∧ ∀ t : Nat, t < i → rd ms t ≤ m) → ∃ D, slices_Max_int_int.l0 k ms m (i : Int) = some D ∧ IsTop ms D
  | 0, i, m, _, h, _ => absurd h (by omega)
  | k + 1, i, m, hi, h, hm => by
    rw [slices_Max_int_int.l0]
    by_cases c : i < ms.length
    · rw [if_pos (by omega), if_pos (by omega), w1n c hl]
      have hlt : ms.length - (i + 1) < k := by omega
      obtain ⟨m0, m1, m2⟩ := hm
      have hmx := mx_le m (rd ms i)
      refine max_go ms hl k (i + 1) _ c hlt ⟨by omega, ?_, fun t ht => ?_⟩
      · rcases hmx.2.2 with g | g
        · rcases m1 with m1 | ⟨t, g1, g2⟩
          · exact .inl (g.trans m1)
          · exact .inr ⟨t, by omega, g.trans g2⟩
        · exact .inr ⟨i, by omega, g⟩
      · by_cases e : t = i
        · subst e; omega
        · have := m2 t (by omega); omega
    · rw [if_neg (by omega)]
      obtain rfl : i = ms.length := by omega
      exact ⟨m, rfl, hm⟩
theorem rmax_go (ms : List Int) (e0 : Int) (hl : ms.length ≤ 9223372036854775807) : ∀ (k i : Nat) (m : Int), i ≤ ms.length → ms.length - i < k → (0 ≤ m ∧ (m = 0 ∨ ∃ t : Nat, t < i ∧ m = rd ms t) ∧ ∀ t : Nat, t < i → rd ms t ≤ m) → ∃ D, phasorref19_Depth.l0 k ms e0 m (i : Int) = some (D, e0) ∧ IsTop ms D
  | 0, i, m, _, h, _ => absurd h (by omega)
  | k + 1, i, m, hi, h, hm => by
    rw [phasorref19_Depth.l0]
    by_cases c : i < ms.length
    · rw [if_pos (by omega), if_pos (by omega), w1n c hl]
      have hlt : ms.length - (i + 1) < k := by omega
      obtain ⟨m0, m1, m2⟩ := hm
      have hmx := mx_le m (rd ms i)
      refine rmax_go ms e0 hl k (i + 1) _ c hlt ⟨by omega, ?_, fun t ht => ?_⟩
      · rcases hmx.2.2 with g | g
        · rcases m1 with m1 | ⟨t, g1, g2⟩
          · exact .inl (g.trans m1)
          · exact .inr ⟨t, by omega, g.trans g2⟩
        · exact .inr ⟨i, by omega, g⟩
      · by_cases e : t = i
        · subst e; omega
        · have := m2 t (by omega); omega
    · rw [if_neg (by omega)]
      obtain rfl : i = ms.length := by omega
      exact ⟨m, rfl, hm⟩
theorem Depth_yes {a0 a1 : Int} {N : Nat} {l : List S57} (hL : Lim N l) (hN : N ≤ 17592186044410) (hM : May a0 a1 l) {k : Nat} (hk : Big N l.length k) : ∃ ms d, layers_Early.f k a0 a1 l = some (ms, 0) ∧ phasorref19_Early.f k a0 a1 l = some (ms, 0) ∧ EarlyP l ms l.length ∧ layers_Depth.f k a0 a1 l = some (d, 0) ∧ phasorref19_Depth.f k a0 a1 l = some (d, 0) ∧ IsTop ms d := by
  obtain ⟨ms, h1, h2, h3⟩ := Early_yes hL hN hM hk
  have hlen := hM.2.2.2.2.1
  have hml := h3.1
  have hb := h3.bound hlen
  have hk' := hk
  unfold Big at hk'
  obtain ⟨D, h4, h5⟩ := rmax_go ms 0 (by omega) k 0 0 (by omega) (by omega) ⟨by omega, .inl rfl, fun t ht => absurd ht (by omega)⟩
  refine ⟨ms, D, h1, h2, h3, ?_, ?_, h5⟩
  · unfold layers_Depth.f
    rw [h1, Option.bind_some, if_pos rfl]
    dsimp only
    by_cases c : ms.length = 0
    · rw [if_pos (by omega)]
      have : D = 0 := by
        rcases h5.2.1 with g | ⟨t, g, _⟩
        · exact g
        · omega
      rw [this]
    · rw [if_neg (by omega)]
      unfold slices_Max_int_int.f
      rw [if_neg (by omega), if_pos (by omega)]
      have h0 := hb 0 (by omega)
      have hz : ∀ t : Nat, t < 1 → rd ms t ≤ rd ms ((0 : Nat) : Int) := fun t ht => by
        obtain rfl : t = 0 := by omega
        exact Int.le_refl _
      obtain ⟨D', h6, h7⟩ := max_go ms (by omega) k 1 (rd ms ((0 : Nat) : Int)) (by omega) (by omega) ⟨h0.1, .inr ⟨0, by omega, rfl⟩, hz⟩
      rw [show slices_Max_int_int.l0 k ms (rd ms 0) 1 = some D' from h6, Option.bind_some, h5.unique h7]
  · unfold phasorref19_Depth.f
    rw [h2, Option.bind_some]
    exact h4
theorem Depth_no {a0 a1 : Int} {N : Nat} {l : List S57} (hL : Lim N l) (hM : ¬ May a0 a1 l) {k : Nat} (hk : Big N l.length k) : layers_Depth.f k a0 a1 l = some (0, 80) ∧ phasorref19_Depth.f k a0 a1 l = some (0, 80) := by
  obtain ⟨h1, h2⟩ := Early_no hL hM hk
  unfold Big at hk
  unfold layers_Depth.f phasorref19_Depth.f
  rw [h1, h2, Option.bind_some, Option.bind_some]
  refine ⟨rfl, ?_⟩
  obtain ⟨k, rfl⟩ : ∃ m, k = m + 1 := ⟨k - 1, by omega⟩
  rw [phasorref19_Depth.l0]
  rfl
theorem IsTop.bound {l : List S57} {ms : List Int} {D : Int} (h : IsTop ms D) (hE : EarlyP l ms l.length) (hn : l.length ≤ 4096) : 0 ≤ D ∧ D ≤ 4096 := by
  obtain ⟨a0, a1, _⟩ := h
  refine ⟨a0, ?_⟩
  rcases a1 with a1 | ⟨t, ht, a1⟩
  · omega
  · have h1 := hE.1
    have := hE.bound hn t (by omega)
    omega
theorem mn_le (a b : Int) : mn a b ≤ a ∧ mn a b ≤ b ∧ (mn a b = a ∨ mn a b = b) := by unfold mn; split <;> omega
theorem wire_min_spec (last : List Int) : ∀ (ws : List Int) (m : Int), (∀ w ∈ ws, 0 ≤ w ∧ w < 128) → ∃ M, wire_min last m ws = some M ∧ M ≤ m ∧ (M = m ∨ ∃ w ∈ ws, M = rd last w) ∧ ∀ w ∈ ws, M ≤ rd last w
  | [], m, _ => ⟨m, rfl, Int.le_refl _, .inl rfl, fun w h => by cases h⟩
  | w :: ws, m, h => by
    rw [wire_min, if_pos (h w (List.mem_cons_self ..))]
    obtain ⟨M, h1, h2, h3, h4⟩ := wire_min_spec last ws (mn m (rd last w)) (fun x hx => h x (List.mem_cons_of_mem _ hx))
    have h5 := mn_le m (rd last w)
    refine ⟨M, h1, by omega, ?_, fun x hx => ?_⟩
    · rcases h3 with h3 | ⟨x, hx, h3⟩
      · rcases h5.2.2 with h6 | h6
        · exact .inl (h3.trans h6)
        · exact .inr ⟨w, List.mem_cons_self .., h3.trans h6⟩
      · exact .inr ⟨x, List.mem_cons_of_mem _ hx, h3⟩
    · rcases List.mem_cons.1 hx with rfl | hx
      · omega
      · exact h4 x hx
def IsMin (l : List S57) (d : Int) (ms : List Int) (i : Nat) (M : Int) : Prop := M ≤ d ∧ (M = d ∨ ∃ t : Nat, i < t ∧ t < l.length ∧ Tch (rd_T57 l i) (rd_T57 l t) ∧ M = late_m (rd_T57 l t) (rd ms t)) ∧ ∀ t : Nat, i < t → t < l.length → Tch (rd_T57 l i) (rd_T57 l t) → M ≤ late_m (rd_T57 l t) (rd ms t)
theorem IsMin.congr {l : List S57} {d : Int} {ms ms' : List Int} {i : Nat} {M : Int} (h : IsMin l d ms i M) (he : ∀ t : Nat, i < t → t < l.length → rd ms' t = rd ms t) : IsMin l d ms' i M := by
  obtain ⟨h0, h1, h2⟩ := h
  refine ⟨h0, ?_, fun t ht hl hT => by rw [he t ht hl]; exact h2 t ht hl hT⟩
  rcases h1 with h1 | ⟨t, ht, hl, hT, h1⟩
  · exact .inl h1
  · exact .inr ⟨t, ht, hl, hT, by rw [he t ht hl]; exact h1⟩
theorem IsMin.unique {l : List S57} {d : Int} {ms : List Int} {i : Nat} {M M' : Int} (h : IsMin l d ms i M) (h' : IsMin l d ms i M') : M = M' := by
  obtain ⟨a0, a1, a2⟩ := h
  obtain ⟨b0, b1, b2⟩ := h'
  have h1 : M ≤ M' := by
    rcases b1 with b1 | ⟨t, ht, hl, hT, b1⟩
    · omega
    · have := a2 t ht hl hT; omega
  have h2 : M' ≤ M := by
    rcases a1 with a1 | ⟨t, ht, hl, hT, a1⟩
    · omega
    · have := b2 t ht hl hT; omega
  omega
def LateP (l : List S57) (d : Int) (ms : List Int) (i : Nat) : Prop := ms.length = l.length ∧ ∀ t : Nat, i ≤ t → t < l.length → IsMin l d ms t (rd ms t)
theorem late_m_le {o : S57} {M : Int} (h0 : -1000000 ≤ M) (h1 : M ≤ 1000000) : M - 1 ≤ late_m o M ∧ late_m o M ≤ M := by
  unfold late_m
  split
  · omega
  · unfold wrap64; omega
theorem LateP.unique {l : List S57} {d : Int} {ms ms' : List Int} (h : LateP l d ms 0) (h' : LateP l d ms' 0) : ms = ms' := by
  have hk : ∀ n i : Nat, l.length - i = n → i < l.length → rd ms i = rd ms' i := by
    intro n
    induction n using Nat.strongRecOn with
    | ind n ih =>
      intro i hn hi
      have h1 := h.2 i (Nat.zero_le _) hi
      have h2 := (h'.2 i (Nat.zero_le _) hi).congr (ms' := ms) (fun t ht hl => ih (l.length - t) (by omega) t rfl hl)
      exact h1.unique h2
  exact ext_rd (h.1.trans h'.1.symm) (fun i hi => hk _ i rfl (by rw [← h.1]; exact hi))
theorem LateP.bound {l : List S57} {d : Int} {ms : List Int} {i : Nat} (h : LateP l d ms i) (hn : l.length ≤ 4096) (d0 : 0 ≤ d) (d1 : d ≤ 4096) : ∀ n t : Nat, l.length - t = n → i ≤ t → t < l.length → d - n ≤ rd ms t ∧ rd ms t ≤ d := by
  intro n
  induction n using Nat.strongRecOn with
  | ind n ih =>
    intro t hnt hit ht
    obtain ⟨a0, a1, a2⟩ := h.2 t hit ht
    refine ⟨?_, a0⟩
    rcases a1 with a1 | ⟨u, hu, hul, _, a1⟩
    · omega
    · have h1 := ih (l.length - u) (by omega) u rfl (by omega) hul
      have h2 := late_m_le (o := rd_T57 l u) (M := rd ms u) (by omega) (by omega)
      omega
def FreeAt (l : List S57) (d : Int) (ms : List Int) (i : Nat) (free : List Int) : Prop := free.length = 128 ∧ ∀ w, 0 ≤ w → w < 128 → rd free w ≤ d ∧ (rd free w = d ∨ ∃ t : Nat, i ≤ t ∧ t < l.length ∧ w ∈ wl (rd_T57 l t) ∧ rd free w = late_m (rd_T57 l t) (rd ms t)) ∧ ∀ t : Nat, i ≤ t → t < l.length → w ∈ wl (rd_T57 l t) → rd free w ≤ late_m (rd_T57 l t) (rd ms t)
theorem late_go_spec {a0 a1 : Int} {N : Nat} {l : List S57} {d : Int} (hL : Lim N l) (hN : N ≤ 17592186044410) (hM : May a0 a1 l) (d0 : 0 ≤ d) (d1 : d ≤ 4096) : ∀ (i : Nat) (free out : List Int), i ≤ l.length → LateP l d out i → FreeAt l d out i free → ∃ ms, late_go d l i free out = some ms ∧ LateP l d ms 0
  | 0, free, out, hi, hE, hT => ⟨out, rfl, hE⟩
  | i + 1, free, out, hi, hE, hT => by
    have c : i < l.length := by omega
    rw [late_go]
    obtain ⟨h1, h2⟩ := hL.2 _ (rd_T57_mem c)
    have hlen := hM.2.2.2.2.1
    rw [wires_eq _ (by omega), Option.bind_some]
    have hr := wl_range (hM.2.2.2.2.2 _ (rd_T57_mem c)) hM.2.1 hM.2.2.2.1
    obtain ⟨M, h3, h4, h5, h6⟩ := wire_min_spec free (wl (rd_T57 l i)) d hr
    rw [h3, Option.bind_some]
    obtain ⟨free', h7, h8, h9⟩ := wire_set_spec (late_m (rd_T57 l i) M) (wl (rd_T57 l i)) free hT.1 hr
    rw [h7, Option.bind_some]
    have hself : rd (out.set i M) i = M := by
      rw [rd_set (by omega) (by rw [hE.1]; exact c), if_pos rfl]
    have hold : ∀ t : Nat, i < t → rd (out.set i M) t = rd out t := fun t ht => by
      rw [rd_set (by omega) (by rw [hE.1]; exact c), if_neg (by omega)]
    have hMn : IsMin l d out i M := by
      refine ⟨h4, ?_, ?_⟩
      · rcases h5 with h5 | ⟨w, hw, h5⟩
        · exact .inl h5
        · obtain ⟨_, g1, _⟩ := hT.2 w (hr w hw).1 (hr w hw).2
          rcases g1 with g1 | ⟨t, g1, g2, g3, g4⟩
          · exact .inl (h5.trans g1)
          · exact .inr ⟨t, by omega, g2, ⟨w, hw, g3⟩, h5.trans g4⟩
      · rintro t ht hl ⟨w, hw, hw2⟩
        obtain ⟨_, _, g2⟩ := hT.2 w (hr w hw).1 (hr w hw).2
        have := g2 t (by omega) hl hw2
        have := h6 w hw
        omega
    have hE' : LateP l d (out.set i M) i := by
      refine ⟨by rw [List.length_set]; exact hE.1, fun t ht hl => ?_⟩
      by_cases e : t = i
      · subst e
        rw [hself]
        exact hMn.congr (fun u hu _ => hold u hu)
      · rw [hold t (by omega)]
        exact (hE.2 t (by omega) hl).congr (fun u hu _ => hold u (by omega))
    have hb := hE'.bound hlen d0 d1 (l.length - i) i rfl (Nat.le_refl _) c
    rw [hself] at hb
    have hme := late_m_le (o := rd_T57 l i) (M := M) (by omega) (by omega)
    refine late_go_spec hL hN hM d0 d1 i free' (out.set i M) (by omega) hE' ⟨h8, fun w hw0 hw1 => ?_⟩
    obtain ⟨g0, g1, g2⟩ := hT.2 w hw0 hw1
    obtain ⟨k1, k2⟩ := h9 w hw0 hw1
    by_cases cw : w ∈ wl (rd_T57 l i)
    · rw [k1 cw]
      refine ⟨by omega, .inr ⟨i, Nat.le_refl _, c, cw, by rw [hself]⟩, fun t ht hl hw => ?_⟩
      by_cases e : t = i
      · subst e; rw [hself]; exact Int.le_refl _
      · rw [hold t (by omega)]
        have := g2 t (by omega) hl hw
        have := h6 w cw
        omega
    · rw [k2 cw]
      refine ⟨g0, ?_, fun t ht hl hw => ?_⟩
      · rcases g1 with g1 | ⟨t, g1, g3, g4, g5⟩
        · exact .inl g1
        · exact .inr ⟨t, by omega, g3, g4, by rw [hold t (by omega)]; exact g5⟩
      · by_cases e : t = i
        · subst e; exact absurd hw cw
        · rw [hold t (by omega)]
          exact g2 t (by omega) hl hw
theorem wm1 (i : Nat) (h : i ≤ 9223372036854775807) : wrap64 ((i : Int) - 1) = (i : Int) - 1 := by unfold wrap64; omega
theorem ref_late_go {a0 a1 : Int} {N : Nat} {l : List S57} {d : Int} (hL : Lim N l) (hN : N ≤ 17592186044410) (hM : May a0 a1 l) : ∀ (i : Nat) (ms : List Int) (k : Nat), i ≤ l.length → LateP l d ms i → i * (l.length + 2) + (N + 2) * (N + 4) + 1 < k → ∃ r, phasorref19_Late.l0 k d ms ((i : Int) - 1) a0 a1 l = some (r, 0) ∧ LateP l d r 0
  | 0, ms, k, hi, hE, h => by
    obtain ⟨k, rfl⟩ : ∃ m, k = m + 1 := ⟨k - 1, by omega⟩
    rw [phasorref19_Late.l0, if_neg (by omega)]
    exact ⟨ms, rfl, hE⟩
  | i + 1, ms, k, hi, hE, h => by
    rw [Nat.succ_mul] at h
    have hlen := hM.2.2.2.2.1
    have c : i < l.length := by omega
    obtain ⟨k, rfl⟩ : ∃ m, k = m + 1 := ⟨k - 1, by omega⟩
    have hin : ∀ (e j k : Nat) (ms : List Int), j + e = l.length → i < j → LateP l d ms (i + 1) → e + 1 + i * (l.length + 2) + (N + 2) * (N + 4) + 1 < k → (rd ms i ≤ d ∧ (rd ms i = d ∨ ∃ t : Nat, i < t ∧ t < j ∧ Tch (rd_T57 l i) (rd_T57 l t) ∧ rd ms i = late_m (rd_T57 l t) (rd ms t)) ∧ ∀ t : Nat, i < t → t < j → Tch (rd_T57 l i) (rd_T57 l t) → rd ms i ≤ late_m (rd_T57 l t) (rd ms t)) → ∃ r, phasorref19_Late.l1 k d ms (i : Int) (j : Int) a0 a1 l = some (r, 0) ∧ LateP l d r 0 := by
      intro e
      induction e with
      | zero =>
        intro j k ms hj hij hE hk hm
        obtain ⟨k, rfl⟩ : ∃ m, k = m + 1 := ⟨k - 1, by omega⟩
        obtain rfl : j = l.length := by omega
        rw [phasorref19_Late.l1, if_neg (by rw [hE.1]; omega), wm1 _ (by omega)]
        refine ref_late_go hL hN hM i ms k (by omega) ⟨hE.1, fun t ht hl => ?_⟩ (by omega)
        by_cases e : t = i
        · subst e
          exact ⟨hm.1, by rcases hm.2.1 with g | ⟨u, g1, g2, g3⟩
                          · exact .inl g
                          · exact .inr ⟨u, g1, g2, g3⟩, hm.2.2⟩
        · exact hE.2 t (by omega) hl
      | succ e ih =>
        intro j k ms hj hij hE hk hm
        obtain ⟨k, rfl⟩ : ∃ m, k = m + 1 := ⟨k - 1, by omega⟩
        have hjl : j < l.length := by omega
        rw [phasorref19_Late.l1, if_pos (by rw [hE.1]; omega)]
        obtain ⟨b, h1, h2⟩ := touch_spec a0 a1 N l hL hN hM i j c hjl k (by omega)
        have hk' : e + 1 + i * (l.length + 2) + (N + 2) * (N + 4) + 1 < k := by omega
        rw [h1, Option.bind_some, w1n hjl (by omega)]
        obtain ⟨m0, m1, m2⟩ := hm
        by_cases cb : b = true
        · rw [if_pos cb]
          have hset : ∀ v : Int, v = mn (rd ms i) (late_m (rd_T57 l j) (rd ms j)) → ∃ r, phasorref19_Late.l1 k d (ms.set i v) (i : Int) ((j + 1 : Nat) : Int) a0 a1 l = some (r, 0) ∧ LateP l d r 0 := by
            intro v hv
            have hself : rd (ms.set i v) i = v := by rw [rd_set (by omega) (by rw [hE.1]; exact c), if_pos rfl]
            have hold : ∀ t : Nat, i < t → rd (ms.set i v) t = rd ms t := fun t ht => by rw [rd_set (by omega) (by rw [hE.1]; exact c), if_neg (by omega)]
            have hmn := mn_le (rd ms i) (late_m (rd_T57 l j) (rd ms j))
            refine ih (j + 1) k (ms.set i v) (by omega) (by omega) ⟨by rw [List.length_set]; exact hE.1, fun t ht hl => ?_⟩ hk' ⟨by rw [hself]; omega, ?_, fun t ht htj hT => ?_⟩
            · rw [hold t (by omega)]
              exact (hE.2 t ht hl).congr (fun u hu _ => hold u (by omega))
            · rw [hself]
              rcases hmn.2.2 with g | g
              · rcases m1 with m1 | ⟨t, g1, g2, g3, g4⟩
                · exact .inl (hv.trans (g.trans m1))
                · exact .inr ⟨t, g1, by omega, g3, by rw [hold t g1]; exact hv.trans (g.trans g4)⟩
              · exact .inr ⟨j, hij, by omega, h2.1 cb, by rw [hold j hij]; exact hv.trans g⟩
            · rw [hself, hold t ht]
              by_cases e2 : t = j
              · subst e2; omega
              · have := m2 t ht (by omega) hT; omega
          unfold phasorref19_bar.f
          rw [if_pos (by omega), if_pos (by omega), Option.bind_some]
          unfold late_m at hset
          by_cases c4 : (rd_T57 l j).f0 = 4
          · rw [if_pos (by rw [c4]; rfl), if_pos (by omega), if_pos (by rw [hE.1]; omega), if_pos (by omega), Int.toNat_natCast]
            rw [if_pos c4] at hset
            exact hset _ rfl
          · rw [if_neg (by simpa using c4), if_pos (by omega), if_pos (by rw [hE.1]; omega), if_pos (by omega), Int.toNat_natCast]
            rw [if_neg c4] at hset
            exact hset _ rfl
        · rw [if_neg cb]
          refine ih (j + 1) k ms (by omega) (by omega) hE hk' ⟨m0, ?_, fun t ht htj hT => ?_⟩
          · rcases m1 with m1 | ⟨t, g1, g2, g3, g4⟩
            · exact .inl m1
            · exact .inr ⟨t, g1, by omega, g3, g4⟩
          · by_cases e2 : t = j
            · subst e2; exact absurd (h2.2 hT) cb
            · exact m2 t ht (by omega) hT
    have hx : ((i + 1 : Nat) : Int) - 1 = (i : Int) := by omega
    rw [hx, phasorref19_Late.l0, if_pos (by omega), if_pos (by omega), if_pos (by rw [hE.1]; omega), Int.toNat_natCast, w1n c (by omega)]
    have hself : rd (ms.set i d) i = d := by rw [rd_set (by omega) (by rw [hE.1]; exact c), if_pos rfl]
    have hold : ∀ t : Nat, i < t → rd (ms.set i d) t = rd ms t := fun t ht => by rw [rd_set (by omega) (by rw [hE.1]; exact c), if_neg (by omega)]
    refine hin (l.length - (i + 1)) (i + 1) k (ms.set i d) (by omega) (by omega) ⟨by rw [List.length_set]; exact hE.1, fun t ht hl => ?_⟩ (by omega) ⟨by rw [hself]; exact Int.le_refl _, .inl hself, fun t ht h2 => absurd h2 (by omega)⟩
    rw [hold t (by omega)]
    exact (hE.2 t ht hl).congr (fun u hu _ => hold u (by omega))
theorem Late_yes {a0 a1 : Int} {N : Nat} {l : List S57} (hL : Lim N l) (hN : N ≤ 17592186044410) (hM : May a0 a1 l) {k : Nat} (hk : Big N l.length k) : ∃ ms, layers_Late.f k a0 a1 l = some (ms, 0) ∧ phasorref19_Late.f k a0 a1 l = some (ms, 0) ∧ ms.length = l.length := by
  obtain ⟨es, d, _, _, hE, h1, h2, h3⟩ := Depth_yes hL hN hM hk
  have hlen := hM.2.2.2.2.1
  obtain ⟨d0, d1⟩ := h3.bound hE hlen
  unfold Big at hk
  have hnone : LateP l d (List.replicate l.length 0) l.length := ⟨by simp, fun t ht hl => absurd hl (by omega)⟩
  have hrep : ∀ w, 0 ≤ w → w < 128 → rd (List.replicate 128 d) w = d := fun w h0 h1 => by
    unfold rd
    rw [List.getD_eq_getElem?_getD, List.getElem?_replicate, if_pos (by omega)]
    rfl
  obtain ⟨ms, h4, h5⟩ := late_go_spec hL hN hM d0 d1 l.length (List.replicate 128 d) (List.replicate l.length 0) (Nat.le_refl _) hnone ⟨by simp, fun w w0 w1 => ⟨by rw [hrep w w0 w1]; exact Int.le_refl _, .inl (hrep w w0 w1), fun t ht hl => absurd hl (by omega)⟩⟩
  obtain ⟨ms', h6, h7⟩ := ref_late_go (d := d) hL hN hM l.length (List.replicate l.length 0) k (Nat.le_refl _) hnone (by omega)
  obtain rfl := h5.unique h7
  refine ⟨ms, ?_, ?_, h5.1⟩
  · unfold layers_Late.f
    rw [h1, Option.bind_some, if_pos rfl, if_pos (by omega), h4]
    rfl
  · unfold phasorref19_Late.f
    rw [h2, Option.bind_some, if_pos rfl, if_pos (by omega), if_pos (by omega), Option.bind_some]
    rw [show ((l.length : Int)).toNat = l.length from Int.toNat_natCast _, List.length_replicate, wm1 _ (by omega)]
    exact h6
theorem Late_no {a0 a1 : Int} {N : Nat} {l : List S57} (hL : Lim N l) (hM : ¬ May a0 a1 l) {k : Nat} (hk : Big N l.length k) : layers_Late.f k a0 a1 l = some ([], 80) ∧ phasorref19_Late.f k a0 a1 l = some ([], 80) := by
  obtain ⟨h1, h2⟩ := Depth_no hL hM hk
  unfold layers_Late.f phasorref19_Late.f
  rw [h1, h2, Option.bind_some, Option.bind_some]
  exact ⟨rfl, rfl⟩
theorem reverse_go (xs : List Int) (hl : xs.length ≤ 4611686018427387904) : ∀ (k i : Nat) (ys : List Int), ys.length = xs.length → 2 * i ≤ xs.length + 1 → xs.length - i < k → (∀ t : Nat, t < xs.length → rd ys t = if t < i ∨ xs.length ≤ t + i then rd xs ((xs.length - 1 - t : Nat) : Int) else rd xs t) → slices_Reverse_int_int.l0 k ys (i : Int) ((xs.length : Int) - 1 - i) = some xs.reverse
  | 0, i, ys, _, _, h, _ => absurd h (by omega)
  | k + 1, i, ys, hy, hi, h, hm => by
    rw [slices_Reverse_int_int.l0]
    by_cases c : (i : Int) < (xs.length : Int) - 1 - i
    · have hj : (xs.length : Int) - 1 - i = ((xs.length - 1 - i : Nat) : Int) := by omega
      rw [if_pos c, if_pos (by omega), if_pos (by omega), if_pos (by omega), if_pos (by omega), w1n (by omega : i < xs.length) (by omega)]
      rw [show wrap64 ((xs.length : Int) - 1 - i - 1) = (xs.length : Int) - 1 - ((i + 1 : Nat) : Int) from by unfold wrap64; omega]
      rw [hj, Int.toNat_natCast, Int.toNat_natCast]
      refine reverse_go xs hl k (i + 1) _ (by rw [List.length_set, List.length_set]; exact hy) (by omega) (by omega) (fun t ht => ?_)
      rw [rd_set (by omega) (by rw [List.length_set]; omega), rd_set (by omega) (by omega)]
      have h1 := hm t ht
      have h2 := hm i (by omega)
      have h3 := hm (xs.length - 1 - i) (by omega)
      rw [if_neg (by omega)] at h2
      rw [if_neg (by omega)] at h3
      by_cases e1 : t = xs.length - 1 - i
      · rw [if_pos (by omega), if_pos (by omega), h2]
        congr 1
        omega
      · rw [if_neg (by omega)]
        by_cases e2 : t = i
        · rw [if_pos (by omega), if_pos (by omega), h3]
          congr 1
          omega
        · rw [if_neg (by omega), h1]
          by_cases e3 : t < i ∨ xs.length ≤ t + i
          · rw [if_pos e3, if_pos (by omega)]
          · rw [if_neg e3, if_neg (by omega)]
    · rw [if_neg c]
      congr 1
      refine ext_rd (by rw [List.length_reverse]; exact hy) (fun t ht => ?_)
      have hr : rd xs.reverse (t : Int) = rd xs ((xs.length - 1 - t : Nat) : Int) := by
        unfold rd
        rw [Int.toNat_natCast, Int.toNat_natCast, List.getD_eq_getElem?_getD, List.getD_eq_getElem?_getD, List.getElem?_reverse (by omega)]
      rw [hr, hm t (by omega)]
      by_cases e3 : t < i ∨ xs.length ≤ t + i
      · rw [if_pos e3]
      · rw [if_neg e3]
        congr 1
        omega
theorem reverse_spec (xs : List Int) (hl : xs.length ≤ 4611686018427387904) (k : Nat) (hk : xs.length < k) : slices_Reverse_int_int.f k xs = some xs.reverse := by
  unfold slices_Reverse_int_int.f
  have h1 : wrap64 ((xs.length : Int) - 1) = (xs.length : Int) - 1 - ((0 : Nat) : Int) := by unfold wrap64; omega
  rw [h1]
  exact reverse_go xs hl k 0 xs rfl (by omega) (by omega) (fun t ht => by rw [if_neg (by omega)])
theorem pigeon : ∀ (n : Nat) (xs : List Int), xs.Nodup → (∀ x ∈ xs, 0 ≤ x ∧ x < n) → xs.length ≤ n
  | 0, xs, _, h => by
    cases xs with
    | nil => exact Nat.le_refl _
    | cons x xs => have := h x (List.mem_cons_self ..); omega
  | n + 1, xs, hd, h => by
    have h1 := pigeon n (xs.erase (n : Int)) (hd.erase _) (fun x hx => by
      have h2 := (hd.mem_erase_iff).1 hx
      have h3 := h x h2.2
      have := h2.1
      omega)
    have h2 := List.length_erase (a := (n : Int)) (l := xs)
    split at h2 <;> omega
theorem Uq.nodup {xs : List Int} {n : Int} (h : Uq xs n 0) : xs.Nodup := by
  rw [List.nodup_iff_pairwise_ne, List.pairwise_iff_getElem]
  intro i j hi hj hij e
  refine h j (Nat.zero_le _) hj (.inr (.inr ⟨i, hij, ?_⟩))
  unfold rd
  rw [Int.toNat_natCast, Int.toNat_natCast, List.getD_eq_getElem?_getD, List.getD_eq_getElem?_getD, List.getElem?_eq_getElem hi, List.getElem?_eq_getElem hj, e]
theorem Uq.len {xs : List Int} {n : Int} (h : Uq xs n 0) (hn : n ≤ 64) : xs.length ≤ 64 := pigeon 64 xs h.nodup (fun x hx => by have := h.range x hx; omega)
theorem may_len {o : S57} {n m : Int} (h : MayOp o n m) (hn : n ≤ 64) : o.f2.length ≤ 64 := by
  rcases h with ⟨_, ⟨_, _, hu⟩, _⟩ | ⟨_, _, _, _, _, hu, _⟩
  · exact hu.len hn
  · exact hu.len hn
theorem rdB_set {xs : List Bool} {i : Nat} {w : Int} {v : Bool} (h0 : 0 ≤ w) (hi : i < xs.length) : rdOf false (xs.set i v) w = if w = i then v else rdOf false xs w := by
  unfold rdOf
  rw [List.getD_eq_getElem?_getD, List.getD_eq_getElem?_getD, List.getElem?_set]
  by_cases c : w = i
  · rw [if_pos c, if_pos (by omega), if_pos hi]; rfl
  · rw [if_neg c, if_neg (by omega)]
def Marks (m : List Bool) (S : Int → Prop) : Prop := m.length = 128 ∧ ∀ w, 0 ≤ w → w < 128 → (rdOf false m w = true ↔ S w)
theorem Marks.set {m : List Bool} {S : Int → Prop} {x : Int} (h : Marks m S) (h0 : 0 ≤ x) (h1 : x < 128) : Marks (m.set x.toNat true) (fun w => S w ∨ w = x) := by
  refine ⟨by rw [List.length_set]; exact h.1, fun w w0 w1 => ?_⟩
  rw [rdB_set w0 (by rw [h.1]; omega)]
  by_cases c : w = x
  · rw [if_pos (by omega)]
    exact iff_of_true rfl (.inr c)
  · rw [if_neg (by omega), h.2 w w0 w1]
    exact ⟨.inl, fun g => g.resolve_right c⟩
theorem Marks.congr {m : List Bool} {S T : Int → Prop} (h : Marks m S) (he : ∀ w, 0 ≤ w → w < 128 → (S w ↔ T w)) : Marks m T := ⟨h.1, fun w w0 w1 => (h.2 w w0 w1).trans (he w w0 w1)⟩
theorem mark_all_spec : ∀ (ws : List Int) (m : List Bool) (S : Int → Prop), Marks m S → (∀ w ∈ ws, 0 ≤ w ∧ w < 128) → ∃ m', mark_all m ws = some m' ∧ Marks m' (fun w => S w ∨ w ∈ ws)
  | [], m, S, h, _ => ⟨m, rfl, h.congr (fun w _ _ => ⟨.inl, fun g => g.resolve_right List.not_mem_nil⟩)⟩
  | x :: ws, m, S, h, hr => by
    have hx := hr x (List.mem_cons_self ..)
    rw [mark_all, if_pos hx]
    obtain ⟨m', h1, h2⟩ := mark_all_spec ws _ _ (h.set hx.1 hx.2) (fun w hw => hr w (List.mem_cons_of_mem _ hw))
    exact ⟨m', h1, h2.congr (fun w _ _ => by rw [List.mem_cons, or_assoc])⟩
theorem wire_at_spec (m : List Bool) (S : Int → Prop) (h : Marks m S) : ∀ (ws : List Int) (i : Int), 0 ≤ i → (∀ w ∈ ws, 0 ≤ w ∧ w < 128) → ∃ j, wire_at m i ws = some j ∧ (0 ≤ j ↔ ∃ w ∈ ws, S w)
  | [], i, _, _ => ⟨-1, rfl, iff_of_false (by decide) (fun ⟨w, hw, _⟩ => by cases hw)⟩
  | x :: ws, i, hi, hr => by
    have hx := hr x (List.mem_cons_self ..)
    rw [wire_at, if_pos hx]
    by_cases c : rdOf false m x = true
    · rw [if_pos c]
      exact ⟨i, rfl, iff_of_true hi ⟨x, List.mem_cons_self .., (h.2 x hx.1 hx.2).1 c⟩⟩
    · rw [if_neg c]
      obtain ⟨j, h1, h2⟩ := wire_at_spec m S h ws (i + 1) (by omega) (fun w hw => hr w (List.mem_cons_of_mem _ hw))
      refine ⟨j, h1, h2.trans ⟨fun ⟨w, hw, hs⟩ => ⟨w, List.mem_cons_of_mem _ hw, hs⟩, fun ⟨w, hw, hs⟩ => ?_⟩⟩
      rcases List.mem_cons.1 hw with rfl | hw
      · exact absurd ((h.2 w hx.1 hx.2).2 hs) c
      · exact ⟨w, hw, hs⟩
theorem cone_init_go (n : Int) (hn : n ≤ 64) (qs : List Int) : ∀ (d i : Nat) (m : List Bool), i + d = qs.length → Marks m (fun w => ∃ t : Nat, t < i ∧ rd qs t = w) → (Uq qs n i → ∃ m', cone_init n m (qs.drop i) = some (some m') ∧ Marks m' (fun w => w ∈ qs)) ∧ (¬ Uq qs n i → cone_init n m (qs.drop i) = some none)
  | 0, i, m, hi, h => by
    rw [List.drop_of_length_le (by omega), cone_init]
    refine ⟨fun _ => ⟨m, rfl, h.congr (fun w _ _ => ⟨fun ⟨t, h1, h2⟩ => h2 ▸ rd_mem (by omega), fun hw => ?_⟩)⟩, fun hu => absurd (Uq.last (by omega)) hu⟩
    obtain ⟨t, h1, h2⟩ := rd_mem_exists hw
    exact ⟨t, by omega, h2⟩
  | d + 1, i, m, hi, h => by
    have c : i < qs.length := by omega
    have e : qs[i] = rd qs i := by unfold rd; rw [Int.toNat_natCast, List.getD_eq_getElem?_getD, List.getElem?_eq_getElem c]; rfl
    rw [List.drop_eq_getElem_cons c, e, cone_init, Uq.step c]
    by_cases c1 : rd qs i < 0 ∨ n ≤ rd qs i
    · rw [if_pos c1]
      have hb : Bad qs n i := by
        rcases c1 with g | g
        · exact .inl g
        · exact .inr (.inl g)
      exact ⟨fun hu => absurd hb hu.1, fun _ => rfl⟩
    · rw [if_neg c1, if_pos (by omega)]
      have h0 : 0 ≤ rd qs i := by omega
      have h1 : rd qs i < 128 := by omega
      by_cases c2 : rdOf false m (rd qs i) = true
      · rw [if_pos c2]
        exact ⟨fun hu => absurd (.inr (.inr ((h.2 _ h0 h1).1 c2))) hu.1, fun _ => rfl⟩
      · rw [if_neg c2]
        have hnb : ¬ Bad qs n i := by
          rintro (g | g | g)
          · exact c1 (.inl g)
          · exact c1 (.inr g)
          · exact c2 ((h.2 _ h0 h1).2 g)
        obtain ⟨k1, k2⟩ := cone_init_go n hn qs d (i + 1) (m.set (rd qs i).toNat true) (by omega) ((h.set h0 h1).congr (fun w _ _ => ⟨fun g => by
          rcases g with ⟨t, g1, g2⟩ | g
          · exact ⟨t, by omega, g2⟩
          · exact ⟨i, by omega, g.symm⟩, fun ⟨t, g1, g2⟩ => by
          by_cases e2 : t = i
          · subst e2; exact .inr g2.symm
          · exact .inl ⟨t, by omega, g2⟩⟩))
        exact ⟨fun hu => k1 hu.2, fun hu => k2 (fun g => hu ⟨hnb, g⟩)⟩
def ci (l : List S57) (back : Bool) (x : Nat) : Nat := if back = true then l.length - 1 - x else x
theorem ci_lt {l : List S57} {back : Bool} {x : Nat} (h : x < l.length) : ci l back x < l.length := by unfold ci; split <;> omega
theorem ci_eq {l : List S57} {back : Bool} {x : Nat} (h : x < l.length) : cone_i l back (x : Int) = (ci l back x : Int) := by unfold cone_i ci; split <;> omega
inductive Sel (l : List S57) (qs : List Int) (back : Bool) : Nat → Prop where
  | first (x : Nat) (w : Int) (h4 : (rd_T57 l (ci l back x)).f0 ≠ 4) (hw : w ∈ wl (rd_T57 l (ci l back x))) (hq : w ∈ qs) : Sel l qs back x
  | next (x y : Nat) (w : Int) (h4 : (rd_T57 l (ci l back x)).f0 ≠ 4) (hw : w ∈ wl (rd_T57 l (ci l back x))) (hy : y < x) (hs : Sel l qs back y) (hv : w ∈ wl (rd_T57 l (ci l back y))) : Sel l qs back x
def MSet (l : List S57) (qs : List Int) (back : Bool) (x : Nat) (w : Int) : Prop := w ∈ qs ∨ ∃ y, y < x ∧ Sel l qs back y ∧ w ∈ wl (rd_T57 l (ci l back y))
theorem Sel.iff {l : List S57} {qs : List Int} {back : Bool} {x : Nat} : Sel l qs back x ↔ (rd_T57 l (ci l back x)).f0 ≠ 4 ∧ ∃ w ∈ wl (rd_T57 l (ci l back x)), MSet l qs back x w := by
  constructor
  · intro h
    rcases h with ⟨_, w, h4, hw, hq⟩ | ⟨_, y, w, h4, hw, hy, hs, hv⟩
    · exact ⟨h4, w, hw, .inl hq⟩
    · exact ⟨h4, w, hw, .inr ⟨y, hy, hs, hv⟩⟩
  · rintro ⟨h4, w, hw, hq | ⟨y, hy, hs, hv⟩⟩
    · exact .first x w h4 hw hq
    · exact .next x y w h4 hw hy hs hv
theorem MSet.succ {l : List S57} {qs : List Int} {back : Bool} {x : Nat} {w : Int} : MSet l qs back (x + 1) w ↔ MSet l qs back x w ∨ (Sel l qs back x ∧ w ∈ wl (rd_T57 l (ci l back x))) := by
  constructor
  · rintro (h | ⟨y, hy, hs, hv⟩)
    · exact .inl (.inl h)
    · by_cases e : y = x
      · subst e; exact .inr ⟨hs, hv⟩
      · exact .inl (.inr ⟨y, by omega, hs, hv⟩)
  · rintro ((h | ⟨y, hy, hs, hv⟩) | ⟨hs, hv⟩)
    · exact .inl h
    · exact .inr ⟨y, by omega, hs, hv⟩
    · exact .inr ⟨x, by omega, hs, hv⟩
open Classical in
noncomputable def taken (l : List S57) (qs : List Int) (back : Bool) (x : Nat) : List Nat := (List.range x).filter (fun y => decide (Sel l qs back y))
theorem taken_len {l : List S57} {qs : List Int} {back : Bool} {x : Nat} : (taken l qs back x).length ≤ x := by
  unfold taken
  have := List.length_filter_le (fun y => @decide (Sel l qs back y) (Classical.propDecidable _)) (List.range x)
  rwa [List.length_range] at this
theorem taken_succ_yes {l : List S57} {qs : List Int} {back : Bool} {x : Nat} (h : Sel l qs back x) : taken l qs back (x + 1) = taken l qs back x ++ [x] := by
  unfold taken
  rw [List.range_succ, List.filter_append]
  simp [h]
theorem taken_succ_no {l : List S57} {qs : List Int} {back : Bool} {x : Nat} (h : ¬ Sel l qs back x) : taken l qs back (x + 1) = taken l qs back x := by
  unfold taken
  rw [List.range_succ, List.filter_append]
  simp [h]
theorem cone_go_spec {a0 a1 : Int} {l : List S57} (hM : May a0 a1 l) (qs : List Int) (back : Bool) : ∀ (r x : Nat) (m : List Bool), x + r = l.length → Marks m (MSet l qs back x) → cone_go l back r (x : Int) m ((taken l qs back x).map (fun y => (ci l back y : Int))) = some ((taken l qs back l.length).map (fun y => (ci l back y : Int)))
  | 0, x, m, hx, h => by
    obtain rfl : x = l.length := by omega
    rw [cone_go]
  | r + 1, x, m, hx, h => by
    have c : x < l.length := by omega
    have hlen := hM.2.2.2.2.1
    have hci := ci_lt (back := back) c
    have hmay := hM.2.2.2.2.2 _ (rd_T57_mem hci)
    have hf2 := may_len hmay hM.2.1
    have hr := wl_range hmay hM.2.1 hM.2.2.2.1
    have htl := taken_len (l := l) (qs := qs) (back := back) (x := x)
    rw [cone_go, ci_eq c, wires_eq _ (by omega), Option.bind_some]
    rw [show (x : Int) + 1 = ((x + 1 : Nat) : Int) from rfl]
    by_cases c4 : (rd_T57 l (ci l back x)).f0 = 4
    · rw [if_pos c4]
      have hns : ¬ Sel l qs back x := fun g => (Sel.iff.1 g).1 c4
      have := cone_go_spec hM qs back r (x + 1) m (by omega) (h.congr (fun w _ _ => ⟨fun g => MSet.succ.2 (.inl g), fun g => (MSet.succ.1 g).resolve_right (fun k => hns k.1)⟩))
      rwa [taken_succ_no hns] at this
    · rw [if_neg c4]
      obtain ⟨j, h1, h2⟩ := wire_at_spec m _ h (wl (rd_T57 l (ci l back x))) 0 (by omega) hr
      rw [h1, Option.bind_some]
      by_cases cj : 0 ≤ j
      · have hs : Sel l qs back x := Sel.iff.2 ⟨c4, h2.1 cj⟩
        rw [if_pos cj]
        obtain ⟨m', h3, h4⟩ := mark_all_spec (wl (rd_T57 l (ci l back x))) m _ h hr
        rw [h3, Option.bind_some, if_pos (by rw [List.length_map]; omega)]
        have := cone_go_spec hM qs back r (x + 1) m' (by omega) (h4.congr (fun w _ _ => ⟨fun g => MSet.succ.2 (g.imp id (fun k => ⟨hs, k⟩)), fun g => (MSet.succ.1 g).imp id (fun k => k.2)⟩))
        rw [taken_succ_yes hs, List.map_append] at this
        exact this
      · have hns : ¬ Sel l qs back x := fun g => cj (h2.2 (Sel.iff.1 g).2)
        rw [if_neg cj]
        have := cone_go_spec hM qs back r (x + 1) m (by omega) (h.congr (fun w _ _ => ⟨fun g => MSet.succ.2 (.inl g), fun g => (MSet.succ.1 g).resolve_right (fun k => hns k.1)⟩))
        rwa [taken_succ_no hns] at this
def inList (ins : List Bool) (n : Nat) : List Int := ((List.range n).filter (fun t : Nat => rdOf false ins (t : Int))).map (fun t : Nat => (t : Int))
theorem inList_succ (ins : List Bool) (n : Nat) : inList ins (n + 1) = if rdOf false ins (n : Int) = true then inList ins n ++ [(n : Int)] else inList ins n := by
  unfold inList
  rw [List.range_succ, List.filter_append, List.map_append]
  by_cases c : rdOf false ins (n : Int) = true
  · simp [c]
  · simp [c]
theorem inList_len (ins : List Bool) (n : Nat) : (inList ins n).length ≤ n := by
  unfold inList
  rw [List.length_map]
  have := List.length_filter_le (fun t => rdOf false ins ((t : Nat) : Int)) (List.range n)
  rwa [List.length_range] at this
theorem collect_go (ins : List Bool) (hn : ins.length ≤ 100000) : ∀ (r t k : Nat), t + r = ins.length → r < k → phasorref19_cone.l1 k ins (inList ins t) (t : Int) = some (inList ins ins.length, 0)
  | 0, t, k, ht, hk => by
    obtain ⟨k, rfl⟩ : ∃ m, k = m + 1 := ⟨k - 1, by omega⟩
    obtain rfl : t = ins.length := by omega
    rw [phasorref19_cone.l1, if_neg (by omega)]
  | r + 1, t, k, ht, hk => by
    obtain ⟨k, rfl⟩ : ∃ m, k = m + 1 := ⟨k - 1, by omega⟩
    have c : t < ins.length := by omega
    have hl := inList_len ins t
    rw [phasorref19_cone.l1, if_pos (by omega), if_pos (by omega), w1n c (by omega)]
    have h1 := collect_go ins hn r (t + 1) k (by omega) (by omega)
    rw [inList_succ] at h1
    by_cases cb : rdOf false ins (t : Int) = true
    · rw [if_pos cb] at h1
      rw [if_pos cb, if_pos (by omega)]
      exact h1
    · rw [if_neg cb] at h1
      rw [if_neg cb]
      exact h1
theorem ref_cone_go {a0 a1 : Int} {l : List S57} (hM : May a0 a1 l) (qs : List Int) (back : Bool) : ∀ (r x k : Nat) (mt : List Int) (ins : List Bool), x + r = l.length → (∀ y, y ∈ mt ↔ ∃ w, MSet l qs back x w ∧ y = phi w) → mt.length ≤ 64 + x * 66 → ins.length = l.length → (∀ t : Nat, t < l.length → (rdOf false ins (t : Int) = true ↔ ∃ y, y < x ∧ Sel l qs back y ∧ ci l back y = t)) → 2 * r + l.length + (64 + l.length * 66) * 70 + 3 < k →
    ∃ ins', phasorref19_cone.l0 k back mt ins (x : Int) a0 a1 l = some (inList ins' l.length, 0) ∧ ∀ t : Nat, t < l.length → (rdOf false ins' (t : Int) = true ↔ ∃ y, y < l.length ∧ Sel l qs back y ∧ ci l back y = t)
  | 0, x, k, mt, ins, hx, hm, hml, hil, hi, hk => by
    obtain ⟨k, rfl⟩ : ∃ m, k = m + 1 := ⟨k - 1, by omega⟩
    obtain rfl : x = l.length := by omega
    have hlen := hM.2.2.2.2.1
    rw [phasorref19_cone.l0, if_neg (by omega)]
    have h1 := collect_go ins (by omega) ins.length 0 k (by omega) (by omega)
    refine ⟨ins, ?_, hi⟩
    rw [← hil]
    exact h1
  | r + 1, x, k, mt, ins, hx, hm, hml, hil, hi, hk => by
    obtain ⟨k, rfl⟩ : ∃ m, k = m + 2 := ⟨k - 2, by omega⟩
    have c : x < l.length := by omega
    have hlen := hM.2.2.2.2.1
    have hci := ci_lt (back := back) c
    have hmay := hM.2.2.2.2.2 _ (rd_T57_mem hci)
    have hf2 := may_len hmay hM.2.1
    have hwl := wr_len (rd_T57 l (ci l back x))
    have hj : phasorref19_cone.l0 (k + 2) back mt ins (x : Int) a0 a1 l = phasorref19_cone.j1 (k + 1) back mt ins (x : Int) (ci l back x : Int) a0 a1 l := by
      rw [phasorref19_cone.l0, if_pos (by omega)]
      unfold ci
      cases back
      · rw [if_neg (by decide), if_neg (by decide)]
      · rw [if_pos rfl, if_pos rfl]
        congr 1
        unfold wrap64
        omega
    rw [hj, phasorref19_cone.j1, if_pos (by omega), if_pos (by omega), wires19_eq _ (by omega), Option.bind_some]
    unfold phasorref19_bar.f
    rw [if_pos (by omega), if_pos (by omega), Option.bind_some, w1n c (by omega)]
    have hns : ¬ Sel l qs back x → ∃ ins', phasorref19_cone.l0 k back mt ins ((x + 1 : Nat) : Int) a0 a1 l = some (inList ins' l.length, 0) ∧ ∀ t : Nat, t < l.length → (rdOf false ins' (t : Int) = true ↔ ∃ y, y < l.length ∧ Sel l qs back y ∧ ci l back y = t) := fun hno => by
      refine ref_cone_go hM qs back r (x + 1) k mt ins (by omega) (fun y => (hm y).trans ⟨fun ⟨w, h1, h2⟩ => ⟨w, MSet.succ.2 (.inl h1), h2⟩, fun ⟨w, h1, h2⟩ => ⟨w, (MSet.succ.1 h1).resolve_right (fun g => hno g.1), h2⟩⟩) (by omega) hil (fun t ht => (hi t ht).trans ⟨fun ⟨y, h1, h2, h3⟩ => ⟨y, by omega, h2, h3⟩, fun ⟨y, h1, h2, h3⟩ => ⟨y, ?_, h2, h3⟩⟩) (by omega)
      by_cases e : y = x
      · subst e; exact absurd h2 hno
      · omega
    by_cases c4 : (rd_T57 l (ci l back x)).f0 = 4
    · rw [if_pos (by rw [c4]; rfl)]
      exact hns (fun g => (Sel.iff.1 g).1 c4)
    · rw [if_neg (by simpa using c4)]
      have hmm : mt.length * ((wr (rd_T57 l (ci l back x))).length + 2) ≤ (64 + l.length * 66) * 70 := Nat.mul_le_mul (by omega) (by omega)
      obtain ⟨b, h1, h2⟩ := meet_spec mt (wr (rd_T57 l (ci l back x))) (by omega) (by omega) k (by omega)
      rw [h1, Option.bind_some]
      have h3 : b = true ↔ ∃ w ∈ wl (rd_T57 l (ci l back x)), MSet l qs back x w := by
        rw [h2, wr_map hmay hM.2.1 hM.2.2.2.1]
        constructor
        · rintro ⟨y, g1, g2⟩
          obtain ⟨w, g3, rfl⟩ := (hm y).1 g1
          obtain ⟨v, g4, g5⟩ := List.mem_map.1 g2
          obtain rfl := phi_inj g5
          exact ⟨v, g4, g3⟩
        · rintro ⟨w, g1, g2⟩
          exact ⟨phi w, (hm _).2 ⟨w, g2, rfl⟩, List.mem_map_of_mem g1⟩
      by_cases cb : b = true
      · have hs : Sel l qs back x := Sel.iff.2 ⟨c4, h3.1 cb⟩
        rw [if_pos cb, if_pos (by omega), if_pos (by omega), Int.toNat_natCast]
        refine ref_cone_go hM qs back r (x + 1) k (mt ++ wr (rd_T57 l (ci l back x))) (ins.set (ci l back x) true) (by omega) (fun y => ?_) (by rw [List.length_append]; omega) (by rw [List.length_set]; exact hil) (fun t ht => ?_) (by omega)
        · rw [List.mem_append, hm y, wr_map hmay hM.2.1 hM.2.2.2.1, List.mem_map]
          constructor
          · rintro (⟨w, g1, g2⟩ | ⟨w, g1, g2⟩)
            · exact ⟨w, MSet.succ.2 (.inl g1), g2⟩
            · exact ⟨w, MSet.succ.2 (.inr ⟨hs, g1⟩), g2.symm⟩
          · rintro ⟨w, g1, g2⟩
            rcases MSet.succ.1 g1 with g | ⟨_, g⟩
            · exact .inl ⟨w, g, g2⟩
            · exact .inr ⟨w, g, g2.symm⟩
        · rw [rdB_set (by omega) (by rw [hil]; exact hci)]
          by_cases e : t = ci l back x
          · rw [if_pos (by omega)]
            exact iff_of_true rfl ⟨x, by omega, hs, e.symm⟩
          · rw [if_neg (by omega), hi t ht]
            constructor
            · rintro ⟨y, g1, g2, g3⟩
              exact ⟨y, by omega, g2, g3⟩
            · rintro ⟨y, g1, g2, g3⟩
              by_cases e2 : y = x
              · subst e2; exact absurd g3.symm e
              · exact ⟨y, by omega, g2, g3⟩
      · rw [if_neg cb]
        exact hns (fun g => cb (h3.2 (Sel.iff.1 g).2))
theorem range_reverse (n : Nat) : (List.range n).reverse = (List.range n).map (fun t => n - 1 - t) := by
  apply List.ext_getElem
  · simp
  · intro i h1 h2
    simp only [List.length_reverse, List.length_range] at h1
    simp [List.getElem_reverse]
open Classical in
theorem taken_list {l : List S57} {qs : List Int} {back : Bool} {ins : List Bool} (h : ∀ t : Nat, t < l.length → (rdOf false ins (t : Int) = true ↔ ∃ y, y < l.length ∧ Sel l qs back y ∧ ci l back y = t)) :
    (if back = true then ((taken l qs back l.length).map (fun y => (ci l back y : Int))).reverse else (taken l qs back l.length).map (fun y => (ci l back y : Int))) = inList ins l.length := by
  cases back
  · rw [if_neg (by decide)]
    unfold taken inList
    have h1 : (List.range l.length).filter (fun y => @decide (Sel l qs false y) (Classical.propDecidable _)) = (List.range l.length).filter (fun t => rdOf false ins ((t : Nat) : Int)) := by
      apply List.filter_congr
      intro t ht
      have ht := List.mem_range.1 ht
      rw [Bool.eq_iff_iff, decide_eq_true_iff, h t ht]
      constructor
      · intro g; exact ⟨t, ht, g, rfl⟩
      · rintro ⟨y, _, g, rfl⟩; exact g
    rw [h1]
    rfl
  · rw [if_pos rfl]
    unfold taken inList
    rw [← List.map_reverse, ← List.filter_reverse, range_reverse, List.filter_map, List.map_map]
    have h1 : (List.range l.length).filter ((fun y => @decide (Sel l qs true y) (Classical.propDecidable _)) ∘ (fun t => l.length - 1 - t)) = (List.range l.length).filter (fun t => rdOf false ins ((t : Nat) : Int)) := by
      apply List.filter_congr
      intro t ht
      have ht := List.mem_range.1 ht
      rw [Bool.eq_iff_iff, Function.comp, decide_eq_true_iff, h t ht]
      constructor
      · intro g; exact ⟨l.length - 1 - t, by omega, g, by unfold ci; rw [if_pos rfl]; omega⟩
      · rintro ⟨y, hy, g, e⟩
        unfold ci at e
        rw [if_pos rfl] at e
        obtain rfl : y = l.length - 1 - t := by omega
        exact g
    rw [h1]
    apply List.map_congr_left
    intro t ht
    have ht := List.mem_range.1 (List.mem_filter.1 ht).1
    show ((ci l true (l.length - 1 - t) : Nat) : Int) = t
    unfold ci
    rw [if_pos rfl]
    omega
theorem cone_start_marks : Marks (List.replicate 128 false) (fun _ => False) := by
  refine ⟨by simp, fun w h0 h1 => ?_⟩
  unfold rdOf
  rw [List.getD_eq_getElem?_getD, List.getElem?_replicate]
  split <;> simp
def BigQ (n m k : Nat) : Prop := m * (m + 3) + 2 * n + n + (64 + n * 66) * 70 + 100 < k
theorem Cone_yes {a0 a1 : Int} {N : Nat} {l : List S57} (hL : Lim N l) (hM : May a0 a1 l) (qs : List Int) (hq : qs.length < 17592186044416) (back : Bool) {k : Nat} (hk : Big N l.length k) (hk2 : BigQ l.length qs.length k) : ∃ r e, layers_cone.f k a0 a1 l qs back = some (r, e) ∧ phasorref19_cone.f k a0 a1 l qs back = some (r, e) ∧ r.length ≤ 4096 := by
  unfold Big at hk
  unfold BigQ at hk2
  have hlen := hM.2.2.2.2.1
  obtain ⟨c1, c2⟩ := checked_yes hL hM (k := k) (by omega)
  obtain ⟨b, q1, q2⟩ := qubits_spec qs a0 (by omega) k (by omega)
  obtain ⟨i1, i2⟩ := cone_init_go a0 hM.2.1 qs qs.length 0 (List.replicate 128 false) (by omega) (cone_start_marks.congr (fun w _ _ => ⟨False.elim, fun ⟨t, ht, _⟩ => absurd ht (by omega)⟩))
  rw [List.drop_zero] at i1 i2
  unfold layers_cone.f phasorref19_cone.f
  rw [c1, c2, Option.bind_some, Option.bind_some, if_pos rfl, if_pos rfl, q1, Option.bind_some]
  by_cases hu : Uq qs a0 0
  · have h64 := hu.len hM.2.1
    obtain ⟨m, h1, h2⟩ := i1 hu
    rw [h1, Option.bind_some, if_pos (q2.2 hu), Option.bind_some, List.nil_append]
    rw [if_pos (by simp only [List.length_nil]; omega), if_pos (by omega), if_pos (by omega)]
    have h3 := cone_go_spec hM qs back l.length 0 m (by omega) (h2.congr (fun w _ _ => ⟨fun g => .inl g, fun g => g.elim id (fun ⟨y, hy, _⟩ => absurd hy (by omega))⟩))
    obtain ⟨ins, h4, h5⟩ := ref_cone_go hM qs back l.length 0 k qs (List.replicate ((l.length : Int)).toNat false) (by omega) (fun y => ⟨fun g => ⟨y, .inl g, by unfold phi; have := hu.range y g; have := hM.2.1; rw [if_pos (by omega)]⟩, fun ⟨w, g1, g2⟩ => by
      rcases g1 with g1 | ⟨z, hz, _⟩
      · have := hu.range w g1
        have := hM.2.1
        unfold phi at g2
        rw [if_pos (by omega)] at g2
        rw [g2]; exact g1
      · omega⟩) (by omega) (by simp) (fun t ht => by
        have hf : rdOf false (List.replicate ((l.length : Int)).toNat false) (t : Int) = false := by
          unfold rdOf
          rw [List.getD_eq_getElem?_getD, List.getElem?_replicate]
          split <;> rfl
        rw [hf]
        exact iff_of_false (by decide) (fun ⟨y, hy, _⟩ => absurd hy (by omega))) (by omega)
    have h6 := taken_list h5
    have htl := taken_len (l := l) (qs := qs) (back := back) (x := l.length)
    refine ⟨inList ins l.length, 0, ?_, h4, by have := inList_len ins l.length; omega⟩
    unfold cone_rest
    dsimp only
    have h3' : cone_go l back l.length 0 m [] = some ((taken l qs back l.length).map (fun y => (ci l back y : Int))) := h3
    rw [h3', Option.bind_some]
    by_cases cb : back = true
    · rw [if_pos cb] at h6
      rw [if_pos cb, reverse_spec _ (by rw [List.length_map]; omega) k (by rw [List.length_map]; omega), Option.bind_some, h6]
    · rw [if_neg cb] at h6
      rw [if_neg cb, h6]
  · rw [i2 hu, Option.bind_some, if_neg (fun g => hu (q2.1 g))]
    exact ⟨[], 190, rfl, rfl, by decide⟩
theorem Cone_no {a0 a1 : Int} {N : Nat} {l : List S57} (hL : Lim N l) (hM : ¬ May a0 a1 l) (qs : List Int) (back : Bool) {k : Nat} (hk : Big N l.length k) : layers_cone.f k a0 a1 l qs back = some ([], 80) ∧ phasorref19_cone.f k a0 a1 l qs back = some ([], 80) := by
  unfold Big at hk
  obtain ⟨c1, c2⟩ := checked_no hL hM (k := k) (by omega)
  unfold layers_cone.f phasorref19_cone.f
  rw [c1, c2, Option.bind_some, Option.bind_some]
  exact ⟨rfl, rfl⟩
theorem Tell_law (a0 a1 : Int) (N : Nat) (l : List S57) (qs : List Int) (hL : Lim N l) (hN : N ≤ 17592186044410) (hq : qs.length < 17592186044416) : ∃ (k : Nat) (es ls ps fs z1 z2 z3 z4 : List Int) (e1 e2 e3 e4 d e5 : Int),
    phasorref08_Copy.f k a0 a1 l = some (a0, a1, l) ∧
    layers_Early.f k a0 a1 l = some (es, e1) ∧ phasorref19_Early.f k a0 a1 l = some (es, e1) ∧ phasorlaw19_told.f k es e1 es e1 = some (true, z1) ∧
    layers_Late.f k a0 a1 l = some (ls, e2) ∧ phasorref19_Late.f k a0 a1 l = some (ls, e2) ∧ phasorlaw19_told.f k ls e2 ls e2 = some (true, z2) ∧
    layers_Past.f k a0 a1 l qs = some (ps, e3) ∧ phasorref19_Past.f k a0 a1 l qs = some (ps, e3) ∧ phasorlaw19_told.f k ps e3 ps e3 = some (true, z3) ∧
    layers_Future.f k a0 a1 l qs = some (fs, e4) ∧ phasorref19_Future.f k a0 a1 l qs = some (fs, e4) ∧ phasorlaw19_told.f k fs e4 fs e4 = some (true, z4) ∧
    layers_Depth.f k a0 a1 l = some (d, e5) ∧ phasorref19_Depth.f k a0 a1 l = some (d, e5) ∧ phasorlaw19_ints.f k qs qs = some true ∧ phasorref08_Same.f k a0 a1 l a0 a1 l = some true := by
  obtain ⟨k, hk⟩ : ∃ k, k = (l.length * (l.length + 2) + l.length * (l.length + 2) + N * (N + 3) + (N + 2) * (N + 4) + 2 * l.length + 2 * N + 100) + (qs.length * (qs.length + 3) + 2 * l.length + l.length + (64 + l.length * 66) * 70 + 100) + qs.length + N + l.length + 10000 := ⟨_, rfl⟩
  have hB : Big N l.length k := by unfold Big; omega
  have hB2 : BigQ l.length qs.length k := by unfold BigQ; omega
  have hk5 : l.length + N + qs.length + 5000 < k := by omega
  clear hk
  have hl0 := hL.1
  have h0 := copy_self a0 a1 N l hL k (by omega)
  have h16 := ints_self qs (by omega) k (by omega)
  have h17 := same_self a0 a1 N l hL k (by omega)
  by_cases hM : May a0 a1 l
  · have hlen := hM.2.2.2.2.1
    obtain ⟨es, d, h1, h2, hE, h3, h4, _⟩ := Depth_yes hL hN hM hB
    obtain ⟨ls, h5, h6, h7⟩ := Late_yes hL hN hM hB
    obtain ⟨ps, e3, h8, h9, h10⟩ := Cone_yes hL hM qs hq true hB hB2
    obtain ⟨fs, e4, h11, h12, h13⟩ := Cone_yes hL hM qs hq false hB hB2
    have hel := hE.1
    obtain ⟨z1, t1⟩ := told_self es 0 (by omega) k (by omega)
    obtain ⟨z2, t2⟩ := told_self ls 0 (by omega) k (by omega)
    obtain ⟨z3, t3⟩ := told_self ps e3 (by omega) k (by omega)
    obtain ⟨z4, t4⟩ := told_self fs e4 (by omega) k (by omega)
    refine ⟨k, es, ls, ps, fs, z1, z2, z3, z4, 0, 0, e3, e4, d, 0, h0, h1, h2, t1, h5, h6, t2, ?_, ?_, t3, ?_, ?_, t4, h3, h4, h16, h17⟩
    · unfold layers_Past.f; rw [h8]; rfl
    · unfold phasorref19_Past.f; rw [h9]; rfl
    · unfold layers_Future.f; rw [h11]; rfl
    · unfold phasorref19_Future.f; rw [h12]; rfl
  · obtain ⟨h1, h2⟩ := Early_no hL hM hB
    obtain ⟨h3, h4⟩ := Depth_no hL hM hB
    obtain ⟨h5, h6⟩ := Late_no hL hM hB
    obtain ⟨h8, h9⟩ := Cone_no hL hM qs true hB
    obtain ⟨h11, h12⟩ := Cone_no hL hM qs false hB
    obtain ⟨z, t⟩ := told_self [] 80 (by decide) k (by simp only [List.length_nil]; omega)
    refine ⟨k, [], [], [], [], z, z, z, z, 80, 80, 80, 80, 0, 80, h0, h1, h2, t, h5, h6, t, ?_, ?_, t, ?_, ?_, t, h3, h4, h16, h17⟩
    · unfold layers_Past.f; rw [h8]; rfl
    · unfold phasorref19_Past.f; rw [h9]; rfl
    · unfold layers_Future.f; rw [h11]; rfl
    · unfold phasorref19_Future.f; rw [h12]; rfl
end Go.Proofs.Ytpnfhddcnnoclaa.Px
