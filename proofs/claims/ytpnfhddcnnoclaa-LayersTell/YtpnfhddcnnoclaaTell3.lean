import Derived.Test.YtpnfhddcnnoclaaTell2
namespace Go.Proofs.Ytpnfhddcnnoclaa.Px
open Go.RowKit Go.Proofs.YtpnfhddcnnoclaaW.PrintWords Go.Proofs.YtpnfhddcnnoclaaW.PrintLast Go.Proofs.YtpnfhddcnnoclaaW.PrintMore
attribute [local go_sem] max2_int min2_int max_two min_two max_three min_three max_four min_four
set_option linter.unusedVariables false
set_option linter.unusedSimpArgs false
theorem ex_Early : layers_Early.f 64 3 0 exOps = some ([1, 2, 1, 2, 3], 0) := by kernel_rfl
theorem ex_Late : layers_Late.f 64 3 0 exOps = some ([1, 2, 2, 2, 3], 0) := by kernel_rfl
theorem ex_Depth : layers_Depth.f 64 3 0 exOps = some (3, 0) := by kernel_rfl
theorem ex_Moments : layers_Moments.f 64 3 0 exOps = some ([[0, 2], [1], [4]], 0) := by kernel_rfl
theorem ex_Past2 : layers_Past.f 64 3 0 exOps [2] = some ([2, 4], 0) := by kernel_rfl
theorem ex_Past3 : layers_Past.f 64 3 0 exOps [3] = some ([], 190) := by kernel_rfl
def exSort : List S57 := [⟨1, 2, [0], 0, -1, 0⟩, ⟨1, 2, [2], 0, -1, 0⟩, ⟨1, 11, [0, 1], 0, -1, 0⟩, ⟨4, 0, [1, 2], 0, -1, 0⟩, ⟨1, 2, [2], 0, -1, 0⟩]
theorem ex_Sorted : layers_Sorted.f 64 3 0 exOps = some (3, 0, exSort, 0) := by kernel_rfl
theorem ex_ints1 : phasorlaw19_ints.f 64 [1, 2, 1, 2, 3] [1, 2, 1, 2, 3] = some true := by kernel_rfl
theorem ex_ints2 : phasorlaw19_ints.f 64 [1, 2, 2, 2, 3] [1, 2, 2, 2, 3] = some true := by kernel_rfl
theorem ex_ints3 : phasorlaw19_ints.f 64 [2, 4] [2, 4] = some true := by kernel_rfl
set_option maxHeartbeats 4000000 in
set_option maxRecDepth 100000 in
theorem heads_calls (w : World) : Calls Try.prog 19 #[] w fun e w' => e = .returned (.bool true) ∧ Below w.heap.size w w' := by
 have hu24 := Try.underlying24
 have hu57 := Try.underlying57
 have HB := Aside0.mk (Below.refl w.heap.size w)
 go_enter Try.func19, Try.ntmps19
 go_wp2_with (first | (go_at_call 36; refine (Example_calls _).mono ?_; rintro e w1 ⟨Ax, rfl, hC, hb⟩; (try clear HX); (first | (have HB_ := Aside0.mk (below_step (show Below w.heap.size w (w2.alloc (.cells #[.int .i64 3, .int .i64 0, .slice Sa 5 Sc] 24)) from below_alloc HB.out _) hb); clear HB; have HB := HB_; clear HB_; have BK := Aside0.mk (blk_below (blk_new w2 (.cells #[.int .i64 3, .int .i64 0, .slice Sa 5 Sc] 24)) hb); (have HA_ := Aside0.mk (Kd.C_below (Kd.C_alloc HA.out _) hb); clear HA; have HA := HA_; clear HA_); (have HL_ := Aside0.mk (Kd.C_below (Kd.C_alloc HL.out _) hb); clear HL; have HL := HL_; clear HL_); (have HP_ := Aside0.mk (Kd.C_below (Kd.C_alloc HP.out _) hb); clear HP; have HP := HP_; clear HP_); (have HSo_ := Aside0.mk (Kd.C_below (Kd.C_alloc HSo.out _) hb); clear HSo; have HSo := HSo_; clear HSo_); clear hb) | ((try (have HX_ := Aside0.mk (Kd.C_below HX.out hb); clear HX; have HX := HX_; clear HX_)); (try (have HA_ := Aside0.mk (Kd.C_below HA.out hb); clear HA; have HA := HA_; clear HA_)); (try (have HL_ := Aside0.mk (Kd.C_below HL.out hb); clear HL; have HL := HL_; clear HL_)); (try (have HP_ := Aside0.mk (Kd.C_below HP.out hb); clear HP; have HP := HP_; clear HP_)); (try (have HSo_ := Aside0.mk (Kd.C_below HSo.out hb); clear HSo; have HSo := HSo_; clear HSo_)); (try (have BK_ := Aside0.mk (blk_below BK.out hb); clear BK; have BK := BK_; clear BK_)); have HB_ := Aside0.mk (below_step HB.out hb); clear HB; have HB := HB_; clear HB_ hb)); have HX := Aside0.mk hC; clear hC) | (go_at_call 6; refine (layers_Early.calls 64 3 0 Ax 5 exOps [1, 2, 1, 2, 3] 0 _ HX.out (by decide) ex_Early).mono ?_; rintro e w2 ⟨v, rfl, ho, hb⟩; obtain ⟨HAa, HAc, rfl, hle, hC⟩ := Kd.R_reads ho; (try (have HX_ := Aside0.mk (Kd.C_below HX.out hb); clear HX; have HX := HX_; clear HX_)); (try (have HA_ := Aside0.mk (Kd.C_below HA.out hb); clear HA; have HA := HA_; clear HA_)); (try (have HL_ := Aside0.mk (Kd.C_below HL.out hb); clear HL; have HL := HL_; clear HL_)); (try (have HP_ := Aside0.mk (Kd.C_below HP.out hb); clear HP; have HP := HP_; clear HP_)); (try (have HSo_ := Aside0.mk (Kd.C_below HSo.out hb); clear HSo; have HSo := HSo_; clear HSo_)); (try (have BK_ := Aside0.mk (blk_below BK.out hb); clear BK; have BK := BK_; clear BK_)); have HB_ := Aside0.mk (below_step HB.out hb); clear HB; have HB := HB_; clear HB_ hb; have HA := Aside0.mk hC; have HAl := Aside0.mk hle; clear hC hle ho) | (go_at_call 9; refine (layers_Late.calls 64 3 0 Ax 5 exOps [1, 2, 2, 2, 3] 0 _ HX.out (by decide) ex_Late).mono ?_; rintro e w2 ⟨v, rfl, ho, hb⟩; obtain ⟨HLa, HLc, rfl, hle, hC⟩ := Kd.R_reads ho; (try (have HX_ := Aside0.mk (Kd.C_below HX.out hb); clear HX; have HX := HX_; clear HX_)); (try (have HA_ := Aside0.mk (Kd.C_below HA.out hb); clear HA; have HA := HA_; clear HA_)); (try (have HL_ := Aside0.mk (Kd.C_below HL.out hb); clear HL; have HL := HL_; clear HL_)); (try (have HP_ := Aside0.mk (Kd.C_below HP.out hb); clear HP; have HP := HP_; clear HP_)); (try (have HSo_ := Aside0.mk (Kd.C_below HSo.out hb); clear HSo; have HSo := HSo_; clear HSo_)); (try (have BK_ := Aside0.mk (blk_below BK.out hb); clear BK; have BK := BK_; clear BK_)); have HB_ := Aside0.mk (below_step HB.out hb); clear HB; have HB := HB_; clear HB_ hb; have HL := Aside0.mk hC; have HLl := Aside0.mk hle; clear hC hle ho) | (go_at_call 20; refine (layers_Moments.calls 64 3 0 Ax 5 exOps [[0, 2], [1], [4]] 0 _ HX.out (by decide) ex_Moments).mono ?_; rintro e w2 ⟨v, rfl, ho, hb⟩; obtain ⟨HMa, HMc, rfl, hle, hC⟩ := Kd.S_reads ho; (try (have HX_ := Aside0.mk (Kd.C_below HX.out hb); clear HX; have HX := HX_; clear HX_)); (try (have HA_ := Aside0.mk (Kd.C_below HA.out hb); clear HA; have HA := HA_; clear HA_)); (try (have HL_ := Aside0.mk (Kd.C_below HL.out hb); clear HL; have HL := HL_; clear HL_)); (try (have HP_ := Aside0.mk (Kd.C_below HP.out hb); clear HP; have HP := HP_; clear HP_)); (try (have HSo_ := Aside0.mk (Kd.C_below HSo.out hb); clear HSo; have HSo := HSo_; clear HSo_)); (try (have BK_ := Aside0.mk (blk_below BK.out hb); clear BK; have BK := BK_; clear BK_)); have HB_ := Aside0.mk (below_step HB.out hb); clear HB; have HB := HB_; clear HB_ hb; have HM := Aside0.mk hC; have HMl := Aside0.mk hle; clear hC hle ho) | (go_at_call 15; refine (layers_Depth.calls 64 3 0 Ax 5 exOps 3 0 _ HX.out (by decide) ex_Depth).mono ?_; rintro e w2 ⟨rfl, hb⟩; (try (have HX_ := Aside0.mk (Kd.C_below HX.out hb); clear HX; have HX := HX_; clear HX_)); (try (have HA_ := Aside0.mk (Kd.C_below HA.out hb); clear HA; have HA := HA_; clear HA_)); (try (have HL_ := Aside0.mk (Kd.C_below HL.out hb); clear HL; have HL := HL_; clear HL_)); (try (have HP_ := Aside0.mk (Kd.C_below HP.out hb); clear HP; have HP := HP_; clear HP_)); (try (have HSo_ := Aside0.mk (Kd.C_below HSo.out hb); clear HSo; have HSo := HSo_; clear HSo_)); (try (have BK_ := Aside0.mk (blk_below BK.out hb); clear BK; have BK := BK_; clear BK_)); have HB_ := Aside0.mk (below_step HB.out hb); clear HB; have HB := HB_; clear HB_ hb) | (go_at_call 11; have _hp := HP; have hr := (RowL.new (b := 0) (w := w1) [3] (Nat.zero_le _) (by decide)).now; obtain ⟨Aq, cq, hqv, hqc, hqC⟩ := hr; injection hqv with hq1 hq2 hq3; subst hq1; subst hq3; have hb := below_alloc (Below.refl w1.heap.size w1) (.cells #[.int .i64 3] 3); (try (have HX_ := Aside0.mk (Kd.C_below HX.out hb); clear HX; have HX := HX_; clear HX_)); (try (have HA_ := Aside0.mk (Kd.C_below HA.out hb); clear HA; have HA := HA_; clear HA_)); (try (have HL_ := Aside0.mk (Kd.C_below HL.out hb); clear HL; have HL := HL_; clear HL_)); (try (have HP_ := Aside0.mk (Kd.C_below HP.out hb); clear HP; have HP := HP_; clear HP_)); (try (have HSo_ := Aside0.mk (Kd.C_below HSo.out hb); clear HSo; have HSo := HSo_; clear HSo_)); (try (have BK_ := Aside0.mk (blk_below BK.out hb); clear BK; have BK := BK_; clear BK_)); have HB_ := Aside0.mk (below_step HB.out hb); clear HB; have HB := HB_; clear HB_ hb; refine (layers_Past.calls 64 3 0 Ax 5 exOps _ 1 [3] [] 190 _ HX.out (by decide) hqC (by decide) ex_Past3).mono ?_; clear hqC hqc hq2; rintro e w2 ⟨v, rfl, ho, hb⟩; obtain ⟨HQa, HQc, rfl, hle, hC⟩ := Kd.R_reads ho; (try (have HX_ := Aside0.mk (Kd.C_below HX.out hb); clear HX; have HX := HX_; clear HX_)); (try (have HA_ := Aside0.mk (Kd.C_below HA.out hb); clear HA; have HA := HA_; clear HA_)); (try (have HL_ := Aside0.mk (Kd.C_below HL.out hb); clear HL; have HL := HL_; clear HL_)); (try (have HP_ := Aside0.mk (Kd.C_below HP.out hb); clear HP; have HP := HP_; clear HP_)); (try (have HSo_ := Aside0.mk (Kd.C_below HSo.out hb); clear HSo; have HSo := HSo_; clear HSo_)); (try (have BK_ := Aside0.mk (blk_below BK.out hb); clear BK; have BK := BK_; clear BK_)); have HB_ := Aside0.mk (below_step HB.out hb); clear HB; have HB := HB_; clear HB_ hb; have HQ := Aside0.mk hC; have HQl := Aside0.mk hle; clear hC hle ho) | (go_at_call 11; have hr := (RowL.new (b := 0) (w := w1) [2] (Nat.zero_le _) (by decide)).now; obtain ⟨Aq, cq, hqv, hqc, hqC⟩ := hr; injection hqv with hq1 hq2 hq3; subst hq1; subst hq3; have hb := below_alloc (Below.refl w1.heap.size w1) (.cells #[.int .i64 2] 3); (try (have HX_ := Aside0.mk (Kd.C_below HX.out hb); clear HX; have HX := HX_; clear HX_)); (try (have HA_ := Aside0.mk (Kd.C_below HA.out hb); clear HA; have HA := HA_; clear HA_)); (try (have HL_ := Aside0.mk (Kd.C_below HL.out hb); clear HL; have HL := HL_; clear HL_)); (try (have HP_ := Aside0.mk (Kd.C_below HP.out hb); clear HP; have HP := HP_; clear HP_)); (try (have HSo_ := Aside0.mk (Kd.C_below HSo.out hb); clear HSo; have HSo := HSo_; clear HSo_)); (try (have BK_ := Aside0.mk (blk_below BK.out hb); clear BK; have BK := BK_; clear BK_)); have HB_ := Aside0.mk (below_step HB.out hb); clear HB; have HB := HB_; clear HB_ hb; refine (layers_Past.calls 64 3 0 Ax 5 exOps _ 1 [2] [2, 4] 0 _ HX.out (by decide) hqC (by decide) ex_Past2).mono ?_; clear hqC hqc hq2; rintro e w2 ⟨v, rfl, ho, hb⟩; obtain ⟨HPa, HPc, rfl, hle, hC⟩ := Kd.R_reads ho; (try (have HX_ := Aside0.mk (Kd.C_below HX.out hb); clear HX; have HX := HX_; clear HX_)); (try (have HA_ := Aside0.mk (Kd.C_below HA.out hb); clear HA; have HA := HA_; clear HA_)); (try (have HL_ := Aside0.mk (Kd.C_below HL.out hb); clear HL; have HL := HL_; clear HL_)); (try (have HP_ := Aside0.mk (Kd.C_below HP.out hb); clear HP; have HP := HP_; clear HP_)); (try (have HSo_ := Aside0.mk (Kd.C_below HSo.out hb); clear HSo; have HSo := HSo_; clear HSo_)); (try (have BK_ := Aside0.mk (blk_below BK.out hb); clear BK; have BK := BK_; clear BK_)); have HB_ := Aside0.mk (below_step HB.out hb); clear HB; have HB := HB_; clear HB_ hb; have HP := Aside0.mk hC; have HPl := Aside0.mk hle; clear hC hle ho) | (go_at_call 22; refine (layers_Sorted.calls 64 3 0 Ax 5 exOps 3 0 exSort 0 _ HX.out (by decide) ex_Sorted).mono ?_; rintro e w2 ⟨v, rfl, ho, hb⟩; obtain ⟨Sa, Sc, e22, hle, hC⟩ := Kd.N_reads ho; replace e22 : v = .slice Sa 5 Sc := e22; subst e22; (try (have HX_ := Aside0.mk (Kd.C_below HX.out hb); clear HX; have HX := HX_; clear HX_)); (try (have HA_ := Aside0.mk (Kd.C_below HA.out hb); clear HA; have HA := HA_; clear HA_)); (try (have HL_ := Aside0.mk (Kd.C_below HL.out hb); clear HL; have HL := HL_; clear HL_)); (try (have HP_ := Aside0.mk (Kd.C_below HP.out hb); clear HP; have HP := HP_; clear HP_)); (try (have HSo_ := Aside0.mk (Kd.C_below HSo.out hb); clear HSo; have HSo := HSo_; clear HSo_)); (try (have BK_ := Aside0.mk (blk_below BK.out hb); clear BK; have BK := BK_; clear BK_)); have HB_ := Aside0.mk (below_step HB.out hb); clear HB; have HB := HB_; clear HB_ hb; have HSo := Aside0.mk hC; have HSl := Aside0.mk hle; clear hC hle ho) | (go_at_call 17; have hr := (RowL.new (b := 0) (w := w2) [1, 2, 1, 2, 3] (Nat.zero_le _) (by decide)).now; obtain ⟨Aq, cq, hqv, hqc, hqC⟩ := hr; injection hqv with hq1 hq2 hq3; subst hq1; subst hq3; refine (phasorlaw19_ints.calls 64 HAa HAc [1, 2, 1, 2, 3] _ _ [1, 2, 1, 2, 3] true _ (Kd.C_alloc HA.out _) HAl.out hqC (by decide) ex_ints1).mono ?_; clear hqC hqc hq2; rintro e w9 ⟨rfl, hd⟩; have hb := below_step (below_alloc (Below.refl w2.heap.size w2) _) hd.below; clear hd; (try (have HX_ := Aside0.mk (Kd.C_below HX.out hb); clear HX; have HX := HX_; clear HX_)); (try (have HA_ := Aside0.mk (Kd.C_below HA.out hb); clear HA; have HA := HA_; clear HA_)); (try (have HL_ := Aside0.mk (Kd.C_below HL.out hb); clear HL; have HL := HL_; clear HL_)); (try (have HP_ := Aside0.mk (Kd.C_below HP.out hb); clear HP; have HP := HP_; clear HP_)); (try (have HSo_ := Aside0.mk (Kd.C_below HSo.out hb); clear HSo; have HSo := HSo_; clear HSo_)); (try (have BK_ := Aside0.mk (blk_below BK.out hb); clear BK; have BK := BK_; clear BK_)); have HB_ := Aside0.mk (below_step HB.out hb); clear HB; have HB := HB_; clear HB_ hb) | (go_at_call 17; have hr := (RowL.new (b := 0) (w := w9) [1, 2, 2, 2, 3] (Nat.zero_le _) (by decide)).now; obtain ⟨Aq, cq, hqv, hqc, hqC⟩ := hr; injection hqv with hq1 hq2 hq3; subst hq1; subst hq3; refine (phasorlaw19_ints.calls 64 HLa HLc [1, 2, 2, 2, 3] _ _ [1, 2, 2, 2, 3] true _ (Kd.C_alloc HL.out _) HLl.out hqC (by decide) ex_ints2).mono ?_; clear hqC hqc hq2; rintro e w8 ⟨rfl, hd⟩; have hb := below_step (below_alloc (Below.refl w9.heap.size w9) _) hd.below; clear hd; (try (have HX_ := Aside0.mk (Kd.C_below HX.out hb); clear HX; have HX := HX_; clear HX_)); (try (have HA_ := Aside0.mk (Kd.C_below HA.out hb); clear HA; have HA := HA_; clear HA_)); (try (have HL_ := Aside0.mk (Kd.C_below HL.out hb); clear HL; have HL := HL_; clear HL_)); (try (have HP_ := Aside0.mk (Kd.C_below HP.out hb); clear HP; have HP := HP_; clear HP_)); (try (have HSo_ := Aside0.mk (Kd.C_below HSo.out hb); clear HSo; have HSo := HSo_; clear HSo_)); (try (have BK_ := Aside0.mk (blk_below BK.out hb); clear BK; have BK := BK_; clear BK_)); have HB_ := Aside0.mk (below_step HB.out hb); clear HB; have HB := HB_; clear HB_ hb) | (go_at_call 17; have hr := (RowL.new (b := 0) (w := w8) [2, 4] (Nat.zero_le _) (by decide)).now; obtain ⟨Aq, cq, hqv, hqc, hqC⟩ := hr; injection hqv with hq1 hq2 hq3; subst hq1; subst hq3; refine (phasorlaw19_ints.calls 64 HPa HPc [2, 4] _ _ [2, 4] true _ (Kd.C_alloc HP.out _) HPl.out hqC (by decide) ex_ints3).mono ?_; clear hqC hqc hq2; rintro e w7 ⟨rfl, hd⟩; have hb := below_step (below_alloc (Below.refl w8.heap.size w8) _) hd.below; clear hd; (try (have HX_ := Aside0.mk (Kd.C_below HX.out hb); clear HX; have HX := HX_; clear HX_)); (try (have HA_ := Aside0.mk (Kd.C_below HA.out hb); clear HA; have HA := HA_; clear HA_)); (try (have HL_ := Aside0.mk (Kd.C_below HL.out hb); clear HL; have HL := HL_; clear HL_)); (try (have HP_ := Aside0.mk (Kd.C_below HP.out hb); clear HP; have HP := HP_; clear HP_)); (try (have HSo_ := Aside0.mk (Kd.C_below HSo.out hb); clear HSo; have HSo := HSo_; clear HSo_)); (try (have BK_ := Aside0.mk (blk_below BK.out hb); clear BK; have BK := BK_; clear BK_)); have HB_ := Aside0.mk (below_step HB.out hb); clear HB; have HB := HB_; clear HB_ hb; have y2 := (blk_cell BK.out 2).trans (rfl : _ = some (Value.slice Sa 5 Sc)); obtain ⟨ad, A2_, c2_, e_, hx0, hx1, hx2, hx3, hx4, hx5, hl_, hi_⟩ := at_T57 HSo.out 1 (by decide) (by decide); cases e_; replace hx1 : w7.cell? ⟨ad.block, ad.off + 6 + 1, none⟩ = some (.int .i64 2) := hx1; clear hx0 hx2 hx3 hx4 hx5 hl_ hi_))
 go_ret
 exact ⟨rfl, HB.out⟩
mutual
def phasorref07_Qubits.l0 : Nat → List Int → Int → Int → Option (Bool)
 | 0, _, _, _ => none
 | k + 1, x0, x1, x5 => if x5 < (x0.length : Int) then (if 0 ≤ x5 then (if (rd x0 x5) < 0 then (phasorref07_Qubits.j1 k x0 x1 x5 true) else (phasorref07_Qubits.j1 k x0 x1 x5 (decide ((rd x0 x5) ≥ x1)))) else (none)) else (some true)
def phasorref07_Qubits.j1 : Nat → List Int → Int → Int → Bool → Option (Bool)
 | 0, _, _, _, _ => none
 | k + 1, x0, x1, x5, x25 => if x25 = true then (some false) else (phasorref07_Qubits.l1 k x0 x1 x5 0)
def phasorref07_Qubits.l1 : Nat → List Int → Int → Int → Int → Option (Bool)
 | 0, _, _, _, _ => none
 | k + 1, x0, x1, x5, x6 => if x6 < x5 then (if 0 ≤ x6 then (if x6 < (x0.length : Int) then (if 0 ≤ x5 then (if x5 < (x0.length : Int) then (if (rd x0 x6) = (rd x0 x5) then (some false) else (phasorref07_Qubits.l1 k x0 x1 x5 (wrap64 (x6 + 1)))) else (none)) else (none)) else (none)) else (none)) else (phasorref07_Qubits.l0 k x0 x1 (wrap64 (x5 + 1)))
end
def phasorref07_Qubits.f (k : Nat) (l0 : List Int) (a1 : Int) : Option (Bool) := phasorref07_Qubits.l0 k l0 a1 0
set_option maxHeartbeats 8000000 in
set_option maxRecDepth 100000 in
theorem phasorref07_Qubits.calls (k : Nat) (A0 : Option Addr) (c0 : Nat) (l0 : List Int) (a1 : Int) (r : Bool) (w : World) (hr0 : Kd.C (Kd.int .i64) w A0 l0.length l0) (hc0 : l0.length ≤ c0) (h : phasorref07_Qubits.f k l0 a1 = some r) :
  Calls Try.prog 50 #[.slice A0 l0.length c0, .int .i64 a1] w fun e w' => e = .returned (.bool r) ∧ Drawn0 w w' := by
 have HR0 := Aside0.mk hr0
 have HC0 := Aside0.mk hc0
 clear hr0 hc0
 have H : (phasorref07_Qubits.l0 k l0 a1 0) = some r := h
 clear h
 have H' := Aside0.mk H
 clear H
 go_enter Try.func50, Try.ntmps50
 go_wp2
 repeat (go_quiet (fail); try go_wp2)
 go_loopg [5] k (fun kq v5 w' => ∃ (x5_1 : Int), v5 = .int .i64 x5_1 ∧ Aside0 (phasorref07_Qubits.l0 kq l0 a1 x5_1 = some r) ∧ Aside0 (kq ≤ k) ∧ Drawn0 w w')
 case atStart => exact ⟨(0), (by first | rfl | (simp; done) | (simp [*]; done)), H', ⟨Nat.le_refl _⟩, by repeat (first | exact Drawn0.refl _ | apply Drawn0.step)⟩
 case round =>
  clear H'
  try clear p2
  obtain ⟨x5_1, rfl, HA, HK1, ⟨m1, rfl⟩⟩ := hrel
  cases gk with
  | zero => exact absurd HA.out (by simp [phasorref07_Qubits.l0])
  | succ k1 =>
   have H := HA.out
   clear HA
   simp only [phasorref07_Qubits.l0] at H
   by_cases c3 : x5_1 < (l0.length : Int)
   ·rw [if_pos c3] at H
    have c3b0 : decide (x5_1 < (l0.length : Int)) = true := decide_eq_true c3
    clear c3
    have HC4 := Aside0.mk H
    clear H
    go_upto_region 4 with (fail)
    repeat (go_quiet (fail); go_upto_region 4 with (fail))
    go_cut [25] (fun v25 wc => ∃ (kq : Nat) (x25_3 : Bool), v25 = .bool x25_3 ∧ Aside0 (phasorref07_Qubits.j1 kq l0 a1 x5_1 x25_3 = some r) ∧ Aside0 (kq ≤ k1) ∧ Drawn0 w wc)
    case first =>
     have H := HC4.out
     clear HC4
     by_cases c5 : 0 ≤ x5_1
     ·rw [if_pos c5] at H
      have c5b0 : decide (0 ≤ x5_1) = true := decide_eq_true c5
      clear c5
      (first | rw [c5b0] | (simp only [i64_w, i32_w]; rw [c5b0]) | skip)
      by_cases c6 : (rd l0 x5_1) < 0
      ·rw [if_pos c6] at H
       have c6b0 : decide ((rd l0 x5_1) < 0) = true := decide_eq_true c6
       clear c6
       have H' := Aside0.mk H
       clear H
       have p25101 : 0 ≤ (x5_1 : Int) := of_decide_eq_true (by first | (with_reducible assumption) | assumption)
       have q25101 : x5_1 < (l0.length : Int) := of_decide_eq_true (by first | (with_reducible assumption) | assumption)
       obtain ⟨ad25101, e25101, hx25101_0⟩ := Kd.at_int HR0.out x5_1 p25101 q25101
       cases e25101
       replace p25101 := eq_true p25101
       replace q25101 := eq_true q25101
       go_wp2
       repeat (go_quiet (fail); try go_wp2)
       go_meet
       case rel => exact ⟨_, (true), (by first | rfl | (simp; done) | (simp [*]; done)), H', ⟨by have := HK1.out; first | omega | exact Nat.le_refl _⟩, by repeat (first | exact Drawn0.refl _ | apply Drawn0.step)⟩
      ·rw [if_neg c6] at H
       have c6b0 : decide ((rd l0 x5_1) < 0) = false := decide_eq_false c6
       clear c6
       have H' := Aside0.mk H
       clear H
       have p25101 : 0 ≤ (x5_1 : Int) := of_decide_eq_true (by first | (with_reducible assumption) | assumption)
       have q25101 : x5_1 < (l0.length : Int) := of_decide_eq_true (by first | (with_reducible assumption) | assumption)
       obtain ⟨ad25101, e25101, hx25101_0⟩ := Kd.at_int HR0.out x5_1 p25101 q25101
       cases e25101
       replace p25101 := eq_true p25101
       replace q25101 := eq_true q25101
       have p25102 : 0 ≤ (x5_1 : Int) := of_decide_eq_true (by first | (with_reducible assumption) | assumption)
       have q25102 : x5_1 < (l0.length : Int) := of_decide_eq_true (by first | (with_reducible assumption) | assumption)
       obtain ⟨ad25102, e25102, hx25102_0⟩ := Kd.at_int HR0.out x5_1 p25102 q25102
       obtain rfl : ad25101 = ad25102 := (by injection e25102)
       replace p25102 := eq_true p25102
       replace q25102 := eq_true q25102
       go_wp2
       repeat (go_quiet (fail); try go_wp2)
       go_meet
       case rel => exact ⟨_, (decide ((rd l0 x5_1) ≥ a1)), (by first | rfl | (simp; done) | (simp [*]; done)), H', ⟨by have := HK1.out; first | omega | exact Nat.le_refl _⟩, by repeat (first | exact Drawn0.refl _ | apply Drawn0.step)⟩
     ·rw [if_neg c5] at H
      exact absurd H (by simp)
    case rest =>
     clear HC4
     try clear p2
     try clear q2
     try clear hx2
     try clear c3
     try clear c3b0
     try clear c5
     try clear c5b0
     try clear c6
     try clear c6b0
     try clear hx25101_0
     try clear hx25102_0
     try clear p2
     try clear p25101
     try clear p25102
     try clear q25101
     try clear q25102
     obtain ⟨kq, x25_3, rfl, HA, HJ3, ⟨mc3, rfl⟩⟩ := hcut
     cases kq with
     | zero => exact absurd HA.out (by simp [phasorref07_Qubits.j1])
     | succ kj3 =>
      have H := HA.out
      clear HA
      simp only [phasorref07_Qubits.j1] at H
      by_cases c7 : x25_3 = true
      ·subst c7
       have H1 : (some false) = some r := by rw [if_pos rfl] at H; exact H
       clear H
       have H := H1
       clear H1
       obtain rfl := Option.some.inj H
       go_wp2
       repeat (go_quiet (fail); try go_wp2)
       go_ret
       exact ⟨by first | rfl | (simp; done) | (simp [*]; done), by repeat (first | exact Drawn0.refl _ | apply Drawn0.step)⟩
      ·replace c7 := Bool.eq_false_iff.mpr c7
       subst c7
       have H1 : (phasorref07_Qubits.l1 kj3 l0 a1 x5_1 0) = some r := by rw [if_neg (show ¬ (false = true) by decide)] at H; exact H
       clear H
       have H := H1
       clear H1
       have H' := Aside0.mk H
       clear H
       go_wp2
       repeat (go_quiet (fail); try go_wp2)
       go_loopg [6] kj3 (fun kq v6 w' => ∃ (x6_3 : Int), v6 = .int .i64 x6_3 ∧ Aside0 (phasorref07_Qubits.l1 kq l0 a1 x5_1 x6_3 = some r) ∧ Aside0 (kq ≤ kj3) ∧ Drawn0 w w')
       case atStart => exact ⟨(0), (by first | rfl | (simp; done) | (simp [*]; done)), H', ⟨Nat.le_refl _⟩, by repeat (first | exact Drawn0.refl _ | apply Drawn0.step)⟩
       case round =>
        clear H'
        try clear p2
        try clear q2
        try clear hx2
        try clear c3
        try clear c3b0
        try clear c5
        try clear c5b0
        try clear c6
        try clear c6b0
        try clear c7
        try clear hx25101_0
        try clear hx25102_0
        try clear p2
        try clear p25101
        try clear p25102
        try clear q2
        try clear q25101
        try clear q25102
        obtain ⟨x6_3, rfl, HA, HK3, ⟨m3, rfl⟩⟩ := hrel
        cases gk with
        | zero => exact absurd HA.out (by simp [phasorref07_Qubits.l1])
        | succ k3 =>
         have H := HA.out
         clear HA
         simp only [phasorref07_Qubits.l1] at H
         by_cases c8 : x6_3 < x5_1
         ·rw [if_pos c8] at H
          have c8b0 : decide (x6_3 < x5_1) = true := decide_eq_true c8
          clear c8
          by_cases c9 : 0 ≤ x6_3
          ·rw [if_pos c9] at H
           have c9b0 : decide (0 ≤ x6_3) = true := decide_eq_true c9
           clear c9
           by_cases c10 : x6_3 < (l0.length : Int)
           ·rw [if_pos c10] at H
            have c10b0 : decide (x6_3 < (l0.length : Int)) = true := decide_eq_true c10
            clear c10
            by_cases c11 : 0 ≤ x5_1
            ·rw [if_pos c11] at H
             have c11b0 : decide (0 ≤ x5_1) = true := decide_eq_true c11
             clear c11
             by_cases c12 : x5_1 < (l0.length : Int)
             ·rw [if_pos c12] at H
              have c12b0 : decide (x5_1 < (l0.length : Int)) = true := decide_eq_true c12
              clear c12
              by_cases c13 : (rd l0 x6_3) = (rd l0 x5_1)
              ·rw [if_pos c13] at H
               have c13b0 : ((rd l0 x6_3) == (rd l0 x5_1)) = true := beq_iff_eq.mpr c13
               have c13b1 : ((rd l0 x6_3) != (rd l0 x5_1)) = false := bne_eq_false_iff_eq.mpr c13
               clear c13
               obtain rfl := Option.some.inj H
               have p25103 : 0 ≤ (x6_3 : Int) := of_decide_eq_true (by first | (with_reducible assumption) | assumption)
               have q25103 : x6_3 < (l0.length : Int) := of_decide_eq_true (by first | (with_reducible assumption) | assumption)
               obtain ⟨ad25103, e25103, hx25103_0⟩ := Kd.at_int HR0.out x6_3 p25103 q25103
               cases e25103
               replace p25103 := eq_true p25103
               replace q25103 := eq_true q25103
               have p25104 : 0 ≤ (x5_1 : Int) := of_decide_eq_true (by first | (with_reducible assumption) | assumption)
               have q25104 : x5_1 < (l0.length : Int) := of_decide_eq_true (by first | (with_reducible assumption) | assumption)
               obtain ⟨ad25104, e25104, hx25104_0⟩ := Kd.at_int HR0.out x5_1 p25104 q25104
               obtain rfl : ad25103 = ad25104 := (by injection e25104)
               replace p25104 := eq_true p25104
               replace q25104 := eq_true q25104
               go_wp2
               repeat (go_quiet (fail); try go_wp2)
               go_ret
               exact ⟨by first | rfl | (simp; done) | (simp [*]; done), by repeat (first | exact Drawn0.refl _ | apply Drawn0.step)⟩
              ·rw [if_neg c13] at H
               have c13b0 : ((rd l0 x6_3) == (rd l0 x5_1)) = false := beq_eq_false_iff_ne.mpr c13
               have c13b1 : ((rd l0 x6_3) != (rd l0 x5_1)) = true := bne_iff_ne.mpr c13
               have H' := Aside0.mk H
               clear H
               have p25103 : 0 ≤ (x6_3 : Int) := of_decide_eq_true (by first | (with_reducible assumption) | assumption)
               have q25103 : x6_3 < (l0.length : Int) := of_decide_eq_true (by first | (with_reducible assumption) | assumption)
               obtain ⟨ad25103, e25103, hx25103_0⟩ := Kd.at_int HR0.out x6_3 p25103 q25103
               cases e25103
               replace p25103 := eq_true p25103
               replace q25103 := eq_true q25103
               have p25104 : 0 ≤ (x5_1 : Int) := of_decide_eq_true (by first | (with_reducible assumption) | assumption)
               have q25104 : x5_1 < (l0.length : Int) := of_decide_eq_true (by first | (with_reducible assumption) | assumption)
               obtain ⟨ad25104, e25104, hx25104_0⟩ := Kd.at_int HR0.out x5_1 p25104 q25104
               obtain rfl : ad25103 = ad25104 := (by injection e25104)
               replace p25104 := eq_true p25104
               replace q25104 := eq_true q25104
               go_wp2
               repeat (go_quiet (fail); try go_wp2)
               go_roundg k3
               case measure => have := HK1.out; have := HJ3.out; have := HK3.out; omega
               case rel => exact ⟨(wrap64 (x6_3 + 1)), (by first | rfl | (simp; done) | (simp [*]; done)), H', ⟨by have := HK1.out; have := HJ3.out; have := HK3.out; omega⟩, by repeat (first | exact Drawn0.refl _ | apply Drawn0.step)⟩
             ·rw [if_neg c12] at H
              exact absurd H (by simp)
            ·rw [if_neg c11] at H
             exact absurd H (by simp)
           ·rw [if_neg c10] at H
            exact absurd H (by simp)
          ·rw [if_neg c9] at H
           exact absurd H (by simp)
         ·rw [if_neg c8] at H
          have c8b0 : decide (x6_3 < x5_1) = false := decide_eq_false c8
          clear c8
          have H' := Aside0.mk H
          clear H
          go_wp2
          repeat (go_quiet (fail); try go_wp2)
          go_roundg k3
          case measure => have := HK1.out; have := HJ3.out; have := HK3.out; omega
          case rel => exact ⟨(wrap64 (x5_1 + 1)), (by first | rfl | (simp; done) | (simp [*]; done)), H', ⟨by have := HK1.out; have := HJ3.out; have := HK3.out; omega⟩, by repeat (first | exact Drawn0.refl _ | apply Drawn0.step)⟩
   ·rw [if_neg c3] at H
    have c3b0 : decide (x5_1 < (l0.length : Int)) = false := decide_eq_false c3
    clear c3
    obtain rfl := Option.some.inj H
    go_wp2
    repeat (go_quiet (fail); try go_wp2)
    go_ret
    exact ⟨by first | rfl | (simp; done) | (simp [*]; done), by repeat (first | exact Drawn0.refl _ | apply Drawn0.step)⟩
def phasorref06_Is.f (a0 : Int) : Option (Bool) := if a0 ≥ 1 then (some (decide (a0 ≤ 20))) else (some false)
set_option maxHeartbeats 8000000 in
set_option maxRecDepth 100000 in
theorem phasorref06_Is.calls (a0 : Int) (r : Bool) (w : World) (h : phasorref06_Is.f a0 = some r) :
  Calls Try.prog 67 #[.int .i64 a0] w fun e w' => e = .returned (.bool r) ∧ Drawn0 w w' := by
 have H : (if a0 ≥ 1 then (some (decide (a0 ≤ 20))) else (some false)) = some r := h
 clear h
 by_cases c2 : a0 ≥ 1
 ·rw [if_pos c2] at H
  have c2b0 : decide (1 ≤ a0) = true := decide_eq_true c2
  clear c2
  obtain rfl := Option.some.inj H
  go_enter Try.func67, Try.ntmps67
  go_wp2
  go_ret
  exact ⟨by first | rfl | (simp; done) | (simp [*]; done), by repeat (first | exact Drawn0.refl _ | apply Drawn0.step)⟩
 ·rw [if_neg c2] at H
  have c2b0 : decide (1 ≤ a0) = false := decide_eq_false c2
  clear c2
  obtain rfl := Option.some.inj H
  go_enter Try.func67, Try.ntmps67
  go_wp2
  go_ret
  exact ⟨by first | rfl | (simp; done) | (simp [*]; done), by repeat (first | exact Drawn0.refl _ | apply Drawn0.step)⟩
def phasorref06_Arity.f (a0 : Int) : Option (Int) := (phasorref06_Is.f a0).bind fun t34101 => (if t34101 = true then (if a0 ≤ 10 then (some 1) else (if a0 ≤ 17 then (some 2) else (some 3))) else (some 0))
set_option maxHeartbeats 8000000 in
set_option maxRecDepth 100000 in
theorem phasorref06_Arity.calls (a0 : Int) (r : Int) (w : World) (h : phasorref06_Arity.f a0 = some r) :
  Calls Try.prog 68 #[.int .i64 a0] w fun e w' => e = .returned (.int .i64 r) ∧ Drawn0 w w' := by
 have H : ((phasorref06_Is.f a0).bind fun t34101 => (if t34101 = true then (if a0 ≤ 10 then (some 1) else (if a0 ≤ 17 then (some 2) else (some 3))) else (some 0))) = some r := h
 clear h
 replace H := Option.bind_eq_some_iff.mp H
 obtain ⟨t34101, A20, H⟩ := H
 replace H : (if t34101 = true then (if a0 ≤ 10 then (some 1) else (if a0 ≤ 17 then (some 2) else (some 3))) else (some 0)) = some r := H
 have A2 := Aside0.mk A20
 clear A20
 by_cases c3 : t34101 = true
 ·subst c3
  have H1 : (if a0 ≤ 10 then (some 1) else (if a0 ≤ 17 then (some 2) else (some 3))) = some r := by rw [if_pos rfl] at H; exact H
  clear H
  have H := H1
  clear H1
  by_cases c4 : a0 ≤ 10
  ·rw [if_pos c4] at H
   have c4b0 : decide (a0 ≤ 10) = true := decide_eq_true c4
   clear c4
   obtain rfl := Option.some.inj H
   go_enter Try.func68, Try.ntmps68
   go_wp2_with (first | ((with_reducible refine gate_callee (f := 67) rfl ?_); refine goesL_ (some 5) rfl rfl Try.func67 (by kernel_rfl) rfl #[.int .i64 a0] rfl (by (try simp only [List.map_toArray, List.map_cons, List.map_nil]); first | done | rfl | (simp only [List.length_drop, List.length_take]; rfl)) ?_; (with_reducible refine (phasorref06_Is.calls a0 true _ A2.out).mono ?_); rintro e w' ⟨rfl, ⟨nd, rfl⟩⟩; refine ⟨_, rfl, ?_⟩))
   go_ret
   exact ⟨by first | rfl | (simp; done) | (simp [*]; done), by repeat (first | exact Drawn0.refl _ | apply Drawn0.step)⟩
  ·rw [if_neg c4] at H
   have c4b0 : decide (a0 ≤ 10) = false := decide_eq_false c4
   clear c4
   by_cases c5 : a0 ≤ 17
   ·rw [if_pos c5] at H
    have c5b0 : decide (a0 ≤ 17) = true := decide_eq_true c5
    clear c5
    obtain rfl := Option.some.inj H
    go_enter Try.func68, Try.ntmps68
    go_wp2_with (first | ((with_reducible refine gate_callee (f := 67) rfl ?_); refine goesL_ (some 5) rfl rfl Try.func67 (by kernel_rfl) rfl #[.int .i64 a0] rfl (by (try simp only [List.map_toArray, List.map_cons, List.map_nil]); first | done | rfl | (simp only [List.length_drop, List.length_take]; rfl)) ?_; (with_reducible refine (phasorref06_Is.calls a0 true _ A2.out).mono ?_); rintro e w' ⟨rfl, ⟨nd, rfl⟩⟩; refine ⟨_, rfl, ?_⟩))
    go_ret
    exact ⟨by first | rfl | (simp; done) | (simp [*]; done), by repeat (first | exact Drawn0.refl _ | apply Drawn0.step)⟩
   ·rw [if_neg c5] at H
    have c5b0 : decide (a0 ≤ 17) = false := decide_eq_false c5
    clear c5
    obtain rfl := Option.some.inj H
    go_enter Try.func68, Try.ntmps68
    go_wp2_with (first | ((with_reducible refine gate_callee (f := 67) rfl ?_); refine goesL_ (some 5) rfl rfl Try.func67 (by kernel_rfl) rfl #[.int .i64 a0] rfl (by (try simp only [List.map_toArray, List.map_cons, List.map_nil]); first | done | rfl | (simp only [List.length_drop, List.length_take]; rfl)) ?_; (with_reducible refine (phasorref06_Is.calls a0 true _ A2.out).mono ?_); rintro e w' ⟨rfl, ⟨nd, rfl⟩⟩; refine ⟨_, rfl, ?_⟩))
    go_ret
    exact ⟨by first | rfl | (simp; done) | (simp [*]; done), by repeat (first | exact Drawn0.refl _ | apply Drawn0.step)⟩
 ·replace c3 := Bool.eq_false_iff.mpr c3
  subst c3
  have H1 : (some 0) = some r := by rw [if_neg (show ¬ (false = true) by decide)] at H; exact H
  clear H
  have H := H1
  clear H1
  obtain rfl := Option.some.inj H
  go_enter Try.func68, Try.ntmps68
  go_wp2_with (first | ((with_reducible refine gate_callee (f := 67) rfl ?_); refine goesL_ (some 5) rfl rfl Try.func67 (by kernel_rfl) rfl #[.int .i64 a0] rfl (by (try simp only [List.map_toArray, List.map_cons, List.map_nil]); first | done | rfl | (simp only [List.length_drop, List.length_take]; rfl)) ?_; (with_reducible refine (phasorref06_Is.calls a0 false _ A2.out).mono ?_); rintro e w' ⟨rfl, ⟨nd, rfl⟩⟩; refine ⟨_, rfl, ?_⟩))
  go_ret
  exact ⟨by first | rfl | (simp; done) | (simp [*]; done), by repeat (first | exact Drawn0.refl _ | apply Drawn0.step)⟩
mutual
def phasorref06_Check.l0 : Nat → List Int → Int → Int → Option (Int)
 | 0, _, _, _ => none
 | k + 1, x1, x2, x7 => if x7 < (x1.length : Int) then (if 0 ≤ x7 then (if (rd x1 x7) < 0 then (phasorref06_Check.j1 k x1 x2 x7 true) else (phasorref06_Check.j1 k x1 x2 x7 (decide ((rd x1 x7) ≥ x2)))) else (none)) else (some 0)
def phasorref06_Check.j1 : Nat → List Int → Int → Int → Bool → Option (Int)
 | 0, _, _, _, _ => none
 | k + 1, x1, x2, x7, x35 => if x35 = true then (some 61) else (phasorref06_Check.l1 k x1 x2 x7 0)
def phasorref06_Check.l1 : Nat → List Int → Int → Int → Int → Option (Int)
 | 0, _, _, _, _ => none
 | k + 1, x1, x2, x7, x8 => if x8 < x7 then (if 0 ≤ x7 then (if x7 < (x1.length : Int) then (if 0 ≤ x8 then (if x8 < (x1.length : Int) then (if (rd x1 x7) = (rd x1 x8) then (some 61) else (phasorref06_Check.l1 k x1 x2 x7 (wrap64 (x8 + 1)))) else (none)) else (none)) else (none)) else (none)) else (phasorref06_Check.l0 k x1 x2 (wrap64 (x7 + 1)))
end
def phasorref06_Check.f (k : Nat) (a0 : Int) (l1 : List Int) (a2 : Int) : Option (Int) := (phasorref06_Is.f a0).bind fun t31101 => (if t31101 = true then ((phasorref06_Arity.f a0).bind fun t31102 => (if (l1.length : Int) = t31102 then (phasorref06_Check.l0 k l1 a2 0) else (some 61))) else (some 60))
set_option maxHeartbeats 8000000 in
set_option maxRecDepth 100000 in
theorem phasorref06_Check.calls (k : Nat) (a0 : Int) (A1 : Option Addr) (c1 : Nat) (l1 : List Int) (a2 : Int) (r : Int) (w : World) (hr1 : Kd.C (Kd.int .i64) w A1 l1.length l1) (hc1 : l1.length ≤ c1) (h : phasorref06_Check.f k a0 l1 a2 = some r) :
  Calls Try.prog 62 #[.int .i64 a0, .slice A1 l1.length c1, .int .i64 a2] w fun e w' => e = .returned (.int .i64 r) ∧ Drawn0 w w' := by
 have HR1 := Aside0.mk hr1
 have HC1 := Aside0.mk hc1
 clear hr1 hc1
 have H : ((phasorref06_Is.f a0).bind fun t31101 => (if t31101 = true then ((phasorref06_Arity.f a0).bind fun t31102 => (if (l1.length : Int) = t31102 then (phasorref06_Check.l0 k l1 a2 0) else (some 61))) else (some 60))) = some r := h
 clear h
 replace H := Option.bind_eq_some_iff.mp H
 obtain ⟨t31101, A40, H⟩ := H
 replace H : (if t31101 = true then ((phasorref06_Arity.f a0).bind fun t31102 => (if (l1.length : Int) = t31102 then (phasorref06_Check.l0 k l1 a2 0) else (some 61))) else (some 60)) = some r := H
 have A4 := Aside0.mk A40
 clear A40
 by_cases c5 : t31101 = true
 ·subst c5
  have H1 : ((phasorref06_Arity.f a0).bind fun t31102 => (if (l1.length : Int) = t31102 then (phasorref06_Check.l0 k l1 a2 0) else (some 61))) = some r := by rw [if_pos rfl] at H; exact H
  clear H
  have H := H1
  clear H1
  replace H := Option.bind_eq_some_iff.mp H
  obtain ⟨t31102, A60, H⟩ := H
  replace H : (if (l1.length : Int) = t31102 then (phasorref06_Check.l0 k l1 a2 0) else (some 61)) = some r := H
  have A6 := Aside0.mk A60
  clear A60
  by_cases c7 : (l1.length : Int) = t31102
  ·rw [if_pos c7] at H
   have c7b0 : ((l1.length : Int) == t31102) = true := beq_iff_eq.mpr c7
   have c7b1 : ((l1.length : Int) != t31102) = false := bne_eq_false_iff_eq.mpr c7
   clear c7
   have H' := Aside0.mk H
   clear H
   go_enter Try.func62, Try.ntmps62
   go_wp2_with (first | (go_at_call 67; (with_reducible refine (phasorref06_Is.calls a0 true _ A4.out).mono ?_); rintro e w' ⟨rfl, ⟨nd, rfl⟩⟩; (try first | exact ⟨rfl, _, World.drewN_drewN _ _ _⟩ | exact ⟨rfl, _, Eq.trans (World.drewN_drewN _ _ _) (congrArg (World.drewN _) (Nat.add_assoc _ _ _))⟩)) | (go_at_call 68; (with_reducible refine (phasorref06_Arity.calls a0 t31102 _ A6.out).mono ?_); rintro e w' ⟨rfl, ⟨nd, rfl⟩⟩; (try first | exact ⟨rfl, _, World.drewN_drewN _ _ _⟩ | exact ⟨rfl, _, Eq.trans (World.drewN_drewN _ _ _) (congrArg (World.drewN _) (Nat.add_assoc _ _ _))⟩)))
   repeat (go_quiet (first | (go_at_call 67; (with_reducible refine (phasorref06_Is.calls a0 true _ A4.out).mono ?_); rintro e w' ⟨rfl, ⟨nd, rfl⟩⟩; (try first | exact ⟨rfl, _, World.drewN_drewN _ _ _⟩ | exact ⟨rfl, _, Eq.trans (World.drewN_drewN _ _ _) (congrArg (World.drewN _) (Nat.add_assoc _ _ _))⟩)) | (go_at_call 68; (with_reducible refine (phasorref06_Arity.calls a0 t31102 _ A6.out).mono ?_); rintro e w' ⟨rfl, ⟨nd, rfl⟩⟩; (try first | exact ⟨rfl, _, World.drewN_drewN _ _ _⟩ | exact ⟨rfl, _, Eq.trans (World.drewN_drewN _ _ _) (congrArg (World.drewN _) (Nat.add_assoc _ _ _))⟩))); try go_wp2_with (first | (go_at_call 67; (with_reducible refine (phasorref06_Is.calls a0 true _ A4.out).mono ?_); rintro e w' ⟨rfl, ⟨nd, rfl⟩⟩; (try first | exact ⟨rfl, _, World.drewN_drewN _ _ _⟩ | exact ⟨rfl, _, Eq.trans (World.drewN_drewN _ _ _) (congrArg (World.drewN _) (Nat.add_assoc _ _ _))⟩)) | (go_at_call 68; (with_reducible refine (phasorref06_Arity.calls a0 t31102 _ A6.out).mono ?_); rintro e w' ⟨rfl, ⟨nd, rfl⟩⟩; (try first | exact ⟨rfl, _, World.drewN_drewN _ _ _⟩ | exact ⟨rfl, _, Eq.trans (World.drewN_drewN _ _ _) (congrArg (World.drewN _) (Nat.add_assoc _ _ _))⟩))))
   go_loopg [7] k (fun kq v7 w' => ∃ (x7_1 : Int), v7 = .int .i64 x7_1 ∧ Aside0 (phasorref06_Check.l0 kq l1 a2 x7_1 = some r) ∧ Aside0 (kq ≤ k) ∧ Drawn0 w w')
   case atStart => exact ⟨(0), (by first | rfl | (simp; done) | (simp [*]; done)), H', ⟨Nat.le_refl _⟩, by repeat (first | exact Drawn0.refl _ | apply Drawn0.step)⟩
   case round =>
    clear H'
    try clear c1
    try clear p2
    try clear c5
    try clear c6
    try clear c7
    try clear c7b0
    try clear c7b1
    obtain ⟨x7_1, rfl, HA, HK1, ⟨m1, rfl⟩⟩ := hrel
    cases gk with
    | zero => exact absurd HA.out (by simp [phasorref06_Check.l0])
    | succ k1 =>
     have H := HA.out
     clear HA
     simp only [phasorref06_Check.l0] at H
     by_cases c8 : x7_1 < (l1.length : Int)
     ·rw [if_pos c8] at H
      have c8b0 : decide (x7_1 < (l1.length : Int)) = true := decide_eq_true c8
      clear c8
      have HC9 := Aside0.mk H
      clear H
      go_upto_region 8 with (fail)
      repeat (go_quiet (fail); go_upto_region 8 with (fail))
      go_cut [35] (fun v35 wc => ∃ (kq : Nat) (x35_8 : Bool), v35 = .bool x35_8 ∧ Aside0 (phasorref06_Check.j1 kq l1 a2 x7_1 x35_8 = some r) ∧ Aside0 (kq ≤ k1) ∧ Drawn0 w wc)
      case first =>
       have H := HC9.out
       clear HC9
       by_cases c10 : 0 ≤ x7_1
       ·rw [if_pos c10] at H
        have c10b0 : decide (0 ≤ x7_1) = true := decide_eq_true c10
        clear c10
        (first | rw [c10b0] | (simp only [i64_w, i32_w]; rw [c10b0]) | skip)
        by_cases c11 : (rd l1 x7_1) < 0
        ·rw [if_pos c11] at H
         have c11b0 : decide ((rd l1 x7_1) < 0) = true := decide_eq_true c11
         clear c11
         have H' := Aside0.mk H
         clear H
         have p31103 : 0 ≤ (x7_1 : Int) := of_decide_eq_true (by first | (with_reducible assumption) | assumption)
         have q31103 : x7_1 < (l1.length : Int) := of_decide_eq_true (by first | (with_reducible assumption) | assumption)
         obtain ⟨ad31103, e31103, hx31103_0⟩ := Kd.at_int HR1.out x7_1 p31103 q31103
         cases e31103
         replace p31103 := eq_true p31103
         replace q31103 := eq_true q31103
         go_wp2
         repeat (go_quiet (fail); try go_wp2)
         go_meet
         case rel => exact ⟨_, (true), (by first | rfl | (simp; done) | (simp [*]; done)), H', ⟨by have := HK1.out; first | omega | exact Nat.le_refl _⟩, by repeat (first | exact Drawn0.refl _ | apply Drawn0.step)⟩
        ·rw [if_neg c11] at H
         have c11b0 : decide ((rd l1 x7_1) < 0) = false := decide_eq_false c11
         clear c11
         have H' := Aside0.mk H
         clear H
         have p31103 : 0 ≤ (x7_1 : Int) := of_decide_eq_true (by first | (with_reducible assumption) | assumption)
         have q31103 : x7_1 < (l1.length : Int) := of_decide_eq_true (by first | (with_reducible assumption) | assumption)
         obtain ⟨ad31103, e31103, hx31103_0⟩ := Kd.at_int HR1.out x7_1 p31103 q31103
         cases e31103
         replace p31103 := eq_true p31103
         replace q31103 := eq_true q31103
         have p31104 : 0 ≤ (x7_1 : Int) := of_decide_eq_true (by first | (with_reducible assumption) | assumption)
         have q31104 : x7_1 < (l1.length : Int) := of_decide_eq_true (by first | (with_reducible assumption) | assumption)
         obtain ⟨ad31104, e31104, hx31104_0⟩ := Kd.at_int HR1.out x7_1 p31104 q31104
         obtain rfl : ad31103 = ad31104 := (by injection e31104)
         replace p31104 := eq_true p31104
         replace q31104 := eq_true q31104
         go_wp2
         repeat (go_quiet (fail); try go_wp2)
         go_meet
         case rel => exact ⟨_, (decide ((rd l1 x7_1) ≥ a2)), (by first | rfl | (simp; done) | (simp [*]; done)), H', ⟨by have := HK1.out; first | omega | exact Nat.le_refl _⟩, by repeat (first | exact Drawn0.refl _ | apply Drawn0.step)⟩
       ·rw [if_neg c10] at H
        exact absurd H (by simp)
      case rest =>
       clear HC9
       try clear c1
       try clear p2
       try clear p3
       try clear q3
       try clear hx3
       try clear c5
       try clear c6
       try clear c7
       try clear c7b0
       try clear c7b1
       try clear c8
       try clear c8b0
       try clear c10
       try clear c10b0
       try clear c11
       try clear c11b0
       try clear hx31103_0
       try clear hx31104_0
       try clear p2
       try clear p31103
       try clear p31104
       try clear q31103
       try clear q31104
       obtain ⟨kq, x35_8, rfl, HA, HJ8, ⟨mc8, rfl⟩⟩ := hcut
       cases kq with
       | zero => exact absurd HA.out (by simp [phasorref06_Check.j1])
       | succ kj8 =>
        have H := HA.out
        clear HA
        simp only [phasorref06_Check.j1] at H
        by_cases c12 : x35_8 = true
        ·subst c12
         have H1 : (some 61) = some r := by rw [if_pos rfl] at H; exact H
         clear H
         have H := H1
         clear H1
         obtain rfl := Option.some.inj H
         go_wp2
         repeat (go_quiet (fail); try go_wp2)
         go_ret
         exact ⟨by first | rfl | (simp; done) | (simp [*]; done), by repeat (first | exact Drawn0.refl _ | apply Drawn0.step)⟩
        ·replace c12 := Bool.eq_false_iff.mpr c12
         subst c12
         have H1 : (phasorref06_Check.l1 kj8 l1 a2 x7_1 0) = some r := by rw [if_neg (show ¬ (false = true) by decide)] at H; exact H
         clear H
         have H := H1
         clear H1
         have H' := Aside0.mk H
         clear H
         go_wp2
         repeat (go_quiet (fail); try go_wp2)
         go_loopg [8] kj8 (fun kq v8 w' => ∃ (x8_3 : Int), v8 = .int .i64 x8_3 ∧ Aside0 (phasorref06_Check.l1 kq l1 a2 x7_1 x8_3 = some r) ∧ Aside0 (kq ≤ kj8) ∧ Drawn0 w w')
         case atStart => exact ⟨(0), (by first | rfl | (simp; done) | (simp [*]; done)), H', ⟨Nat.le_refl _⟩, by repeat (first | exact Drawn0.refl _ | apply Drawn0.step)⟩
         case round =>
          clear H'
          try clear c1
          try clear p2
          try clear p3
          try clear q3
          try clear hx3
          try clear c5
          try clear c6
          try clear c7
          try clear c7b0
          try clear c7b1
          try clear c8
          try clear c8b0
          try clear c10
          try clear c10b0
          try clear c11
          try clear c11b0
          try clear c12
          try clear hx31103_0
          try clear hx31104_0
          try clear p2
          try clear p3
          try clear p31103
          try clear p31104
          try clear q3
          try clear q31103
          try clear q31104
          obtain ⟨x8_3, rfl, HA, HK3, ⟨m3, rfl⟩⟩ := hrel
          cases gk with
          | zero => exact absurd HA.out (by simp [phasorref06_Check.l1])
          | succ k3 =>
           have H := HA.out
           clear HA
           simp only [phasorref06_Check.l1] at H
           by_cases c13 : x8_3 < x7_1
           ·rw [if_pos c13] at H
            have c13b0 : decide (x8_3 < x7_1) = true := decide_eq_true c13
            clear c13
            by_cases c14 : 0 ≤ x7_1
            ·rw [if_pos c14] at H
             have c14b0 : decide (0 ≤ x7_1) = true := decide_eq_true c14
             clear c14
             by_cases c15 : x7_1 < (l1.length : Int)
             ·rw [if_pos c15] at H
              have c15b0 : decide (x7_1 < (l1.length : Int)) = true := decide_eq_true c15
              clear c15
              by_cases c16 : 0 ≤ x8_3
              ·rw [if_pos c16] at H
               have c16b0 : decide (0 ≤ x8_3) = true := decide_eq_true c16
               clear c16
               by_cases c17 : x8_3 < (l1.length : Int)
               ·rw [if_pos c17] at H
                have c17b0 : decide (x8_3 < (l1.length : Int)) = true := decide_eq_true c17
                clear c17
                by_cases c18 : (rd l1 x7_1) = (rd l1 x8_3)
                ·rw [if_pos c18] at H
                 have c18b0 : ((rd l1 x7_1) == (rd l1 x8_3)) = true := beq_iff_eq.mpr c18
                 have c18b1 : ((rd l1 x7_1) != (rd l1 x8_3)) = false := bne_eq_false_iff_eq.mpr c18
                 clear c18
                 obtain rfl := Option.some.inj H
                 have p31105 : 0 ≤ (x7_1 : Int) := of_decide_eq_true (by first | (with_reducible assumption) | assumption)
                 have q31105 : x7_1 < (l1.length : Int) := of_decide_eq_true (by first | (with_reducible assumption) | assumption)
                 obtain ⟨ad31105, e31105, hx31105_0⟩ := Kd.at_int HR1.out x7_1 p31105 q31105
                 cases e31105
                 replace p31105 := eq_true p31105
                 replace q31105 := eq_true q31105
                 have p31106 : 0 ≤ (x8_3 : Int) := of_decide_eq_true (by first | (with_reducible assumption) | assumption)
                 have q31106 : x8_3 < (l1.length : Int) := of_decide_eq_true (by first | (with_reducible assumption) | assumption)
                 obtain ⟨ad31106, e31106, hx31106_0⟩ := Kd.at_int HR1.out x8_3 p31106 q31106
                 obtain rfl : ad31105 = ad31106 := (by injection e31106)
                 replace p31106 := eq_true p31106
                 replace q31106 := eq_true q31106
                 go_wp2
                 repeat (go_quiet (fail); try go_wp2)
                 go_ret
                 exact ⟨by first | rfl | (simp; done) | (simp [*]; done), by repeat (first | exact Drawn0.refl _ | apply Drawn0.step)⟩
                ·rw [if_neg c18] at H
                 have c18b0 : ((rd l1 x7_1) == (rd l1 x8_3)) = false := beq_eq_false_iff_ne.mpr c18
                 have c18b1 : ((rd l1 x7_1) != (rd l1 x8_3)) = true := bne_iff_ne.mpr c18
                 have H' := Aside0.mk H
                 clear H
                 have p31105 : 0 ≤ (x7_1 : Int) := of_decide_eq_true (by first | (with_reducible assumption) | assumption)
                 have q31105 : x7_1 < (l1.length : Int) := of_decide_eq_true (by first | (with_reducible assumption) | assumption)
                 obtain ⟨ad31105, e31105, hx31105_0⟩ := Kd.at_int HR1.out x7_1 p31105 q31105
                 cases e31105
                 replace p31105 := eq_true p31105
                 replace q31105 := eq_true q31105
                 have p31106 : 0 ≤ (x8_3 : Int) := of_decide_eq_true (by first | (with_reducible assumption) | assumption)
                 have q31106 : x8_3 < (l1.length : Int) := of_decide_eq_true (by first | (with_reducible assumption) | assumption)
                 obtain ⟨ad31106, e31106, hx31106_0⟩ := Kd.at_int HR1.out x8_3 p31106 q31106
                 obtain rfl : ad31105 = ad31106 := (by injection e31106)
                 replace p31106 := eq_true p31106
                 replace q31106 := eq_true q31106
                 go_wp2
                 repeat (go_quiet (fail); try go_wp2)
                 go_roundg k3
                 case measure => have := HK1.out; have := HJ8.out; have := HK3.out; omega
                 case rel => exact ⟨(wrap64 (x8_3 + 1)), (by first | rfl | (simp; done) | (simp [*]; done)), H', ⟨by have := HK1.out; have := HJ8.out; have := HK3.out; omega⟩, by repeat (first | exact Drawn0.refl _ | apply Drawn0.step)⟩
               ·rw [if_neg c17] at H
                exact absurd H (by simp)
              ·rw [if_neg c16] at H
               exact absurd H (by simp)
             ·rw [if_neg c15] at H
              exact absurd H (by simp)
            ·rw [if_neg c14] at H
             exact absurd H (by simp)
           ·rw [if_neg c13] at H
            have c13b0 : decide (x8_3 < x7_1) = false := decide_eq_false c13
            clear c13
            have H' := Aside0.mk H
            clear H
            go_wp2
            repeat (go_quiet (fail); try go_wp2)
            go_roundg k3
            case measure => have := HK1.out; have := HJ8.out; have := HK3.out; omega
            case rel => exact ⟨(wrap64 (x7_1 + 1)), (by first | rfl | (simp; done) | (simp [*]; done)), H', ⟨by have := HK1.out; have := HJ8.out; have := HK3.out; omega⟩, by repeat (first | exact Drawn0.refl _ | apply Drawn0.step)⟩
     ·rw [if_neg c8] at H
      have c8b0 : decide (x7_1 < (l1.length : Int)) = false := decide_eq_false c8
      clear c8
      obtain rfl := Option.some.inj H
      go_wp2
      repeat (go_quiet (fail); try go_wp2)
      go_ret
      exact ⟨by first | rfl | (simp; done) | (simp [*]; done), by repeat (first | exact Drawn0.refl _ | apply Drawn0.step)⟩
  ·rw [if_neg c7] at H
   have c7b0 : ((l1.length : Int) == t31102) = false := beq_eq_false_iff_ne.mpr c7
   have c7b1 : ((l1.length : Int) != t31102) = true := bne_iff_ne.mpr c7
   obtain rfl := Option.some.inj H
   go_enter Try.func62, Try.ntmps62
   go_wp2_with (first | (go_at_call 67; (with_reducible refine (phasorref06_Is.calls a0 true _ A4.out).mono ?_); rintro e w' ⟨rfl, ⟨nd, rfl⟩⟩; (try first | exact ⟨rfl, _, World.drewN_drewN _ _ _⟩ | exact ⟨rfl, _, Eq.trans (World.drewN_drewN _ _ _) (congrArg (World.drewN _) (Nat.add_assoc _ _ _))⟩)) | (go_at_call 68; (with_reducible refine (phasorref06_Arity.calls a0 t31102 _ A6.out).mono ?_); rintro e w' ⟨rfl, ⟨nd, rfl⟩⟩; (try first | exact ⟨rfl, _, World.drewN_drewN _ _ _⟩ | exact ⟨rfl, _, Eq.trans (World.drewN_drewN _ _ _) (congrArg (World.drewN _) (Nat.add_assoc _ _ _))⟩)))
   repeat (go_quiet (first | (go_at_call 67; (with_reducible refine (phasorref06_Is.calls a0 true _ A4.out).mono ?_); rintro e w' ⟨rfl, ⟨nd, rfl⟩⟩; (try first | exact ⟨rfl, _, World.drewN_drewN _ _ _⟩ | exact ⟨rfl, _, Eq.trans (World.drewN_drewN _ _ _) (congrArg (World.drewN _) (Nat.add_assoc _ _ _))⟩)) | (go_at_call 68; (with_reducible refine (phasorref06_Arity.calls a0 t31102 _ A6.out).mono ?_); rintro e w' ⟨rfl, ⟨nd, rfl⟩⟩; (try first | exact ⟨rfl, _, World.drewN_drewN _ _ _⟩ | exact ⟨rfl, _, Eq.trans (World.drewN_drewN _ _ _) (congrArg (World.drewN _) (Nat.add_assoc _ _ _))⟩))); try go_wp2_with (first | (go_at_call 67; (with_reducible refine (phasorref06_Is.calls a0 true _ A4.out).mono ?_); rintro e w' ⟨rfl, ⟨nd, rfl⟩⟩; (try first | exact ⟨rfl, _, World.drewN_drewN _ _ _⟩ | exact ⟨rfl, _, Eq.trans (World.drewN_drewN _ _ _) (congrArg (World.drewN _) (Nat.add_assoc _ _ _))⟩)) | (go_at_call 68; (with_reducible refine (phasorref06_Arity.calls a0 t31102 _ A6.out).mono ?_); rintro e w' ⟨rfl, ⟨nd, rfl⟩⟩; (try first | exact ⟨rfl, _, World.drewN_drewN _ _ _⟩ | exact ⟨rfl, _, Eq.trans (World.drewN_drewN _ _ _) (congrArg (World.drewN _) (Nat.add_assoc _ _ _))⟩))))
   go_ret
   exact ⟨by first | rfl | (simp; done) | (simp [*]; done), by repeat (first | exact Drawn0.refl _ | apply Drawn0.step)⟩
 ·replace c5 := Bool.eq_false_iff.mpr c5
  subst c5
  have H1 : (some 60) = some r := by rw [if_neg (show ¬ (false = true) by decide)] at H; exact H
  clear H
  have H := H1
  clear H1
  obtain rfl := Option.some.inj H
  go_enter Try.func62, Try.ntmps62
  go_wp2_with (first | (go_at_call 67; (with_reducible refine (phasorref06_Is.calls a0 false _ A4.out).mono ?_); rintro e w' ⟨rfl, ⟨nd, rfl⟩⟩; (try first | exact ⟨rfl, _, World.drewN_drewN _ _ _⟩ | exact ⟨rfl, _, Eq.trans (World.drewN_drewN _ _ _) (congrArg (World.drewN _) (Nat.add_assoc _ _ _))⟩)))
  repeat (go_quiet (first | (go_at_call 67; (with_reducible refine (phasorref06_Is.calls a0 false _ A4.out).mono ?_); rintro e w' ⟨rfl, ⟨nd, rfl⟩⟩; (try first | exact ⟨rfl, _, World.drewN_drewN _ _ _⟩ | exact ⟨rfl, _, Eq.trans (World.drewN_drewN _ _ _) (congrArg (World.drewN _) (Nat.add_assoc _ _ _))⟩))); try go_wp2_with (first | (go_at_call 67; (with_reducible refine (phasorref06_Is.calls a0 false _ A4.out).mono ?_); rintro e w' ⟨rfl, ⟨nd, rfl⟩⟩; (try first | exact ⟨rfl, _, World.drewN_drewN _ _ _⟩ | exact ⟨rfl, _, Eq.trans (World.drewN_drewN _ _ _) (congrArg (World.drewN _) (Nat.add_assoc _ _ _))⟩))))
  go_ret
  exact ⟨by first | rfl | (simp; done) | (simp [*]; done), by repeat (first | exact Drawn0.refl _ | apply Drawn0.step)⟩
mutual
def phasorref08_unlike.l0 : Nat → List Int → Int → Int → Option (Bool)
 | 0, _, _, _ => none
 | k + 1, x0, x1, x5 => if x5 < (x0.length : Int) then (if 0 ≤ x5 then (if (rd x0 x5) < 0 then (phasorref08_unlike.j1 k x0 x1 x5 true) else (phasorref08_unlike.j1 k x0 x1 x5 (decide ((rd x0 x5) ≥ x1)))) else (none)) else (some true)
def phasorref08_unlike.j1 : Nat → List Int → Int → Int → Bool → Option (Bool)
 | 0, _, _, _, _ => none
 | k + 1, x0, x1, x5, x25 => if x25 = true then (some false) else (phasorref08_unlike.l1 k x0 x1 x5 0)
def phasorref08_unlike.l1 : Nat → List Int → Int → Int → Int → Option (Bool)
 | 0, _, _, _, _ => none
 | k + 1, x0, x1, x5, x6 => if x6 < x5 then (if 0 ≤ x6 then (if x6 < (x0.length : Int) then (if 0 ≤ x5 then (if x5 < (x0.length : Int) then (if (rd x0 x6) = (rd x0 x5) then (some false) else (phasorref08_unlike.l1 k x0 x1 x5 (wrap64 (x6 + 1)))) else (none)) else (none)) else (none)) else (none)) else (phasorref08_unlike.l0 k x0 x1 (wrap64 (x5 + 1)))
end
def phasorref08_unlike.f (k : Nat) (l0 : List Int) (a1 : Int) : Option (Bool) := phasorref08_unlike.l0 k l0 a1 0
set_option maxHeartbeats 8000000 in
set_option maxRecDepth 100000 in
theorem phasorref08_unlike.calls (k : Nat) (A0 : Option Addr) (c0 : Nat) (l0 : List Int) (a1 : Int) (r : Bool) (w : World) (hr0 : Kd.C (Kd.int .i64) w A0 l0.length l0) (hc0 : l0.length ≤ c0) (h : phasorref08_unlike.f k l0 a1 = some r) :
  Calls Try.prog 63 #[.slice A0 l0.length c0, .int .i64 a1] w fun e w' => e = .returned (.bool r) ∧ Drawn0 w w' := by
 have HR0 := Aside0.mk hr0
 have HC0 := Aside0.mk hc0
 clear hr0 hc0
 have H : (phasorref08_unlike.l0 k l0 a1 0) = some r := h
 clear h
 have H' := Aside0.mk H
 clear H
 go_enter Try.func63, Try.ntmps63
 go_wp2
 repeat (go_quiet (fail); try go_wp2)
 go_loopg [5] k (fun kq v5 w' => ∃ (x5_1 : Int), v5 = .int .i64 x5_1 ∧ Aside0 (phasorref08_unlike.l0 kq l0 a1 x5_1 = some r) ∧ Aside0 (kq ≤ k) ∧ Drawn0 w w')
 case atStart => exact ⟨(0), (by first | rfl | (simp; done) | (simp [*]; done)), H', ⟨Nat.le_refl _⟩, by repeat (first | exact Drawn0.refl _ | apply Drawn0.step)⟩
 case round =>
  clear H'
  try clear p2
  obtain ⟨x5_1, rfl, HA, HK1, ⟨m1, rfl⟩⟩ := hrel
  cases gk with
  | zero => exact absurd HA.out (by simp [phasorref08_unlike.l0])
  | succ k1 =>
   have H := HA.out
   clear HA
   simp only [phasorref08_unlike.l0] at H
   by_cases c3 : x5_1 < (l0.length : Int)
   ·rw [if_pos c3] at H
    have c3b0 : decide (x5_1 < (l0.length : Int)) = true := decide_eq_true c3
    clear c3
    have HC4 := Aside0.mk H
    clear H
    go_upto_region 4 with (fail)
    repeat (go_quiet (fail); go_upto_region 4 with (fail))
    go_cut [25] (fun v25 wc => ∃ (kq : Nat) (x25_3 : Bool), v25 = .bool x25_3 ∧ Aside0 (phasorref08_unlike.j1 kq l0 a1 x5_1 x25_3 = some r) ∧ Aside0 (kq ≤ k1) ∧ Drawn0 w wc)
    case first =>
     have H := HC4.out
     clear HC4
     by_cases c5 : 0 ≤ x5_1
     ·rw [if_pos c5] at H
      have c5b0 : decide (0 ≤ x5_1) = true := decide_eq_true c5
      clear c5
      (first | rw [c5b0] | (simp only [i64_w, i32_w]; rw [c5b0]) | skip)
      by_cases c6 : (rd l0 x5_1) < 0
      ·rw [if_pos c6] at H
       have c6b0 : decide ((rd l0 x5_1) < 0) = true := decide_eq_true c6
       clear c6
       have H' := Aside0.mk H
       clear H
       have p31601 : 0 ≤ (x5_1 : Int) := of_decide_eq_true (by first | (with_reducible assumption) | assumption)
       have q31601 : x5_1 < (l0.length : Int) := of_decide_eq_true (by first | (with_reducible assumption) | assumption)
       obtain ⟨ad31601, e31601, hx31601_0⟩ := Kd.at_int HR0.out x5_1 p31601 q31601
       cases e31601
       replace p31601 := eq_true p31601
       replace q31601 := eq_true q31601
       go_wp2
       repeat (go_quiet (fail); try go_wp2)
       go_meet
       case rel => exact ⟨_, (true), (by first | rfl | (simp; done) | (simp [*]; done)), H', ⟨by have := HK1.out; first | omega | exact Nat.le_refl _⟩, by repeat (first | exact Drawn0.refl _ | apply Drawn0.step)⟩
      ·rw [if_neg c6] at H
       have c6b0 : decide ((rd l0 x5_1) < 0) = false := decide_eq_false c6
       clear c6
       have H' := Aside0.mk H
       clear H
       have p31601 : 0 ≤ (x5_1 : Int) := of_decide_eq_true (by first | (with_reducible assumption) | assumption)
       have q31601 : x5_1 < (l0.length : Int) := of_decide_eq_true (by first | (with_reducible assumption) | assumption)
       obtain ⟨ad31601, e31601, hx31601_0⟩ := Kd.at_int HR0.out x5_1 p31601 q31601
       cases e31601
       replace p31601 := eq_true p31601
       replace q31601 := eq_true q31601
       have p31602 : 0 ≤ (x5_1 : Int) := of_decide_eq_true (by first | (with_reducible assumption) | assumption)
       have q31602 : x5_1 < (l0.length : Int) := of_decide_eq_true (by first | (with_reducible assumption) | assumption)
       obtain ⟨ad31602, e31602, hx31602_0⟩ := Kd.at_int HR0.out x5_1 p31602 q31602
       obtain rfl : ad31601 = ad31602 := (by injection e31602)
       replace p31602 := eq_true p31602
       replace q31602 := eq_true q31602
       go_wp2
       repeat (go_quiet (fail); try go_wp2)
       go_meet
       case rel => exact ⟨_, (decide ((rd l0 x5_1) ≥ a1)), (by first | rfl | (simp; done) | (simp [*]; done)), H', ⟨by have := HK1.out; first | omega | exact Nat.le_refl _⟩, by repeat (first | exact Drawn0.refl _ | apply Drawn0.step)⟩
     ·rw [if_neg c5] at H
      exact absurd H (by simp)
    case rest =>
     clear HC4
     try clear p2
     try clear c3
     try clear c3b0
     try clear p3
     try clear q3
     try clear hx3
     try clear c5
     try clear c5b0
     try clear c6
     try clear c6b0
     try clear hx31601_0
     try clear hx31602_0
     try clear p2
     try clear p31601
     try clear p31602
     try clear q31601
     try clear q31602
     obtain ⟨kq, x25_3, rfl, HA, HJ3, ⟨mc3, rfl⟩⟩ := hcut
     cases kq with
     | zero => exact absurd HA.out (by simp [phasorref08_unlike.j1])
     | succ kj3 =>
      have H := HA.out
      clear HA
      simp only [phasorref08_unlike.j1] at H
      by_cases c7 : x25_3 = true
      ·subst c7
       have H1 : (some false) = some r := by rw [if_pos rfl] at H; exact H
       clear H
       have H := H1
       clear H1
       obtain rfl := Option.some.inj H
       go_wp2
       repeat (go_quiet (fail); try go_wp2)
       go_ret
       exact ⟨by first | rfl | (simp; done) | (simp [*]; done), by repeat (first | exact Drawn0.refl _ | apply Drawn0.step)⟩
      ·replace c7 := Bool.eq_false_iff.mpr c7
       subst c7
       have H1 : (phasorref08_unlike.l1 kj3 l0 a1 x5_1 0) = some r := by rw [if_neg (show ¬ (false = true) by decide)] at H; exact H
       clear H
       have H := H1
       clear H1
       have H' := Aside0.mk H
       clear H
       go_wp2
       repeat (go_quiet (fail); try go_wp2)
       go_loopg [6] kj3 (fun kq v6 w' => ∃ (x6_3 : Int), v6 = .int .i64 x6_3 ∧ Aside0 (phasorref08_unlike.l1 kq l0 a1 x5_1 x6_3 = some r) ∧ Aside0 (kq ≤ kj3) ∧ Drawn0 w w')
       case atStart => exact ⟨(0), (by first | rfl | (simp; done) | (simp [*]; done)), H', ⟨Nat.le_refl _⟩, by repeat (first | exact Drawn0.refl _ | apply Drawn0.step)⟩
       case round =>
        clear H'
        try clear p2
        try clear c3
        try clear c3b0
        try clear p3
        try clear q3
        try clear hx3
        try clear c5
        try clear c5b0
        try clear c6
        try clear c6b0
        try clear c7
        try clear hx31601_0
        try clear hx31602_0
        try clear p2
        try clear p3
        try clear p31601
        try clear p31602
        try clear q3
        try clear q31601
        try clear q31602
        obtain ⟨x6_3, rfl, HA, HK3, ⟨m3, rfl⟩⟩ := hrel
        cases gk with
        | zero => exact absurd HA.out (by simp [phasorref08_unlike.l1])
        | succ k3 =>
         have H := HA.out
         clear HA
         simp only [phasorref08_unlike.l1] at H
         by_cases c8 : x6_3 < x5_1
         ·rw [if_pos c8] at H
          have c8b0 : decide (x6_3 < x5_1) = true := decide_eq_true c8
          clear c8
          by_cases c9 : 0 ≤ x6_3
          ·rw [if_pos c9] at H
           have c9b0 : decide (0 ≤ x6_3) = true := decide_eq_true c9
           clear c9
           by_cases c10 : x6_3 < (l0.length : Int)
           ·rw [if_pos c10] at H
            have c10b0 : decide (x6_3 < (l0.length : Int)) = true := decide_eq_true c10
            clear c10
            by_cases c11 : 0 ≤ x5_1
            ·rw [if_pos c11] at H
             have c11b0 : decide (0 ≤ x5_1) = true := decide_eq_true c11
             clear c11
             by_cases c12 : x5_1 < (l0.length : Int)
             ·rw [if_pos c12] at H
              have c12b0 : decide (x5_1 < (l0.length : Int)) = true := decide_eq_true c12
              clear c12
              by_cases c13 : (rd l0 x6_3) = (rd l0 x5_1)
              ·rw [if_pos c13] at H
               have c13b0 : ((rd l0 x6_3) == (rd l0 x5_1)) = true := beq_iff_eq.mpr c13
               have c13b1 : ((rd l0 x6_3) != (rd l0 x5_1)) = false := bne_eq_false_iff_eq.mpr c13
               clear c13
               obtain rfl := Option.some.inj H
               have p31603 : 0 ≤ (x6_3 : Int) := of_decide_eq_true (by first | (with_reducible assumption) | assumption)
               have q31603 : x6_3 < (l0.length : Int) := of_decide_eq_true (by first | (with_reducible assumption) | assumption)
               obtain ⟨ad31603, e31603, hx31603_0⟩ := Kd.at_int HR0.out x6_3 p31603 q31603
               cases e31603
               replace p31603 := eq_true p31603
               replace q31603 := eq_true q31603
               have p31604 : 0 ≤ (x5_1 : Int) := of_decide_eq_true (by first | (with_reducible assumption) | assumption)
               have q31604 : x5_1 < (l0.length : Int) := of_decide_eq_true (by first | (with_reducible assumption) | assumption)
               obtain ⟨ad31604, e31604, hx31604_0⟩ := Kd.at_int HR0.out x5_1 p31604 q31604
               obtain rfl : ad31603 = ad31604 := (by injection e31604)
               replace p31604 := eq_true p31604
               replace q31604 := eq_true q31604
               go_wp2
               repeat (go_quiet (fail); try go_wp2)
               go_ret
               exact ⟨by first | rfl | (simp; done) | (simp [*]; done), by repeat (first | exact Drawn0.refl _ | apply Drawn0.step)⟩
              ·rw [if_neg c13] at H
               have c13b0 : ((rd l0 x6_3) == (rd l0 x5_1)) = false := beq_eq_false_iff_ne.mpr c13
               have c13b1 : ((rd l0 x6_3) != (rd l0 x5_1)) = true := bne_iff_ne.mpr c13
               have H' := Aside0.mk H
               clear H
               have p31603 : 0 ≤ (x6_3 : Int) := of_decide_eq_true (by first | (with_reducible assumption) | assumption)
               have q31603 : x6_3 < (l0.length : Int) := of_decide_eq_true (by first | (with_reducible assumption) | assumption)
               obtain ⟨ad31603, e31603, hx31603_0⟩ := Kd.at_int HR0.out x6_3 p31603 q31603
               cases e31603
               replace p31603 := eq_true p31603
               replace q31603 := eq_true q31603
               have p31604 : 0 ≤ (x5_1 : Int) := of_decide_eq_true (by first | (with_reducible assumption) | assumption)
               have q31604 : x5_1 < (l0.length : Int) := of_decide_eq_true (by first | (with_reducible assumption) | assumption)
               obtain ⟨ad31604, e31604, hx31604_0⟩ := Kd.at_int HR0.out x5_1 p31604 q31604
               obtain rfl : ad31603 = ad31604 := (by injection e31604)
               replace p31604 := eq_true p31604
               replace q31604 := eq_true q31604
               go_wp2
               repeat (go_quiet (fail); try go_wp2)
               go_roundg k3
               case measure => have := HK1.out; have := HJ3.out; have := HK3.out; omega
               case rel => exact ⟨(wrap64 (x6_3 + 1)), (by first | rfl | (simp; done) | (simp [*]; done)), H', ⟨by have := HK1.out; have := HJ3.out; have := HK3.out; omega⟩, by repeat (first | exact Drawn0.refl _ | apply Drawn0.step)⟩
             ·rw [if_neg c12] at H
              exact absurd H (by simp)
            ·rw [if_neg c11] at H
             exact absurd H (by simp)
           ·rw [if_neg c10] at H
            exact absurd H (by simp)
          ·rw [if_neg c9] at H
           exact absurd H (by simp)
         ·rw [if_neg c8] at H
          have c8b0 : decide (x6_3 < x5_1) = false := decide_eq_false c8
          clear c8
          have H' := Aside0.mk H
          clear H
          go_wp2
          repeat (go_quiet (fail); try go_wp2)
          go_roundg k3
          case measure => have := HK1.out; have := HJ3.out; have := HK3.out; omega
          case rel => exact ⟨(wrap64 (x5_1 + 1)), (by first | rfl | (simp; done) | (simp [*]; done)), H', ⟨by have := HK1.out; have := HJ3.out; have := HK3.out; omega⟩, by repeat (first | exact Drawn0.refl _ | apply Drawn0.step)⟩
   ·rw [if_neg c3] at H
    have c3b0 : decide (x5_1 < (l0.length : Int)) = false := decide_eq_false c3
    clear c3
    obtain rfl := Option.some.inj H
    go_wp2
    repeat (go_quiet (fail); try go_wp2)
    go_ret
    exact ⟨by first | rfl | (simp; done) | (simp [*]; done), by repeat (first | exact Drawn0.refl _ | apply Drawn0.step)⟩
def phasorref08_Op.j0 : Nat → Int → Int → Bool → Int → Int → List Int → Int → Int → Int → Option (Bool)
 | 0, _, _, _, _, _, _, _, _, _ => none
 | k + 1, x1, x2, x7, x28102000, x28102001, x28102002, x28102003, x28102004, x28102005 => if x28102000 = 1 then ((phasorref06_Check.f k x28102001 x28102002 x1).bind fun t28102 => (if t28102 = 0 then (if x28102003 = 0 then (if x7 = true then (some true) else (if x28102004 ≥ 0 then (if x28102004 < x2 then (if x28102005 = 0 then (some true) else (some (x28102005 == 1))) else (some false)) else (some false))) else (some false)) else (some false))) else (if x28102000 = 2 then (if x28102001 = 0 then (if (x28102002.length : Int) = 1 then ((phasorref08_unlike.f k x28102002 x1).bind fun t28103 => (if t28103 = true then (if x28102003 ≥ 0 then (if x28102003 < x2 then (some x7) else (some false)) else (some false)) else (some false))) else (some false)) else (some false)) else (if x28102000 = 3 then (if x28102001 = 0 then (if (x28102002.length : Int) = 1 then ((phasorref08_unlike.f k x28102002 x1).bind fun t28104 => (if t28104 = true then (if x28102003 = 0 then (some x7) else (some false)) else (some false))) else (some false)) else (some false)) else (if x28102000 = 4 then (if x28102001 = 0 then (if (x28102002.length : Int) > 0 then ((phasorref08_unlike.f k x28102002 x1).bind fun t28105 => (if t28105 = true then (if x28102003 = 0 then (some x7) else (some false)) else (some false))) else (some false)) else (some false)) else (some false))))
def phasorref08_Op.f (k : Nat) (a0_0 : Int) (a0_1 : Int) (l0_2 : List Int) (a0_3 : Int) (a0_4 : Int) (a0_5 : Int) (a1 : Int) (a2 : Int) : Option (Bool) := if a0_4 = (-1) then (phasorref08_Op.j0 k a1 a2 (a0_5 == 0) a0_0 a0_1 l0_2 a0_3 a0_4 a0_5) else (phasorref08_Op.j0 k a1 a2 false a0_0 a0_1 l0_2 a0_3 a0_4 a0_5)
set_option maxHeartbeats 8000000 in
set_option maxRecDepth 100000 in
theorem phasorref08_Op.calls (k : Nat) (a0_0 : Int) (a0_1 : Int) (A0_2 : Option Addr) (c0_2 : Nat) (l0_2 : List Int) (a0_3 : Int) (a0_4 : Int) (a0_5 : Int) (a1 : Int) (a2 : Int) (r : Bool) (w : World) (hr0_2 : Kd.C (Kd.int .i64) w A0_2 l0_2.length l0_2) (hc0_2 : l0_2.length ≤ c0_2) (h : phasorref08_Op.f k a0_0 a0_1 l0_2 a0_3 a0_4 a0_5 a1 a2 = some r) :
  Calls Try.prog 56 #[.agg #[.int .i64 a0_0, .int .i64 a0_1, .slice A0_2 l0_2.length c0_2, .int .i64 a0_3, .int .i64 a0_4, .int .i64 a0_5], .int .i64 a1, .int .i64 a2] w fun e w' => e = .returned (.bool r) ∧ Below w.heap.size w w' := by
 have hu57 := Try.underlying57
 have HR0_2 := Aside0.mk hr0_2
 have HC0_2 := Aside0.mk hc0_2
 clear hr0_2 hc0_2
 have HB := Aside0.mk (Below.refl w.heap.size w)
 have H : (if a0_4 = (-1) then (phasorref08_Op.j0 k a1 a2 (a0_5 == 0) a0_0 a0_1 l0_2 a0_3 a0_4 a0_5) else (phasorref08_Op.j0 k a1 a2 false a0_0 a0_1 l0_2 a0_3 a0_4 a0_5)) = some r := h
 clear h
 have HC4 := Aside0.mk H
 clear H
 go_enter Try.func56, Try.ntmps56
 go_upto_region 1 with (first | ((with_reducible refine gate_dst (N := 3) rfl ?_); (try (refine gate_guard (by rfl) ?_; dsimp only)); refine box_event ?hg (N := 3) ?hd (cs := #[.int .i64 a0_0, .int .i64 a0_1, .slice A0_2 l0_2.length c0_2, .int .i64 a0_3, .int .i64 a0_4, .int .i64 a0_5]) (t := 57) ?hr ?_; (case hd => rfl); (case hg => rfl); (case hr => first | (go_simp; done) | (go_simp; rfl)); intro gb28101 hg w5 hbox hb; have n0_ := Aside0.mk (below_step (by repeat (first | (with_reducible first | exact HB.out | apply below_alloc | apply pw_below_drewN | apply below_drew1) | exact HB.out)) hb); have n1_ := Aside0.mk (hbox); have n2_ := Aside0.mk ((by rw [hg]; exact (below_size (by repeat (first | (with_reducible first | exact HB.out | apply below_alloc | apply pw_below_drewN | apply below_drew1) | exact HB.out))) : w.heap.size ≤ gb28101)); have n3_ := Aside0.mk ((by rw [hg]; exact (below_size (by repeat (first | (with_reducible first | exact HB.out | apply below_alloc | apply pw_below_drewN | apply below_drew1) | exact HB.out))) : w.heap.size ≤ gb28101)); clear HB; have HB := n0_; have BK28101 := n1_; have GW28101 := n2_; have GE28101 := n3_; clear n0_ n1_ n2_ n3_; clear hb hbox hg))
 (try simp only [Act.put, List.setIfInBounds_toArray, List.set_cons_zero, List.set_cons_succ])
 go_cut [7] (fun v7 wc => ∃ (kq : Nat) (x7_3 : Bool), v7 = .bool x7_3 ∧ Aside0 (phasorref08_Op.j0 kq a1 a2 x7_3 a0_0 a0_1 l0_2 a0_3 a0_4 a0_5 = some r) ∧ Aside0 (kq ≤ k) ∧ Aside0 (wc.heap[gb28101]? = some (.cells #[.int .i64 a0_0, .int .i64 a0_1, (.slice A0_2 l0_2.length c0_2), .int .i64 a0_3, .int .i64 a0_4, .int .i64 a0_5] 57 (0, 0))) ∧ Aside0 (Below w.heap.size w wc))
 case first =>
  have H := HC4.out
  clear HC4
  by_cases c6 : a0_4 = (-1)
  ·rw [if_pos c6] at H
   have c6b0 : (a0_4 == (-1)) = true := beq_iff_eq.mpr c6
   have c6b1 : (a0_4 != (-1)) = false := bne_eq_false_iff_eq.mpr c6
   clear c6
   (first | rw [c6b0] | (simp only [i64_w, i32_w]; rw [c6b0]) | skip)
   have H' := Aside0.mk H
   clear H
   have hcz7_0 : w5.cell? ⟨gb28101, 0, none⟩ = some (.int .i64 a0_0) := (blk_cell BK28101.out 0).trans rfl
   have hcz7_1 : w5.cell? ⟨gb28101, 1, none⟩ = some (.int .i64 a0_1) := (blk_cell BK28101.out 1).trans rfl
   have hcz7_2 : w5.cell? ⟨gb28101, 2, none⟩ = some (.slice A0_2 l0_2.length c0_2) := (blk_cell BK28101.out 2).trans rfl
   have hcz7_3 : w5.cell? ⟨gb28101, 3, none⟩ = some (.int .i64 a0_3) := (blk_cell BK28101.out 3).trans rfl
   have hcz7_4 : w5.cell? ⟨gb28101, 4, none⟩ = some (.int .i64 a0_4) := (blk_cell BK28101.out 4).trans rfl
   have hcz7_5 : w5.cell? ⟨gb28101, 5, none⟩ = some (.int .i64 a0_5) := (blk_cell BK28101.out 5).trans rfl
   have hfz7_0 := blk_frozen BK28101.out 0
   have hfz7_1 := blk_frozen BK28101.out 1
   have hfz7_2 := blk_frozen BK28101.out 2
   have hfz7_3 := blk_frozen BK28101.out 3
   have hfz7_4 := blk_frozen BK28101.out 4
   have hfz7_5 := blk_frozen BK28101.out 5
   go_wp2
   go_meet
   case rel => exact ⟨_, ((a0_5 == 0)), (by first | rfl | (simp; done) | (simp [*]; done)), H', ⟨by first | omega | exact Nat.le_refl _⟩, ⟨by (with_reducible repeat (first | refine blk_drewN ?_ _ | refine blk_drew ?_ | refine blk_alloc ?_ _)); exact BK28101.out⟩, ⟨by repeat (first | (with_reducible first | exact HB.out | apply below_alloc | apply pw_below_drewN | apply below_drew1 | refine below_set ?_ GE28101.out) | exact HB.out)⟩⟩
  ·rw [if_neg c6] at H
   have c6b0 : (a0_4 == (-1)) = false := beq_eq_false_iff_ne.mpr c6
   have c6b1 : (a0_4 != (-1)) = true := bne_iff_ne.mpr c6
   (first | rw [c6b0] | (simp only [i64_w, i32_w]; rw [c6b0]) | skip)
   have H' := Aside0.mk H
   clear H
   have hcz8_0 : w5.cell? ⟨gb28101, 0, none⟩ = some (.int .i64 a0_0) := (blk_cell BK28101.out 0).trans rfl
   have hcz8_1 : w5.cell? ⟨gb28101, 1, none⟩ = some (.int .i64 a0_1) := (blk_cell BK28101.out 1).trans rfl
   have hcz8_2 : w5.cell? ⟨gb28101, 2, none⟩ = some (.slice A0_2 l0_2.length c0_2) := (blk_cell BK28101.out 2).trans rfl
   have hcz8_3 : w5.cell? ⟨gb28101, 3, none⟩ = some (.int .i64 a0_3) := (blk_cell BK28101.out 3).trans rfl
   have hcz8_4 : w5.cell? ⟨gb28101, 4, none⟩ = some (.int .i64 a0_4) := (blk_cell BK28101.out 4).trans rfl
   have hcz8_5 : w5.cell? ⟨gb28101, 5, none⟩ = some (.int .i64 a0_5) := (blk_cell BK28101.out 5).trans rfl
   have hfz8_0 := blk_frozen BK28101.out 0
   have hfz8_1 := blk_frozen BK28101.out 1
   have hfz8_2 := blk_frozen BK28101.out 2
   have hfz8_3 := blk_frozen BK28101.out 3
   have hfz8_4 := blk_frozen BK28101.out 4
   have hfz8_5 := blk_frozen BK28101.out 5
   go_wp2
   go_meet
   case rel => exact ⟨_, (false), (by first | rfl | (simp; done) | (simp [*]; done)), H', ⟨by first | omega | exact Nat.le_refl _⟩, ⟨by (with_reducible repeat (first | refine blk_drewN ?_ _ | refine blk_drew ?_ | refine blk_alloc ?_ _)); exact BK28101.out⟩, ⟨by repeat (first | (with_reducible first | exact HB.out | apply below_alloc | apply pw_below_drewN | apply below_drew1 | refine below_set ?_ GE28101.out) | exact HB.out)⟩⟩
 case rest =>
  clear HC4
  try clear p2
  try clear c5
  try clear c6
  try clear c6b0
  try clear c6b1
  try clear hcz7_0
  try clear hcz7_1
  try clear hcz7_2
  try clear hcz7_3
  try clear hcz7_4
  try clear hcz7_5
  try clear hcz8_0
  try clear hcz8_1
  try clear hcz8_2
  try clear hcz8_3
  try clear hcz8_4
  try clear hcz8_5
  try clear hfz7_0
  try clear hfz7_1
  try clear hfz7_2
  try clear hfz7_3
  try clear hfz7_4
  try clear hfz7_5
  try clear hfz8_0
  try clear hfz8_1
  try clear hfz8_2
  try clear hfz8_3
  try clear hfz8_4
  try clear hfz8_5
  obtain ⟨kq, x7_3, rfl, HA, HJ3, BK28101, HB⟩ := hcut
  cases kq with
  | zero => exact absurd HA.out (by simp [phasorref08_Op.j0])
  | succ kj3 =>
   have H := HA.out
   clear HA
   simp only [phasorref08_Op.j0] at H
   by_cases c9 : a0_0 = 1
   ·rw [if_pos c9] at H
    have c9b0 : (a0_0 == 1) = true := beq_iff_eq.mpr c9
    have c9b1 : (a0_0 != 1) = false := bne_eq_false_iff_eq.mpr c9
    clear c9
    replace H := Option.bind_eq_some_iff.mp H
    obtain ⟨t28102, A100, H⟩ := H
    replace H : (if t28102 = 0 then (if a0_3 = 0 then (if x7_3 = true then (some true) else (if a0_4 ≥ 0 then (if a0_4 < a2 then (if a0_5 = 0 then (some true) else (some (a0_5 == 1))) else (some false)) else (some false))) else (some false)) else (some false)) = some r := H
    have A10 := Aside0.mk A100
    clear A100
    by_cases c11 : t28102 = 0
    ·rw [if_pos c11] at H
     have c11b0 : (t28102 == 0) = true := beq_iff_eq.mpr c11
     have c11b1 : (t28102 != 0) = false := bne_eq_false_iff_eq.mpr c11
     clear c11
     by_cases c12 : a0_3 = 0
     ·rw [if_pos c12] at H
      have c12b0 : (a0_3 == 0) = true := beq_iff_eq.mpr c12
      have c12b1 : (a0_3 != 0) = false := bne_eq_false_iff_eq.mpr c12
      clear c12
      by_cases c13 : x7_3 = true
      ·subst c13
       have H1 : (some true) = some r := by rw [if_pos rfl] at H; exact H
       clear H
       have H := H1
       clear H1
       obtain rfl := Option.some.inj H
       have hcz14_0 : wc.cell? ⟨gb28101, 0, none⟩ = some (.int .i64 a0_0) := (blk_cell BK28101.out 0).trans rfl
       have hcz14_1 : wc.cell? ⟨gb28101, 1, none⟩ = some (.int .i64 a0_1) := (blk_cell BK28101.out 1).trans rfl
       have hcz14_2 : wc.cell? ⟨gb28101, 2, none⟩ = some (.slice A0_2 l0_2.length c0_2) := (blk_cell BK28101.out 2).trans rfl
       have hcz14_3 : wc.cell? ⟨gb28101, 3, none⟩ = some (.int .i64 a0_3) := (blk_cell BK28101.out 3).trans rfl
       have hcz14_4 : wc.cell? ⟨gb28101, 4, none⟩ = some (.int .i64 a0_4) := (blk_cell BK28101.out 4).trans rfl
       have hcz14_5 : wc.cell? ⟨gb28101, 5, none⟩ = some (.int .i64 a0_5) := (blk_cell BK28101.out 5).trans rfl
       have hfz14_0 := blk_frozen BK28101.out 0
       have hfz14_1 := blk_frozen BK28101.out 1
       have hfz14_2 := blk_frozen BK28101.out 2
       have hfz14_3 := blk_frozen BK28101.out 3
       have hfz14_4 := blk_frozen BK28101.out 4
       have hfz14_5 := blk_frozen BK28101.out 5
       go_wp2_with (first | ((with_reducible refine gate_callee (f := 62) rfl ?_); refine goesL_ (some 25) rfl rfl Try.func62 (by kernel_rfl) rfl #[.int .i64 a0_1, .slice A0_2 l0_2.length c0_2, .int .i64 a1] rfl (by (try simp only [List.map_toArray, List.map_cons, List.map_nil]); first | done | rfl | (simp only [List.length_drop, List.length_take]; rfl)) ?_; (with_reducible refine (phasorref06_Check.calls kj3 a0_1 _ _ l0_2 a1 t28102 _ ?side1 ?side2 A10.out).mono ?_); (case side1 => repeat (first | exact (Kd.C_below HR0_2.out HB.out) | (with_reducible refine Kd.C_alloc ?_ _) | (with_reducible refine Kd.C_drewN ?_ _) | (with_reducible refine Kd.C_drew ?_))); (case side2 => exact HC0_2.out); rintro e w' ⟨rfl, ⟨nd, rfl⟩⟩; refine ⟨_, rfl, ?_⟩))
       go_ret
       exact ⟨by first | rfl | (simp [errW_none, errW_some] <;> rfl) | (simp [*, errW_none, errW_some] <;> rfl), by repeat (first | (with_reducible first | exact HB.out | apply below_alloc | apply pw_below_drewN | apply below_drew1 | refine below_set ?_ GE28101.out) | exact HB.out)⟩
      ·replace c13 := Bool.eq_false_iff.mpr c13
       subst c13
       have H1 : (if a0_4 ≥ 0 then (if a0_4 < a2 then (if a0_5 = 0 then (some true) else (some (a0_5 == 1))) else (some false)) else (some false)) = some r := by rw [if_neg (show ¬ (false = true) by decide)] at H; exact H
       clear H
       have H := H1
       clear H1
       by_cases c15 : a0_4 ≥ 0
       ·rw [if_pos c15] at H
        have c15b0 : decide (0 ≤ a0_4) = true := decide_eq_true c15
        clear c15
        by_cases c16 : a0_4 < a2
        ·rw [if_pos c16] at H
         have c16b0 : decide (a0_4 < a2) = true := decide_eq_true c16
         clear c16
         by_cases c17 : a0_5 = 0
         ·rw [if_pos c17] at H
          have c17b0 : (a0_5 == 0) = true := beq_iff_eq.mpr c17
          have c17b1 : (a0_5 != 0) = false := bne_eq_false_iff_eq.mpr c17
          clear c17
          obtain rfl := Option.some.inj H
          have hcz18_0 : wc.cell? ⟨gb28101, 0, none⟩ = some (.int .i64 a0_0) := (blk_cell BK28101.out 0).trans rfl
          have hcz18_1 : wc.cell? ⟨gb28101, 1, none⟩ = some (.int .i64 a0_1) := (blk_cell BK28101.out 1).trans rfl
          have hcz18_2 : wc.cell? ⟨gb28101, 2, none⟩ = some (.slice A0_2 l0_2.length c0_2) := (blk_cell BK28101.out 2).trans rfl
          have hcz18_3 : wc.cell? ⟨gb28101, 3, none⟩ = some (.int .i64 a0_3) := (blk_cell BK28101.out 3).trans rfl
          have hcz18_4 : wc.cell? ⟨gb28101, 4, none⟩ = some (.int .i64 a0_4) := (blk_cell BK28101.out 4).trans rfl
          have hcz18_5 : wc.cell? ⟨gb28101, 5, none⟩ = some (.int .i64 a0_5) := (blk_cell BK28101.out 5).trans rfl
          have hfz18_0 := blk_frozen BK28101.out 0
          have hfz18_1 := blk_frozen BK28101.out 1
          have hfz18_2 := blk_frozen BK28101.out 2
          have hfz18_3 := blk_frozen BK28101.out 3
          have hfz18_4 := blk_frozen BK28101.out 4
          have hfz18_5 := blk_frozen BK28101.out 5
          go_wp2_with (first | ((with_reducible refine gate_callee (f := 62) rfl ?_); refine goesL_ (some 25) rfl rfl Try.func62 (by kernel_rfl) rfl #[.int .i64 a0_1, .slice A0_2 l0_2.length c0_2, .int .i64 a1] rfl (by (try simp only [List.map_toArray, List.map_cons, List.map_nil]); first | done | rfl | (simp only [List.length_drop, List.length_take]; rfl)) ?_; (with_reducible refine (phasorref06_Check.calls kj3 a0_1 _ _ l0_2 a1 t28102 _ ?side1 ?side2 A10.out).mono ?_); (case side1 => repeat (first | exact (Kd.C_below HR0_2.out HB.out) | (with_reducible refine Kd.C_alloc ?_ _) | (with_reducible refine Kd.C_drewN ?_ _) | (with_reducible refine Kd.C_drew ?_))); (case side2 => exact HC0_2.out); rintro e w' ⟨rfl, ⟨nd, rfl⟩⟩; refine ⟨_, rfl, ?_⟩))
          go_ret
          exact ⟨by first | rfl | (simp [errW_none, errW_some] <;> rfl) | (simp [*, errW_none, errW_some] <;> rfl), by repeat (first | (with_reducible first | exact HB.out | apply below_alloc | apply pw_below_drewN | apply below_drew1 | refine below_set ?_ GE28101.out) | exact HB.out)⟩
         ·rw [if_neg c17] at H
          have c17b0 : (a0_5 == 0) = false := beq_eq_false_iff_ne.mpr c17
          have c17b1 : (a0_5 != 0) = true := bne_iff_ne.mpr c17
          obtain rfl := Option.some.inj H
          have hcz19_0 : wc.cell? ⟨gb28101, 0, none⟩ = some (.int .i64 a0_0) := (blk_cell BK28101.out 0).trans rfl
          have hcz19_1 : wc.cell? ⟨gb28101, 1, none⟩ = some (.int .i64 a0_1) := (blk_cell BK28101.out 1).trans rfl
          have hcz19_2 : wc.cell? ⟨gb28101, 2, none⟩ = some (.slice A0_2 l0_2.length c0_2) := (blk_cell BK28101.out 2).trans rfl
          have hcz19_3 : wc.cell? ⟨gb28101, 3, none⟩ = some (.int .i64 a0_3) := (blk_cell BK28101.out 3).trans rfl
          have hcz19_4 : wc.cell? ⟨gb28101, 4, none⟩ = some (.int .i64 a0_4) := (blk_cell BK28101.out 4).trans rfl
          have hcz19_5 : wc.cell? ⟨gb28101, 5, none⟩ = some (.int .i64 a0_5) := (blk_cell BK28101.out 5).trans rfl
          have hfz19_0 := blk_frozen BK28101.out 0
          have hfz19_1 := blk_frozen BK28101.out 1
          have hfz19_2 := blk_frozen BK28101.out 2
          have hfz19_3 := blk_frozen BK28101.out 3
          have hfz19_4 := blk_frozen BK28101.out 4
          have hfz19_5 := blk_frozen BK28101.out 5
          go_wp2_with (first | ((with_reducible refine gate_callee (f := 62) rfl ?_); refine goesL_ (some 25) rfl rfl Try.func62 (by kernel_rfl) rfl #[.int .i64 a0_1, .slice A0_2 l0_2.length c0_2, .int .i64 a1] rfl (by (try simp only [List.map_toArray, List.map_cons, List.map_nil]); first | done | rfl | (simp only [List.length_drop, List.length_take]; rfl)) ?_; (with_reducible refine (phasorref06_Check.calls kj3 a0_1 _ _ l0_2 a1 t28102 _ ?side1 ?side2 A10.out).mono ?_); (case side1 => repeat (first | exact (Kd.C_below HR0_2.out HB.out) | (with_reducible refine Kd.C_alloc ?_ _) | (with_reducible refine Kd.C_drewN ?_ _) | (with_reducible refine Kd.C_drew ?_))); (case side2 => exact HC0_2.out); rintro e w' ⟨rfl, ⟨nd, rfl⟩⟩; refine ⟨_, rfl, ?_⟩))
          go_ret
          exact ⟨by first | rfl | (simp [errW_none, errW_some] <;> rfl) | (simp [*, errW_none, errW_some] <;> rfl), by repeat (first | (with_reducible first | exact HB.out | apply below_alloc | apply pw_below_drewN | apply below_drew1 | refine below_set ?_ GE28101.out) | exact HB.out)⟩
        ·rw [if_neg c16] at H
         have c16b0 : decide (a0_4 < a2) = false := decide_eq_false c16
         clear c16
         obtain rfl := Option.some.inj H
         have hcz20_0 : wc.cell? ⟨gb28101, 0, none⟩ = some (.int .i64 a0_0) := (blk_cell BK28101.out 0).trans rfl
         have hcz20_1 : wc.cell? ⟨gb28101, 1, none⟩ = some (.int .i64 a0_1) := (blk_cell BK28101.out 1).trans rfl
         have hcz20_2 : wc.cell? ⟨gb28101, 2, none⟩ = some (.slice A0_2 l0_2.length c0_2) := (blk_cell BK28101.out 2).trans rfl
         have hcz20_3 : wc.cell? ⟨gb28101, 3, none⟩ = some (.int .i64 a0_3) := (blk_cell BK28101.out 3).trans rfl
         have hcz20_4 : wc.cell? ⟨gb28101, 4, none⟩ = some (.int .i64 a0_4) := (blk_cell BK28101.out 4).trans rfl
         have hcz20_5 : wc.cell? ⟨gb28101, 5, none⟩ = some (.int .i64 a0_5) := (blk_cell BK28101.out 5).trans rfl
         have hfz20_0 := blk_frozen BK28101.out 0
         have hfz20_1 := blk_frozen BK28101.out 1
         have hfz20_2 := blk_frozen BK28101.out 2
         have hfz20_3 := blk_frozen BK28101.out 3
         have hfz20_4 := blk_frozen BK28101.out 4
         have hfz20_5 := blk_frozen BK28101.out 5
         go_wp2_with (first | ((with_reducible refine gate_callee (f := 62) rfl ?_); refine goesL_ (some 25) rfl rfl Try.func62 (by kernel_rfl) rfl #[.int .i64 a0_1, .slice A0_2 l0_2.length c0_2, .int .i64 a1] rfl (by (try simp only [List.map_toArray, List.map_cons, List.map_nil]); first | done | rfl | (simp only [List.length_drop, List.length_take]; rfl)) ?_; (with_reducible refine (phasorref06_Check.calls kj3 a0_1 _ _ l0_2 a1 t28102 _ ?side1 ?side2 A10.out).mono ?_); (case side1 => repeat (first | exact (Kd.C_below HR0_2.out HB.out) | (with_reducible refine Kd.C_alloc ?_ _) | (with_reducible refine Kd.C_drewN ?_ _) | (with_reducible refine Kd.C_drew ?_))); (case side2 => exact HC0_2.out); rintro e w' ⟨rfl, ⟨nd, rfl⟩⟩; refine ⟨_, rfl, ?_⟩))
         go_ret
         exact ⟨by first | rfl | (simp [errW_none, errW_some] <;> rfl) | (simp [*, errW_none, errW_some] <;> rfl), by repeat (first | (with_reducible first | exact HB.out | apply below_alloc | apply pw_below_drewN | apply below_drew1 | refine below_set ?_ GE28101.out) | exact HB.out)⟩
       ·rw [if_neg c15] at H
        have c15b0 : decide (0 ≤ a0_4) = false := decide_eq_false c15
        clear c15
        obtain rfl := Option.some.inj H
        have hcz21_0 : wc.cell? ⟨gb28101, 0, none⟩ = some (.int .i64 a0_0) := (blk_cell BK28101.out 0).trans rfl
        have hcz21_1 : wc.cell? ⟨gb28101, 1, none⟩ = some (.int .i64 a0_1) := (blk_cell BK28101.out 1).trans rfl
        have hcz21_2 : wc.cell? ⟨gb28101, 2, none⟩ = some (.slice A0_2 l0_2.length c0_2) := (blk_cell BK28101.out 2).trans rfl
        have hcz21_3 : wc.cell? ⟨gb28101, 3, none⟩ = some (.int .i64 a0_3) := (blk_cell BK28101.out 3).trans rfl
        have hcz21_4 : wc.cell? ⟨gb28101, 4, none⟩ = some (.int .i64 a0_4) := (blk_cell BK28101.out 4).trans rfl
        have hcz21_5 : wc.cell? ⟨gb28101, 5, none⟩ = some (.int .i64 a0_5) := (blk_cell BK28101.out 5).trans rfl
        have hfz21_0 := blk_frozen BK28101.out 0
        have hfz21_1 := blk_frozen BK28101.out 1
        have hfz21_2 := blk_frozen BK28101.out 2
        have hfz21_3 := blk_frozen BK28101.out 3
        have hfz21_4 := blk_frozen BK28101.out 4
        have hfz21_5 := blk_frozen BK28101.out 5
        go_wp2_with (first | ((with_reducible refine gate_callee (f := 62) rfl ?_); refine goesL_ (some 25) rfl rfl Try.func62 (by kernel_rfl) rfl #[.int .i64 a0_1, .slice A0_2 l0_2.length c0_2, .int .i64 a1] rfl (by (try simp only [List.map_toArray, List.map_cons, List.map_nil]); first | done | rfl | (simp only [List.length_drop, List.length_take]; rfl)) ?_; (with_reducible refine (phasorref06_Check.calls kj3 a0_1 _ _ l0_2 a1 t28102 _ ?side1 ?side2 A10.out).mono ?_); (case side1 => repeat (first | exact (Kd.C_below HR0_2.out HB.out) | (with_reducible refine Kd.C_alloc ?_ _) | (with_reducible refine Kd.C_drewN ?_ _) | (with_reducible refine Kd.C_drew ?_))); (case side2 => exact HC0_2.out); rintro e w' ⟨rfl, ⟨nd, rfl⟩⟩; refine ⟨_, rfl, ?_⟩))
        go_ret
        exact ⟨by first | rfl | (simp [errW_none, errW_some] <;> rfl) | (simp [*, errW_none, errW_some] <;> rfl), by repeat (first | (with_reducible first | exact HB.out | apply below_alloc | apply pw_below_drewN | apply below_drew1 | refine below_set ?_ GE28101.out) | exact HB.out)⟩
     ·rw [if_neg c12] at H
      have c12b0 : (a0_3 == 0) = false := beq_eq_false_iff_ne.mpr c12
      have c12b1 : (a0_3 != 0) = true := bne_iff_ne.mpr c12
      obtain rfl := Option.some.inj H
      have hcz22_0 : wc.cell? ⟨gb28101, 0, none⟩ = some (.int .i64 a0_0) := (blk_cell BK28101.out 0).trans rfl
      have hcz22_1 : wc.cell? ⟨gb28101, 1, none⟩ = some (.int .i64 a0_1) := (blk_cell BK28101.out 1).trans rfl
      have hcz22_2 : wc.cell? ⟨gb28101, 2, none⟩ = some (.slice A0_2 l0_2.length c0_2) := (blk_cell BK28101.out 2).trans rfl
      have hcz22_3 : wc.cell? ⟨gb28101, 3, none⟩ = some (.int .i64 a0_3) := (blk_cell BK28101.out 3).trans rfl
      have hcz22_4 : wc.cell? ⟨gb28101, 4, none⟩ = some (.int .i64 a0_4) := (blk_cell BK28101.out 4).trans rfl
      have hcz22_5 : wc.cell? ⟨gb28101, 5, none⟩ = some (.int .i64 a0_5) := (blk_cell BK28101.out 5).trans rfl
      have hfz22_0 := blk_frozen BK28101.out 0
      have hfz22_1 := blk_frozen BK28101.out 1
      have hfz22_2 := blk_frozen BK28101.out 2
      have hfz22_3 := blk_frozen BK28101.out 3
      have hfz22_4 := blk_frozen BK28101.out 4
      have hfz22_5 := blk_frozen BK28101.out 5
      go_wp2_with (first | ((with_reducible refine gate_callee (f := 62) rfl ?_); refine goesL_ (some 25) rfl rfl Try.func62 (by kernel_rfl) rfl #[.int .i64 a0_1, .slice A0_2 l0_2.length c0_2, .int .i64 a1] rfl (by (try simp only [List.map_toArray, List.map_cons, List.map_nil]); first | done | rfl | (simp only [List.length_drop, List.length_take]; rfl)) ?_; (with_reducible refine (phasorref06_Check.calls kj3 a0_1 _ _ l0_2 a1 t28102 _ ?side1 ?side2 A10.out).mono ?_); (case side1 => repeat (first | exact (Kd.C_below HR0_2.out HB.out) | (with_reducible refine Kd.C_alloc ?_ _) | (with_reducible refine Kd.C_drewN ?_ _) | (with_reducible refine Kd.C_drew ?_))); (case side2 => exact HC0_2.out); rintro e w' ⟨rfl, ⟨nd, rfl⟩⟩; refine ⟨_, rfl, ?_⟩))
      go_ret
      exact ⟨by first | rfl | (simp [errW_none, errW_some] <;> rfl) | (simp [*, errW_none, errW_some] <;> rfl), by repeat (first | (with_reducible first | exact HB.out | apply below_alloc | apply pw_below_drewN | apply below_drew1 | refine below_set ?_ GE28101.out) | exact HB.out)⟩
    ·rw [if_neg c11] at H
     have c11b0 : (t28102 == 0) = false := beq_eq_false_iff_ne.mpr c11
     have c11b1 : (t28102 != 0) = true := bne_iff_ne.mpr c11
     obtain rfl := Option.some.inj H
     have hcz23_0 : wc.cell? ⟨gb28101, 0, none⟩ = some (.int .i64 a0_0) := (blk_cell BK28101.out 0).trans rfl
     have hcz23_1 : wc.cell? ⟨gb28101, 1, none⟩ = some (.int .i64 a0_1) := (blk_cell BK28101.out 1).trans rfl
     have hcz23_2 : wc.cell? ⟨gb28101, 2, none⟩ = some (.slice A0_2 l0_2.length c0_2) := (blk_cell BK28101.out 2).trans rfl
     have hcz23_3 : wc.cell? ⟨gb28101, 3, none⟩ = some (.int .i64 a0_3) := (blk_cell BK28101.out 3).trans rfl
     have hcz23_4 : wc.cell? ⟨gb28101, 4, none⟩ = some (.int .i64 a0_4) := (blk_cell BK28101.out 4).trans rfl
     have hcz23_5 : wc.cell? ⟨gb28101, 5, none⟩ = some (.int .i64 a0_5) := (blk_cell BK28101.out 5).trans rfl
     have hfz23_0 := blk_frozen BK28101.out 0
     have hfz23_1 := blk_frozen BK28101.out 1
     have hfz23_2 := blk_frozen BK28101.out 2
     have hfz23_3 := blk_frozen BK28101.out 3
     have hfz23_4 := blk_frozen BK28101.out 4
     have hfz23_5 := blk_frozen BK28101.out 5
     go_wp2_with (first | ((with_reducible refine gate_callee (f := 62) rfl ?_); refine goesL_ (some 25) rfl rfl Try.func62 (by kernel_rfl) rfl #[.int .i64 a0_1, .slice A0_2 l0_2.length c0_2, .int .i64 a1] rfl (by (try simp only [List.map_toArray, List.map_cons, List.map_nil]); first | done | rfl | (simp only [List.length_drop, List.length_take]; rfl)) ?_; (with_reducible refine (phasorref06_Check.calls kj3 a0_1 _ _ l0_2 a1 t28102 _ ?side1 ?side2 A10.out).mono ?_); (case side1 => repeat (first | exact (Kd.C_below HR0_2.out HB.out) | (with_reducible refine Kd.C_alloc ?_ _) | (with_reducible refine Kd.C_drewN ?_ _) | (with_reducible refine Kd.C_drew ?_))); (case side2 => exact HC0_2.out); rintro e w' ⟨rfl, ⟨nd, rfl⟩⟩; refine ⟨_, rfl, ?_⟩))
     go_ret
     exact ⟨by first | rfl | (simp [errW_none, errW_some] <;> rfl) | (simp [*, errW_none, errW_some] <;> rfl), by repeat (first | (with_reducible first | exact HB.out | apply below_alloc | apply pw_below_drewN | apply below_drew1 | refine below_set ?_ GE28101.out) | exact HB.out)⟩
   ·rw [if_neg c9] at H
    have c9b0 : (a0_0 == 1) = false := beq_eq_false_iff_ne.mpr c9
    have c9b1 : (a0_0 != 1) = true := bne_iff_ne.mpr c9
    by_cases c24 : a0_0 = 2
    ·rw [if_pos c24] at H
     have c24b0 : (a0_0 == 2) = true := beq_iff_eq.mpr c24
     have c24b1 : (a0_0 != 2) = false := bne_eq_false_iff_eq.mpr c24
     clear c24
     by_cases c25 : a0_1 = 0
     ·rw [if_pos c25] at H
      have c25b0 : (a0_1 == 0) = true := beq_iff_eq.mpr c25
      have c25b1 : (a0_1 != 0) = false := bne_eq_false_iff_eq.mpr c25
      clear c25
      by_cases c26 : (l0_2.length : Int) = 1
      ·rw [if_pos c26] at H
       have c26b0 : ((l0_2.length : Int) == 1) = true := beq_iff_eq.mpr c26
       have c26b1 : ((l0_2.length : Int) != 1) = false := bne_eq_false_iff_eq.mpr c26
       clear c26
       replace H := Option.bind_eq_some_iff.mp H
       obtain ⟨t28103, A270, H⟩ := H
       replace H : (if t28103 = true then (if a0_3 ≥ 0 then (if a0_3 < a2 then (some x7_3) else (some false)) else (some false)) else (some false)) = some r := H
       have A27 := Aside0.mk A270
       clear A270
       by_cases c28 : t28103 = true
       ·subst c28
        have H1 : (if a0_3 ≥ 0 then (if a0_3 < a2 then (some x7_3) else (some false)) else (some false)) = some r := by rw [if_pos rfl] at H; exact H
        clear H
        have H := H1
        clear H1
        by_cases c29 : a0_3 ≥ 0
        ·rw [if_pos c29] at H
         have c29b0 : decide (0 ≤ a0_3) = true := decide_eq_true c29
         clear c29
         by_cases c30 : a0_3 < a2
         ·rw [if_pos c30] at H
          have c30b0 : decide (a0_3 < a2) = true := decide_eq_true c30
          clear c30
          obtain rfl := Option.some.inj H
          have hcz31_0 : wc.cell? ⟨gb28101, 0, none⟩ = some (.int .i64 a0_0) := (blk_cell BK28101.out 0).trans rfl
          have hcz31_1 : wc.cell? ⟨gb28101, 1, none⟩ = some (.int .i64 a0_1) := (blk_cell BK28101.out 1).trans rfl
          have hcz31_2 : wc.cell? ⟨gb28101, 2, none⟩ = some (.slice A0_2 l0_2.length c0_2) := (blk_cell BK28101.out 2).trans rfl
          have hcz31_3 : wc.cell? ⟨gb28101, 3, none⟩ = some (.int .i64 a0_3) := (blk_cell BK28101.out 3).trans rfl
          have hcz31_4 : wc.cell? ⟨gb28101, 4, none⟩ = some (.int .i64 a0_4) := (blk_cell BK28101.out 4).trans rfl
          have hcz31_5 : wc.cell? ⟨gb28101, 5, none⟩ = some (.int .i64 a0_5) := (blk_cell BK28101.out 5).trans rfl
          have hfz31_0 := blk_frozen BK28101.out 0
          have hfz31_1 := blk_frozen BK28101.out 1
          have hfz31_2 := blk_frozen BK28101.out 2
          have hfz31_3 := blk_frozen BK28101.out 3
          have hfz31_4 := blk_frozen BK28101.out 4
          have hfz31_5 := blk_frozen BK28101.out 5
          go_wp2_with (first | (go_at_call 63; (with_reducible refine (phasorref08_unlike.calls kj3 _ _ l0_2 a1 true _ ?side1 ?side2 A27.out).mono ?_); (case side1 => repeat (first | exact (Kd.C_below HR0_2.out HB.out) | (with_reducible refine Kd.C_alloc ?_ _) | (with_reducible refine Kd.C_drewN ?_ _) | (with_reducible refine Kd.C_drew ?_))); (case side2 => exact HC0_2.out); rintro e w' ⟨rfl, ⟨nd, rfl⟩⟩))
          go_ret
          exact ⟨by first | rfl | (simp [errW_none, errW_some] <;> rfl) | (simp [*, errW_none, errW_some] <;> rfl), by repeat (first | (with_reducible first | exact HB.out | apply below_alloc | apply pw_below_drewN | apply below_drew1 | refine below_set ?_ GE28101.out) | exact HB.out)⟩
         ·rw [if_neg c30] at H
          have c30b0 : decide (a0_3 < a2) = false := decide_eq_false c30
          clear c30
          obtain rfl := Option.some.inj H
          have hcz32_0 : wc.cell? ⟨gb28101, 0, none⟩ = some (.int .i64 a0_0) := (blk_cell BK28101.out 0).trans rfl
          have hcz32_1 : wc.cell? ⟨gb28101, 1, none⟩ = some (.int .i64 a0_1) := (blk_cell BK28101.out 1).trans rfl
          have hcz32_2 : wc.cell? ⟨gb28101, 2, none⟩ = some (.slice A0_2 l0_2.length c0_2) := (blk_cell BK28101.out 2).trans rfl
          have hcz32_3 : wc.cell? ⟨gb28101, 3, none⟩ = some (.int .i64 a0_3) := (blk_cell BK28101.out 3).trans rfl
          have hcz32_4 : wc.cell? ⟨gb28101, 4, none⟩ = some (.int .i64 a0_4) := (blk_cell BK28101.out 4).trans rfl
          have hcz32_5 : wc.cell? ⟨gb28101, 5, none⟩ = some (.int .i64 a0_5) := (blk_cell BK28101.out 5).trans rfl
          have hfz32_0 := blk_frozen BK28101.out 0
          have hfz32_1 := blk_frozen BK28101.out 1
          have hfz32_2 := blk_frozen BK28101.out 2
          have hfz32_3 := blk_frozen BK28101.out 3
          have hfz32_4 := blk_frozen BK28101.out 4
          have hfz32_5 := blk_frozen BK28101.out 5
          go_wp2_with (first | (go_at_call 63; (with_reducible refine (phasorref08_unlike.calls kj3 _ _ l0_2 a1 true _ ?side1 ?side2 A27.out).mono ?_); (case side1 => repeat (first | exact (Kd.C_below HR0_2.out HB.out) | (with_reducible refine Kd.C_alloc ?_ _) | (with_reducible refine Kd.C_drewN ?_ _) | (with_reducible refine Kd.C_drew ?_))); (case side2 => exact HC0_2.out); rintro e w' ⟨rfl, ⟨nd, rfl⟩⟩))
          go_ret
          exact ⟨by first | rfl | (simp [errW_none, errW_some] <;> rfl) | (simp [*, errW_none, errW_some] <;> rfl), by repeat (first | (with_reducible first | exact HB.out | apply below_alloc | apply pw_below_drewN | apply below_drew1 | refine below_set ?_ GE28101.out) | exact HB.out)⟩
        ·rw [if_neg c29] at H
         have c29b0 : decide (0 ≤ a0_3) = false := decide_eq_false c29
         clear c29
         obtain rfl := Option.some.inj H
         have hcz33_0 : wc.cell? ⟨gb28101, 0, none⟩ = some (.int .i64 a0_0) := (blk_cell BK28101.out 0).trans rfl
         have hcz33_1 : wc.cell? ⟨gb28101, 1, none⟩ = some (.int .i64 a0_1) := (blk_cell BK28101.out 1).trans rfl
         have hcz33_2 : wc.cell? ⟨gb28101, 2, none⟩ = some (.slice A0_2 l0_2.length c0_2) := (blk_cell BK28101.out 2).trans rfl
         have hcz33_3 : wc.cell? ⟨gb28101, 3, none⟩ = some (.int .i64 a0_3) := (blk_cell BK28101.out 3).trans rfl
         have hcz33_4 : wc.cell? ⟨gb28101, 4, none⟩ = some (.int .i64 a0_4) := (blk_cell BK28101.out 4).trans rfl
         have hcz33_5 : wc.cell? ⟨gb28101, 5, none⟩ = some (.int .i64 a0_5) := (blk_cell BK28101.out 5).trans rfl
         have hfz33_0 := blk_frozen BK28101.out 0
         have hfz33_1 := blk_frozen BK28101.out 1
         have hfz33_2 := blk_frozen BK28101.out 2
         have hfz33_3 := blk_frozen BK28101.out 3
         have hfz33_4 := blk_frozen BK28101.out 4
         have hfz33_5 := blk_frozen BK28101.out 5
         go_wp2_with (first | (go_at_call 63; (with_reducible refine (phasorref08_unlike.calls kj3 _ _ l0_2 a1 true _ ?side1 ?side2 A27.out).mono ?_); (case side1 => repeat (first | exact (Kd.C_below HR0_2.out HB.out) | (with_reducible refine Kd.C_alloc ?_ _) | (with_reducible refine Kd.C_drewN ?_ _) | (with_reducible refine Kd.C_drew ?_))); (case side2 => exact HC0_2.out); rintro e w' ⟨rfl, ⟨nd, rfl⟩⟩))
         go_ret
         exact ⟨by first | rfl | (simp [errW_none, errW_some] <;> rfl) | (simp [*, errW_none, errW_some] <;> rfl), by repeat (first | (with_reducible first | exact HB.out | apply below_alloc | apply pw_below_drewN | apply below_drew1 | refine below_set ?_ GE28101.out) | exact HB.out)⟩
       ·replace c28 := Bool.eq_false_iff.mpr c28
        subst c28
        have H1 : (some false) = some r := by rw [if_neg (show ¬ (false = true) by decide)] at H; exact H
        clear H
        have H := H1
        clear H1
        obtain rfl := Option.some.inj H
        have hcz34_0 : wc.cell? ⟨gb28101, 0, none⟩ = some (.int .i64 a0_0) := (blk_cell BK28101.out 0).trans rfl
        have hcz34_1 : wc.cell? ⟨gb28101, 1, none⟩ = some (.int .i64 a0_1) := (blk_cell BK28101.out 1).trans rfl
        have hcz34_2 : wc.cell? ⟨gb28101, 2, none⟩ = some (.slice A0_2 l0_2.length c0_2) := (blk_cell BK28101.out 2).trans rfl
        have hcz34_3 : wc.cell? ⟨gb28101, 3, none⟩ = some (.int .i64 a0_3) := (blk_cell BK28101.out 3).trans rfl
        have hcz34_4 : wc.cell? ⟨gb28101, 4, none⟩ = some (.int .i64 a0_4) := (blk_cell BK28101.out 4).trans rfl
        have hcz34_5 : wc.cell? ⟨gb28101, 5, none⟩ = some (.int .i64 a0_5) := (blk_cell BK28101.out 5).trans rfl
        have hfz34_0 := blk_frozen BK28101.out 0
        have hfz34_1 := blk_frozen BK28101.out 1
        have hfz34_2 := blk_frozen BK28101.out 2
        have hfz34_3 := blk_frozen BK28101.out 3
        have hfz34_4 := blk_frozen BK28101.out 4
        have hfz34_5 := blk_frozen BK28101.out 5
        go_wp2_with (first | (go_at_call 63; (with_reducible refine (phasorref08_unlike.calls kj3 _ _ l0_2 a1 false _ ?side1 ?side2 A27.out).mono ?_); (case side1 => repeat (first | exact (Kd.C_below HR0_2.out HB.out) | (with_reducible refine Kd.C_alloc ?_ _) | (with_reducible refine Kd.C_drewN ?_ _) | (with_reducible refine Kd.C_drew ?_))); (case side2 => exact HC0_2.out); rintro e w' ⟨rfl, ⟨nd, rfl⟩⟩))
        go_ret
        exact ⟨by first | rfl | (simp [errW_none, errW_some] <;> rfl) | (simp [*, errW_none, errW_some] <;> rfl), by repeat (first | (with_reducible first | exact HB.out | apply below_alloc | apply pw_below_drewN | apply below_drew1 | refine below_set ?_ GE28101.out) | exact HB.out)⟩
      ·rw [if_neg c26] at H
       have c26b0 : ((l0_2.length : Int) == 1) = false := beq_eq_false_iff_ne.mpr c26
       have c26b1 : ((l0_2.length : Int) != 1) = true := bne_iff_ne.mpr c26
       obtain rfl := Option.some.inj H
       have hcz35_0 : wc.cell? ⟨gb28101, 0, none⟩ = some (.int .i64 a0_0) := (blk_cell BK28101.out 0).trans rfl
       have hcz35_1 : wc.cell? ⟨gb28101, 1, none⟩ = some (.int .i64 a0_1) := (blk_cell BK28101.out 1).trans rfl
       have hcz35_2 : wc.cell? ⟨gb28101, 2, none⟩ = some (.slice A0_2 l0_2.length c0_2) := (blk_cell BK28101.out 2).trans rfl
       have hcz35_3 : wc.cell? ⟨gb28101, 3, none⟩ = some (.int .i64 a0_3) := (blk_cell BK28101.out 3).trans rfl
       have hcz35_4 : wc.cell? ⟨gb28101, 4, none⟩ = some (.int .i64 a0_4) := (blk_cell BK28101.out 4).trans rfl
       have hcz35_5 : wc.cell? ⟨gb28101, 5, none⟩ = some (.int .i64 a0_5) := (blk_cell BK28101.out 5).trans rfl
       have hfz35_0 := blk_frozen BK28101.out 0
       have hfz35_1 := blk_frozen BK28101.out 1
       have hfz35_2 := blk_frozen BK28101.out 2
       have hfz35_3 := blk_frozen BK28101.out 3
       have hfz35_4 := blk_frozen BK28101.out 4
       have hfz35_5 := blk_frozen BK28101.out 5
       go_wp2
       go_ret
       exact ⟨by first | rfl | (simp [errW_none, errW_some] <;> rfl) | (simp [*, errW_none, errW_some] <;> rfl), by repeat (first | (with_reducible first | exact HB.out | apply below_alloc | apply pw_below_drewN | apply below_drew1 | refine below_set ?_ GE28101.out) | exact HB.out)⟩
     ·rw [if_neg c25] at H
      have c25b0 : (a0_1 == 0) = false := beq_eq_false_iff_ne.mpr c25
      have c25b1 : (a0_1 != 0) = true := bne_iff_ne.mpr c25
      obtain rfl := Option.some.inj H
      have hcz36_0 : wc.cell? ⟨gb28101, 0, none⟩ = some (.int .i64 a0_0) := (blk_cell BK28101.out 0).trans rfl
      have hcz36_1 : wc.cell? ⟨gb28101, 1, none⟩ = some (.int .i64 a0_1) := (blk_cell BK28101.out 1).trans rfl
      have hcz36_2 : wc.cell? ⟨gb28101, 2, none⟩ = some (.slice A0_2 l0_2.length c0_2) := (blk_cell BK28101.out 2).trans rfl
      have hcz36_3 : wc.cell? ⟨gb28101, 3, none⟩ = some (.int .i64 a0_3) := (blk_cell BK28101.out 3).trans rfl
      have hcz36_4 : wc.cell? ⟨gb28101, 4, none⟩ = some (.int .i64 a0_4) := (blk_cell BK28101.out 4).trans rfl
      have hcz36_5 : wc.cell? ⟨gb28101, 5, none⟩ = some (.int .i64 a0_5) := (blk_cell BK28101.out 5).trans rfl
      have hfz36_0 := blk_frozen BK28101.out 0
      have hfz36_1 := blk_frozen BK28101.out 1
      have hfz36_2 := blk_frozen BK28101.out 2
      have hfz36_3 := blk_frozen BK28101.out 3
      have hfz36_4 := blk_frozen BK28101.out 4
      have hfz36_5 := blk_frozen BK28101.out 5
      go_wp2
      go_ret
      exact ⟨by first | rfl | (simp [errW_none, errW_some] <;> rfl) | (simp [*, errW_none, errW_some] <;> rfl), by repeat (first | (with_reducible first | exact HB.out | apply below_alloc | apply pw_below_drewN | apply below_drew1 | refine below_set ?_ GE28101.out) | exact HB.out)⟩
    ·rw [if_neg c24] at H
     have c24b0 : (a0_0 == 2) = false := beq_eq_false_iff_ne.mpr c24
     have c24b1 : (a0_0 != 2) = true := bne_iff_ne.mpr c24
     by_cases c37 : a0_0 = 3
     ·rw [if_pos c37] at H
      have c37b0 : (a0_0 == 3) = true := beq_iff_eq.mpr c37
      have c37b1 : (a0_0 != 3) = false := bne_eq_false_iff_eq.mpr c37
      clear c37
      by_cases c38 : a0_1 = 0
      ·rw [if_pos c38] at H
       have c38b0 : (a0_1 == 0) = true := beq_iff_eq.mpr c38
       have c38b1 : (a0_1 != 0) = false := bne_eq_false_iff_eq.mpr c38
       clear c38
       by_cases c39 : (l0_2.length : Int) = 1
       ·rw [if_pos c39] at H
        have c39b0 : ((l0_2.length : Int) == 1) = true := beq_iff_eq.mpr c39
        have c39b1 : ((l0_2.length : Int) != 1) = false := bne_eq_false_iff_eq.mpr c39
        clear c39
        replace H := Option.bind_eq_some_iff.mp H
        obtain ⟨t28104, A400, H⟩ := H
        replace H : (if t28104 = true then (if a0_3 = 0 then (some x7_3) else (some false)) else (some false)) = some r := H
        have A40 := Aside0.mk A400
        clear A400
        by_cases c41 : t28104 = true
        ·subst c41
         have H1 : (if a0_3 = 0 then (some x7_3) else (some false)) = some r := by rw [if_pos rfl] at H; exact H
         clear H
         have H := H1
         clear H1
         by_cases c42 : a0_3 = 0
         ·rw [if_pos c42] at H
          have c42b0 : (a0_3 == 0) = true := beq_iff_eq.mpr c42
          have c42b1 : (a0_3 != 0) = false := bne_eq_false_iff_eq.mpr c42
          clear c42
          obtain rfl := Option.some.inj H
          have hcz43_0 : wc.cell? ⟨gb28101, 0, none⟩ = some (.int .i64 a0_0) := (blk_cell BK28101.out 0).trans rfl
          have hcz43_1 : wc.cell? ⟨gb28101, 1, none⟩ = some (.int .i64 a0_1) := (blk_cell BK28101.out 1).trans rfl
          have hcz43_2 : wc.cell? ⟨gb28101, 2, none⟩ = some (.slice A0_2 l0_2.length c0_2) := (blk_cell BK28101.out 2).trans rfl
          have hcz43_3 : wc.cell? ⟨gb28101, 3, none⟩ = some (.int .i64 a0_3) := (blk_cell BK28101.out 3).trans rfl
          have hcz43_4 : wc.cell? ⟨gb28101, 4, none⟩ = some (.int .i64 a0_4) := (blk_cell BK28101.out 4).trans rfl
          have hcz43_5 : wc.cell? ⟨gb28101, 5, none⟩ = some (.int .i64 a0_5) := (blk_cell BK28101.out 5).trans rfl
          have hfz43_0 := blk_frozen BK28101.out 0
          have hfz43_1 := blk_frozen BK28101.out 1
          have hfz43_2 := blk_frozen BK28101.out 2
          have hfz43_3 := blk_frozen BK28101.out 3
          have hfz43_4 := blk_frozen BK28101.out 4
          have hfz43_5 := blk_frozen BK28101.out 5
          go_wp2_with (first | (go_at_call 63; (with_reducible refine (phasorref08_unlike.calls kj3 _ _ l0_2 a1 true _ ?side1 ?side2 A40.out).mono ?_); (case side1 => repeat (first | exact (Kd.C_below HR0_2.out HB.out) | (with_reducible refine Kd.C_alloc ?_ _) | (with_reducible refine Kd.C_drewN ?_ _) | (with_reducible refine Kd.C_drew ?_))); (case side2 => exact HC0_2.out); rintro e w' ⟨rfl, ⟨nd, rfl⟩⟩))
          go_ret
          exact ⟨by first | rfl | (simp [errW_none, errW_some] <;> rfl) | (simp [*, errW_none, errW_some] <;> rfl), by repeat (first | (with_reducible first | exact HB.out | apply below_alloc | apply pw_below_drewN | apply below_drew1 | refine below_set ?_ GE28101.out) | exact HB.out)⟩
         ·rw [if_neg c42] at H
          have c42b0 : (a0_3 == 0) = false := beq_eq_false_iff_ne.mpr c42
          have c42b1 : (a0_3 != 0) = true := bne_iff_ne.mpr c42
          obtain rfl := Option.some.inj H
          have hcz44_0 : wc.cell? ⟨gb28101, 0, none⟩ = some (.int .i64 a0_0) := (blk_cell BK28101.out 0).trans rfl
          have hcz44_1 : wc.cell? ⟨gb28101, 1, none⟩ = some (.int .i64 a0_1) := (blk_cell BK28101.out 1).trans rfl
          have hcz44_2 : wc.cell? ⟨gb28101, 2, none⟩ = some (.slice A0_2 l0_2.length c0_2) := (blk_cell BK28101.out 2).trans rfl
          have hcz44_3 : wc.cell? ⟨gb28101, 3, none⟩ = some (.int .i64 a0_3) := (blk_cell BK28101.out 3).trans rfl
          have hcz44_4 : wc.cell? ⟨gb28101, 4, none⟩ = some (.int .i64 a0_4) := (blk_cell BK28101.out 4).trans rfl
          have hcz44_5 : wc.cell? ⟨gb28101, 5, none⟩ = some (.int .i64 a0_5) := (blk_cell BK28101.out 5).trans rfl
          have hfz44_0 := blk_frozen BK28101.out 0
          have hfz44_1 := blk_frozen BK28101.out 1
          have hfz44_2 := blk_frozen BK28101.out 2
          have hfz44_3 := blk_frozen BK28101.out 3
          have hfz44_4 := blk_frozen BK28101.out 4
          have hfz44_5 := blk_frozen BK28101.out 5
          go_wp2_with (first | (go_at_call 63; (with_reducible refine (phasorref08_unlike.calls kj3 _ _ l0_2 a1 true _ ?side1 ?side2 A40.out).mono ?_); (case side1 => repeat (first | exact (Kd.C_below HR0_2.out HB.out) | (with_reducible refine Kd.C_alloc ?_ _) | (with_reducible refine Kd.C_drewN ?_ _) | (with_reducible refine Kd.C_drew ?_))); (case side2 => exact HC0_2.out); rintro e w' ⟨rfl, ⟨nd, rfl⟩⟩))
          go_ret
          exact ⟨by first | rfl | (simp [errW_none, errW_some] <;> rfl) | (simp [*, errW_none, errW_some] <;> rfl), by repeat (first | (with_reducible first | exact HB.out | apply below_alloc | apply pw_below_drewN | apply below_drew1 | refine below_set ?_ GE28101.out) | exact HB.out)⟩
        ·replace c41 := Bool.eq_false_iff.mpr c41
         subst c41
         have H1 : (some false) = some r := by rw [if_neg (show ¬ (false = true) by decide)] at H; exact H
         clear H
         have H := H1
         clear H1
         obtain rfl := Option.some.inj H
         have hcz45_0 : wc.cell? ⟨gb28101, 0, none⟩ = some (.int .i64 a0_0) := (blk_cell BK28101.out 0).trans rfl
         have hcz45_1 : wc.cell? ⟨gb28101, 1, none⟩ = some (.int .i64 a0_1) := (blk_cell BK28101.out 1).trans rfl
         have hcz45_2 : wc.cell? ⟨gb28101, 2, none⟩ = some (.slice A0_2 l0_2.length c0_2) := (blk_cell BK28101.out 2).trans rfl
         have hcz45_3 : wc.cell? ⟨gb28101, 3, none⟩ = some (.int .i64 a0_3) := (blk_cell BK28101.out 3).trans rfl
         have hcz45_4 : wc.cell? ⟨gb28101, 4, none⟩ = some (.int .i64 a0_4) := (blk_cell BK28101.out 4).trans rfl
         have hcz45_5 : wc.cell? ⟨gb28101, 5, none⟩ = some (.int .i64 a0_5) := (blk_cell BK28101.out 5).trans rfl
         have hfz45_0 := blk_frozen BK28101.out 0
         have hfz45_1 := blk_frozen BK28101.out 1
         have hfz45_2 := blk_frozen BK28101.out 2
         have hfz45_3 := blk_frozen BK28101.out 3
         have hfz45_4 := blk_frozen BK28101.out 4
         have hfz45_5 := blk_frozen BK28101.out 5
         go_wp2_with (first | (go_at_call 63; (with_reducible refine (phasorref08_unlike.calls kj3 _ _ l0_2 a1 false _ ?side1 ?side2 A40.out).mono ?_); (case side1 => repeat (first | exact (Kd.C_below HR0_2.out HB.out) | (with_reducible refine Kd.C_alloc ?_ _) | (with_reducible refine Kd.C_drewN ?_ _) | (with_reducible refine Kd.C_drew ?_))); (case side2 => exact HC0_2.out); rintro e w' ⟨rfl, ⟨nd, rfl⟩⟩))
         go_ret
         exact ⟨by first | rfl | (simp [errW_none, errW_some] <;> rfl) | (simp [*, errW_none, errW_some] <;> rfl), by repeat (first | (with_reducible first | exact HB.out | apply below_alloc | apply pw_below_drewN | apply below_drew1 | refine below_set ?_ GE28101.out) | exact HB.out)⟩
       ·rw [if_neg c39] at H
        have c39b0 : ((l0_2.length : Int) == 1) = false := beq_eq_false_iff_ne.mpr c39
        have c39b1 : ((l0_2.length : Int) != 1) = true := bne_iff_ne.mpr c39
        obtain rfl := Option.some.inj H
        have hcz46_0 : wc.cell? ⟨gb28101, 0, none⟩ = some (.int .i64 a0_0) := (blk_cell BK28101.out 0).trans rfl
        have hcz46_1 : wc.cell? ⟨gb28101, 1, none⟩ = some (.int .i64 a0_1) := (blk_cell BK28101.out 1).trans rfl
        have hcz46_2 : wc.cell? ⟨gb28101, 2, none⟩ = some (.slice A0_2 l0_2.length c0_2) := (blk_cell BK28101.out 2).trans rfl
        have hcz46_3 : wc.cell? ⟨gb28101, 3, none⟩ = some (.int .i64 a0_3) := (blk_cell BK28101.out 3).trans rfl
        have hcz46_4 : wc.cell? ⟨gb28101, 4, none⟩ = some (.int .i64 a0_4) := (blk_cell BK28101.out 4).trans rfl
        have hcz46_5 : wc.cell? ⟨gb28101, 5, none⟩ = some (.int .i64 a0_5) := (blk_cell BK28101.out 5).trans rfl
        have hfz46_0 := blk_frozen BK28101.out 0
        have hfz46_1 := blk_frozen BK28101.out 1
        have hfz46_2 := blk_frozen BK28101.out 2
        have hfz46_3 := blk_frozen BK28101.out 3
        have hfz46_4 := blk_frozen BK28101.out 4
        have hfz46_5 := blk_frozen BK28101.out 5
        go_wp2
        go_ret
        exact ⟨by first | rfl | (simp [errW_none, errW_some] <;> rfl) | (simp [*, errW_none, errW_some] <;> rfl), by repeat (first | (with_reducible first | exact HB.out | apply below_alloc | apply pw_below_drewN | apply below_drew1 | refine below_set ?_ GE28101.out) | exact HB.out)⟩
      ·rw [if_neg c38] at H
       have c38b0 : (a0_1 == 0) = false := beq_eq_false_iff_ne.mpr c38
       have c38b1 : (a0_1 != 0) = true := bne_iff_ne.mpr c38
       obtain rfl := Option.some.inj H
       have hcz47_0 : wc.cell? ⟨gb28101, 0, none⟩ = some (.int .i64 a0_0) := (blk_cell BK28101.out 0).trans rfl
       have hcz47_1 : wc.cell? ⟨gb28101, 1, none⟩ = some (.int .i64 a0_1) := (blk_cell BK28101.out 1).trans rfl
       have hcz47_2 : wc.cell? ⟨gb28101, 2, none⟩ = some (.slice A0_2 l0_2.length c0_2) := (blk_cell BK28101.out 2).trans rfl
       have hcz47_3 : wc.cell? ⟨gb28101, 3, none⟩ = some (.int .i64 a0_3) := (blk_cell BK28101.out 3).trans rfl
       have hcz47_4 : wc.cell? ⟨gb28101, 4, none⟩ = some (.int .i64 a0_4) := (blk_cell BK28101.out 4).trans rfl
       have hcz47_5 : wc.cell? ⟨gb28101, 5, none⟩ = some (.int .i64 a0_5) := (blk_cell BK28101.out 5).trans rfl
       have hfz47_0 := blk_frozen BK28101.out 0
       have hfz47_1 := blk_frozen BK28101.out 1
       have hfz47_2 := blk_frozen BK28101.out 2
       have hfz47_3 := blk_frozen BK28101.out 3
       have hfz47_4 := blk_frozen BK28101.out 4
       have hfz47_5 := blk_frozen BK28101.out 5
       go_wp2
       go_ret
       exact ⟨by first | rfl | (simp [errW_none, errW_some] <;> rfl) | (simp [*, errW_none, errW_some] <;> rfl), by repeat (first | (with_reducible first | exact HB.out | apply below_alloc | apply pw_below_drewN | apply below_drew1 | refine below_set ?_ GE28101.out) | exact HB.out)⟩
     ·rw [if_neg c37] at H
      have c37b0 : (a0_0 == 3) = false := beq_eq_false_iff_ne.mpr c37
      have c37b1 : (a0_0 != 3) = true := bne_iff_ne.mpr c37
      by_cases c48 : a0_0 = 4
      ·rw [if_pos c48] at H
       have c48b0 : (a0_0 == 4) = true := beq_iff_eq.mpr c48
       have c48b1 : (a0_0 != 4) = false := bne_eq_false_iff_eq.mpr c48
       clear c48
       by_cases c49 : a0_1 = 0
       ·rw [if_pos c49] at H
        have c49b0 : (a0_1 == 0) = true := beq_iff_eq.mpr c49
        have c49b1 : (a0_1 != 0) = false := bne_eq_false_iff_eq.mpr c49
        clear c49
        by_cases c50 : (l0_2.length : Int) > 0
        ·rw [if_pos c50] at H
         have c50b0 : decide (0 < (l0_2.length : Int)) = true := decide_eq_true c50
         have c50b1 : decide (0 < l0_2.length) = true := decide_eq_true (by omega)
         clear c50
         replace H := Option.bind_eq_some_iff.mp H
         obtain ⟨t28105, A510, H⟩ := H
         replace H : (if t28105 = true then (if a0_3 = 0 then (some x7_3) else (some false)) else (some false)) = some r := H
         have A51 := Aside0.mk A510
         clear A510
         by_cases c52 : t28105 = true
         ·subst c52
          have H1 : (if a0_3 = 0 then (some x7_3) else (some false)) = some r := by rw [if_pos rfl] at H; exact H
          clear H
          have H := H1
          clear H1
          by_cases c53 : a0_3 = 0
          ·rw [if_pos c53] at H
           have c53b0 : (a0_3 == 0) = true := beq_iff_eq.mpr c53
           have c53b1 : (a0_3 != 0) = false := bne_eq_false_iff_eq.mpr c53
           clear c53
           obtain rfl := Option.some.inj H
           have hcz54_0 : wc.cell? ⟨gb28101, 0, none⟩ = some (.int .i64 a0_0) := (blk_cell BK28101.out 0).trans rfl
           have hcz54_1 : wc.cell? ⟨gb28101, 1, none⟩ = some (.int .i64 a0_1) := (blk_cell BK28101.out 1).trans rfl
           have hcz54_2 : wc.cell? ⟨gb28101, 2, none⟩ = some (.slice A0_2 l0_2.length c0_2) := (blk_cell BK28101.out 2).trans rfl
           have hcz54_3 : wc.cell? ⟨gb28101, 3, none⟩ = some (.int .i64 a0_3) := (blk_cell BK28101.out 3).trans rfl
           have hcz54_4 : wc.cell? ⟨gb28101, 4, none⟩ = some (.int .i64 a0_4) := (blk_cell BK28101.out 4).trans rfl
           have hcz54_5 : wc.cell? ⟨gb28101, 5, none⟩ = some (.int .i64 a0_5) := (blk_cell BK28101.out 5).trans rfl
           have hfz54_0 := blk_frozen BK28101.out 0
           have hfz54_1 := blk_frozen BK28101.out 1
           have hfz54_2 := blk_frozen BK28101.out 2
           have hfz54_3 := blk_frozen BK28101.out 3
           have hfz54_4 := blk_frozen BK28101.out 4
           have hfz54_5 := blk_frozen BK28101.out 5
           go_wp2_with (first | (go_at_call 63; (with_reducible refine (phasorref08_unlike.calls kj3 _ _ l0_2 a1 true _ ?side1 ?side2 A51.out).mono ?_); (case side1 => repeat (first | exact (Kd.C_below HR0_2.out HB.out) | (with_reducible refine Kd.C_alloc ?_ _) | (with_reducible refine Kd.C_drewN ?_ _) | (with_reducible refine Kd.C_drew ?_))); (case side2 => exact HC0_2.out); rintro e w' ⟨rfl, ⟨nd, rfl⟩⟩))
           go_ret
           exact ⟨by first | rfl | (simp [errW_none, errW_some] <;> rfl) | (simp [*, errW_none, errW_some] <;> rfl), by repeat (first | (with_reducible first | exact HB.out | apply below_alloc | apply pw_below_drewN | apply below_drew1 | refine below_set ?_ GE28101.out) | exact HB.out)⟩
          ·rw [if_neg c53] at H
           have c53b0 : (a0_3 == 0) = false := beq_eq_false_iff_ne.mpr c53
           have c53b1 : (a0_3 != 0) = true := bne_iff_ne.mpr c53
           obtain rfl := Option.some.inj H
           have hcz55_0 : wc.cell? ⟨gb28101, 0, none⟩ = some (.int .i64 a0_0) := (blk_cell BK28101.out 0).trans rfl
           have hcz55_1 : wc.cell? ⟨gb28101, 1, none⟩ = some (.int .i64 a0_1) := (blk_cell BK28101.out 1).trans rfl
           have hcz55_2 : wc.cell? ⟨gb28101, 2, none⟩ = some (.slice A0_2 l0_2.length c0_2) := (blk_cell BK28101.out 2).trans rfl
           have hcz55_3 : wc.cell? ⟨gb28101, 3, none⟩ = some (.int .i64 a0_3) := (blk_cell BK28101.out 3).trans rfl
           have hcz55_4 : wc.cell? ⟨gb28101, 4, none⟩ = some (.int .i64 a0_4) := (blk_cell BK28101.out 4).trans rfl
           have hcz55_5 : wc.cell? ⟨gb28101, 5, none⟩ = some (.int .i64 a0_5) := (blk_cell BK28101.out 5).trans rfl
           have hfz55_0 := blk_frozen BK28101.out 0
           have hfz55_1 := blk_frozen BK28101.out 1
           have hfz55_2 := blk_frozen BK28101.out 2
           have hfz55_3 := blk_frozen BK28101.out 3
           have hfz55_4 := blk_frozen BK28101.out 4
           have hfz55_5 := blk_frozen BK28101.out 5
           go_wp2_with (first | (go_at_call 63; (with_reducible refine (phasorref08_unlike.calls kj3 _ _ l0_2 a1 true _ ?side1 ?side2 A51.out).mono ?_); (case side1 => repeat (first | exact (Kd.C_below HR0_2.out HB.out) | (with_reducible refine Kd.C_alloc ?_ _) | (with_reducible refine Kd.C_drewN ?_ _) | (with_reducible refine Kd.C_drew ?_))); (case side2 => exact HC0_2.out); rintro e w' ⟨rfl, ⟨nd, rfl⟩⟩))
           go_ret
           exact ⟨by first | rfl | (simp [errW_none, errW_some] <;> rfl) | (simp [*, errW_none, errW_some] <;> rfl), by repeat (first | (with_reducible first | exact HB.out | apply below_alloc | apply pw_below_drewN | apply below_drew1 | refine below_set ?_ GE28101.out) | exact HB.out)⟩
         ·replace c52 := Bool.eq_false_iff.mpr c52
          subst c52
          have H1 : (some false) = some r := by rw [if_neg (show ¬ (false = true) by decide)] at H; exact H
          clear H
          have H := H1
          clear H1
          obtain rfl := Option.some.inj H
          have hcz56_0 : wc.cell? ⟨gb28101, 0, none⟩ = some (.int .i64 a0_0) := (blk_cell BK28101.out 0).trans rfl
          have hcz56_1 : wc.cell? ⟨gb28101, 1, none⟩ = some (.int .i64 a0_1) := (blk_cell BK28101.out 1).trans rfl
          have hcz56_2 : wc.cell? ⟨gb28101, 2, none⟩ = some (.slice A0_2 l0_2.length c0_2) := (blk_cell BK28101.out 2).trans rfl
          have hcz56_3 : wc.cell? ⟨gb28101, 3, none⟩ = some (.int .i64 a0_3) := (blk_cell BK28101.out 3).trans rfl
          have hcz56_4 : wc.cell? ⟨gb28101, 4, none⟩ = some (.int .i64 a0_4) := (blk_cell BK28101.out 4).trans rfl
          have hcz56_5 : wc.cell? ⟨gb28101, 5, none⟩ = some (.int .i64 a0_5) := (blk_cell BK28101.out 5).trans rfl
          have hfz56_0 := blk_frozen BK28101.out 0
          have hfz56_1 := blk_frozen BK28101.out 1
          have hfz56_2 := blk_frozen BK28101.out 2
          have hfz56_3 := blk_frozen BK28101.out 3
          have hfz56_4 := blk_frozen BK28101.out 4
          have hfz56_5 := blk_frozen BK28101.out 5
          go_wp2_with (first | (go_at_call 63; (with_reducible refine (phasorref08_unlike.calls kj3 _ _ l0_2 a1 false _ ?side1 ?side2 A51.out).mono ?_); (case side1 => repeat (first | exact (Kd.C_below HR0_2.out HB.out) | (with_reducible refine Kd.C_alloc ?_ _) | (with_reducible refine Kd.C_drewN ?_ _) | (with_reducible refine Kd.C_drew ?_))); (case side2 => exact HC0_2.out); rintro e w' ⟨rfl, ⟨nd, rfl⟩⟩))
          go_ret
          exact ⟨by first | rfl | (simp [errW_none, errW_some] <;> rfl) | (simp [*, errW_none, errW_some] <;> rfl), by repeat (first | (with_reducible first | exact HB.out | apply below_alloc | apply pw_below_drewN | apply below_drew1 | refine below_set ?_ GE28101.out) | exact HB.out)⟩
        ·rw [if_neg c50] at H
         have c50b0 : decide (0 < (l0_2.length : Int)) = false := decide_eq_false c50
         have c50b1 : decide (0 < l0_2.length) = false := decide_eq_false (by omega)
         clear c50
         obtain rfl := Option.some.inj H
         have hcz57_0 : wc.cell? ⟨gb28101, 0, none⟩ = some (.int .i64 a0_0) := (blk_cell BK28101.out 0).trans rfl
         have hcz57_1 : wc.cell? ⟨gb28101, 1, none⟩ = some (.int .i64 a0_1) := (blk_cell BK28101.out 1).trans rfl
         have hcz57_2 : wc.cell? ⟨gb28101, 2, none⟩ = some (.slice A0_2 l0_2.length c0_2) := (blk_cell BK28101.out 2).trans rfl
         have hcz57_3 : wc.cell? ⟨gb28101, 3, none⟩ = some (.int .i64 a0_3) := (blk_cell BK28101.out 3).trans rfl
         have hcz57_4 : wc.cell? ⟨gb28101, 4, none⟩ = some (.int .i64 a0_4) := (blk_cell BK28101.out 4).trans rfl
         have hcz57_5 : wc.cell? ⟨gb28101, 5, none⟩ = some (.int .i64 a0_5) := (blk_cell BK28101.out 5).trans rfl
         have hfz57_0 := blk_frozen BK28101.out 0
         have hfz57_1 := blk_frozen BK28101.out 1
         have hfz57_2 := blk_frozen BK28101.out 2
         have hfz57_3 := blk_frozen BK28101.out 3
         have hfz57_4 := blk_frozen BK28101.out 4
         have hfz57_5 := blk_frozen BK28101.out 5
         go_wp2
         go_ret
         exact ⟨by first | rfl | (simp [errW_none, errW_some] <;> rfl) | (simp [*, errW_none, errW_some] <;> rfl), by repeat (first | (with_reducible first | exact HB.out | apply below_alloc | apply pw_below_drewN | apply below_drew1 | refine below_set ?_ GE28101.out) | exact HB.out)⟩
       ·rw [if_neg c49] at H
        have c49b0 : (a0_1 == 0) = false := beq_eq_false_iff_ne.mpr c49
        have c49b1 : (a0_1 != 0) = true := bne_iff_ne.mpr c49
        obtain rfl := Option.some.inj H
        have hcz58_0 : wc.cell? ⟨gb28101, 0, none⟩ = some (.int .i64 a0_0) := (blk_cell BK28101.out 0).trans rfl
        have hcz58_1 : wc.cell? ⟨gb28101, 1, none⟩ = some (.int .i64 a0_1) := (blk_cell BK28101.out 1).trans rfl
        have hcz58_2 : wc.cell? ⟨gb28101, 2, none⟩ = some (.slice A0_2 l0_2.length c0_2) := (blk_cell BK28101.out 2).trans rfl
        have hcz58_3 : wc.cell? ⟨gb28101, 3, none⟩ = some (.int .i64 a0_3) := (blk_cell BK28101.out 3).trans rfl
        have hcz58_4 : wc.cell? ⟨gb28101, 4, none⟩ = some (.int .i64 a0_4) := (blk_cell BK28101.out 4).trans rfl
        have hcz58_5 : wc.cell? ⟨gb28101, 5, none⟩ = some (.int .i64 a0_5) := (blk_cell BK28101.out 5).trans rfl
        have hfz58_0 := blk_frozen BK28101.out 0
        have hfz58_1 := blk_frozen BK28101.out 1
        have hfz58_2 := blk_frozen BK28101.out 2
        have hfz58_3 := blk_frozen BK28101.out 3
        have hfz58_4 := blk_frozen BK28101.out 4
        have hfz58_5 := blk_frozen BK28101.out 5
        go_wp2
        go_ret
        exact ⟨by first | rfl | (simp [errW_none, errW_some] <;> rfl) | (simp [*, errW_none, errW_some] <;> rfl), by repeat (first | (with_reducible first | exact HB.out | apply below_alloc | apply pw_below_drewN | apply below_drew1 | refine below_set ?_ GE28101.out) | exact HB.out)⟩
      ·rw [if_neg c48] at H
       have c48b0 : (a0_0 == 4) = false := beq_eq_false_iff_ne.mpr c48
       have c48b1 : (a0_0 != 4) = true := bne_iff_ne.mpr c48
       obtain rfl := Option.some.inj H
       have hcz59_0 : wc.cell? ⟨gb28101, 0, none⟩ = some (.int .i64 a0_0) := (blk_cell BK28101.out 0).trans rfl
       have hcz59_1 : wc.cell? ⟨gb28101, 1, none⟩ = some (.int .i64 a0_1) := (blk_cell BK28101.out 1).trans rfl
       have hcz59_2 : wc.cell? ⟨gb28101, 2, none⟩ = some (.slice A0_2 l0_2.length c0_2) := (blk_cell BK28101.out 2).trans rfl
       have hcz59_3 : wc.cell? ⟨gb28101, 3, none⟩ = some (.int .i64 a0_3) := (blk_cell BK28101.out 3).trans rfl
       have hcz59_4 : wc.cell? ⟨gb28101, 4, none⟩ = some (.int .i64 a0_4) := (blk_cell BK28101.out 4).trans rfl
       have hcz59_5 : wc.cell? ⟨gb28101, 5, none⟩ = some (.int .i64 a0_5) := (blk_cell BK28101.out 5).trans rfl
       have hfz59_0 := blk_frozen BK28101.out 0
       have hfz59_1 := blk_frozen BK28101.out 1
       have hfz59_2 := blk_frozen BK28101.out 2
       have hfz59_3 := blk_frozen BK28101.out 3
       have hfz59_4 := blk_frozen BK28101.out 4
       have hfz59_5 := blk_frozen BK28101.out 5
       go_wp2
       go_ret
       exact ⟨by first | rfl | (simp [errW_none, errW_some] <;> rfl) | (simp [*, errW_none, errW_some] <;> rfl), by repeat (first | (with_reducible first | exact HB.out | apply below_alloc | apply pw_below_drewN | apply below_drew1 | refine below_set ?_ GE28101.out) | exact HB.out)⟩
mutual
def phasorref08_Check.j0 : Nat → Bool → Int → Int → List (S57) → Option (Int × Int)
 | 0, _, _, _, _ => none
 | k + 1, x28, x21602000, x21602001, x21602002 => if x28 = true then (some ((-1), 80)) else (phasorref08_Check.l0 k 0 x21602000 x21602001 x21602002)
def phasorref08_Check.l0 : Nat → Int → Int → Int → List (S57) → Option (Int × Int)
 | 0, _, _, _, _ => none
 | k + 1, x4, x21602000, x21602001, x21602002 => if x4 < (x21602002.length : Int) then (if 0 ≤ x4 then ((phasorref08_Op.f k ((rd_T57 x21602002 x4).f0) ((rd_T57 x21602002 x4).f1) ((rd_T57 x21602002 x4).f2) ((rd_T57 x21602002 x4).f3) ((rd_T57 x21602002 x4).f4) ((rd_T57 x21602002 x4).f5) x21602000 x21602001).bind fun t21603 => (if t21603 = true then (phasorref08_Check.l0 k (wrap64 (x4 + 1)) x21602000 x21602001 x21602002) else (some (x4, 80)))) else (none)) else (some (0, 0))
end
def phasorref08_Check.f (k : Nat) (a0_0 : Int) (a0_1 : Int) (l0_2 : List (S57)) : Option (Int × Int) := if a0_0 < 0 then (phasorref08_Check.j0 k true a0_0 a0_1 l0_2) else (if a0_0 > 64 then (phasorref08_Check.j0 k true a0_0 a0_1 l0_2) else (if a0_1 < 0 then (phasorref08_Check.j0 k true a0_0 a0_1 l0_2) else (if a0_1 > 64 then (phasorref08_Check.j0 k true a0_0 a0_1 l0_2) else (phasorref08_Check.j0 k (decide ((l0_2.length : Int) > 4096)) a0_0 a0_1 l0_2))))
def phasorref08_Check.T6 : Bool × List (List Nat × List Nat) := (true, [([], []), ([0], [0]), ([], []), ([1, 2], [1, 2]), ([3], [3]), ([], []), ([5], [5]), ([], []), ([7], [7]), ([4, 6, 8], [4, 6, 8]), ([9], [9])])
def phasorref08_Check.B6 : List Nat := [0, 1, 0, 7, 15, 0, 32, 0, 128, 511, 1023]
theorem phasorref08_Check.tab6 : rtab .any (opsOf Try.f43 6) = phasorref08_Check.T6 := by kernel_rfl
theorem phasorref08_Check.bits6 : waitsOk phasorref08_Check.T6.2 phasorref08_Check.B6 = true := by kernel_rfl
set_option maxHeartbeats 8000000 in
set_option maxRecDepth 100000 in
theorem phasorref08_Check.calls (k : Nat) (a0_0 : Int) (a0_1 : Int) (A0_2 : Option Addr) (c0_2 : Nat) (l0_2 : List (S57)) (r1 : Int) (r2 : Int) (w : World) (hr0_2 : Kd.C k57 w A0_2 l0_2.length l0_2) (hc0_2 : l0_2.length ≤ c0_2) (h : phasorref08_Check.f k a0_0 a0_1 l0_2 = some (r1, r2)) :
  Calls Try.prog 43 #[.agg #[.int .i64 a0_0, .int .i64 a0_1, .slice A0_2 l0_2.length c0_2]] w fun e w' => e = .returned (.tuple #[.int .i64 r1, .int .i64 r2]) ∧ Below w.heap.size w w' := by
 have hu24 := Try.underlying24
 have hu57 := Try.underlying57
 have HR0_2 := Aside0.mk hr0_2
 have HC0_2 := Aside0.mk hc0_2
 clear hr0_2 hc0_2
 have HB := Aside0.mk (Below.refl w.heap.size w)
 have H : (if a0_0 < 0 then (phasorref08_Check.j0 k true a0_0 a0_1 l0_2) else (if a0_0 > 64 then (phasorref08_Check.j0 k true a0_0 a0_1 l0_2) else (if a0_1 < 0 then (phasorref08_Check.j0 k true a0_0 a0_1 l0_2) else (if a0_1 > 64 then (phasorref08_Check.j0 k true a0_0 a0_1 l0_2) else (phasorref08_Check.j0 k (decide ((l0_2.length : Int) > 4096)) a0_0 a0_1 l0_2))))) = some (r1, r2) := h
 clear h
 have HC2 := Aside0.mk H
 clear H
 go_enter Try.func43, Try.ntmps43
 go_upto_region 1 with (first | ((with_reducible refine gate_dst (N := 1) rfl ?_); (try (refine gate_guard (by rfl) ?_; dsimp only)); refine box_event ?hg (N := 1) ?hd (cs := #[.int .i64 a0_0, .int .i64 a0_1, .slice A0_2 l0_2.length c0_2]) (t := 24) ?hr ?_; (case hd => rfl); (case hg => rfl); (case hr => first | (go_simp; done) | (go_simp; rfl)); intro gb21601 hg w3 hbox hb; have n0_ := Aside0.mk (below_step (by repeat (first | (with_reducible first | exact HB.out | apply below_alloc | apply pw_below_drewN | apply below_drew1) | exact HB.out)) hb); have n1_ := Aside0.mk (hbox); have n2_ := Aside0.mk ((by rw [hg]; exact (below_size (by repeat (first | (with_reducible first | exact HB.out | apply below_alloc | apply pw_below_drewN | apply below_drew1) | exact HB.out))) : w.heap.size ≤ gb21601)); have n3_ := Aside0.mk ((by rw [hg]; exact (below_size (by repeat (first | (with_reducible first | exact HB.out | apply below_alloc | apply pw_below_drewN | apply below_drew1) | exact HB.out))) : w.heap.size ≤ gb21601)); clear HB; have HB := n0_; have BK21601 := n1_; have GW21601 := n2_; have GE21601 := n3_; clear n0_ n1_ n2_ n3_; clear hb hbox hg))
 (try simp only [Act.put, List.setIfInBounds_toArray, List.set_cons_zero, List.set_cons_succ])
 go_cut [28] (fun v28 wc => ∃ (kq : Nat) (x28_1 : Bool), v28 = .bool x28_1 ∧ Aside0 (phasorref08_Check.j0 kq x28_1 a0_0 a0_1 l0_2 = some (r1, r2)) ∧ Aside0 (kq ≤ k) ∧ Aside0 (wc.heap[gb21601]? = some (.cells #[.int .i64 a0_0, .int .i64 a0_1, (.slice A0_2 l0_2.length c0_2)] 24 (0, 0))) ∧ Aside0 (Below w.heap.size w wc))
 case first =>
  have H := HC2.out
  clear HC2
  by_cases c4 : a0_0 < 0
  ·rw [if_pos c4] at H
   have c4b0 : decide (a0_0 < 0) = true := decide_eq_true c4
   clear c4
   (first | rw [c4b0] | (simp only [i64_w, i32_w]; rw [c4b0]) | skip)
   have H' := Aside0.mk H
   clear H
   have hcz5_0 : w3.cell? ⟨gb21601, 0, none⟩ = some (.int .i64 a0_0) := (blk_cell BK21601.out 0).trans rfl
   have hcz5_1 : w3.cell? ⟨gb21601, 1, none⟩ = some (.int .i64 a0_1) := (blk_cell BK21601.out 1).trans rfl
   have hcz5_2 : w3.cell? ⟨gb21601, 2, none⟩ = some (.slice A0_2 l0_2.length c0_2) := (blk_cell BK21601.out 2).trans rfl
   have hfz5_0 := blk_frozen BK21601.out 0
   have hfz5_1 := blk_frozen BK21601.out 1
   have hfz5_2 := blk_frozen BK21601.out 2
   go_wp2
   go_meet
   case rel => exact ⟨_, (true), (by first | rfl | (simp; done) | (simp [*]; done)), H', ⟨by first | omega | exact Nat.le_refl _⟩, ⟨by (with_reducible repeat (first | refine blk_drewN ?_ _ | refine blk_drew ?_ | refine blk_alloc ?_ _)); exact BK21601.out⟩, ⟨by repeat (first | (with_reducible first | exact HB.out | apply below_alloc | apply pw_below_drewN | apply below_drew1 | refine below_set ?_ GE21601.out) | exact HB.out)⟩⟩
  ·rw [if_neg c4] at H
   have c4b0 : decide (a0_0 < 0) = false := decide_eq_false c4
   clear c4
   (first | rw [c4b0] | (simp only [i64_w, i32_w]; rw [c4b0]) | skip)
   by_cases c6 : a0_0 > 64
   ·rw [if_pos c6] at H
    have c6b0 : decide (64 < a0_0) = true := decide_eq_true c6
    clear c6
    have H' := Aside0.mk H
    clear H
    have hcz7_0 : w3.cell? ⟨gb21601, 0, none⟩ = some (.int .i64 a0_0) := (blk_cell BK21601.out 0).trans rfl
    have hcz7_1 : w3.cell? ⟨gb21601, 1, none⟩ = some (.int .i64 a0_1) := (blk_cell BK21601.out 1).trans rfl
    have hcz7_2 : w3.cell? ⟨gb21601, 2, none⟩ = some (.slice A0_2 l0_2.length c0_2) := (blk_cell BK21601.out 2).trans rfl
    have hfz7_0 := blk_frozen BK21601.out 0
    have hfz7_1 := blk_frozen BK21601.out 1
    have hfz7_2 := blk_frozen BK21601.out 2
    go_wp2
    go_meet
    case rel => exact ⟨_, (true), (by first | rfl | (simp; done) | (simp [*]; done)), H', ⟨by first | omega | exact Nat.le_refl _⟩, ⟨by (with_reducible repeat (first | refine blk_drewN ?_ _ | refine blk_drew ?_ | refine blk_alloc ?_ _)); exact BK21601.out⟩, ⟨by repeat (first | (with_reducible first | exact HB.out | apply below_alloc | apply pw_below_drewN | apply below_drew1 | refine below_set ?_ GE21601.out) | exact HB.out)⟩⟩
   ·rw [if_neg c6] at H
    have c6b0 : decide (64 < a0_0) = false := decide_eq_false c6
    clear c6
    by_cases c8 : a0_1 < 0
    ·rw [if_pos c8] at H
     have c8b0 : decide (a0_1 < 0) = true := decide_eq_true c8
     clear c8
     have H' := Aside0.mk H
     clear H
     have hcz9_0 : w3.cell? ⟨gb21601, 0, none⟩ = some (.int .i64 a0_0) := (blk_cell BK21601.out 0).trans rfl
     have hcz9_1 : w3.cell? ⟨gb21601, 1, none⟩ = some (.int .i64 a0_1) := (blk_cell BK21601.out 1).trans rfl
     have hcz9_2 : w3.cell? ⟨gb21601, 2, none⟩ = some (.slice A0_2 l0_2.length c0_2) := (blk_cell BK21601.out 2).trans rfl
     have hfz9_0 := blk_frozen BK21601.out 0
     have hfz9_1 := blk_frozen BK21601.out 1
     have hfz9_2 := blk_frozen BK21601.out 2
     go_wp2
     go_meet
     case rel => exact ⟨_, (true), (by first | rfl | (simp; done) | (simp [*]; done)), H', ⟨by first | omega | exact Nat.le_refl _⟩, ⟨by (with_reducible repeat (first | refine blk_drewN ?_ _ | refine blk_drew ?_ | refine blk_alloc ?_ _)); exact BK21601.out⟩, ⟨by repeat (first | (with_reducible first | exact HB.out | apply below_alloc | apply pw_below_drewN | apply below_drew1 | refine below_set ?_ GE21601.out) | exact HB.out)⟩⟩
    ·rw [if_neg c8] at H
     have c8b0 : decide (a0_1 < 0) = false := decide_eq_false c8
     clear c8
     by_cases c10 : a0_1 > 64
     ·rw [if_pos c10] at H
      have c10b0 : decide (64 < a0_1) = true := decide_eq_true c10
      clear c10
      have H' := Aside0.mk H
      clear H
      have hcz11_0 : w3.cell? ⟨gb21601, 0, none⟩ = some (.int .i64 a0_0) := (blk_cell BK21601.out 0).trans rfl
      have hcz11_1 : w3.cell? ⟨gb21601, 1, none⟩ = some (.int .i64 a0_1) := (blk_cell BK21601.out 1).trans rfl
      have hcz11_2 : w3.cell? ⟨gb21601, 2, none⟩ = some (.slice A0_2 l0_2.length c0_2) := (blk_cell BK21601.out 2).trans rfl
      have hfz11_0 := blk_frozen BK21601.out 0
      have hfz11_1 := blk_frozen BK21601.out 1
      have hfz11_2 := blk_frozen BK21601.out 2
      go_wp2
      go_meet
      case rel => exact ⟨_, (true), (by first | rfl | (simp; done) | (simp [*]; done)), H', ⟨by first | omega | exact Nat.le_refl _⟩, ⟨by (with_reducible repeat (first | refine blk_drewN ?_ _ | refine blk_drew ?_ | refine blk_alloc ?_ _)); exact BK21601.out⟩, ⟨by repeat (first | (with_reducible first | exact HB.out | apply below_alloc | apply pw_below_drewN | apply below_drew1 | refine below_set ?_ GE21601.out) | exact HB.out)⟩⟩
     ·rw [if_neg c10] at H
      have c10b0 : decide (64 < a0_1) = false := decide_eq_false c10
      clear c10
      have H' := Aside0.mk H
      clear H
      have hcz12_0 : w3.cell? ⟨gb21601, 0, none⟩ = some (.int .i64 a0_0) := (blk_cell BK21601.out 0).trans rfl
      have hcz12_1 : w3.cell? ⟨gb21601, 1, none⟩ = some (.int .i64 a0_1) := (blk_cell BK21601.out 1).trans rfl
      have hcz12_2 : w3.cell? ⟨gb21601, 2, none⟩ = some (.slice A0_2 l0_2.length c0_2) := (blk_cell BK21601.out 2).trans rfl
      have hfz12_0 := blk_frozen BK21601.out 0
      have hfz12_1 := blk_frozen BK21601.out 1
      have hfz12_2 := blk_frozen BK21601.out 2
      go_wp2
      go_meet
      case rel => exact ⟨_, (decide ((l0_2.length : Int) > 4096)), (by first | rfl | (simp; done) | (simp [*]; done)), H', ⟨by first | omega | exact Nat.le_refl _⟩, ⟨by (with_reducible repeat (first | refine blk_drewN ?_ _ | refine blk_drew ?_ | refine blk_alloc ?_ _)); exact BK21601.out⟩, ⟨by repeat (first | (with_reducible first | exact HB.out | apply below_alloc | apply pw_below_drewN | apply below_drew1 | refine below_set ?_ GE21601.out) | exact HB.out)⟩⟩
 case rest =>
  clear HC2
  try clear c1
  try clear p2
  try clear c4
  try clear c4b0
  try clear c6
  try clear c6b0
  try clear c8
  try clear c8b0
  try clear c10
  try clear c10b0
  try clear hcz11_0
  try clear hcz11_1
  try clear hcz11_2
  try clear hcz12_0
  try clear hcz12_1
  try clear hcz12_2
  try clear hcz5_0
  try clear hcz5_1
  try clear hcz5_2
  try clear hcz7_0
  try clear hcz7_1
  try clear hcz7_2
  try clear hcz9_0
  try clear hcz9_1
  try clear hcz9_2
  try clear hfz11_0
  try clear hfz11_1
  try clear hfz11_2
  try clear hfz12_0
  try clear hfz12_1
  try clear hfz12_2
  try clear hfz5_0
  try clear hfz5_1
  try clear hfz5_2
  try clear hfz7_0
  try clear hfz7_1
  try clear hfz7_2
  try clear hfz9_0
  try clear hfz9_1
  try clear hfz9_2
  obtain ⟨kq, x28_1, rfl, HA, HJ1, BK21601, HB⟩ := hcut
  cases kq with
  | zero => exact absurd HA.out (by simp [phasorref08_Check.j0])
  | succ kj1 =>
   have H := HA.out
   clear HA
   simp only [phasorref08_Check.j0] at H
   by_cases c13 : x28_1 = true
   ·subst c13
    have H1 : (some ((-1), 80)) = some (r1, r2) := by rw [if_pos rfl] at H; exact H
    clear H
    have H := H1
    clear H1
    simp only [Option.some.injEq, Prod.mk.injEq] at H
    obtain ⟨rfl, rfl⟩ := H
    go_wp2
    go_ret2
    exact ⟨by first | rfl | (simp [errW_none, errW_some] <;> rfl) | (simp [*, errW_none, errW_some] <;> rfl), by repeat (first | (with_reducible first | exact HB.out | apply below_alloc | apply pw_below_drewN | apply below_drew1 | refine below_set ?_ GE21601.out) | exact HB.out)⟩
   ·replace c13 := Bool.eq_false_iff.mpr c13
    subst c13
    have H1 : (phasorref08_Check.l0 kj1 0 a0_0 a0_1 l0_2) = some (r1, r2) := by rw [if_neg (show ¬ (false = true) by decide)] at H; exact H
    clear H
    have H := H1
    clear H1
    have H' := Aside0.mk H
    clear H
    go_wp2
    go_loopg [4] kj1 (fun kq v4 w' => ∃ (x4_2 : Int), v4 = .int .i64 x4_2 ∧ Aside0 (phasorref08_Check.l0 kq x4_2 a0_0 a0_1 l0_2 = some (r1, r2)) ∧ Aside0 (kq ≤ kj1) ∧ Aside0 (w'.heap[gb21601]? = some (.cells #[.int .i64 a0_0, .int .i64 a0_1, (.slice A0_2 l0_2.length c0_2)] 24 (0, 0))) ∧ Aside0 (Below w.heap.size w w'))
    case atStart => exact ⟨(0), (by first | rfl | (simp; done) | (simp [*]; done)), H', ⟨Nat.le_refl _⟩, ⟨by (with_reducible repeat (first | refine blk_drewN ?_ _ | refine blk_drew ?_ | refine blk_alloc ?_ _)); exact BK21601.out⟩, ⟨by repeat (first | (with_reducible first | exact HB.out | apply below_alloc | apply pw_below_drewN | apply below_drew1 | refine below_set ?_ GE21601.out) | exact HB.out)⟩⟩
    case round =>
     clear H'
     try clear c1
     try clear p2
     try clear c4
     try clear c4b0
     try clear c6
     try clear c6b0
     try clear c8
     try clear c8b0
     try clear c10
     try clear c10b0
     try clear c13
     try clear hcz11_0
     try clear hcz11_1
     try clear hcz11_2
     try clear hcz12_0
     try clear hcz12_1
     try clear hcz12_2
     try clear hcz5_0
     try clear hcz5_1
     try clear hcz5_2
     try clear hcz7_0
     try clear hcz7_1
     try clear hcz7_2
     try clear hcz9_0
     try clear hcz9_1
     try clear hcz9_2
     try clear hfz11_0
     try clear hfz11_1
     try clear hfz11_2
     try clear hfz12_0
     try clear hfz12_1
     try clear hfz12_2
     try clear hfz5_0
     try clear hfz5_1
     try clear hfz5_2
     try clear hfz7_0
     try clear hfz7_1
     try clear hfz7_2
     try clear hfz9_0
     try clear hfz9_1
     try clear hfz9_2
     try clear p2
     obtain ⟨x4_2, rfl, HA, HK2, BK21601, HB⟩ := hrel
     cases gk with
     | zero => exact absurd HA.out (by simp [phasorref08_Check.l0])
     | succ k2 =>
      have H := HA.out
      clear HA
      simp only [phasorref08_Check.l0] at H
      by_cases c14 : x4_2 < (l0_2.length : Int)
      ·rw [if_pos c14] at H
       have c14b0 : decide (x4_2 < (l0_2.length : Int)) = true := decide_eq_true c14
       clear c14
       by_cases c15 : 0 ≤ x4_2
       ·rw [if_pos c15] at H
        have c15b0 : decide (0 ≤ x4_2) = true := decide_eq_true c15
        clear c15
        replace H := Option.bind_eq_some_iff.mp H
        obtain ⟨t21603, A160, H⟩ := H
        replace H : (if t21603 = true then (phasorref08_Check.l0 k2 (wrap64 (x4_2 + 1)) a0_0 a0_1 l0_2) else (some (x4_2, 80))) = some (r1, r2) := H
        have A16 := Aside0.mk A160
        clear A160
        by_cases c17 : t21603 = true
        ·subst c17
         have H1 : (phasorref08_Check.l0 k2 (wrap64 (x4_2 + 1)) a0_0 a0_1 l0_2) = some (r1, r2) := by rw [if_pos rfl] at H; exact H
         clear H
         have H := H1
         clear H1
         have H' := Aside0.mk H
         clear H
         have hcz18_0 : wr.cell? ⟨gb21601, 0, none⟩ = some (.int .i64 a0_0) := (blk_cell BK21601.out 0).trans rfl
         have hcz18_1 : wr.cell? ⟨gb21601, 1, none⟩ = some (.int .i64 a0_1) := (blk_cell BK21601.out 1).trans rfl
         have hcz18_2 : wr.cell? ⟨gb21601, 2, none⟩ = some (.slice A0_2 l0_2.length c0_2) := (blk_cell BK21601.out 2).trans rfl
         have hfz18_0 := blk_frozen BK21601.out 0
         have hfz18_1 := blk_frozen BK21601.out 1
         have hfz18_2 := blk_frozen BK21601.out 2
         try go_wp2
         have n0_ := Aside0.mk (blk_drew BK21601.out)
         have n1_ := Aside0.mk (below_drew1 HB.out)
         clear BK21601
         clear HB
         have BK21601 := n0_
         have HB := n1_
         clear n0_ n1_
         have p21602 : 0 ≤ (x4_2 : Int) := of_decide_eq_true (by first | (with_reducible assumption) | assumption)
         have q21602 : x4_2 < (l0_2.length : Int) := of_decide_eq_true (by first | (with_reducible assumption) | assumption)
         obtain ⟨ad21602, A21602_2, c21602_2, e21602, hx21602_0, hx21602_1, hx21602_2, hx21602_3, hx21602_4, hx21602_5, hl21602_2, hi21602_2⟩ := at_T57 HR0_2.out x4_2 p21602 q21602
         have hw21602_5 := hx21602_5
         have hw21602_4 := hx21602_4
         have hw21602_3 := hx21602_3
         have hw21602_2 := hx21602_2
         have hw21602_1 := hx21602_1
         have hw21602_0 := hx21602_0
         cases e21602
         replace hx21602_0 := (HB.out.cell (World.block_lt_of_cell? w _ hx21602_0)).trans hx21602_0
         replace hx21602_1 := (HB.out.cell (World.block_lt_of_cell? w _ hx21602_1)).trans hx21602_1
         replace hx21602_2 := (HB.out.cell (World.block_lt_of_cell? w _ hx21602_2)).trans hx21602_2
         replace hx21602_3 := (HB.out.cell (World.block_lt_of_cell? w _ hx21602_3)).trans hx21602_3
         replace hx21602_4 := (HB.out.cell (World.block_lt_of_cell? w _ hx21602_4)).trans hx21602_4
         replace hx21602_5 := (HB.out.cell (World.block_lt_of_cell? w _ hx21602_5)).trans hx21602_5
         have HR21602_2 := Aside0.mk hi21602_2
         have HC21602_2 := Aside0.mk hl21602_2
         clear hi21602_2 hl21602_2
         replace p21602 := eq_true p21602
         replace q21602 := eq_true q21602
         refine start_ (n := 11) (S := fun w' => w'.cell? ⟨gb21601, 0, none⟩ = some (.int .i64 a0_0) ∧ w'.cell? ⟨gb21601, 1, none⟩ = some (.int .i64 a0_1) ∧ w'.cell? ⟨gb21601, 2, none⟩ = some (.slice (some ad21602) l0_2.length c0_2) ∧ w'.cell? (ad21602.add ((x4_2).toNat * 6)) = some (.int .i64 ((rd_T57 l0_2 x4_2).f0)) ∧ w'.cell? ⟨(ad21602.add ((x4_2).toNat * 6)).block, (ad21602.add ((x4_2).toNat * 6)).off + 1, none⟩ = some (.int .i64 ((rd_T57 l0_2 x4_2).f1)) ∧ w'.cell? ⟨(ad21602.add ((x4_2).toNat * 6)).block, (ad21602.add ((x4_2).toNat * 6)).off + 2, none⟩ = some (.slice A21602_2 ((rd_T57 l0_2 x4_2).f2).length c21602_2) ∧ w'.cell? ⟨(ad21602.add ((x4_2).toNat * 6)).block, (ad21602.add ((x4_2).toNat * 6)).off + 3, none⟩ = some (.int .i64 ((rd_T57 l0_2 x4_2).f3)) ∧ w'.cell? ⟨(ad21602.add ((x4_2).toNat * 6)).block, (ad21602.add ((x4_2).toNat * 6)).off + 4, none⟩ = some (.int .i64 ((rd_T57 l0_2 x4_2).f4)) ∧ w'.cell? ⟨(ad21602.add ((x4_2).toNat * 6)).block, (ad21602.add ((x4_2).toNat * 6)).off + 5, none⟩ = some (.int .i64 ((rd_T57 l0_2 x4_2).f5))) (ds := []) #[false, false, false, false, false, false, false, false, false, false, false] (by kernel_rfl) rfl rfl ⟨(blk_cell BK21601.out 0).trans rfl, (blk_cell BK21601.out 1).trans rfl, (blk_cell BK21601.out 2).trans rfl, ((HB.out.cell (World.block_lt_of_cell? w _ hw21602_0)).trans hw21602_0), ((HB.out.cell (World.block_lt_of_cell? w _ hw21602_1)).trans hw21602_1), ((HB.out.cell (World.block_lt_of_cell? w _ hw21602_2)).trans hw21602_2), ((HB.out.cell (World.block_lt_of_cell? w _ hw21602_3)).trans hw21602_3), ((HB.out.cell (World.block_lt_of_cell? w _ hw21602_4)).trans hw21602_4), ((HB.out.cell (World.block_lt_of_cell? w _ hw21602_5)).trans hw21602_5)⟩ (fun hHeld => ?_); refine with_tabW phasorref08_Check.tab6 phasorref08_Check.bits6 (fun HT_ HW_ => ?_)
         generalize wr.drew = w19 at BK21601 HB HR21602_2 hx21602_0 hx21602_1 hx21602_2 hx21602_3 hx21602_4 hx21602_5 hHeld ⊢
         refine pure_ (i := 0) (N := some 36) (v := ?_) (a' := ?_) #[true, false, false, false, false, false, false, false, false, false, false] rfl rfl (any_of HT_.out (by kernel_rfl)) (fun _ _ _ h => h) (Or.inl ⟨by rfl, ?_⟩) ?_ ?_
         rotate_left
         ·intro w'
          go_simp
          with_reducible rfl
         rotate_left
         ·simp only [Act.put, List.setIfInBounds_toArray, List.set_cons_zero, List.set_cons_succ, i64_w, i32_w]
          rfl
         refine pure_ (i := 2) (N := some 38) (v := ?_) (a' := ?_) #[true, false, true, false, false, false, false, false, false, false, false] rfl rfl (any_of HT_.out (by kernel_rfl)) (fun _ _ _ h => h) (Or.inl ⟨by rfl, ?_⟩) ?_ ?_
         rotate_left
         ·intro w'
          go_simp
          with_reducible rfl
         rotate_left
         ·simp only [Act.put, List.setIfInBounds_toArray, List.set_cons_zero, List.set_cons_succ, i64_w, i32_w]
          rfl
         refine pure_ (i := 5) (N := some 41) (v := ?_) (a' := ?_) #[true, false, true, false, false, true, false, false, false, false, false] rfl rfl (any_of HT_.out (by kernel_rfl)) (fun _ _ _ h => h) (Or.inl ⟨by rfl, ?_⟩) ?_ ?_
         rotate_left
         ·intro w'
          go_simp
          with_reducible rfl
         rotate_left
         ·simp only [Act.put, List.setIfInBounds_toArray, List.set_cons_zero, List.set_cons_succ, i64_w, i32_w]
          rfl
         refine pure_ (i := 7) (N := some 43) (v := ?_) (a' := ?_) #[true, false, true, false, false, true, false, true, false, false, false] rfl rfl (any_of HT_.out (by kernel_rfl)) (fun _ _ _ h => h) (Or.inl ⟨by rfl, ?_⟩) ?_ ?_
         rotate_left
         ·intro w'
          go_simp
          with_reducible rfl
         rotate_left
         ·simp only [Act.put, List.setIfInBounds_toArray, List.set_cons_zero, List.set_cons_succ, i64_w, i32_w]
          rfl
         refine take_ (i := 1) (N := some 37) (v := ?_) (a' := ?_) #[true, true, true, false, false, true, false, true, false, false, false] rfl rfl (take_ofW HT_.out HW_.out (by kernel_rfl)) (fun _ _ _ h => h) (Or.inl ⟨by rfl, ?_⟩) hHeld ?_ ?_
         rotate_left
         ·rintro w' ⟨s0, s1, s2, s3, s4, s5, s6, s7, s8⟩
          go_simp
          with_reducible rfl
         rotate_left
         ·simp only [Act.put, List.setIfInBounds_toArray, List.set_cons_zero, List.set_cons_succ, i64_w, i32_w]
          rfl
         refine pure_ (i := 3) (N := some 39) (v := ?_) (a' := ?_) #[true, true, true, true, false, true, false, true, false, false, false] rfl rfl (any_of HT_.out (by kernel_rfl)) (fun _ _ _ h => h) (Or.inl ⟨by rfl, ?_⟩) ?_ ?_
         rotate_left
         ·intro w'
          go_simp
          with_reducible rfl
         rotate_left
         ·simp only [Act.put, List.setIfInBounds_toArray, List.set_cons_zero, List.set_cons_succ, i64_w, i32_w]
          rfl
         refine take_ (i := 4) (N := some 40) (v := ?_) (a' := ?_) #[true, true, true, true, true, true, false, true, false, false, false] rfl rfl (take_ofW HT_.out HW_.out (by kernel_rfl)) (fun _ _ _ h => h) (Or.inl ⟨by rfl, ?_⟩) hHeld ?_ ?_
         rotate_left
         ·rintro w' ⟨s0, s1, s2, s3, s4, s5, s6, s7, s8⟩
          go_simp
          with_reducible rfl
         rotate_left
         ·simp only [Act.put, List.setIfInBounds_toArray, List.set_cons_zero, List.set_cons_succ, i64_w, i32_w]
          rfl
         refine take_ (i := 6) (N := some 42) (v := ?_) (a' := ?_) #[true, true, true, true, true, true, true, true, false, false, false] rfl rfl (take_ofW HT_.out HW_.out (by kernel_rfl)) (fun _ _ _ h => h) (Or.inl ⟨by rfl, ?_⟩) hHeld ?_ ?_
         rotate_left
         ·rintro w' ⟨s0, s1, s2, s3, s4, s5, s6, s7, s8⟩
          go_simp
          with_reducible rfl
         rotate_left
         ·simp only [Act.put, List.setIfInBounds_toArray, List.set_cons_zero, List.set_cons_succ, i64_w, i32_w]
          rfl
         refine take_ (i := 8) (N := some 44) (v := ?_) (a' := ?_) #[true, true, true, true, true, true, true, true, true, false, false] rfl rfl (take_ofW HT_.out HW_.out (by kernel_rfl)) (fun _ _ _ h => h) (Or.inl ⟨by rfl, ?_⟩) hHeld ?_ ?_
         rotate_left
         ·rintro w' ⟨s0, s1, s2, s3, s4, s5, s6, s7, s8⟩
          go_simp
          with_reducible rfl
         rotate_left
         ·simp only [Act.put, List.setIfInBounds_toArray, List.set_cons_zero, List.set_cons_succ, i64_w, i32_w]
          rfl
         refine one_ (i := 9) (N := some 45) #[true, true, true, true, true, true, true, true, true, true, false] rfl rfl (one_of HT_.out (by kernel_rfl)) (by decide) (fun K hK => ?_)
         refine goes_ Try.func56 (by kernel_rfl) rfl #[.agg #[.int .i64 ((rd_T57 l0_2 x4_2).f0), .int .i64 ((rd_T57 l0_2 x4_2).f1), .slice A21602_2 ((rd_T57 l0_2 x4_2).f2).length c21602_2, .int .i64 ((rd_T57 l0_2 x4_2).f3), .int .i64 ((rd_T57 l0_2 x4_2).f4), .int .i64 ((rd_T57 l0_2 x4_2).f5)], .int .i64 a0_0, .int .i64 a0_1] (by rfl) rfl rfl (by (try simp only [List.map_toArray, List.map_cons, List.map_nil]); first | done | rfl | (simp only [List.length_drop, List.length_take]; rfl)) ?_
         with_reducible refine (phasorref08_Op.calls k2 ((rd_T57 l0_2 x4_2).f0) ((rd_T57 l0_2 x4_2).f1) _ _ ((rd_T57 l0_2 x4_2).f2) ((rd_T57 l0_2 x4_2).f3) ((rd_T57 l0_2 x4_2).f4) ((rd_T57 l0_2 x4_2).f5) a0_0 a0_1 true _ ?side1 ?side2 A16.out).mono ?_
         (case side1 => repeat (first | exact (Kd.C_below HR21602_2.out HB.out) | (with_reducible refine Kd.C_alloc ?_ _) | (with_reducible refine Kd.C_drewN ?_ _) | (with_reducible refine Kd.C_drew ?_)))
         (case side2 => exact HC21602_2.out)
         rintro e w20 ⟨rfl, hb⟩
         refine ⟨_, rfl, ?_⟩
         have n0_ := Aside0.mk (blk_below (g := gb21601) (o := .cells #[.int .i64 a0_0, .int .i64 a0_1, .slice (some ad21602) l0_2.length c0_2] 24 (0, 0)) (by (with_reducible repeat (first | refine blk_drewN ?_ _ | refine blk_drew ?_ | refine blk_alloc ?_ _)); exact BK21601.out) hb)
         have n1_ := Aside0.mk (below_step (by repeat (first | (with_reducible first | exact HB.out | apply below_alloc | apply pw_below_drewN | apply below_drew1 | refine below_set ?_ GE21601.out) | exact HB.out)) hb)
         clear BK21601
         clear HB
         have BK21601 := n0_
         have HB := n1_
         clear n0_ n1_
         (try clear hb)
         (try clear hb2)
         (try clear hk)
         (try clear hi)
         refine hK.out _ _ ⟨(blk_cell BK21601.out 0).trans rfl, (blk_cell BK21601.out 1).trans rfl, (blk_cell BK21601.out 2).trans rfl, ((HB.out.cell (World.block_lt_of_cell? w _ hw21602_0)).trans hw21602_0), ((HB.out.cell (World.block_lt_of_cell? w _ hw21602_1)).trans hw21602_1), ((HB.out.cell (World.block_lt_of_cell? w _ hw21602_2)).trans hw21602_2), ((HB.out.cell (World.block_lt_of_cell? w _ hw21602_3)).trans hw21602_3), ((HB.out.cell (World.block_lt_of_cell? w _ hw21602_4)).trans hw21602_4), ((HB.out.cell (World.block_lt_of_cell? w _ hw21602_5)).trans hw21602_5)⟩ (fun hHeld => ?_)
         clear hK K
         refine norm_ (a' := ?_) ?_ ?_
         rotate_left
         ·show Act.put _ (some 45) _ = _
          simp only [Act.put, List.setIfInBounds_toArray, List.set_cons_zero, List.set_cons_succ, i64_w, i32_w]
          rfl
         refine pure_ (i := 10) (N := some 46) (v := ?_) (a' := ?_) #[true, true, true, true, true, true, true, true, true, true, true] rfl rfl (any_of HT_.out (by kernel_rfl)) (fun _ _ _ h => h) (Or.inl ⟨by rfl, ?_⟩) ?_ ?_
         rotate_left
         ·intro w'
          go_simp
          with_reducible rfl
         rotate_left
         ·simp only [Act.put, List.setIfInBounds_toArray, List.set_cons_zero, List.set_cons_succ, i64_w, i32_w]
          rfl
         refine done_ (done_of HT_.out (by kernel_rfl)) ?_
         try go_wp2
         go_roundg k2
         case measure => have := HJ1.out; have := HK2.out; omega
         case rel => exact ⟨(wrap64 (x4_2 + 1)), (by first | rfl | (simp; done) | (simp [*]; done)), H', ⟨by have := HJ1.out; have := HK2.out; omega⟩, ⟨by (with_reducible repeat (first | refine blk_drewN ?_ _ | refine blk_drew ?_ | refine blk_alloc ?_ _)); exact BK21601.out⟩, ⟨by repeat (first | (with_reducible first | exact HB.out | apply below_alloc | apply pw_below_drewN | apply below_drew1 | refine below_set ?_ GE21601.out) | exact HB.out)⟩⟩
        ·replace c17 := Bool.eq_false_iff.mpr c17
         subst c17
         have H1 : (some (x4_2, 80)) = some (r1, r2) := by rw [if_neg (show ¬ (false = true) by decide)] at H; exact H
         clear H
         have H := H1
         clear H1
         simp only [Option.some.injEq, Prod.mk.injEq] at H
         obtain ⟨rfl, rfl⟩ := H
         have hcz21_0 : wr.cell? ⟨gb21601, 0, none⟩ = some (.int .i64 a0_0) := (blk_cell BK21601.out 0).trans rfl
         have hcz21_1 : wr.cell? ⟨gb21601, 1, none⟩ = some (.int .i64 a0_1) := (blk_cell BK21601.out 1).trans rfl
         have hcz21_2 : wr.cell? ⟨gb21601, 2, none⟩ = some (.slice A0_2 l0_2.length c0_2) := (blk_cell BK21601.out 2).trans rfl
         have hfz21_0 := blk_frozen BK21601.out 0
         have hfz21_1 := blk_frozen BK21601.out 1
         have hfz21_2 := blk_frozen BK21601.out 2
         try go_wp2
         have n0_ := Aside0.mk (blk_drew BK21601.out)
         have n1_ := Aside0.mk (below_drew1 HB.out)
         clear BK21601
         clear HB
         have BK21601 := n0_
         have HB := n1_
         clear n0_ n1_
         have p21602 : 0 ≤ (x4_2 : Int) := of_decide_eq_true (by first | (with_reducible assumption) | assumption)
         have q21602 : x4_2 < (l0_2.length : Int) := of_decide_eq_true (by first | (with_reducible assumption) | assumption)
         obtain ⟨ad21602, A21602_2, c21602_2, e21602, hx21602_0, hx21602_1, hx21602_2, hx21602_3, hx21602_4, hx21602_5, hl21602_2, hi21602_2⟩ := at_T57 HR0_2.out x4_2 p21602 q21602
         have hw21602_5 := hx21602_5
         have hw21602_4 := hx21602_4
         have hw21602_3 := hx21602_3
         have hw21602_2 := hx21602_2
         have hw21602_1 := hx21602_1
         have hw21602_0 := hx21602_0
         cases e21602
         replace hx21602_0 := (HB.out.cell (World.block_lt_of_cell? w _ hx21602_0)).trans hx21602_0
         replace hx21602_1 := (HB.out.cell (World.block_lt_of_cell? w _ hx21602_1)).trans hx21602_1
         replace hx21602_2 := (HB.out.cell (World.block_lt_of_cell? w _ hx21602_2)).trans hx21602_2
         replace hx21602_3 := (HB.out.cell (World.block_lt_of_cell? w _ hx21602_3)).trans hx21602_3
         replace hx21602_4 := (HB.out.cell (World.block_lt_of_cell? w _ hx21602_4)).trans hx21602_4
         replace hx21602_5 := (HB.out.cell (World.block_lt_of_cell? w _ hx21602_5)).trans hx21602_5
         have HR21602_2 := Aside0.mk hi21602_2
         have HC21602_2 := Aside0.mk hl21602_2
         clear hi21602_2 hl21602_2
         replace p21602 := eq_true p21602
         replace q21602 := eq_true q21602
         refine start_ (n := 11) (S := fun w' => w'.cell? ⟨gb21601, 0, none⟩ = some (.int .i64 a0_0) ∧ w'.cell? ⟨gb21601, 1, none⟩ = some (.int .i64 a0_1) ∧ w'.cell? ⟨gb21601, 2, none⟩ = some (.slice (some ad21602) l0_2.length c0_2) ∧ w'.cell? (ad21602.add ((x4_2).toNat * 6)) = some (.int .i64 ((rd_T57 l0_2 x4_2).f0)) ∧ w'.cell? ⟨(ad21602.add ((x4_2).toNat * 6)).block, (ad21602.add ((x4_2).toNat * 6)).off + 1, none⟩ = some (.int .i64 ((rd_T57 l0_2 x4_2).f1)) ∧ w'.cell? ⟨(ad21602.add ((x4_2).toNat * 6)).block, (ad21602.add ((x4_2).toNat * 6)).off + 2, none⟩ = some (.slice A21602_2 ((rd_T57 l0_2 x4_2).f2).length c21602_2) ∧ w'.cell? ⟨(ad21602.add ((x4_2).toNat * 6)).block, (ad21602.add ((x4_2).toNat * 6)).off + 3, none⟩ = some (.int .i64 ((rd_T57 l0_2 x4_2).f3)) ∧ w'.cell? ⟨(ad21602.add ((x4_2).toNat * 6)).block, (ad21602.add ((x4_2).toNat * 6)).off + 4, none⟩ = some (.int .i64 ((rd_T57 l0_2 x4_2).f4)) ∧ w'.cell? ⟨(ad21602.add ((x4_2).toNat * 6)).block, (ad21602.add ((x4_2).toNat * 6)).off + 5, none⟩ = some (.int .i64 ((rd_T57 l0_2 x4_2).f5))) (ds := []) #[false, false, false, false, false, false, false, false, false, false, false] (by kernel_rfl) rfl rfl ⟨(blk_cell BK21601.out 0).trans rfl, (blk_cell BK21601.out 1).trans rfl, (blk_cell BK21601.out 2).trans rfl, ((HB.out.cell (World.block_lt_of_cell? w _ hw21602_0)).trans hw21602_0), ((HB.out.cell (World.block_lt_of_cell? w _ hw21602_1)).trans hw21602_1), ((HB.out.cell (World.block_lt_of_cell? w _ hw21602_2)).trans hw21602_2), ((HB.out.cell (World.block_lt_of_cell? w _ hw21602_3)).trans hw21602_3), ((HB.out.cell (World.block_lt_of_cell? w _ hw21602_4)).trans hw21602_4), ((HB.out.cell (World.block_lt_of_cell? w _ hw21602_5)).trans hw21602_5)⟩ (fun hHeld => ?_); refine with_tabW phasorref08_Check.tab6 phasorref08_Check.bits6 (fun HT_ HW_ => ?_)
         generalize wr.drew = w22 at BK21601 HB HR21602_2 hx21602_0 hx21602_1 hx21602_2 hx21602_3 hx21602_4 hx21602_5 hHeld ⊢
         refine pure_ (i := 0) (N := some 36) (v := ?_) (a' := ?_) #[true, false, false, false, false, false, false, false, false, false, false] rfl rfl (any_of HT_.out (by kernel_rfl)) (fun _ _ _ h => h) (Or.inl ⟨by rfl, ?_⟩) ?_ ?_
         rotate_left
         ·intro w'
          go_simp
          with_reducible rfl
         rotate_left
         ·simp only [Act.put, List.setIfInBounds_toArray, List.set_cons_zero, List.set_cons_succ, i64_w, i32_w]
          rfl
         refine pure_ (i := 2) (N := some 38) (v := ?_) (a' := ?_) #[true, false, true, false, false, false, false, false, false, false, false] rfl rfl (any_of HT_.out (by kernel_rfl)) (fun _ _ _ h => h) (Or.inl ⟨by rfl, ?_⟩) ?_ ?_
         rotate_left
         ·intro w'
          go_simp
          with_reducible rfl
         rotate_left
         ·simp only [Act.put, List.setIfInBounds_toArray, List.set_cons_zero, List.set_cons_succ, i64_w, i32_w]
          rfl
         refine pure_ (i := 5) (N := some 41) (v := ?_) (a' := ?_) #[true, false, true, false, false, true, false, false, false, false, false] rfl rfl (any_of HT_.out (by kernel_rfl)) (fun _ _ _ h => h) (Or.inl ⟨by rfl, ?_⟩) ?_ ?_
         rotate_left
         ·intro w'
          go_simp
          with_reducible rfl
         rotate_left
         ·simp only [Act.put, List.setIfInBounds_toArray, List.set_cons_zero, List.set_cons_succ, i64_w, i32_w]
          rfl
         refine pure_ (i := 7) (N := some 43) (v := ?_) (a' := ?_) #[true, false, true, false, false, true, false, true, false, false, false] rfl rfl (any_of HT_.out (by kernel_rfl)) (fun _ _ _ h => h) (Or.inl ⟨by rfl, ?_⟩) ?_ ?_
         rotate_left
         ·intro w'
          go_simp
          with_reducible rfl
         rotate_left
         ·simp only [Act.put, List.setIfInBounds_toArray, List.set_cons_zero, List.set_cons_succ, i64_w, i32_w]
          rfl
         refine take_ (i := 1) (N := some 37) (v := ?_) (a' := ?_) #[true, true, true, false, false, true, false, true, false, false, false] rfl rfl (take_ofW HT_.out HW_.out (by kernel_rfl)) (fun _ _ _ h => h) (Or.inl ⟨by rfl, ?_⟩) hHeld ?_ ?_
         rotate_left
         ·rintro w' ⟨s0, s1, s2, s3, s4, s5, s6, s7, s8⟩
          go_simp
          with_reducible rfl
         rotate_left
         ·simp only [Act.put, List.setIfInBounds_toArray, List.set_cons_zero, List.set_cons_succ, i64_w, i32_w]
          rfl
         refine pure_ (i := 3) (N := some 39) (v := ?_) (a' := ?_) #[true, true, true, true, false, true, false, true, false, false, false] rfl rfl (any_of HT_.out (by kernel_rfl)) (fun _ _ _ h => h) (Or.inl ⟨by rfl, ?_⟩) ?_ ?_
         rotate_left
         ·intro w'
          go_simp
          with_reducible rfl
         rotate_left
         ·simp only [Act.put, List.setIfInBounds_toArray, List.set_cons_zero, List.set_cons_succ, i64_w, i32_w]
          rfl
         refine take_ (i := 4) (N := some 40) (v := ?_) (a' := ?_) #[true, true, true, true, true, true, false, true, false, false, false] rfl rfl (take_ofW HT_.out HW_.out (by kernel_rfl)) (fun _ _ _ h => h) (Or.inl ⟨by rfl, ?_⟩) hHeld ?_ ?_
         rotate_left
         ·rintro w' ⟨s0, s1, s2, s3, s4, s5, s6, s7, s8⟩
          go_simp
          with_reducible rfl
         rotate_left
         ·simp only [Act.put, List.setIfInBounds_toArray, List.set_cons_zero, List.set_cons_succ, i64_w, i32_w]
          rfl
         refine take_ (i := 6) (N := some 42) (v := ?_) (a' := ?_) #[true, true, true, true, true, true, true, true, false, false, false] rfl rfl (take_ofW HT_.out HW_.out (by kernel_rfl)) (fun _ _ _ h => h) (Or.inl ⟨by rfl, ?_⟩) hHeld ?_ ?_
         rotate_left
         ·rintro w' ⟨s0, s1, s2, s3, s4, s5, s6, s7, s8⟩
          go_simp
          with_reducible rfl
         rotate_left
         ·simp only [Act.put, List.setIfInBounds_toArray, List.set_cons_zero, List.set_cons_succ, i64_w, i32_w]
          rfl
         refine take_ (i := 8) (N := some 44) (v := ?_) (a' := ?_) #[true, true, true, true, true, true, true, true, true, false, false] rfl rfl (take_ofW HT_.out HW_.out (by kernel_rfl)) (fun _ _ _ h => h) (Or.inl ⟨by rfl, ?_⟩) hHeld ?_ ?_
         rotate_left
         ·rintro w' ⟨s0, s1, s2, s3, s4, s5, s6, s7, s8⟩
          go_simp
          with_reducible rfl
         rotate_left
         ·simp only [Act.put, List.setIfInBounds_toArray, List.set_cons_zero, List.set_cons_succ, i64_w, i32_w]
          rfl
         refine one_ (i := 9) (N := some 45) #[true, true, true, true, true, true, true, true, true, true, false] rfl rfl (one_of HT_.out (by kernel_rfl)) (by decide) (fun K hK => ?_)
         refine goes_ Try.func56 (by kernel_rfl) rfl #[.agg #[.int .i64 ((rd_T57 l0_2 x4_2).f0), .int .i64 ((rd_T57 l0_2 x4_2).f1), .slice A21602_2 ((rd_T57 l0_2 x4_2).f2).length c21602_2, .int .i64 ((rd_T57 l0_2 x4_2).f3), .int .i64 ((rd_T57 l0_2 x4_2).f4), .int .i64 ((rd_T57 l0_2 x4_2).f5)], .int .i64 a0_0, .int .i64 a0_1] (by rfl) rfl rfl (by (try simp only [List.map_toArray, List.map_cons, List.map_nil]); first | done | rfl | (simp only [List.length_drop, List.length_take]; rfl)) ?_
         with_reducible refine (phasorref08_Op.calls k2 ((rd_T57 l0_2 x4_2).f0) ((rd_T57 l0_2 x4_2).f1) _ _ ((rd_T57 l0_2 x4_2).f2) ((rd_T57 l0_2 x4_2).f3) ((rd_T57 l0_2 x4_2).f4) ((rd_T57 l0_2 x4_2).f5) a0_0 a0_1 false _ ?side1 ?side2 A16.out).mono ?_
         (case side1 => repeat (first | exact (Kd.C_below HR21602_2.out HB.out) | (with_reducible refine Kd.C_alloc ?_ _) | (with_reducible refine Kd.C_drewN ?_ _) | (with_reducible refine Kd.C_drew ?_)))
         (case side2 => exact HC21602_2.out)
         rintro e w23 ⟨rfl, hb⟩
         refine ⟨_, rfl, ?_⟩
         have n0_ := Aside0.mk (blk_below (g := gb21601) (o := .cells #[.int .i64 a0_0, .int .i64 a0_1, .slice (some ad21602) l0_2.length c0_2] 24 (0, 0)) (by (with_reducible repeat (first | refine blk_drewN ?_ _ | refine blk_drew ?_ | refine blk_alloc ?_ _)); exact BK21601.out) hb)
         have n1_ := Aside0.mk (below_step (by repeat (first | (with_reducible first | exact HB.out | apply below_alloc | apply pw_below_drewN | apply below_drew1 | refine below_set ?_ GE21601.out) | exact HB.out)) hb)
         clear BK21601
         clear HB
         have BK21601 := n0_
         have HB := n1_
         clear n0_ n1_
         (try clear hb)
         (try clear hb2)
         (try clear hk)
         (try clear hi)
         refine hK.out _ _ ⟨(blk_cell BK21601.out 0).trans rfl, (blk_cell BK21601.out 1).trans rfl, (blk_cell BK21601.out 2).trans rfl, ((HB.out.cell (World.block_lt_of_cell? w _ hw21602_0)).trans hw21602_0), ((HB.out.cell (World.block_lt_of_cell? w _ hw21602_1)).trans hw21602_1), ((HB.out.cell (World.block_lt_of_cell? w _ hw21602_2)).trans hw21602_2), ((HB.out.cell (World.block_lt_of_cell? w _ hw21602_3)).trans hw21602_3), ((HB.out.cell (World.block_lt_of_cell? w _ hw21602_4)).trans hw21602_4), ((HB.out.cell (World.block_lt_of_cell? w _ hw21602_5)).trans hw21602_5)⟩ (fun hHeld => ?_)
         clear hK K
         refine norm_ (a' := ?_) ?_ ?_
         rotate_left
         ·show Act.put _ (some 45) _ = _
          simp only [Act.put, List.setIfInBounds_toArray, List.set_cons_zero, List.set_cons_succ, i64_w, i32_w]
          rfl
         refine pure_ (i := 10) (N := some 46) (v := ?_) (a' := ?_) #[true, true, true, true, true, true, true, true, true, true, true] rfl rfl (any_of HT_.out (by kernel_rfl)) (fun _ _ _ h => h) (Or.inl ⟨by rfl, ?_⟩) ?_ ?_
         rotate_left
         ·intro w'
          go_simp
          with_reducible rfl
         rotate_left
         ·simp only [Act.put, List.setIfInBounds_toArray, List.set_cons_zero, List.set_cons_succ, i64_w, i32_w]
          rfl
         refine done_ (done_of HT_.out (by kernel_rfl)) ?_
         try go_wp2
         go_ret2
         exact ⟨by first | rfl | (simp [errW_none, errW_some] <;> rfl) | (simp [*, errW_none, errW_some] <;> rfl), by repeat (first | (with_reducible first | exact HB.out | apply below_alloc | apply pw_below_drewN | apply below_drew1 | refine below_set ?_ GE21601.out) | exact HB.out)⟩
       ·rw [if_neg c15] at H
        exact absurd H (by simp)
      ·rw [if_neg c14] at H
       have c14b0 : decide (x4_2 < (l0_2.length : Int)) = false := decide_eq_false c14
       clear c14
       simp only [Option.some.injEq, Prod.mk.injEq] at H
       obtain ⟨rfl, rfl⟩ := H
       have hcz24_0 : wr.cell? ⟨gb21601, 0, none⟩ = some (.int .i64 a0_0) := (blk_cell BK21601.out 0).trans rfl
       have hcz24_1 : wr.cell? ⟨gb21601, 1, none⟩ = some (.int .i64 a0_1) := (blk_cell BK21601.out 1).trans rfl
       have hcz24_2 : wr.cell? ⟨gb21601, 2, none⟩ = some (.slice A0_2 l0_2.length c0_2) := (blk_cell BK21601.out 2).trans rfl
       have hfz24_0 := blk_frozen BK21601.out 0
       have hfz24_1 := blk_frozen BK21601.out 1
       have hfz24_2 := blk_frozen BK21601.out 2
       go_wp2
       go_ret2
       exact ⟨by first | rfl | (simp [errW_none, errW_some] <;> rfl) | (simp [*, errW_none, errW_some] <;> rfl), by repeat (first | (with_reducible first | exact HB.out | apply below_alloc | apply pw_below_drewN | apply below_drew1 | refine below_set ?_ GE21601.out) | exact HB.out)⟩
end Go.Proofs.Ytpnfhddcnnoclaa.Px
