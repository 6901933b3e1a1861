/- The law phasorlaw19.LayersSort returns true for every circuit and every row of qubits, and what is handed in reads behind the call as before; no condition. -/
import Derived.Test.YtpnfhddcnnoclaaRows
import Derived.Deep.Slices
import Derived.Deep.Strs
import Derived.Test.YtpnfhddcnnoclaaWSized
import Derived.WalkKit
import Derived.ProofKit
import Derived.OpenShut
import Derived.ShutString
import Derived.ChangeOld
import Derived.Below
import Derived.SizedLaws
import Derived.Test.YtpnfhddcnnoclaaSort7
namespace Go.Proofs.Ytpnfhddcnnoclaa.Px
open Go.Deep Go.ChangeShapes Go.WideShapes Go.ChangeAt Go.RowKit Go.Proofs.YtpnfhddcnnoclaaW.PrintWords
set_option linter.unusedVariables false
theorem cells3 : Try.prog.cellsOf 3 = 1 := by kernel_rfl
theorem cells25 : Try.prog.cellsOf 25 = 1 := by kernel_rfl
theorem cells22 : Try.prog.cellsOf 22 = 1 := by kernel_rfl
theorem cells54 : Try.prog.cellsOf 54 = 1 := by kernel_rfl
theorem cells55 : Try.prog.cellsOf 55 = 1 := by kernel_rfl
theorem cells57 : Try.prog.cellsOf 57 = 6 := by kernel_rfl
theorem cells24 : Try.prog.cellsOf 24 = 3 := by kernel_rfl
section
variable {H : Type} {enc : TypeId × Value → H} {W : World} {base : Nat} {sp : Nat → Bool} {held : Bool}
theorem open_I {fuel : Nat} {cs : List Value} {x : DataW H × List MemPlace} (h : DataW.trod enc Try.prog W base sp held fuel 25 cs = some x) :
    ∃ A c xs, cs = [.slice A xs.length c] ∧ xs.length ≤ c ∧ Kd.C (Kd.int .i64) W A xs.length xs ∧ ((∀ y ∈ x.1.weights Try.prog 25, y ≤ reachBytes) → xs.length * 8 ≤ 140737488351232) := by
  rcases open_ints Try.underlying25 Try.underlying3 cells3 h with ⟨rfl, rfl⟩ | ⟨a, len, cap, zs, rfl, hb, hl, hm, hz, rfl, hc, hw⟩
  · exact ⟨none, 0, [], rfl, Nat.le_refl _, Kd.C_nil _ _, fun _ => by decide⟩
  · have hle : len ≤ zs.length := by rw [hz]; split <;> omega
    have hlt : (zs.take len).length = len := by rw [List.length_take]; omega
    refine ⟨some a, cap, zs.take len, by rw [hlt], by omega, ⟨rfl, by rw [hlt]; simp only [maxLen] at hm; omega, fun _ => ⟨a, rfl, fun j p hj => ⟨[.int .i64 p], rfl, rfl, fun i u hu => ?_⟩⟩⟩, fun hy => ?_⟩
    · match i, hu with
      | 0, hu =>
        injection hu with hu
        subst hu
        obtain ⟨hj1, hj2⟩ := List.getElem?_eq_some_iff.1 hj
        rw [hlt] at hj1
        have := hc j (by omega)
        rw [List.getD_eq_getElem?_getD] at this
        rw [List.getElem?_take, if_pos hj1] at hj
        rw [hj] at this
        show W.cell? (a.add (j * 1 + 0)) = _
        rw [Nat.mul_one, Nat.add_zero]
        exact this
      | i + 1, hu => cases hu
    · have h1 := hy (zs.length * 8) (by
        unfold DataW.weights
        rw [Try.underlying25]
        have h8 : Try.prog.bytesOf 3 = 8 := by kernel_rfl
        simp [lits, h8]
        left
        omega)
      rw [hlt]
      have : len * 8 ≤ zs.length * 8 := Nat.mul_le_mul_right _ hle
      unfold reachBytes at h1
      omega
theorem weights_agg {t : TypeId} {fs : Array Field} {ds : List (DataW H)} (ht : Try.prog.underlying t = some (.struct fs)) : (DataW.agg ds).weights Try.prog t = DataW.weightsEach Try.prog (fs.toList.map (·.type)) ds := by
  conv => lhs; unfold DataW.weights
  rw [ht]
theorem each_mem {y : Nat} : ∀ (ts : List TypeId) (ds : List (DataW H)) (j : Nat) (t : TypeId) (d : DataW H), ts[j]? = some t → ds[j]? = some d → y ∈ d.weights Try.prog t → y ∈ DataW.weightsEach Try.prog ts ds
  | [], _, j, _, _, h, _, _ => by simp at h
  | _ :: _, [], j, _, _, _, h, _ => by simp at h
  | t0 :: ts, d0 :: ds, 0, t, d, h, h2, hy => by
    injection h with h
    injection h2 with h2
    subst h; subst h2
    unfold DataW.weightsEach
    exact List.mem_append_left _ hy
  | t0 :: ts, d0 :: ds, j + 1, t, d, h, h2, hy => by
    unfold DataW.weightsEach
    exact List.mem_append_right _ (each_mem ts ds j t d h h2 hy)
instance : Inhabited S57 := ⟨z57⟩
theorem open_O {fuel : Nat} {cs : List Value} {x : DataW H × List MemPlace} (h : DataW.trod enc Try.prog W base sp held fuel 57 cs = some x) :
    ∃ o : S57, k57.K W o cs ∧ ((∀ y ∈ x.1.weights Try.prog 57, y ≤ reachBytes) → o.f2.length * 8 ≤ 140737488351232) := by
  obtain ⟨xs, n, _, rfl, hl, hlen, hf⟩ := DataW.trod_struct Try.underlying57 h
  rw [cells57] at hl
  match cs, hl, xs, hlen with
  | [c0, c1, c2, c3, c4, c5], _, [y0, y1, y2, y3, y4, y5], _ =>
    have g0 : DataW.trod enc Try.prog W base sp held n 54 ((([c0, c1, c2, c3, c4, c5] : List Value).drop 0).take (Try.prog.cellsOf 54)) = some y0 := hf 0 _ rfl
    rw [cells54] at g0
    replace g0 : DataW.trod enc Try.prog W base sp held n 54 [c0] = some y0 := g0
    have g1 : DataW.trod enc Try.prog W base sp held n 55 ((([c0, c1, c2, c3, c4, c5] : List Value).drop 1).take (Try.prog.cellsOf 55)) = some y1 := hf 1 _ rfl
    rw [cells55] at g1
    replace g1 : DataW.trod enc Try.prog W base sp held n 55 [c1] = some y1 := g1
    have g2 : DataW.trod enc Try.prog W base sp held n 25 ((([c0, c1, c2, c3, c4, c5] : List Value).drop 2).take (Try.prog.cellsOf 25)) = some y2 := hf 2 _ rfl
    rw [cells25] at g2
    replace g2 : DataW.trod enc Try.prog W base sp held n 25 [c2] = some y2 := g2
    have g3 : DataW.trod enc Try.prog W base sp held n 3 ((([c0, c1, c2, c3, c4, c5] : List Value).drop 3).take (Try.prog.cellsOf 3)) = some y3 := hf 3 _ rfl
    rw [cells3] at g3
    replace g3 : DataW.trod enc Try.prog W base sp held n 3 [c3] = some y3 := g3
    have g4 : DataW.trod enc Try.prog W base sp held n 3 ((([c0, c1, c2, c3, c4, c5] : List Value).drop 4).take (Try.prog.cellsOf 3)) = some y4 := hf 4 _ rfl
    rw [cells3] at g4
    replace g4 : DataW.trod enc Try.prog W base sp held n 3 [c4] = some y4 := g4
    have g5 : DataW.trod enc Try.prog W base sp held n 3 ((([c0, c1, c2, c3, c4, c5] : List Value).drop 5).take (Try.prog.cellsOf 3)) = some y5 := hf 5 _ rfl
    rw [cells3] at g5
    replace g5 : DataW.trod enc Try.prog W base sp held n 3 [c5] = some y5 := g5
    obtain ⟨f0, e0, d0, _⟩ := DataW.trod_int Try.underlying54 g0
    obtain ⟨f1, e1, d1, _⟩ := DataW.trod_int Try.underlying55 g1
    obtain ⟨A, c, f2, e2, hc, hC, hw⟩ := open_I g2
    obtain ⟨f3, e3, d3, _⟩ := DataW.trod_int Try.underlying3 g3
    obtain ⟨f4, e4, d4, _⟩ := DataW.trod_int Try.underlying3 g4
    obtain ⟨f5, e5, d5, _⟩ := DataW.trod_int Try.underlying3 g5
    simp only [List.cons.injEq, and_true] at e0 e1 e2 e3 e4 e5
    subst e0; subst e1; subst e2; subst e3; subst e4; subst e5
    refine ⟨⟨f0, f1, f2, f3, f4, f5⟩, k57_mk W ⟨f0, f1, f2, f3, f4, f5⟩ hc hC, fun hy => hw (fun y hy2 => hy y ?_)⟩
    rw [weights_agg Try.underlying57]
    exact each_mem _ _ 2 25 y2.1 rfl rfl hy2
theorem open_L {fuel : Nat} {cs : List Value} {x : DataW H × List MemPlace} (h : DataW.trod enc Try.prog W base sp held fuel 22 cs = some x) :
    ∃ A c l, cs = [.slice A l.length c] ∧ l.length ≤ c ∧ Kd.C k57 W A l.length l ∧ ((∀ y ∈ x.1.weights Try.prog 22, y ≤ reachBytes) → l.length * 64 ≤ 140737488351232 ∧ ∀ o ∈ l, o.f2.length * 8 ≤ 140737488351232) := by
  rcases open_slice Try.underlying22 h with ⟨rfl, rfl⟩ | ⟨a, len, cap, m, n, D, Pl, rfl, hb, hl, hm, hmm, rfl, hx⟩
  · exact ⟨none, 0, [], rfl, Nat.le_refl _, Kd.C_nil _ _, fun _ => ⟨by decide, fun o ho => by cases ho⟩⟩
  · have hlm : len ≤ m := by rw [hmm]; split <;> omega
    have each : ∀ i, i < len → ∃ o : S57, (∃ c, c.length = 6 ∧ k57.K W o c ∧ ∀ j u, c[j]? = some u → W.cell? (a.add (i * 6 + j)) = some u) ∧ ((∀ y ∈ (D i).weights Try.prog 57, y ≤ reachBytes) → o.f2.length * 8 ≤ 140737488351232) := by
      intro i hi
      obtain ⟨cs', h1, h2⟩ := hx i (by omega)
      rw [cells57] at h1
      obtain ⟨_, hlen, hcell⟩ := World.cells?_some h1
      obtain ⟨o, hK, hw⟩ := open_O h2
      refine ⟨o, ⟨cs', hlen, hK, fun j u hu => ?_⟩, hw⟩
      have hj : j < 6 := by rw [← hlen]; exact (List.getElem?_eq_some_iff.1 hu).1
      have h3 := hcell j hj
      rw [Addr.add_add] at h3
      rw [h3]
      exact hu
    obtain ⟨O, hO⟩ := choose_lt each
    have hlt : ((List.range len).map O).length = len := by simp
    refine ⟨some a, cap, (List.range len).map O, by rw [hlt], by omega, ⟨rfl, by rw [hlt]; simp only [maxLen] at hm; omega, fun _ => ⟨a, rfl, fun j p hj => ?_⟩⟩, fun hy => ⟨?_, fun o ho => ?_⟩⟩
    · have hj1 : j < len := by have := (List.getElem?_eq_some_iff.1 hj).1; omega
      rw [List.getElem?_map, List.getElem?_range hj1] at hj
      injection hj with hj
      subst hj
      obtain ⟨⟨c, h1, h2, h3⟩, _⟩ := hO j hj1
      exact ⟨c, h1, h2, h3⟩
    · have h64 : Try.prog.bytesOf 57 = 64 := by kernel_rfl
      have h1 := hy (m * 64) (by
        unfold DataW.weights
        rw [Try.underlying22]
        simp [h64]
        left
        omega)
      rw [hlt]
      have : len * 64 ≤ m * 64 := Nat.mul_le_mul_right _ hlm
      unfold reachBytes at h1
      omega
    · obtain ⟨i, hi, rfl⟩ := List.mem_map.1 ho
      have hi := List.mem_range.1 hi
      refine (hO i hi).2 (fun y hy2 => hy y ?_)
      unfold DataW.weights
      rw [Try.underlying22]
      dsimp only
      have hmem : ∀ (ds : List (DataW H)) (d : DataW H), d ∈ ds → y ∈ d.weights Try.prog 57 → y ∈ DataW.weightsAll Try.prog 57 ds := by
        intro ds
        induction ds with
        | nil => intro d hd; cases hd
        | cons e r ih =>
          intro d hd hyd
          unfold DataW.weightsAll
          rw [List.mem_append]
          rcases List.mem_cons.1 hd with rfl | hd
          · exact .inl hyd
          · exact .inr (ih d hd hyd)
      rw [List.mem_cons, List.mem_append]
      exact .inr (.inl (hmem _ (D i) (List.mem_map.2 ⟨i, List.mem_range.2 hi, rfl⟩) hy2))
theorem open_C {v : Value} {d : DataW H} {p : List MemPlace} {b0 : Nat} {r : Reach} (hv : Value.okWide Try.prog W r b0 24 v) (h : DataW.Trod enc Try.prog W base sp held 24 v d p) :
    ∃ a0 a1 A c l, v = .agg #[.int .i64 a0, .int .i64 a1, .slice A l.length c] ∧ l.length ≤ c ∧ Kd.C k57 W A l.length l ∧ ((∀ y ∈ d.weights Try.prog 24, y ≤ reachBytes) → l.length * 64 ≤ 140737488351232 ∧ ∀ o ∈ l, o.f2.length * 8 ≤ 140737488351232) := by
  obtain ⟨cs, rfl, hs⟩ := okWide_struct Try.underlying24 hv
  obtain ⟨fuel, hf⟩ := h
  obtain ⟨xs, n, _, hx, hl, hlen, hf⟩ := DataW.trod_struct Try.underlying24 hf
  rw [cells24] at hl hs
  obtain ⟨cs⟩ := cs
  match cs, hs, xs, hlen with
  | [c0, c1, c2], _, [y0, y1, y2], _ =>
    have g0 : DataW.trod enc Try.prog W base sp held n 3 ((([c0, c1, c2] : List Value).drop 0).take (Try.prog.cellsOf 3)) = some y0 := hf 0 _ rfl
    rw [cells3] at g0
    replace g0 : DataW.trod enc Try.prog W base sp held n 3 [c0] = some y0 := g0
    have g1 : DataW.trod enc Try.prog W base sp held n 3 ((([c0, c1, c2] : List Value).drop 1).take (Try.prog.cellsOf 3)) = some y1 := hf 1 _ rfl
    rw [cells3] at g1
    replace g1 : DataW.trod enc Try.prog W base sp held n 3 [c1] = some y1 := g1
    have g2 : DataW.trod enc Try.prog W base sp held n 22 ((([c0, c1, c2] : List Value).drop 2).take (Try.prog.cellsOf 22)) = some y2 := hf 2 _ rfl
    rw [cells22] at g2
    replace g2 : DataW.trod enc Try.prog W base sp held n 22 [c2] = some y2 := g2
    obtain ⟨a0, e0, d0, _⟩ := DataW.trod_int Try.underlying3 g0
    obtain ⟨a1, e1, d1, _⟩ := DataW.trod_int Try.underlying3 g1
    obtain ⟨A, c, l, e2, hc, hC, hw⟩ := open_L g2
    simp only [List.cons.injEq, and_true] at e0 e1 e2
    subst e0; subst e1; subst e2
    refine ⟨a0, a1, A, c, l, rfl, hc, hC, fun hy => hw (fun y hy2 => hy y ?_)⟩
    obtain ⟨rfl, _⟩ := Prod.mk.inj hx
    rw [weights_agg Try.underlying24]
    exact each_mem _ _ 2 22 y2.1 rfl rfl hy2
end
end Go.Proofs.Ytpnfhddcnnoclaa.Px
namespace Go.Proofs.Ytpnfhddcnnoclaa.layersSort
open Go.ChangeShapes Go.WideShapes Go.ChangeAt Go.RowKit Go.Proofs.Ytpnfhddcnnoclaa.Px
open Go.ChangeMaps (open_string shut_string)
set_option linter.unusedVariables false
theorem own : ownKnob Try.prog.godebug = none := by kernel_rfl
theorem laidOut : laidOutB Try.prog = true := by kernel_rfl
theorem weights_le {H : Type} {ts : List TypeId} {ds : List (DataW H)} (h : (DataW.weightsEach Try.prog ts ds).all (· ≤ reachBytes) = true) {j : Nat} {t : TypeId} {d : DataW H} (ht : ts[j]? = some t) (hd : ds[j]? = some d) : ∀ y ∈ d.weights Try.prog t, y ≤ reachBytes := fun y hy =>
  of_decide_eq_true (List.all_eq_true.1 h y (each_mem ts ds j t d ht hd hy))
theorem lim_of {l : List S57} (h0 : l.length * 64 ≤ 140737488351232) (h1 : ∀ o ∈ l, o.f2.length * 8 ≤ 140737488351232) : Lim 17592186043905 l := ⟨by omega, fun o ho => by have := h1 o ho; omega⟩
set_option maxRecDepth 100000 in
theorem lifted (os : Os) (started : os.Started) (H : Type) (enc : TypeId × Value → H) :
    ReturnsInHanded {} Try.checked os 4 .any (Rows.layersSortSpec.pre6 enc Try.prog Try.f4 Rows.layersSortRow.domain false) (Rows.layersSortSpec.post enc Try.prog Try.f4 false true false false) := by
  refine returnsInHanded_of_change_sized (C := Try.checked) own started (by kernel_rfl) Try.func4
    (ChangeSpec.witness6 (enc := enc) (C := Try.checked) false ⟨#[], #[.agg #[.int .i64 0, .int .i64 0, .slice none 0 0], .slice none 0 0], []⟩ 8 (by kernel_rfl) (by kernel_rfl) (by kernel_rfl) (by kernel_rfl)) ?_
  intro W base args ds gs before hval0 hW hcnd hsz0 _
  have hsz : (DataW.weightsEach Try.prog (Try.f4.params.toList ++ Rows.layersSortSpec.plain.varTypes Try.prog) (ds ++ gs)).all (· ≤ reachBytes) = true := hsz0
  have hval : ∀ (j : Nat) t v, Try.f4.params[j]? = some t → args[j]? = some v → Value.okWide Try.prog W .any base t v := hval0
  have hW' := hW
  obtain ⟨p, q, hA0, hV, rfl, hfz, hnd⟩ := hW
  have hA : DataW.TrodAll enc Try.prog W 0 (fun _ => true) true Try.f4.params.toList args.toList ds p := hA0
  rw [Try.params4] at hA hval hsz
  obtain ⟨v0, vs0, d0, ds0, p0, q0, hargs, rfl, rfl, h0, r0⟩ := trodAll_cons hA
  obtain ⟨v1, vs1, d1, ds1, p1, q1, rfl, rfl, rfl, h1, r1⟩ := trodAll_cons r0
  obtain ⟨rfl, rfl, rfl⟩ := trodAll_nil r1
  obtain rfl : args = #[v0, v1] := by cases args; simp_all
  obtain ⟨rfl, rfl⟩ := trodVars_none hV
  have y0 := weights_le hsz (j := 0) (t := 24) (d := d0) rfl rfl
  have y1 := weights_le hsz (j := 1) (t := 25) (d := d1) rfl rfl
  obtain ⟨a0, a1, A, c, l, rfl, hc, hC, hw⟩ := open_C (hval 0 24 v0 rfl rfl) h0
  obtain ⟨hl64, hl8⟩ := hw y0
  have k0 := h0
  have lt0 : ∀ x ∈ p0, x.block < W.heap.size := by obtain ⟨m, hm⟩ := k0; exact DataW.trod_lt m _ _ _ hm
  obtain ⟨B, len, cap, rfl⟩ := okWide_slice Try.underlying25 (hval 1 25 v1 rfl rfl)
  have k1 := h1
  have lt1 : ∀ x ∈ p1, x.block < W.heap.size := by obtain ⟨m, hm⟩ := k1; exact DataW.trod_lt m _ _ _ hm
  obtain ⟨qs, hlen, hcap, hQ, hqw⟩ : ∃ qs : List Int, len = qs.length ∧ qs.length ≤ cap ∧ Go.Proofs.YtpnfhddcnnoclaaW.PrintWords.Kd.C (Go.Proofs.YtpnfhddcnnoclaaW.PrintWords.Kd.int .i64) W B qs.length qs ∧ qs.length * 8 ≤ 140737488351232 := by
    obtain ⟨fuel, hf⟩ := h1
    obtain ⟨B', c', xs, e, hc', hC', hw'⟩ := open_I hf
    simp [Value.cells] at e
    obtain ⟨rfl, rfl, rfl⟩ := e
    exact ⟨xs, rfl, hc', hC', hw' y1⟩
  subst hlen
  clear hA0 hval0 hsz0 hsz
  have hLim := lim_of hl64 hl8
  obtain ⟨k, ms, so, po, e1, e2, e3, s0, s1, p0, p1, f5, f20, f21, t1, f22, f23, f24, f25, f18, f18s, f18p, lim, lim2⟩ := Sort_law a0 a1 17592186043905 l qs hLim (by decide) (by omega) (fun o ho => (hLim.2 o ho).1)
  refine (Sort_calls k a0 a1 A c l B cap qs W hC hc hQ hcap ms so po e1 e2 e3 s0 s1 p0 p1 f5 f20 f21 t1 f22 f23 f24 f25 f18 f18s f18p lim (fun o ho => by
    rcases ho with ho | ho
    · have := (lim2.1.2 o ho).1; omega
    · have := (lim2.2.2 o ho).1; omega)).mono fun e W' ⟨he, bel⟩ => ?_
  subst he
  exact ⟨_, rfl, _, _, _, [], _, [], hW', trodAll_mk1 (shut_bool Try.underlying4 _), trodAll_cons_mk (Below.trod laidOut (by kernel_rfl) (of_decide_eq_true (by kernel_rfl)) k0 bel lt0) (trodAll_cons_mk (Below.trod laidOut (by kernel_rfl) (of_decide_eq_true (by kernel_rfl)) k1 bel lt1) trodAll_mk0), rfl, bel.frame _, fun h => by cases h⟩
theorem over : Rows.layersSortRow.holds Try.pinned (OpenSpec.ofChange Rows.layersSortSpec) :=
  OpenClaim.holds_of_wide 4 Try.f4 rfl rfl rfl rfl rfl rfl rfl ⟨rfl, rfl, rfl, rfl, rfl⟩ rfl rfl rfl rfl rfl (by kernel_rfl) Try.func4 (by kernel_rfl)
    (of_decide_eq_true (by kernel_rfl)) (by unfold Func.isWrapper; first | (rw [if_pos (by decide +kernel)]; kernel_rfl) | (rw [if_neg (by decide +kernel)]; exact ⟨rfl, rfl⟩))
    (fun os started H enc _ => lifted os started H enc)
theorem proved : Rows.LayersSortSaid := over
#print axioms proved
end Go.Proofs.Ytpnfhddcnnoclaa.layersSort
namespace Go.Proofs.Ytpnfhddcnnoclaa
theorem layersSort_holds : Rows.LayersSortSaid := layersSort.proved
end Go.Proofs.Ytpnfhddcnnoclaa
