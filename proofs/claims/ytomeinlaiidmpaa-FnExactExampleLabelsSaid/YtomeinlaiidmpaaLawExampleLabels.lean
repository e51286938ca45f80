/- The law FnExactExampleLabels returns true for every number. No condition. -/
import Derived.Test.YtomeinlaiidmpaaLab
namespace Go.Proofs.Ytomeinlaiidmpaa
open Go.ChangeShapes Go.WideShapes Go.ChangeAt Go.RowKit

set_option maxHeartbeats 2000000 in
theorem walk_FnExactExampleLabels (W : World) (t : Int) (ht : (Lit.int .i64 t).wf = true) :
    Calls Try.prog 7 #[.int .i64 t] W fun e W' => e = .returned (.bool true) ∧ Below W.heap.size W W' := by
  clear ht
  obtain ⟨x, y, ok, n, xs, hn, hS, hI⟩ := labels_ex t
  have HS := hid hS
  have HI := hid hI
  clear hS hI
  unfold LabPost at HS HI
  have hq : ¬ ((1 : Int) + (n : Int) * 3 < 0) := by omega
  go_enter Try.func7, Try.ntmps7
  go_wp2_with fail
  refine (HS.out _).mono ?_
  rintro e w1 ⟨a1, c1, rfl, ho1, hb1⟩
  have hr1 := owns_rowAt3 ho1 (by omega)
  go_wp2_with fail
  refine (HI.out _).mono ?_
  rintro e w2 ⟨a2, c2, rfl, ho2, hb2⟩
  have hr2 := owns_rowAt3 ho2 (by omega)
  obtain ⟨⟨p0, p1, p2⟩, _, hz1⟩ := box3 hb2
  have hB2 : Below w1.heap.size w1 w2 := ((Below.refl _ _).alloc (Nat.le_refl _) _).trans (hb2.mono (by simp))
  have HK := hid (fun (V : World) (hV : Below (w1.heap.size + 1) w2 V) => (⟨(hV.cell (p := ⟨w1.heap.size, 0, none⟩) (Nat.lt_succ_self _)).trans p0, (hV.cell (p := ⟨w1.heap.size, 1, none⟩) (Nat.lt_succ_self _)).trans p1, (hV.cell (p := ⟨w1.heap.size, 2, none⟩) (Nat.lt_succ_self _)).trans p2⟩ : V.cell? ⟨w1.heap.size, 0, none⟩ = some (.int .i64 x) ∧ V.cell? ⟨w1.heap.size, 1, none⟩ = some (.int .i64 y) ∧ V.cell? ⟨w1.heap.size, 2, none⟩ = some (.slice a1 n c1)))
  have hA2 : Below w2.heap.size w2 (w2.alloc (.cells #[.int .i64 x, .int .i64 y, .slice a2 n c2] 40)) := (Below.refl _ _).alloc (Nat.le_refl _) _
  go_wp2_with fail
  refine (eqLabels_c x y a2 a1 n c2 c1 xs _ (by omega) (hr2.below hA2 (Nat.le_refl _)) (hr1.below (bs hB2 hA2) (Nat.le_refl _))).mono ?_
  rintro e w3 ⟨rfl, hb3⟩
  obtain ⟨⟨q0, q1, q2⟩, _, hz2⟩ := box3 hb3
  have hB3 : Below w2.heap.size w2 w3 := hA2.trans (hb3.mono (by simp))
  have ho3 := owns_below ho2 hB3
  have hne : ∀ q, (Value.slice a2 n c2).ownBlock = some q → w1.heap.size + 1 ≤ q ∧ q < w2.heap.size := fun q hq => by
    have := ho2.lt q hq
    simpa using this
  clear hb3 hA2 hr2 ho2
  have hs3 : w1.heap.size + 1 ≤ w3.heap.size := by omega
  go_wp2_with fail
  refine (markLabels_c _ x y _ n 1 _ _ ho3 (by simp; omega) (by omega) (by omega)).mono ?_
  rintro e w4 ⟨rfl, ho4, hg4⟩
  have hr4 := owns_rowAt3 ho4 (by omega)
  have hB4 : Below (w1.heap.size + 1) w2 w4 := (hB3.mono (by omega)).grown hg4 (by omega) (fun k hk => (hne k hk).1)
  have hnb : some w2.heap.size ≠ (Value.slice a2 n c2).ownBlock := fun e => by have := (hne _ e.symm).2; omega
  have q0 := (hg4.cell_far ⟨w2.heap.size, 0, none⟩ hz2 hnb).trans q0
  have q1 := (hg4.cell_far ⟨w2.heap.size, 1, none⟩ hz2 hnb).trans q1
  have q2 := (hg4.cell_far ⟨w2.heap.size, 2, none⟩ hz2 hnb).trans q2
  go_wp2_with fail
  refine (heldLabels_c x y a2 n c2 1 _ hr4 (by omega) (by omega)).mono ?_
  rintro e w5 ⟨rfl, hb5⟩
  have hr5 := hr4.below hb5 (Nat.le_refl _)
  go_wp2_with fail
  refine (HI.out _).mono ?_
  rintro e w6 ⟨a6, c6, rfl, ho6, hb6⟩
  have hr6 := owns_rowAt3 ho6 (by omega)
  have hA6 : Below w6.heap.size w6 (w6.alloc (.cells #[.int .i64 x, .int .i64 y, .slice a6 n c6] 40)) := (Below.refl _ _).alloc (Nat.le_refl _) _
  have hs4 : w2.heap.size < w4.heap.size := Nat.lt_of_lt_of_le hz2 hg4.size
  have hC6 := bs hb5 hb6
  have hB6 : Below (w1.heap.size + 1) w2 w6 := hB4.trans (hC6.mono (by omega))
  obtain ⟨r0, r1, r2⟩ := HK.out _ hB6
  have hs6 : w1.heap.size < w6.heap.size := by have := hB6.size; omega
  go_wp2_with fail
  refine (eqLabels_c x y a6 a1 n c6 c1 xs _ (by omega) (hr6.below hA6 (Nat.le_refl _)) (hr1.below (((hB2.trans (hB6.mono (by omega)))).trans (hA6.mono (by omega))) (Nat.le_refl _))).mono ?_
  rintro e w7 ⟨rfl, hb7⟩
  have hC7 : Below w4.heap.size w4 w7 := bs hC6 (hA6.trans (hb7.mono (by simp)))
  have hr7 := hr4.below hC7 (Nat.le_refl _)
  have q0 := (hC7.cell (p := ⟨w2.heap.size, 0, none⟩) hs4).trans q0
  have q1 := (hC7.cell (p := ⟨w2.heap.size, 1, none⟩) hs4).trans q1
  have q2 := (hC7.cell (p := ⟨w2.heap.size, 2, none⟩) hs4).trans q2
  go_wp2_with fail
  refine (heldLabels_c x y a2 n c2 1 _ hr7 (by omega) (by omega)).mono ?_
  rintro e w8 ⟨rfl, hb8⟩
  go_wp2
  go_ret
  exact ⟨rfl, hb1.trans ((hB2.mono hb1.size).trans ((hB4.mono (by have := hb1.size; omega)).trans ((bs hC7 hb8).mono (by have := hb1.size; omega))))⟩

set_option maxRecDepth 100000 in
theorem lifted_FnExactExampleLabels (os : Os) (started : os.Started) (H : Type) (enc : TypeId × Value → H) :
    ReturnsInHanded {} Try.checked os 7 .any (Rows.fnExactExampleLabelsSpec.pre6 enc Try.prog Try.f7 Rows.fnExactExampleLabelsRow.domain false) (Rows.fnExactExampleLabelsSpec.post enc Try.prog Try.f7 false true false false) := by
  refine returnsInHanded_of_change_sized (C := Try.checked) own started (by kernel_rfl) Try.func7
    (ChangeSpec.witness6 (enc := enc) (C := Try.checked) false ⟨#[], #[.int .i64 0], []⟩ 8 (by kernel_rfl) (by kernel_rfl) (by kernel_rfl) (by kernel_rfl)) ?_
  intro W base args ds gs before hval0 hW hcnd hsz0 _
  have hsz : (DataW.weightsEach Try.prog (Try.f7.params.toList ++ Rows.fnExactExampleLabelsSpec.plain.varTypes Try.prog) (ds ++ gs)).all (· ≤ reachBytes) = true := hsz0
  clear hsz0
  have hval : ∀ (j : Nat) t v, Try.f7.params[j]? = some t → args[j]? = some v → Value.okWide Try.prog W .any base t v := hval0
  have hW' := hW
  obtain ⟨p, q, hA0, hV, rfl, hfz, hnd⟩ := hW
  have hA : DataW.TrodAll enc Try.prog W 0 (fun _ => true) true Try.f7.params.toList args.toList ds p := hA0
  rw [Try.params7] at hA hval hsz
  obtain ⟨v0, vs0, d0, ds0, p0, q0, hargs, rfl, rfl, h0, r0⟩ := trodAll_cons hA
  obtain ⟨rfl, rfl, rfl⟩ := trodAll_nil r0
  obtain rfl : args = #[v0] := by cases args; simp_all
  obtain ⟨rfl, rfl⟩ := trodVars_none hV
  have k0 := h0
  have lt0 : ∀ x ∈ p0, x.block < W.heap.size := by obtain ⟨m, hm⟩ := k0; exact DataW.trod_lt m _ _ _ hm
  obtain ⟨a0, rfl, _, _, w0⟩ := open_int Try.underlying3 (hval 0 3 v0 rfl rfl) h0
  clear hA0 hval0
  refine (walk_FnExactExampleLabels W a0 w0).mono fun e W' ⟨he, bel⟩ => ?_
  subst he
  exact ⟨_, rfl, _, _, _, [], _, [], hW', trodAll_mk1 (shut_bool Try.underlying4 _), (trodAll_cons_mk (Below.trod laidOut (by kernel_rfl) (of_decide_eq_true (by kernel_rfl)) k0 bel lt0) trodAll_mk0), rfl, bel.frame _, fun h => by cases h⟩

theorem closed_FnExactExampleLabels : joinedFacts Try.prog 7 Try.f7 Rows.fnExactExampleLabelsSpec Rows.fnExactExampleLabelsRow = true := by
  unfold joinedFacts
  rw [headMayEnter, headLiftsFinal, headMake]
  kernel_rfl
/-- The law returns true for every input, and its arguments read as before: the given statement. -/
theorem fnExactExampleLabels_holds : Rows.FnExactExampleLabelsSaid :=
  OpenClaim.holds_of_wide 7 Try.f7 rfl rfl rfl rfl rfl rfl rfl ⟨rfl, rfl, rfl, rfl, rfl⟩ rfl rfl rfl rfl rfl (by as_aux_lemma => kernel_rfl) Try.func7 closed_FnExactExampleLabels
    (by as_aux_lemma => exact of_decide_eq_true (by kernel_rfl)) (by unfold Func.isWrapper; first | (rw [if_pos (by decide +kernel)]; kernel_rfl) | (rw [if_neg (by decide +kernel)]; exact ⟨rfl, rfl⟩))
    (fun os started H enc _ => lifted_FnExactExampleLabels os started H enc)
#print axioms fnExactExampleLabels_holds

end Go.Proofs.Ytomeinlaiidmpaa
