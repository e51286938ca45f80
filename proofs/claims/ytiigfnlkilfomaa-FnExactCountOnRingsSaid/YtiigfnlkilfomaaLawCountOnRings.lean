/- The law FnExactCountOnRings returns true for every code and every number. No condition. -/
import Derived.Test.YtiigfnlkilfomaaCountR
import Derived.Test.YtiigfnlkilfomaaOpenCode
namespace Go.Proofs.Ytiigfnlkilfomaa
open Go.ChangeShapes Go.WideShapes Go.ChangeAt Go.RowKit
open Go.ChangeMaps (open_string shut_string)

set_option maxHeartbeats 1000000 in
theorem walk_FnExactCountOnRings (W : World) (v : Value) (h : CodeIn v) (m : Int) (hmw : (Lit.int .i64 m).wf = true) :
    Calls Try.prog 5 #[v, .int .i64 m] W fun e W' => e = .returned (.bool true) ∧ Below W.heap.size W W' := by
  obtain ⟨k, n, o, rfl, ho⟩ := h
  clear hmw
  by_cases hbig : 1048576 < o.size
  · skip
    go_enter Try.func5, Try.ntmps5
    go_wp2_with fail
    refine (szCode_c k n o 1048576 _ (Nat.le_refl _) ho).mono ?_
    rintro e w1 ⟨rfl, hb1⟩
    go_wp2
    go_ret
    exact ⟨rfl, ((Below.refl _ _).alloc (Nat.le_refl _) _).trans (hb1.mono (by simp))⟩
  obtain ⟨r, hr⟩ : ∃ r : Int, (∀ w, Calls Try.prog 16 #[.agg #[.int .i64 k, .int .i64 n, .string o], .int .i64 m] w fun e w' => e = .returned (.int .i64 r) ∧ Below w.heap.size w w') ∧ (∀ w, Calls Try.prog 17 #[.agg #[.int .i64 k, .int .i64 n, .string o], .int .i64 m] w fun e w' => e = .returned (.int .i64 r) ∧ Below w.heap.size w w') := by
    cases hok : fitsB k n o m
    · exact ⟨-1, fun w => spec_CountOnRings_no k n o m w ho hok, fun w => impl_CountOnRings_no k n o m w ho hok⟩
    · obtain ⟨rfl, nn, mm, rfl, rfl, hR⟩ := fits_facts hok
      exact ⟨_, fun w => spec_CountOnRings_yes nn mm o w ho hR hok, fun w => impl_CountOnRings_yes nn mm o w ho hR hok⟩
  have HS := hid hr.1
  have HI := hid hr.2
  clear hr
  go_enter Try.func5, Try.ntmps5
  go_wp2_with fail
  refine (szCode_c k n o 1048576 _ (Nat.le_refl _) ho).mono ?_
  rintro e w1 ⟨rfl, hb1⟩
  obtain ⟨⟨hc0, hc1, hc2⟩, _, hz⟩ := box3 hb1
  have hbW : Below W.heap.size W w1 := ((Below.refl _ _).alloc (Nat.le_refl _) _).trans (hb1.mono (by simp))
  go_wp2_with fail
  refine (toCode_c k n o _).mono ?_
  rintro e w2 ⟨rfl, hb2⟩
  go_wp2_with fail
  refine (HS.out _).mono ?_
  rintro e w3 ⟨rfl, hb3⟩
  have hbW3 : Below W.heap.size W w3 := hbW.trans ((bs hb2 hb3).mono hbW.size)
  obtain ⟨e0, e1, e2⟩ := three (cells_below (A := #[.int .i64 k, .int .i64 n, .string o]) (fun q => match q with | 0 => hc0 | 1 => hc1 | 2 => hc2 | q + 3 => by rw [box_kept (show Below (W.heap.size + 1) _ w1 by simpa using hb1) (q + 3) |>.1]) (bs hb2 hb3) hz)
  clear hc0 hc1 hc2
  go_wp2_with fail
  refine (toCode_c k n o _).mono ?_
  rintro e w4 ⟨rfl, hb4⟩
  go_wp2_with fail
  refine (HI.out _).mono ?_
  rintro e w5 ⟨rfl, hb5⟩
  have hbW5 := hbW3.trans ((bs hb4 hb5).mono hbW3.size)
  go_wp2
  go_ret
  exact ⟨rfl, hbW5⟩

set_option maxRecDepth 100000 in
theorem lifted_FnExactCountOnRings (os : Os) (started : os.Started) (H : Type) (enc : TypeId × Value → H) :
    ReturnsInHanded {} Try.checked os 5 .any (Rows.fnExactCountOnRingsSpec.pre6 enc Try.prog Try.f5 Rows.fnExactCountOnRingsRow.domain false) (Rows.fnExactCountOnRingsSpec.post enc Try.prog Try.f5 false true false false) := by
  refine returnsInHanded_of_change_sized (C := Try.checked) own started (by kernel_rfl) Try.func5
    (ChangeSpec.witness6 (enc := enc) (C := Try.checked) false ⟨#[], #[.agg #[.int .i64 0, .int .i64 0, .string ByteArray.empty], .int .i64 0], []⟩ 8 (by kernel_rfl) (by kernel_rfl) (by kernel_rfl) (by kernel_rfl)) ?_
  intro W base args ds gs before hval0 hW hcnd hsz0 _
  have hsz : (DataW.weightsEach Try.prog (Try.f5.params.toList ++ Rows.fnExactCountOnRingsSpec.plain.varTypes Try.prog) (ds ++ gs)).all (· ≤ reachBytes) = true := hsz0
  clear hsz0
  have hval : ∀ (j : Nat) t v, Try.f5.params[j]? = some t → args[j]? = some v → Value.okWide Try.prog W .any base t v := hval0
  have hW' := hW
  obtain ⟨p, q, hA0, hV, rfl, hfz, hnd⟩ := hW
  have hA : DataW.TrodAll enc Try.prog W 0 (fun _ => true) true Try.f5.params.toList args.toList ds p := hA0
  rw [Try.params5] at hA hval hsz
  obtain ⟨v0, vs0, d0, ds0, p0, q0, hargs, rfl, rfl, h0, r0⟩ := trodAll_cons hA
  obtain ⟨v1, vs1, d1, ds1, p1, q1, rfl, rfl, rfl, h1, r1⟩ := trodAll_cons r0
  obtain ⟨rfl, rfl, rfl⟩ := trodAll_nil r1
  obtain rfl : args = #[v0, v1] := by cases args; simp_all
  obtain ⟨rfl, rfl⟩ := trodVars_none hV
  have k0 := h0
  have lt0 : ∀ x ∈ p0, x.block < W.heap.size := by obtain ⟨m, hm⟩ := k0; exact DataW.trod_lt m _ _ _ hm
  have k1 := h1
  have lt1 : ∀ x ∈ p1, x.block < W.heap.size := by obtain ⟨m, hm⟩ := k1; exact DataW.trod_lt m _ _ _ hm
  have w0 := open_code (enc := enc) (hval 0 23 v0 rfl rfl) h0 (fun x hx => DataW.weights_mem_each (j := 0) rfl rfl x hx) hsz
  obtain ⟨a1, rfl, _, _, w1⟩ := open_int Try.underlying3 (hval 1 3 v1 rfl rfl) h1
  clear hA0 hval0
  refine (walk_FnExactCountOnRings W v0 w0 a1 w1).mono fun e W' ⟨he, bel⟩ => ?_
  subst he
  exact ⟨_, rfl, _, _, _, [], _, [], hW', trodAll_mk1 (shut_bool Try.underlying4 _), (trodAll_cons_mk (Below.trod laidOut (by kernel_rfl) (of_decide_eq_true (by kernel_rfl)) k0 bel lt0) (trodAll_cons_mk (Below.trod laidOut (by kernel_rfl) (of_decide_eq_true (by kernel_rfl)) k1 bel lt1) trodAll_mk0)), rfl, bel.frame _, fun h => by cases h⟩

theorem closed_FnExactCountOnRings : joinedFacts Try.prog 5 Try.f5 Rows.fnExactCountOnRingsSpec Rows.fnExactCountOnRingsRow = true := by
  unfold joinedFacts
  rw [headMayEnter, headLiftsFinal, headMake]
  kernel_rfl
/-- The law returns true for every input, and its arguments read as before: the given statement. -/
theorem fnExactCountOnRings_holds : Rows.FnExactCountOnRingsSaid :=
  OpenClaim.holds_of_wide 5 Try.f5 rfl rfl rfl rfl rfl rfl rfl ⟨rfl, rfl, rfl, rfl, rfl⟩ rfl rfl rfl rfl rfl (by as_aux_lemma => kernel_rfl) Try.func5 closed_FnExactCountOnRings
    (by as_aux_lemma => exact of_decide_eq_true (by kernel_rfl)) (by unfold Func.isWrapper; first | (rw [if_pos (by decide +kernel)]; kernel_rfl) | (rw [if_neg (by decide +kernel)]; exact ⟨rfl, rfl⟩))
    (fun os started H enc _ => lifted_FnExactCountOnRings os started H enc)
#print axioms fnExactCountOnRings_holds

end Go.Proofs.Ytiigfnlkilfomaa
