/- The law FnExactRuleNumber returns true for every code. No condition. -/
import Derived.Test.YtnpgjpplhlbphaaNumber2
import Derived.Test.YtnpgjpplhlbphaaNumber3
import Derived.Test.YtnpgjpplhlbphaaOpenCode
namespace Go.Proofs.Ytnpgjpplhlbphaa
open Go.ChangeShapes Go.WideShapes Go.ChangeAt Go.RowKit
open Go.ChangeMaps (open_string shut_string)

theorem impl_RuleNumber_c (k n : Int) (o : ByteArray) (w : World) (ho : o.size ≤ maxLen) :
    Calls Try.prog 31 #[.agg #[.int .i64 k, .int .i64 n, .string o]] w fun e w' => e = .returned (.int .i64 (numB k n o)) ∧ Below w.heap.size w w' := by
  by_cases h : isCode k n o = true ∧ k = 2 ∧ n = 3
  · obtain ⟨h1, rfl, rfl⟩ := h
    exact impl_RuleNumber_yes o w ho h1
  · exact impl_RuleNumber_no k n o w ho h
theorem spec_RuleNumber_c (k n : Int) (o : ByteArray) (w : World) (ho : o.size ≤ maxLen) :
    Calls Try.prog 29 #[.agg #[.int .i64 k, .int .i64 n, .string o]] w fun e w' => e = .returned (.int .i64 (numB k n o)) ∧ Below w.heap.size w w' := by
  by_cases h : isCode k n o = true ∧ k = 2 ∧ n = 3
  · obtain ⟨h1, rfl, rfl⟩ := h
    exact spec_RuleNumber_yes o w ho h1
  · exact spec_RuleNumber_no k n o w ho h

set_option maxHeartbeats 1000000 in
theorem walk_FnExactRuleNumber (W : World) (v : Value) (h : CodeIn v) :
    Calls Try.prog 8 #[v] W fun e W' => e = .returned (.bool true) ∧ Below W.heap.size W W' := by
  obtain ⟨k, n, o, rfl, ho⟩ := h
  by_cases hb : 1048576 < o.size
  · go_enter Try.func8, Try.ntmps8
    go_wp2_with fail
    refine (szCode_c k n o 1048576 _ (Nat.le_refl _) ho).mono ?_
    rintro e w1 ⟨rfl, hb1⟩
    go_wp2
    go_ret
    exact ⟨rfl, ((Below.refl _ _).alloc (Nat.le_refl _) _).trans (hb1.mono (by simp))⟩
  · go_enter Try.func8, Try.ntmps8
    go_wp2_with fail
    refine (szCode_c k n o 1048576 _ (Nat.le_refl _) ho).mono ?_
    rintro e w1 ⟨rfl, hb1⟩
    obtain ⟨⟨hc0, hc1, hc2⟩, _, hz⟩ := box3 hb1
    have hbW : Below W.heap.size W w1 := ((Below.refl _ _).alloc (Nat.le_refl _) _).trans (hb1.mono (by simp))
    go_wp2_with fail
    refine (toCode_c k n o _).mono ?_
    rintro e w2 ⟨rfl, hb2⟩
    go_wp2_with fail
    refine (spec_RuleNumber_c k n o _ ho).mono ?_
    rintro e w3 ⟨rfl, hb3⟩
    have hb13 := bs hb2 hb3
    obtain ⟨hcell, _⟩ := bcell hb13
    go_wp2_with fail
    refine (toCode_c k n o _).mono ?_
    rintro e w4 ⟨rfl, hb4⟩
    go_wp2_with fail
    refine (impl_RuleNumber_c k n o _ ho).mono ?_
    rintro e w5 ⟨rfl, hb5⟩
    go_wp2
    go_ret
    exact ⟨rfl, hbW.trans ((bs (bs hb13 hb4) hb5).mono hbW.size)⟩

set_option maxRecDepth 100000 in
theorem lifted_FnExactRuleNumber (os : Os) (started : os.Started) (H : Type) (enc : TypeId × Value → H) :
    ReturnsInHanded {} Try.checked os 8 .any (Rows.fnExactRuleNumberSpec.pre6 enc Try.prog Try.f8 Rows.fnExactRuleNumberRow.domain false) (Rows.fnExactRuleNumberSpec.post enc Try.prog Try.f8 false true false false) := by
  refine returnsInHanded_of_change_sized (C := Try.checked) own started (by kernel_rfl) Try.func8
    (ChangeSpec.witness6 (enc := enc) (C := Try.checked) false ⟨#[], #[.agg #[.int .i64 0, .int .i64 0, .string ByteArray.empty]], []⟩ 8 (by kernel_rfl) (by kernel_rfl) (by kernel_rfl) (by kernel_rfl)) ?_
  intro W base args ds gs before hval0 hW hcnd hsz0 _
  have hsz : (DataW.weightsEach Try.prog (Try.f8.params.toList ++ Rows.fnExactRuleNumberSpec.plain.varTypes Try.prog) (ds ++ gs)).all (· ≤ reachBytes) = true := hsz0
  clear hsz0
  have hval : ∀ (j : Nat) t v, Try.f8.params[j]? = some t → args[j]? = some v → Value.okWide Try.prog W .any base t v := hval0
  have hW' := hW
  obtain ⟨p, q, hA0, hV, rfl, hfz, hnd⟩ := hW
  have hA : DataW.TrodAll enc Try.prog W 0 (fun _ => true) true Try.f8.params.toList args.toList ds p := hA0
  rw [Try.params8] at hA hval hsz
  obtain ⟨v0, vs0, d0, ds0, p0, q0, hargs, rfl, rfl, h0, r0⟩ := trodAll_cons hA
  obtain ⟨rfl, rfl, rfl⟩ := trodAll_nil r0
  obtain rfl : args = #[v0] := by cases args; simp_all
  obtain ⟨rfl, rfl⟩ := trodVars_none hV
  have k0 := h0
  have lt0 : ∀ x ∈ p0, x.block < W.heap.size := by obtain ⟨m, hm⟩ := k0; exact DataW.trod_lt m _ _ _ hm
  have w0 := open_code (enc := enc) (hval 0 40 v0 rfl rfl) h0 (fun x hx => DataW.weights_mem_each (j := 0) rfl rfl x hx) hsz
  clear hA0 hval0
  refine (walk_FnExactRuleNumber W v0 w0).mono fun e W' ⟨he, bel⟩ => ?_
  subst he
  exact ⟨_, rfl, _, _, _, [], _, [], hW', trodAll_mk1 (shut_bool Try.underlying4 _), (trodAll_cons_mk (Below.trod laidOut (by kernel_rfl) (of_decide_eq_true (by kernel_rfl)) k0 bel lt0) trodAll_mk0), rfl, bel.frame _, fun h => by cases h⟩

theorem closed_FnExactRuleNumber : joinedFacts Try.prog 8 Try.f8 Rows.fnExactRuleNumberSpec Rows.fnExactRuleNumberRow = true := by
  unfold joinedFacts
  rw [headMayEnter, headLiftsFinal, headMake]
  kernel_rfl
/-- The law returns true for every input, and its arguments read as before: the given statement. -/
theorem fnExactRuleNumber_holds : Rows.FnExactRuleNumberSaid :=
  OpenClaim.holds_of_wide 8 Try.f8 rfl rfl rfl rfl rfl rfl rfl ⟨rfl, rfl, rfl, rfl, rfl⟩ rfl rfl rfl rfl rfl (by as_aux_lemma => kernel_rfl) Try.func8 closed_FnExactRuleNumber
    (by as_aux_lemma => exact of_decide_eq_true (by kernel_rfl)) (by unfold Func.isWrapper; first | (rw [if_pos (by decide +kernel)]; kernel_rfl) | (rw [if_neg (by decide +kernel)]; exact ⟨rfl, rfl⟩))
    (fun os started H enc _ => lifted_FnExactRuleNumber os started H enc)
#print axioms fnExactRuleNumber_holds

end Go.Proofs.Ytnpgjpplhlbphaa
