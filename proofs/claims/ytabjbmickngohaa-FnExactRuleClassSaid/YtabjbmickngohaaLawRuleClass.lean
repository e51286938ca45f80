/- The law FnExactRuleClass returns true for every number. No condition. -/
import Derived.Test.YtabjbmickngohaaClassW
namespace Go.Proofs.Ytabjbmickngohaa
open Go.ChangeShapes Go.WideShapes Go.ChangeAt Go.RowKit
open Go.ChangeMaps (open_string shut_string)

theorem class_ex (n : Int) : ∃ R : List Int, R.length ≤ 4 ∧ (∀ w, Calls Try.prog 21 #[.int .i64 n] w fun e w' => ∃ v, e = .returned v ∧ w'.ownsRow w.heap.size 3 1 v R.length (intVals R) ∧ Below w.heap.size w w') ∧ (∀ w, Calls Try.prog 22 #[.int .i64 n] w fun e w' => ∃ v, e = .returned v ∧ w'.ownsRow w.heap.size 3 1 v R.length (intVals R) ∧ Below w.heap.size w w') := by
  by_cases hn : n < 0 ∨ 255 < n
  · exact ⟨[], by simp, fun w => spec_RuleClass_no n hn w, fun w => impl_RuleClass_no n hn w⟩
  · obtain ⟨m, rfl⟩ : ∃ m : Nat, n = m := ⟨n.toNat, by omega⟩
    have hm : m < 256 := by omega
    exact ⟨classOf m, (class_len m).2, fun w => (spec_RuleClass_yes m hm w).mono fun e w' ⟨g, c, he, ho, hb⟩ => ⟨_, he, ho, hb⟩, fun w => (impl_RuleClass_yes m hm w).mono fun e w' ⟨g, c, he, ho, hb⟩ => ⟨_, he, ho, hb⟩⟩
set_option maxHeartbeats 1000000 in
theorem walk_FnExactRuleClass (W : World) (n : Int) (hnw : (Lit.int .i64 n).wf = true) :
    Calls Try.prog 6 #[.int .i64 n] W fun e W' => e = .returned (.bool true) ∧ Below W.heap.size W W' := by
  clear hnw
  obtain ⟨R, hle, hS, hI⟩ := class_ex n
  have HS := hid hS
  have HI := hid hI
  obtain ⟨m, hm⟩ : ∃ m, m = R.length := ⟨_, rfl⟩
  rw [← hm] at HS HI hle
  clear hm hS hI
  go_enter Try.func6, Try.ntmps6
  go_wp2_with fail
  refine (HS.out _).mono ?_
  rintro e w1 ⟨v1, rfl, ho1, hb1⟩
  obtain ⟨a1, c1, rfl, hr1⟩ := owns_rowAt ho1 (by omega)
  go_wp2_with fail
  refine (HI.out _).mono ?_
  rintro e w2 ⟨v2, rfl, ho2, hb2⟩
  obtain ⟨a2, c2, rfl, hr2⟩ := owns_rowAt ho2 (by omega)
  go_wp2_with fail
  refine (eqIntS_c a2 a1 m c2 c1 R _ hr2 (hr1.below hb2 (Nat.le_refl _))).mono ?_
  rintro e w3 ⟨rfl, hb3⟩
  have ho3 := owns_below ho2 hb3
  go_wp2_with fail
  refine (markIntS_c _ _ m 1 _ _ ho3 (by omega) (by omega)).mono ?_
  rintro e w4 ⟨rfl, ho4, hg4⟩
  have hb4 : Below w1.heap.size w3 w4 := (Below.refl _ _).grown hg4 (bs hb2 hb3).size (fun k hk => (ho3.lt k hk).1)
  obtain ⟨a4, c4, hv4, hr4⟩ := owns_rowAt ho4 (by omega)
  simp only [Value.slice.injEq, true_and] at hv4
  obtain ⟨rfl, rfl⟩ := hv4
  go_wp2_with fail
  refine (heldIntS_c a2 m c2 1 _ hr4 (by omega)).mono ?_
  rintro e w5 ⟨rfl, rfl⟩
  have hb5 : Below w4.heap.size w4 w4 := Below.refl _ _
  go_wp2_with fail
  refine (HI.out _).mono ?_
  rintro e w6 ⟨v6, rfl, ho6, hb6⟩
  obtain ⟨a6, c6, rfl, hr6⟩ := owns_rowAt ho6 (by omega)
  have hC : Below w1.heap.size w1 w6 := bs (bs ((bs hb2 hb3).trans hb4) hb5) hb6
  go_wp2_with fail
  refine (eqIntS_c a6 a1 m c6 c1 R _ hr6 (hr1.below hC (Nat.le_refl _))).mono ?_
  rintro e w7 ⟨rfl, hb7⟩
  have hr7 := hr4.below (bs (bs hb5 hb6) hb7) (Nat.le_refl _)
  go_wp2_with fail
  refine (heldIntS_c a2 m c2 1 _ hr7 (by omega)).mono ?_
  rintro e w8 ⟨rfl, rfl⟩
  go_wp2
  go_ret
  exact ⟨rfl, hb1.trans ((bs hC hb7).mono hb1.size)⟩

set_option maxRecDepth 100000 in
theorem lifted_FnExactRuleClass (os : Os) (started : os.Started) (H : Type) (enc : TypeId × Value → H) :
    ReturnsInHanded {} Try.checked os 6 .any (Rows.fnExactRuleClassSpec.pre6 enc Try.prog Try.f6 Rows.fnExactRuleClassRow.domain false) (Rows.fnExactRuleClassSpec.post enc Try.prog Try.f6 false true false false) := by
  refine returnsInHanded_of_change_sized (C := Try.checked) own started (by kernel_rfl) Try.func6
    (ChangeSpec.witness6 (enc := enc) (C := Try.checked) false ⟨#[], #[.int .i64 0], []⟩ 8 (by kernel_rfl) (by kernel_rfl) (by kernel_rfl) (by kernel_rfl)) ?_
  intro W base args ds gs before hval0 hW hcnd hsz0 _
  have hsz : (DataW.weightsEach Try.prog (Try.f6.params.toList ++ Rows.fnExactRuleClassSpec.plain.varTypes Try.prog) (ds ++ gs)).all (· ≤ reachBytes) = true := hsz0
  clear hsz0
  have hval : ∀ (j : Nat) t v, Try.f6.params[j]? = some t → args[j]? = some v → Value.okWide Try.prog W .any base t v := hval0
  have hW' := hW
  obtain ⟨p, q, hA0, hV, rfl, hfz, hnd⟩ := hW
  have hA : DataW.TrodAll enc Try.prog W 0 (fun _ => true) true Try.f6.params.toList args.toList ds p := hA0
  rw [Try.params6] at hA hval hsz
  obtain ⟨v0, vs0, d0, ds0, p0, q0, hargs, rfl, rfl, h0, r0⟩ := trodAll_cons hA
  obtain ⟨rfl, rfl, rfl⟩ := trodAll_nil r0
  obtain rfl : args = #[v0] := by cases args; simp_all
  obtain ⟨rfl, rfl⟩ := trodVars_none hV
  have k0 := h0
  have lt0 : ∀ x ∈ p0, x.block < W.heap.size := by obtain ⟨m, hm⟩ := k0; exact DataW.trod_lt m _ _ _ hm
  obtain ⟨a0, rfl, _, _, w0⟩ := open_int Try.underlying3 (hval 0 3 v0 rfl rfl) h0
  clear hA0 hval0
  refine (walk_FnExactRuleClass W a0 w0).mono fun e W' ⟨he, bel⟩ => ?_
  subst he
  exact ⟨_, rfl, _, _, _, [], _, [], hW', trodAll_mk1 (shut_bool Try.underlying4 _), (trodAll_cons_mk (Below.trod laidOut (by kernel_rfl) (of_decide_eq_true (by kernel_rfl)) k0 bel lt0) trodAll_mk0), rfl, bel.frame _, fun h => by cases h⟩

theorem closed_FnExactRuleClass : joinedFacts Try.prog 6 Try.f6 Rows.fnExactRuleClassSpec Rows.fnExactRuleClassRow = true := by
  unfold joinedFacts
  rw [headMayEnter, headLiftsFinal, headMake]
  kernel_rfl
/-- The law returns true for every input, and its arguments read as before: the given statement. -/
theorem fnExactRuleClass_holds : Rows.FnExactRuleClassSaid :=
  OpenClaim.holds_of_wide 6 Try.f6 rfl rfl rfl rfl rfl rfl rfl ⟨rfl, rfl, rfl, rfl, rfl⟩ rfl rfl rfl rfl rfl (by as_aux_lemma => kernel_rfl) Try.func6 closed_FnExactRuleClass
    (by as_aux_lemma => exact of_decide_eq_true (by kernel_rfl)) (by unfold Func.isWrapper; first | (rw [if_pos (by decide +kernel)]; kernel_rfl) | (rw [if_neg (by decide +kernel)]; exact ⟨rfl, rfl⟩))
    (fun os started H enc _ => lifted_FnExactRuleClass os started H enc)
#print axioms fnExactRuleClass_holds

end Go.Proofs.Ytabjbmickngohaa
