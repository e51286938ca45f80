/- The law FnExactRuleCode returns true for every number. No condition. -/
import Derived.Test.YtnpgjpplhlbphaaRule
import Derived.Test.YtnpgjpplhlbphaaOpen
namespace Go.Proofs.Ytnpgjpplhlbphaa
open Go.ChangeShapes Go.WideShapes Go.ChangeAt Go.RowKit

set_option maxHeartbeats 1000000 in
theorem eqCode_c (k n : Int) (o : ByteArray) (w : World) :
    Calls Try.prog 13 #[.agg #[.int .i64 k, .int .i64 n, .string o], .agg #[.int .i64 k, .int .i64 n, .string o]] w fun e w' => e = .returned (.bool true) ∧ Below w.heap.size w w' := by
  go_enter Try.func13, Try.ntmps13
  go_wp2
  go_ret
  exact ⟨rfl, ((Below.refl _ _).alloc (Nat.le_refl _) _).alloc (by simp) _⟩

set_option maxHeartbeats 1000000 in
theorem impl_RuleCode_c (n : Nat) (hn : n < 256) (w : World) :
    Calls Try.prog 12 #[.int .i64 n] w fun e w' => e = .returned (.tuple #[.agg #[.int .i64 2, .int .i64 3, .string ⟨(ruleOut n 8).toArray⟩], .bool true]) ∧ Below w.heap.size w w' := by
  have h1 : (0 : Int) ≤ n := by omega
  have h2 : (n : Int) ≤ 255 := by omega
  go_enter Try.func12, Try.ntmps12
  go_wp2_with fail
  refine (impl_ruleCode_c n hn _).mono ?_
  rintro e w1 ⟨rfl, hb⟩
  obtain ⟨⟨hc0, hc1, hc2⟩, ⟨hf0, hf1, hf2⟩, hz⟩ := box3 hb
  go_wp2
  refine bodyPost_ret (v := .tuple #[.agg #[.int .i64 2, .int .i64 3, .string ⟨(ruleOut n 8).toArray⟩], .bool true]) (by simp [results, Try.results12, go_sem, hc0, hc1, hc2]) rfl ⟨rfl, ?_⟩
  exact ((((Below.refl _ _).alloc (Nat.le_refl _) _).trans (hb.mono (by simp))).setCell (by simp) _).setCell (by simp) _ |>.setCell (by simp) _

set_option maxHeartbeats 1000000 in
theorem impl_RuleCode_no (n : Int) (hn : n < 0 ∨ 255 < n) (w : World) :
    Calls Try.prog 12 #[.int .i64 n] w fun e w' => e = .returned (.tuple #[.agg #[.int .i64 0, .int .i64 0, .string ⟨#[]⟩], .bool false]) ∧ Below w.heap.size w w' := by
  rcases hn with hn | hn
  all_goals
    go_enter Try.func12, Try.ntmps12
    go_wp2
    refine bodyPost_ret (v := .tuple #[.agg #[.int .i64 0, .int .i64 0, .string ⟨#[]⟩], .bool false]) (by simp [results, Try.results12, go_sem]) rfl ⟨rfl, ?_⟩
    exact ((Below.refl _ _).alloc (Nat.le_refl _) _)

set_option maxHeartbeats 1000000 in
theorem spec_RuleCode_no (n : Int) (hn : n < 0 ∨ 255 < n) (w : World) :
    Calls Try.prog 11 #[.int .i64 n] w fun e w' => e = .returned (.tuple #[.agg #[.int .i64 0, .int .i64 0, .string ⟨#[]⟩], .bool false]) ∧ Below w.heap.size w w' := by
  have hin := inB_f (x := n) (lo := 0) (hi := 255) hn
  clear hn
  go_enter Try.func11, Try.ntmps11
  go_wp2_with (go_at_call 32; refine (l1In_c _ _ _ _).mono ?_; rintro e w' ⟨rfl, rfl⟩)
  refine bodyPost_ret (v := .tuple #[.agg #[.int .i64 0, .int .i64 0, .string ⟨#[]⟩], .bool false]) (by simp [results, Try.results11, go_sem]) rfl ⟨rfl, ?_⟩
  exact ((Below.refl _ _).alloc (Nat.le_refl _) _)

theorem below_chain3 {W w1 w2 w3 : World} {c1 c2 : Obj} (h1 : Below W.heap.size W w1) (h2 : Below (w1.alloc c1).heap.size (w1.alloc c1) w2) (h3 : Below (w2.alloc c2).heap.size (w2.alloc c2) w3) : Below W.heap.size W w3 := by
  have s1 := h1.size
  have s2 := h2.size
  simp at s2
  have e2 := (h1.alloc s1 c1).trans (h2.mono (by simp; omega))
  exact (e2.alloc (by omega) c2).trans (h3.mono (by simp; omega))

set_option maxHeartbeats 1000000 in
theorem walk_FnExactRuleCode (W : World) (n : Int) (_h : (Lit.int .i64 n).wf = true) :
    Calls Try.prog 4 #[.int .i64 n] W fun e W' => e = .returned (.bool true) ∧ Below W.heap.size W W' := by
  by_cases hn : n < 0 ∨ 255 < n
  · go_enter Try.func4, Try.ntmps4
    go_wp2_with fail
    refine (spec_RuleCode_no n hn _).mono ?_
    rintro e w1 ⟨rfl, hb1⟩
    go_wp2_with fail
    refine (impl_RuleCode_no n hn _).mono ?_
    rintro e w2 ⟨rfl, hb2⟩
    obtain ⟨⟨hc0, hc1, hc2⟩, ⟨hf0, hf1, hf2⟩, hz⟩ := box3 hb2
    go_wp2_with fail
    refine (eqCode_c 0 0 ⟨#[]⟩ _).mono ?_
    rintro e w3 ⟨rfl, hb3⟩
    go_wp2
    go_ret
    exact ⟨rfl, below_chain3 hb1 hb2 hb3⟩
  · obtain ⟨m, rfl⟩ : ∃ m : Nat, n = m := ⟨n.toNat, by omega⟩
    have hm : m < 256 := by omega
    clear hn
    go_enter Try.func4, Try.ntmps4
    go_wp2_with fail
    refine (spec_RuleCode_c m hm _).mono ?_
    rintro e w1 ⟨rfl, hb1⟩
    go_wp2_with fail
    refine (impl_RuleCode_c m hm _).mono ?_
    rintro e w2 ⟨rfl, hb2⟩
    obtain ⟨⟨hc0, hc1, hc2⟩, ⟨hf0, hf1, hf2⟩, hz⟩ := box3 hb2
    go_wp2_with fail
    refine (eqCode_c 2 3 _ _).mono ?_
    rintro e w3 ⟨rfl, hb3⟩
    go_wp2
    go_ret
    exact ⟨rfl, below_chain3 hb1 hb2 hb3⟩

set_option maxRecDepth 100000 in
theorem lifted_FnExactRuleCode (os : Os) (started : os.Started) (H : Type) (enc : TypeId × Value → H) :
    ReturnsInHanded {} Try.checked os 4 .any (Rows.fnExactRuleCodeSpec.pre6 enc Try.prog Try.f4 Rows.fnExactRuleCodeRow.domain false) (Rows.fnExactRuleCodeSpec.post enc Try.prog Try.f4 false true false false) := by
  refine returnsInHanded_of_change_sized (C := Try.checked) own started (by kernel_rfl) Try.func4
    (ChangeSpec.witness6 (enc := enc) (C := Try.checked) false ⟨#[], #[.int .i64 0], []⟩ 8 (by kernel_rfl) (by kernel_rfl) (by kernel_rfl) (by kernel_rfl)) ?_
  intro W base args ds gs before hval0 hW hcnd hsz0 _
  have hsz : (DataW.weightsEach Try.prog (Try.f4.params.toList ++ Rows.fnExactRuleCodeSpec.plain.varTypes Try.prog) (ds ++ gs)).all (· ≤ reachBytes) = true := hsz0
  clear hsz0
  have hval : ∀ (j : Nat) t v, Try.f4.params[j]? = some t → args[j]? = some v → Value.okWide Try.prog W .any base t v := hval0
  have hW' := hW
  obtain ⟨p, q, hA0, hV, rfl, hfz, hnd⟩ := hW
  have hA : DataW.TrodAll enc Try.prog W 0 (fun _ => true) true Try.f4.params.toList args.toList ds p := hA0
  rw [Try.params4] at hA hval hsz
  obtain ⟨v0, vs0, d0, ds0, p0, q0, hargs, rfl, rfl, h0, r0⟩ := trodAll_cons hA
  obtain ⟨rfl, rfl, rfl⟩ := trodAll_nil r0
  obtain rfl : args = #[v0] := by cases args; simp_all
  obtain ⟨rfl, rfl⟩ := trodVars_none hV
  have k0 := h0
  have lt0 : ∀ x ∈ p0, x.block < W.heap.size := by obtain ⟨m, hm⟩ := k0; exact DataW.trod_lt m _ _ _ hm
  obtain ⟨a0, rfl, _, _, w0⟩ := open_int Try.underlying3 (hval 0 3 v0 rfl rfl) h0
  clear hA0 hval0
  refine (walk_FnExactRuleCode W a0 w0).mono fun e W' ⟨he, bel⟩ => ?_
  subst he
  exact ⟨_, rfl, _, _, _, [], _, [], hW', trodAll_mk1 (shut_bool Try.underlying4 _), (trodAll_cons_mk (Below.trod laidOut (by kernel_rfl) (of_decide_eq_true (by kernel_rfl)) k0 bel lt0) trodAll_mk0), rfl, bel.frame _, fun h => by cases h⟩

theorem closed_FnExactRuleCode : joinedFacts Try.prog 4 Try.f4 Rows.fnExactRuleCodeSpec Rows.fnExactRuleCodeRow = true := by
  unfold joinedFacts
  rw [headMayEnter, headLiftsFinal, headMake]
  kernel_rfl
/-- The law returns true for every input, and its arguments read as before: the given statement. -/
theorem fnExactRuleCode_holds : Rows.FnExactRuleCodeSaid :=
  OpenClaim.holds_of_wide 4 Try.f4 rfl rfl rfl rfl rfl rfl rfl ⟨rfl, rfl, rfl, rfl, rfl⟩ rfl rfl rfl rfl rfl (by as_aux_lemma => kernel_rfl) Try.func4 closed_FnExactRuleCode
    (by as_aux_lemma => exact of_decide_eq_true (by kernel_rfl)) (by unfold Func.isWrapper; first | (rw [if_pos (by decide +kernel)]; kernel_rfl) | (rw [if_neg (by decide +kernel)]; exact ⟨rfl, rfl⟩))
    (fun os started H enc _ => lifted_FnExactRuleCode os started H enc)
#print axioms fnExactRuleCode_holds

end Go.Proofs.Ytnpgjpplhlbphaa
