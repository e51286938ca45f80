/- The law FnExactSpecialParts returns true for every text and every number. No condition. -/
import Derived.Test.YtlmadabcfidanaaSpecW
namespace Go.Proofs.Ytlmadabcfidanaa
open Go.ChangeShapes Go.WideShapes Go.ChangeAt Go.RowKit
open Go.ChangeMaps (open_string shut_string)

set_option maxHeartbeats 1000000 in
theorem walk_FnExactSpecialParts (W : World) (s : ByteArray) (hs : s.size ≤ maxLen) (n : Int) (hnw : (Lit.int .i64 n).wf = true) :
    Calls Try.prog 5 #[.string s, .int .i64 n] W fun e W' => e = .returned (.bool true) ∧ Below W.heap.size W W' := by
  clear hnw
  have HS := hid (fun w => spec_SpecialParts_c s n w hs)
  have HI := hid (fun w => impl_SpecialParts_c s n w hs)
  unfold SpecPost at HS HI
  unfold maxLen at hs
  by_cases h1 : 1048576 < s.size
  · go_enter Try.func5, Try.ntmps5
    go_wp2
    go_ret
    exact ⟨rfl, Below.refl _ _⟩
  · have hle := specOf_le s n (by omega)
    obtain ⟨R, hR⟩ : ∃ R, R = specOf s n := ⟨_, rfl⟩
    rw [← hR] at HS HI hle
    obtain ⟨m, hm⟩ : ∃ m, m = R.length := ⟨_, rfl⟩
    rw [← hm] at HS HI hle
    clear hR hm
    go_enter Try.func5, Try.ntmps5
    go_wp2_with fail
    refine (HS.out _).mono ?_
    rintro e w1 ⟨v1, rfl, ho1, hb1⟩
    obtain ⟨a1, c1, rfl, hr1⟩ := owns_rowAt ho1 (by omega)
    go_wp2_with fail
    refine (HI.out _).mono ?_
    rintro e w2 ⟨v2, rfl, ho2, hb2⟩
    obtain ⟨a2, c2, rfl, hr2⟩ := owns_rowAt ho2 (by omega)
    go_wp2_with fail
    refine (eqStringS_c a2 a1 m c2 c1 R _ hr2 (hr1.below hb2 (Nat.le_refl _))).mono ?_
    rintro e w3 ⟨rfl, hb3⟩
    have ho3 := owns_below ho2 hb3
    go_wp2_with fail
    refine (markStringS_c _ _ m 1 _ _ ho3 (by omega) (by omega)).mono ?_
    rintro e w4 ⟨rfl, ho4, hg4⟩
    have hb4 : Below w1.heap.size w3 w4 := (Below.refl _ _).grown hg4 (bs hb2 hb3).size (fun k hk => (ho3.lt k hk).1)
    obtain ⟨a4, c4, hv4, hr4⟩ := owns_rowAt ho4 (by omega)
    simp only [Value.slice.injEq, true_and] at hv4
    obtain ⟨rfl, rfl⟩ := hv4
    go_wp2_with fail
    refine (heldStringS_c a2 m c2 1 _ hr4 (by omega)).mono ?_
    rintro e w5 ⟨rfl, hb5⟩
    go_wp2_with fail
    refine (HI.out _).mono ?_
    rintro e w6 ⟨v6, rfl, ho6, hb6⟩
    obtain ⟨a6, c6, rfl, hr6⟩ := owns_rowAt ho6 (by omega)
    have hC : Below w1.heap.size w1 w6 := bs (bs ((bs hb2 hb3).trans hb4) hb5) hb6
    go_wp2_with fail
    refine (eqStringS_c a6 a1 m c6 c1 R _ hr6 (hr1.below hC (Nat.le_refl _))).mono ?_
    rintro e w7 ⟨rfl, hb7⟩
    have hr7 := hr4.below (bs (bs hb5 hb6) hb7) (Nat.le_refl _)
    go_wp2_with fail
    refine (heldStringS_c a2 m c2 1 _ hr7 (by omega)).mono ?_
    rintro e w8 ⟨rfl, hb8⟩
    go_wp2
    go_ret
    exact ⟨rfl, hb1.trans ((bs (bs hC hb7) hb8).mono hb1.size)⟩

set_option maxRecDepth 100000 in
theorem lifted_FnExactSpecialParts (os : Os) (started : os.Started) (H : Type) (enc : TypeId × Value → H) :
    ReturnsInHanded {} Try.checked os 5 .any (Rows.fnExactSpecialPartsSpec.pre6 enc Try.prog Try.f5 Rows.fnExactSpecialPartsRow.domain false) (Rows.fnExactSpecialPartsSpec.post enc Try.prog Try.f5 false true false false) := by
  refine returnsInHanded_of_change_sized (C := Try.checked) own started (by kernel_rfl) Try.func5
    (ChangeSpec.witness6 (enc := enc) (C := Try.checked) false ⟨#[], #[.string ByteArray.empty, .int .i64 0], []⟩ 8 (by kernel_rfl) (by kernel_rfl) (by kernel_rfl) (by kernel_rfl)) ?_
  intro W base args ds gs before hval0 hW hcnd hsz0 _
  have hsz : (DataW.weightsEach Try.prog (Try.f5.params.toList ++ Rows.fnExactSpecialPartsSpec.plain.varTypes Try.prog) (ds ++ gs)).all (· ≤ reachBytes) = true := hsz0
  clear hsz0
  have hval : ∀ (j : Nat) t v, Try.f5.params[j]? = some t → args[j]? = some v → Value.okWide Try.prog W .any base t v := hval0
  have hW' := hW
  obtain ⟨p, q, hA0, hV, rfl, hfz, hnd⟩ := hW
  have hA : DataW.TrodAll enc Try.prog W 0 (fun _ => true) true Try.f5.params.toList args.toList ds p := hA0
  rw [Try.params5] at hA hval hsz
  obtain ⟨v0, vs0, d0, ds0, p0, q0, hargs, rfl, rfl, h0, r0⟩ := trodAll_cons hA
  obtain ⟨v1, vs1, d1, ds1, p1, q1, rfl, rfl, rfl, h1, r1⟩ := trodAll_cons r0
  obtain ⟨rfl, rfl, rfl⟩ := trodAll_nil r1
  obtain rfl : args = #[v0, v1] := by cases args; simp_all
  obtain ⟨rfl, rfl⟩ := trodVars_none hV
  have k0 := h0
  have lt0 : ∀ x ∈ p0, x.block < W.heap.size := by obtain ⟨m, hm⟩ := k0; exact DataW.trod_lt m _ _ _ hm
  have k1 := h1
  have lt1 : ∀ x ∈ p1, x.block < W.heap.size := by obtain ⟨m, hm⟩ := k1; exact DataW.trod_lt m _ _ _ hm
  obtain ⟨a0, rfl, _, _, w0⟩ := open_string Try.underlying9 (hval 0 9 v0 rfl rfl) h0
  obtain ⟨a1, rfl, _, _, w1⟩ := open_int Try.underlying3 (hval 1 3 v1 rfl rfl) h1
  clear hA0 hval0
  refine (walk_FnExactSpecialParts W a0 w0 a1 w1).mono fun e W' ⟨he, bel⟩ => ?_
  subst he
  exact ⟨_, rfl, _, _, _, [], _, [], hW', trodAll_mk1 (shut_bool Try.underlying4 _), (trodAll_cons_mk (Below.trod laidOut (by kernel_rfl) (of_decide_eq_true (by kernel_rfl)) k0 bel lt0) (trodAll_cons_mk (Below.trod laidOut (by kernel_rfl) (of_decide_eq_true (by kernel_rfl)) k1 bel lt1) trodAll_mk0)), rfl, bel.frame _, fun h => by cases h⟩

theorem closed_FnExactSpecialParts : joinedFacts Try.prog 5 Try.f5 Rows.fnExactSpecialPartsSpec Rows.fnExactSpecialPartsRow = true := by
  unfold joinedFacts
  rw [headMayEnter, headLiftsFinal, headMake]
  kernel_rfl
/-- The law returns true for every input, and its arguments read as before: the given statement. -/
theorem fnExactSpecialParts_holds : Rows.FnExactSpecialPartsSaid :=
  OpenClaim.holds_of_wide 5 Try.f5 rfl rfl rfl rfl rfl rfl rfl ⟨rfl, rfl, rfl, rfl, rfl⟩ rfl rfl rfl rfl rfl (by as_aux_lemma => kernel_rfl) Try.func5 closed_FnExactSpecialParts
    (by as_aux_lemma => exact of_decide_eq_true (by kernel_rfl)) (by unfold Func.isWrapper; first | (rw [if_pos (by decide +kernel)]; kernel_rfl) | (rw [if_neg (by decide +kernel)]; exact ⟨rfl, rfl⟩))
    (fun os started H enc _ => lifted_FnExactSpecialParts os started H enc)
#print axioms fnExactSpecialParts_holds

end Go.Proofs.Ytlmadabcfidanaa
