/- The law FnExactLengthAfter returns true for every list of texts and every two numbers. No condition. -/
import Derived.Test.YtomeinlaiidmpaaLenSpec
import Derived.Test.YtomeinlaiidmpaaOpen
namespace Go.Proofs.Ytomeinlaiidmpaa
open Go.ChangeShapes Go.WideShapes Go.ChangeAt Go.RowKit
open Go.ChangeMaps (open_string shut_string)

set_option maxHeartbeats 1000000 in
theorem walk_FnExactLengthAfter (W : World) (v : Value) (h : StrsIn W v) (x : Int) (_hx : (Lit.int .i64 x).wf = true) (m : Int) (_hm : (Lit.int .i64 m).wf = true) :
    Calls Try.prog 6 #[v, .int .i64 x, .int .i64 m] W fun e W' => e = .returned (.bool true) ∧ Below W.heap.size W W' := by
  obtain ⟨a, n, c, ss, rfl, hr, hlim, hs⟩ := h
  have HS := hid hs
  clear hs
  obtain ⟨y, hy⟩ : ∃ y, y = lenOf ss x m := ⟨_, rfl⟩
  have HY := hid hy
  clear hy
  go_enter Try.func6, Try.ntmps6
  go_wp2_with fail
  refine (szStringS_c a n c 1048576 ss _ hr (by omega) HS.out).mono ?_
  rintro e w1 ⟨rfl, r, rfl, hcase⟩
  clear hcase
  by_cases hr0 : r < 0
  · go_wp2
    go_ret
    exact ⟨rfl, Below.refl _ _⟩
  · go_wp2_with fail
    refine (toStringS_c a n c ss _ hr hlim).mono ?_
    rintro e w1 ⟨v1, rfl, ho1, hb1⟩
    obtain ⟨a1, c1, rfl, hr1⟩ := owns_rowAt ho1 hr.lim
    go_wp2_with fail
    refine (spec_LengthAfter_c a1 n c1 ss x m _ hr1 HS.out).mono ?_
    rintro e w2 ⟨rfl, hb2⟩
    rw [← HY.out]
    go_wp2_with fail
    have hb12 := bs hb1 hb2
    have hr2 := rowAt_trans hr hb12
    refine (toStringS_c a n c ss _ hr2 hlim).mono ?_
    rintro e w3 ⟨v2, rfl, ho2, hb3⟩
    obtain ⟨a2, c2, rfl, hr2'⟩ := owns_rowAt ho2 hr.lim
    go_wp2_with fail
    refine (impl_LengthAfter_c a2 n c2 ss x m _ hr2' HS.out).mono ?_
    rintro e w4 ⟨rfl, hb4⟩
    rw [← HY.out]
    go_wp2_with fail
    have hb14 := bs (bs hb12 hb3) hb4
    have hr3 := rowAt_trans hr hb14
    refine (toStringS_c a n c ss _ hr3 hlim).mono ?_
    rintro e w5 ⟨v3, rfl, ho3, hb5⟩
    obtain ⟨a3, c3, rfl, hr3'⟩ := owns_rowAt ho3 hr.lim
    go_wp2_with fail
    refine (eqStringS_c a2 a3 n c2 c3 ss _ (rowAt_trans hr2' (bs hb4 hb5)) hr3').mono ?_
    rintro e w6 ⟨rfl, hb6⟩
    go_wp2
    go_ret
    exact ⟨rfl, bs (bs hb14 hb5) hb6⟩

set_option maxRecDepth 100000 in
theorem lifted_FnExactLengthAfter (os : Os) (started : os.Started) (H : Type) (enc : TypeId × Value → H) :
    ReturnsInHanded {} Try.checked os 6 .any (Rows.fnExactLengthAfterSpec.pre6 enc Try.prog Try.f6 Rows.fnExactLengthAfterRow.domain false) (Rows.fnExactLengthAfterSpec.post enc Try.prog Try.f6 false true false false) := by
  refine returnsInHanded_of_change_sized (C := Try.checked) own started (by kernel_rfl) Try.func6
    (ChangeSpec.witness6 (enc := enc) (C := Try.checked) false ⟨#[], #[.slice none 0 0, .int .i64 0, .int .i64 0], []⟩ 8 (by kernel_rfl) (by kernel_rfl) (by kernel_rfl) (by kernel_rfl)) ?_
  intro W base args ds gs before hval0 hW hcnd hsz0 _
  have hsz : (DataW.weightsEach Try.prog (Try.f6.params.toList ++ Rows.fnExactLengthAfterSpec.plain.varTypes Try.prog) (ds ++ gs)).all (· ≤ reachBytes) = true := hsz0
  clear hsz0
  have hval : ∀ (j : Nat) t v, Try.f6.params[j]? = some t → args[j]? = some v → Value.okWide Try.prog W .any base t v := hval0
  have hW' := hW
  obtain ⟨p, q, hA0, hV, rfl, hfz, hnd⟩ := hW
  have hA : DataW.TrodAll enc Try.prog W 0 (fun _ => true) true Try.f6.params.toList args.toList ds p := hA0
  rw [Try.params6] at hA hval hsz
  obtain ⟨v0, vs0, d0, ds0, p0, q0, hargs, rfl, rfl, h0, r0⟩ := trodAll_cons hA
  obtain ⟨v1, vs1, d1, ds1, p1, q1, rfl, rfl, rfl, h1, r1⟩ := trodAll_cons r0
  obtain ⟨v2, vs2, d2, ds2, p2, q2, rfl, rfl, rfl, h2, r2⟩ := trodAll_cons r1
  obtain ⟨rfl, rfl, rfl⟩ := trodAll_nil r2
  obtain rfl : args = #[v0, v1, v2] := by cases args; simp_all
  obtain ⟨rfl, rfl⟩ := trodVars_none hV
  have k0 := h0
  have lt0 : ∀ x ∈ p0, x.block < W.heap.size := by obtain ⟨m, hm⟩ := k0; exact DataW.trod_lt m _ _ _ hm
  have k1 := h1
  have lt1 : ∀ x ∈ p1, x.block < W.heap.size := by obtain ⟨m, hm⟩ := k1; exact DataW.trod_lt m _ _ _ hm
  have k2 := h2
  have lt2 : ∀ x ∈ p2, x.block < W.heap.size := by obtain ⟨m, hm⟩ := k2; exact DataW.trod_lt m _ _ _ hm
  have w0 := open_strs (enc := enc) (hval 0 27 v0 rfl rfl) h0 (fun x hx => DataW.weights_mem_each (j := 0) rfl rfl x hx) hsz
  obtain ⟨a1, rfl, _, _, w1⟩ := open_int Try.underlying3 (hval 1 3 v1 rfl rfl) h1
  obtain ⟨a2, rfl, _, _, w2⟩ := open_int Try.underlying3 (hval 2 3 v2 rfl rfl) h2
  clear hA0 hval0
  refine (walk_FnExactLengthAfter W v0 w0 a1 w1 a2 w2).mono fun e W' ⟨he, bel⟩ => ?_
  subst he
  exact ⟨_, rfl, _, _, _, [], _, [], hW', trodAll_mk1 (shut_bool Try.underlying4 _), (trodAll_cons_mk (Below.trod laidOut (by kernel_rfl) (of_decide_eq_true (by kernel_rfl)) k0 bel lt0) (trodAll_cons_mk (Below.trod laidOut (by kernel_rfl) (of_decide_eq_true (by kernel_rfl)) k1 bel lt1) (trodAll_cons_mk (Below.trod laidOut (by kernel_rfl) (of_decide_eq_true (by kernel_rfl)) k2 bel lt2) trodAll_mk0))), rfl, bel.frame _, fun h => by cases h⟩

theorem closed_FnExactLengthAfter : joinedFacts Try.prog 6 Try.f6 Rows.fnExactLengthAfterSpec Rows.fnExactLengthAfterRow = true := by
  unfold joinedFacts
  rw [headMayEnter, headLiftsFinal, headMake]
  kernel_rfl
/-- The law returns true for every input, and its arguments read as before: the given statement. -/
theorem fnExactLengthAfter_holds : Rows.FnExactLengthAfterSaid :=
  OpenClaim.holds_of_wide 6 Try.f6 rfl rfl rfl rfl rfl rfl rfl ⟨rfl, rfl, rfl, rfl, rfl⟩ rfl rfl rfl rfl rfl (by as_aux_lemma => kernel_rfl) Try.func6 closed_FnExactLengthAfter
    (by as_aux_lemma => exact of_decide_eq_true (by kernel_rfl)) (by unfold Func.isWrapper; first | (rw [if_pos (by decide +kernel)]; kernel_rfl) | (rw [if_neg (by decide +kernel)]; exact ⟨rfl, rfl⟩))
    (fun os started H enc _ => lifted_FnExactLengthAfter os started H enc)
#print axioms fnExactLengthAfter_holds

end Go.Proofs.Ytomeinlaiidmpaa
