/- The law FnExactIsMixing returns true for every list of texts. No condition. -/
import Derived.Test.YtabjbmickngohaaPrim
import Derived.Test.YtabjbmickngohaaTable
import Derived.Test.YtabjbmickngohaaOpen
namespace Go.Proofs.Ytabjbmickngohaa
open Go.ChangeShapes Go.WideShapes Go.ChangeAt Go.RowKit
open Go.ChangeMaps (open_string shut_string)

theorem ct_tab {T1 T0 : TypeId} {w : World} {base : Nat} {v : Value} {ss : List ByteArray} (h : TGrid T1 T0 w base v (ctOf ss)) : ∃ a c, v = .slice a (ctOf ss).length c ∧ TabAt w a (ctOf ss).length (ctOf ss) := by
  refine grid_tabAt h ?_ ?_
  · unfold ctOf; split
    · rename_i h; have := subst_len h; rw [ct_len]; omega
    · simp
  · intro r hr
    unfold ctOf at hr
    split at hr
    · rename_i h
      have := subst_len h
      simp only [ctAt, List.mem_map, List.mem_range] at hr
      obtain ⟨i, _, rfl⟩ := hr
      rw [ctRow_len]; omega
    · simp at hr
set_option maxHeartbeats 1000000 in
theorem impl_IsMixing_c (a : Option Addr) (n cap : Nat) (ss : List ByteArray) (w : World) (hr : RowAt w a n (strVals ss)) (hs : ∀ t ∈ ss, t.size ≤ maxLen) :
    Calls Try.prog 12 #[.slice a n cap] w fun e w' => e = .returned (.bool (isPrim (ctOf ss))) ∧ Below w.heap.size w w' := by
  go_enter Try.func12, Try.ntmps12
  go_wp2_with fail
  refine (impl_CountTable_c a n cap ss _ hr hs).mono ?_
  rintro e w1 ⟨v, rfl, hg, hb1⟩
  obtain ⟨a1, c1, rfl, ht⟩ := ct_tab hg
  obtain ⟨m, hm⟩ : ∃ m, m = (ctOf ss).length := ⟨_, rfl⟩
  rw [← hm] at ht
  rw [← hm]
  clear hg hm
  go_wp2_with fail
  refine (impl_IsPrimitive_c a1 m c1 _ _ ht).mono ?_
  rintro e w2 ⟨rfl, hb2⟩
  go_wp2
  go_ret
  exact ⟨rfl, bs hb1 hb2⟩
set_option maxHeartbeats 1000000 in
theorem spec_IsMixing_c (a : Option Addr) (n cap : Nat) (ss : List ByteArray) (w : World) (hr : RowAt w a n (strVals ss)) (hs : ∀ t ∈ ss, t.size ≤ maxLen) :
    Calls Try.prog 10 #[.slice a n cap] w fun e w' => e = .returned (.bool (isPrim (ctOf ss))) ∧ Below w.heap.size w w' := by
  go_enter Try.func10, Try.ntmps10
  go_wp2_with fail
  refine (spec_CountTable_c a n cap ss _ hr hs).mono ?_
  rintro e w1 ⟨v, rfl, hg, hb1⟩
  obtain ⟨a1, c1, rfl, ht⟩ := ct_tab hg
  obtain ⟨m, hm⟩ : ∃ m, m = (ctOf ss).length := ⟨_, rfl⟩
  rw [← hm] at ht
  rw [← hm]
  clear hg hm
  go_wp2_with fail
  refine (spec_IsPrimitive_c a1 m c1 _ _ ht).mono ?_
  rintro e w2 ⟨rfl, hb2⟩
  go_wp2
  go_ret
  exact ⟨rfl, bs hb1 hb2⟩
set_option maxHeartbeats 1000000 in
theorem walk_FnExactIsMixing (W : World) (v : Value) (h : StrsIn W v) :
    Calls Try.prog 3 #[v] W fun e W' => e = .returned (.bool true) ∧ Below W.heap.size W W' := by
  obtain ⟨a, n, c, ss, rfl, hr, hlim, hs⟩ := h
  have HS := hid hs
  clear hs
  obtain ⟨y, hy⟩ : ∃ y, y = isPrim (ctOf ss) := ⟨_, rfl⟩
  have HY := hid hy
  clear hy
  go_enter Try.func3, Try.ntmps3
  go_wp2_with fail
  refine (szStringS_c a n c 1048576 ss _ hr (by omega) HS.out).mono ?_
  rintro e w1 ⟨rfl, r, rfl, hcase⟩
  clear hcase
  by_cases hr0 : r < 0
  · go_wp2
    go_ret
    exact ⟨rfl, Below.refl _ _⟩
  · go_wp2_with fail
    refine (toStringS_c a n c ss _ hr hlim).mono ?_
    rintro e w1 ⟨v1, rfl, ho1, hb1⟩
    obtain ⟨a1, c1, rfl, hr1⟩ := owns_rowAt ho1 hr.lim
    go_wp2_with fail
    refine (spec_IsMixing_c a1 n c1 ss _ hr1 HS.out).mono ?_
    rintro e w2 ⟨rfl, hb2⟩
    rw [← HY.out]
    go_wp2_with fail
    have hb12 := bs hb1 hb2
    have hr2 := rowAt_trans hr hb12
    refine (toStringS_c a n c ss _ hr2 hlim).mono ?_
    rintro e w3 ⟨v2, rfl, ho2, hb3⟩
    obtain ⟨a2, c2, rfl, hr2'⟩ := owns_rowAt ho2 hr.lim
    go_wp2_with fail
    refine (impl_IsMixing_c a2 n c2 ss _ hr2' HS.out).mono ?_
    rintro e w4 ⟨rfl, hb4⟩
    rw [← HY.out]
    go_wp2_with fail
    have hb14 := bs (bs hb12 hb3) hb4
    have hr3 := rowAt_trans hr hb14
    refine (toStringS_c a n c ss _ hr3 hlim).mono ?_
    rintro e w5 ⟨v3, rfl, ho3, hb5⟩
    obtain ⟨a3, c3, rfl, hr3'⟩ := owns_rowAt ho3 hr.lim
    go_wp2_with fail
    refine (eqStringS_c a2 a3 n c2 c3 ss _ (rowAt_trans hr2' (bs hb4 hb5)) hr3').mono ?_
    rintro e w6 ⟨rfl, hb6⟩
    go_wp2
    go_ret
    exact ⟨rfl, bs (bs hb14 hb5) hb6⟩

set_option maxRecDepth 100000 in
theorem lifted_FnExactIsMixing (os : Os) (started : os.Started) (H : Type) (enc : TypeId × Value → H) :
    ReturnsInHanded {} Try.checked os 3 .any (Rows.fnExactIsMixingSpec.pre6 enc Try.prog Try.f3 Rows.fnExactIsMixingRow.domain false) (Rows.fnExactIsMixingSpec.post enc Try.prog Try.f3 false true false false) := by
  refine returnsInHanded_of_change_sized (C := Try.checked) own started (by kernel_rfl) Try.func3
    (ChangeSpec.witness6 (enc := enc) (C := Try.checked) false ⟨#[], #[.slice none 0 0], []⟩ 8 (by kernel_rfl) (by kernel_rfl) (by kernel_rfl) (by kernel_rfl)) ?_
  intro W base args ds gs before hval0 hW hcnd hsz0 _
  have hsz : (DataW.weightsEach Try.prog (Try.f3.params.toList ++ Rows.fnExactIsMixingSpec.plain.varTypes Try.prog) (ds ++ gs)).all (· ≤ reachBytes) = true := hsz0
  clear hsz0
  have hval : ∀ (j : Nat) t v, Try.f3.params[j]? = some t → args[j]? = some v → Value.okWide Try.prog W .any base t v := hval0
  have hW' := hW
  obtain ⟨p, q, hA0, hV, rfl, hfz, hnd⟩ := hW
  have hA : DataW.TrodAll enc Try.prog W 0 (fun _ => true) true Try.f3.params.toList args.toList ds p := hA0
  rw [Try.params3] at hA hval hsz
  obtain ⟨v0, vs0, d0, ds0, p0, q0, hargs, rfl, rfl, h0, r0⟩ := trodAll_cons hA
  obtain ⟨rfl, rfl, rfl⟩ := trodAll_nil r0
  obtain rfl : args = #[v0] := by cases args; simp_all
  obtain ⟨rfl, rfl⟩ := trodVars_none hV
  have k0 := h0
  have lt0 : ∀ x ∈ p0, x.block < W.heap.size := by obtain ⟨m, hm⟩ := k0; exact DataW.trod_lt m _ _ _ hm
  have w0 := open_strs (enc := enc) (hval 0 22 v0 rfl rfl) h0 (fun x hx => DataW.weights_mem_each (j := 0) rfl rfl x hx) hsz
  clear hA0 hval0
  refine (walk_FnExactIsMixing W v0 w0).mono fun e W' ⟨he, bel⟩ => ?_
  subst he
  exact ⟨_, rfl, _, _, _, [], _, [], hW', trodAll_mk1 (shut_bool Try.underlying4 _), (trodAll_cons_mk (Below.trod laidOut (by kernel_rfl) (of_decide_eq_true (by kernel_rfl)) k0 bel lt0) trodAll_mk0), rfl, bel.frame _, fun h => by cases h⟩

theorem closed_FnExactIsMixing : joinedFacts Try.prog 3 Try.f3 Rows.fnExactIsMixingSpec Rows.fnExactIsMixingRow = true := by
  unfold joinedFacts
  rw [headMayEnter, headLiftsFinal, headMake]
  kernel_rfl
/-- The law returns true for every input, and its arguments read as before: the given statement. -/
theorem fnExactIsMixing_holds : Rows.FnExactIsMixingSaid :=
  OpenClaim.holds_of_wide 3 Try.f3 rfl rfl rfl rfl rfl rfl rfl ⟨rfl, rfl, rfl, rfl, rfl⟩ rfl rfl rfl rfl rfl (by as_aux_lemma => kernel_rfl) Try.func3 closed_FnExactIsMixing
    (by as_aux_lemma => exact of_decide_eq_true (by kernel_rfl)) (by unfold Func.isWrapper; first | (rw [if_pos (by decide +kernel)]; kernel_rfl) | (rw [if_neg (by decide +kernel)]; exact ⟨rfl, rfl⟩))
    (fun os started H enc _ => lifted_FnExactIsMixing os started H enc)
#print axioms fnExactIsMixing_holds

end Go.Proofs.Ytabjbmickngohaa
