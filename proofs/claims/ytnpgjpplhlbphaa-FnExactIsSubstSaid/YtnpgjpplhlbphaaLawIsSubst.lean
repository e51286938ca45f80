/- The law FnExactIsSubst returns true for every list of texts; its argument reads as before. No condition. -/
import Derived.Test.YtnpgjpplhlbphaaOpen
namespace Go.Proofs.Ytnpgjpplhlbphaa
open Go.ChangeShapes Go.WideShapes Go.ChangeAt Go.RowKit

theorem rowAt_trans {w w' : World} {a : Option Addr} {n : Nat} {xs : List Value} (h : RowAt w a n xs) (hb : Below w.heap.size w w') : RowAt w' a n xs := h.below hb (Nat.le_refl _)

set_option maxHeartbeats 1000000 in
theorem walk_FnExactIsSubst (W : World) (v : Value) (h : StrsIn W v) :
    Calls Try.prog 6 #[v] W fun e W' => e = .returned (.bool true) ∧ Below W.heap.size W W' := by
  obtain ⟨a, n, c, ss, rfl, hr, hlim, hs⟩ := h
  have HS := hid hs
  clear hs
  go_enter Try.func6, Try.ntmps6
  go_wp2_with fail
  refine (szStringS_c a n c 1048576 ss _ hr (by omega) HS.out).mono ?_
  rintro e w1 ⟨rfl, r, rfl, hcase⟩
  clear hcase
  by_cases hr0 : r < 0
  · go_wp2
    go_ret
    exact ⟨rfl, Below.refl _ _⟩
  · go_wp2_with fail
    refine (toStringS_c a n c ss _ hr hlim).mono ?_
    rintro e w1 ⟨v1, rfl, ho1, hb1⟩
    obtain ⟨a1, c1, rfl, hr1⟩ := owns_rowAt ho1 hr.lim
    go_wp2_with fail
    refine (spec_IsSubst_c a1 n c1 ss _ hr1 HS.out).mono ?_
    rintro e w2 ⟨rfl, rfl⟩
    go_wp2_with fail
    have hr2 := rowAt_trans hr hb1
    refine (toStringS_c a n c ss _ hr2 hlim).mono ?_
    rintro e w2 ⟨v2, rfl, ho2, hb2⟩
    obtain ⟨a2, c2, rfl, hr2'⟩ := owns_rowAt ho2 hr.lim
    go_wp2_with fail
    refine (impl_IsSubst_c a2 n c2 ss _ hr2' HS.out).mono ?_
    rintro e w3 ⟨rfl, rfl⟩
    go_wp2_with fail
    have hr3 := rowAt_trans hr2 hb2
    refine (toStringS_c a n c ss _ hr3 hlim).mono ?_
    rintro e w3 ⟨v3, rfl, ho3, hb3⟩
    obtain ⟨a3, c3, rfl, hr3'⟩ := owns_rowAt ho3 hr.lim
    go_wp2_with fail
    refine (eqStringS_c a2 a3 n c2 c3 ss _ (rowAt_trans hr2' hb3) hr3').mono ?_
    rintro e w4 ⟨rfl, hb4⟩
    go_wp2
    go_ret
    exact ⟨rfl, ((hb1.trans (hb2.mono hb1.size)).trans (hb3.mono (Nat.le_trans hb1.size hb2.size))).trans (hb4.mono (Nat.le_trans hb1.size (Nat.le_trans hb2.size hb3.size)))⟩

set_option maxRecDepth 100000 in
theorem lifted_FnExactIsSubst (os : Os) (started : os.Started) (H : Type) (enc : TypeId × Value → H) :
    ReturnsInHanded {} Try.checked os 6 .any (Rows.fnExactIsSubstSpec.pre6 enc Try.prog Try.f6 Rows.fnExactIsSubstRow.domain false) (Rows.fnExactIsSubstSpec.post enc Try.prog Try.f6 false true false false) := by
  refine returnsInHanded_of_change_sized (C := Try.checked) own started (by kernel_rfl) Try.func6
    (ChangeSpec.witness6 (enc := enc) (C := Try.checked) false ⟨#[], #[.slice none 0 0], []⟩ 8 (by kernel_rfl) (by kernel_rfl) (by kernel_rfl) (by kernel_rfl)) ?_
  intro W base args ds gs before hval0 hW hcnd hsz0 _
  have hsz : (DataW.weightsEach Try.prog (Try.f6.params.toList ++ Rows.fnExactIsSubstSpec.plain.varTypes Try.prog) (ds ++ gs)).all (· ≤ reachBytes) = true := hsz0
  clear hsz0
  have hval : ∀ (j : Nat) t v, Try.f6.params[j]? = some t → args[j]? = some v → Value.okWide Try.prog W .any base t v := hval0
  have hW' := hW
  obtain ⟨p, q, hA0, hV, rfl, hfz, hnd⟩ := hW
  have hA : DataW.TrodAll enc Try.prog W 0 (fun _ => true) true Try.f6.params.toList args.toList ds p := hA0
  rw [Try.params6] at hA hval hsz
  obtain ⟨v0, vs0, d0, ds0, p0, q0, hargs, rfl, rfl, h0, r0⟩ := trodAll_cons hA
  obtain ⟨rfl, rfl, rfl⟩ := trodAll_nil r0
  obtain rfl : args = #[v0] := by cases args; simp_all
  obtain ⟨rfl, rfl⟩ := trodVars_none hV
  have k0 := h0
  have lt0 : ∀ x ∈ p0, x.block < W.heap.size := by obtain ⟨m, hm⟩ := k0; exact DataW.trod_lt m _ _ _ hm
  have w0 := open_strs (enc := enc) (hval 0 28 v0 rfl rfl) h0 (fun x hx => DataW.weights_mem_each (j := 0) rfl rfl x hx) hsz
  clear hA0 hval0
  refine (walk_FnExactIsSubst W v0 w0).mono fun e W' ⟨he, bel⟩ => ?_
  subst he
  exact ⟨_, rfl, _, _, _, [], _, [], hW', trodAll_mk1 (shut_bool Try.underlying4 _), (trodAll_cons_mk (Below.trod laidOut (by kernel_rfl) (of_decide_eq_true (by kernel_rfl)) k0 bel lt0) trodAll_mk0), rfl, bel.frame _, fun h => by cases h⟩

/-- The law returns true for every input, and its arguments read as before: the given statement. -/
theorem fnExactIsSubst_holds : Rows.FnExactIsSubstSaid :=
  OpenClaim.holds_of_wide 6 Try.f6 rfl rfl rfl rfl rfl rfl rfl ⟨rfl, rfl, rfl, rfl, rfl⟩ rfl rfl rfl rfl rfl (by kernel_rfl) Try.func6 (by kernel_rfl)
    (of_decide_eq_true (by kernel_rfl)) (by unfold Func.isWrapper; first | (rw [if_pos (by decide +kernel)]; kernel_rfl) | (rw [if_neg (by decide +kernel)]; exact ⟨rfl, rfl⟩))
    (fun os started H enc _ => lifted_FnExactIsSubst os started H enc)
#print axioms fnExactIsSubst_holds

end Go.Proofs.Ytnpgjpplhlbphaa
