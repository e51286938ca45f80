/- The law FnExactWordsText returns true for every list of texts. No condition. -/
import Derived.Test.YtabjbmickngohaaWordsT
import Derived.Test.YtabjbmickngohaaOpen
namespace Go.Proofs.Ytabjbmickngohaa
open Go.ChangeShapes Go.WideShapes Go.ChangeAt Go.RowKit
open Go.ChangeMaps (open_string shut_string)

set_option maxHeartbeats 1000000 in
theorem walk_FnExactWordsText (W : World) (v : Value) (h : StrsIn W v) :
    Calls Try.prog 8 #[v] W fun e W' => e = .returned (.bool true) ∧ Below W.heap.size W W' := by
  obtain ⟨a, n, c, ss, rfl, hr, hlim, hs⟩ := h
  have HS := hid hs
  clear hs
  go_enter Try.func8, Try.ntmps8
  go_wp2_with fail
  refine (szStringS_c a n c 1048576 ss _ hr (by omega) HS.out).mono ?_
  rintro e w1 ⟨rfl, r, rfl, hcase⟩
  by_cases hr0 : r < 0
  · clear hcase
    go_wp2
    go_ret
    exact ⟨rfl, Below.refl _ _⟩
  · have hsz : ss.length + sizes ss ≤ 1048576 := by omega
    clear hcase
    obtain ⟨res, hres⟩ : ∃ res, res = wtxt ss := ⟨_, rfl⟩
    have HX := hid (fun (a : Option Addr) (c : Nat) (w : World) h => spec_WordsText_c a n c ss w h hsz)
    have HY := hid (fun (a : Option Addr) (c : Nat) (w : World) h => impl_WordsText_c a n c ss w h hsz)
    rw [← hres] at HX HY
    clear hres hsz
    go_wp2_with fail
    refine (toStringS_c a n c ss _ hr hlim).mono ?_
    rintro e w1 ⟨v1, rfl, ho1, hb1⟩
    obtain ⟨a1, c1, rfl, hr1⟩ := owns_rowAt ho1 hr.lim
    go_wp2_with fail
    refine (HX.out _ _ _ hr1).mono ?_
    rintro e w2 ⟨rfl, hb2⟩
    have hb12 := bs hb1 hb2
    have hr2 := rowAt_trans hr hb12
    go_wp2_with fail
    refine (toStringS_c a n c ss _ hr2 hlim).mono ?_
    rintro e w3 ⟨v2, rfl, ho2, hb3⟩
    obtain ⟨a2, c2, rfl, hr2'⟩ := owns_rowAt ho2 hr.lim
    go_wp2_with fail
    refine (HY.out _ _ _ hr2').mono ?_
    rintro e w4 ⟨rfl, hb4⟩
    have hb14 := bs (bs hb12 hb3) hb4
    have hr3 := rowAt_trans hr hb14
    go_wp2_with fail
    refine (toStringS_c a n c ss _ hr3 hlim).mono ?_
    rintro e w5 ⟨v3, rfl, ho3, hb5⟩
    obtain ⟨a3, c3, rfl, hr3'⟩ := owns_rowAt ho3 hr.lim
    go_wp2_with fail
    refine (eqStringS_c a2 a3 n c2 c3 ss _ (rowAt_trans hr2' (bs hb4 hb5)) hr3').mono ?_
    rintro e w6 ⟨rfl, hb6⟩
    go_wp2
    go_ret
    exact ⟨rfl, bs (bs hb14 hb5) hb6⟩

set_option maxRecDepth 100000 in
theorem lifted_FnExactWordsText (os : Os) (started : os.Started) (H : Type) (enc : TypeId × Value → H) :
    ReturnsInHanded {} Try.checked os 8 .any (Rows.fnExactWordsTextSpec.pre6 enc Try.prog Try.f8 Rows.fnExactWordsTextRow.domain false) (Rows.fnExactWordsTextSpec.post enc Try.prog Try.f8 false true false false) := by
  refine returnsInHanded_of_change_sized (C := Try.checked) own started (by kernel_rfl) Try.func8
    (ChangeSpec.witness6 (enc := enc) (C := Try.checked) false ⟨#[], #[.slice none 0 0], []⟩ 8 (by kernel_rfl) (by kernel_rfl) (by kernel_rfl) (by kernel_rfl)) ?_
  intro W base args ds gs before hval0 hW hcnd hsz0 _
  have hsz : (DataW.weightsEach Try.prog (Try.f8.params.toList ++ Rows.fnExactWordsTextSpec.plain.varTypes Try.prog) (ds ++ gs)).all (· ≤ reachBytes) = true := hsz0
  clear hsz0
  have hval : ∀ (j : Nat) t v, Try.f8.params[j]? = some t → args[j]? = some v → Value.okWide Try.prog W .any base t v := hval0
  have hW' := hW
  obtain ⟨p, q, hA0, hV, rfl, hfz, hnd⟩ := hW
  have hA : DataW.TrodAll enc Try.prog W 0 (fun _ => true) true Try.f8.params.toList args.toList ds p := hA0
  rw [Try.params8] at hA hval hsz
  obtain ⟨v0, vs0, d0, ds0, p0, q0, hargs, rfl, rfl, h0, r0⟩ := trodAll_cons hA
  obtain ⟨rfl, rfl, rfl⟩ := trodAll_nil r0
  obtain rfl : args = #[v0] := by cases args; simp_all
  obtain ⟨rfl, rfl⟩ := trodVars_none hV
  have k0 := h0
  have lt0 : ∀ x ∈ p0, x.block < W.heap.size := by obtain ⟨m, hm⟩ := k0; exact DataW.trod_lt m _ _ _ hm
  have w0 := open_strs (enc := enc) (hval 0 22 v0 rfl rfl) h0 (fun x hx => DataW.weights_mem_each (j := 0) rfl rfl x hx) hsz
  clear hA0 hval0
  refine (walk_FnExactWordsText W v0 w0).mono fun e W' ⟨he, bel⟩ => ?_
  subst he
  exact ⟨_, rfl, _, _, _, [], _, [], hW', trodAll_mk1 (shut_bool Try.underlying4 _), (trodAll_cons_mk (Below.trod laidOut (by kernel_rfl) (of_decide_eq_true (by kernel_rfl)) k0 bel lt0) trodAll_mk0), rfl, bel.frame _, fun h => by cases h⟩

theorem closed_FnExactWordsText : joinedFacts Try.prog 8 Try.f8 Rows.fnExactWordsTextSpec Rows.fnExactWordsTextRow = true := by
  unfold joinedFacts
  rw [headMayEnter, headLiftsFinal, headMake]
  kernel_rfl
/-- The law returns true for every input, and its arguments read as before: the given statement. -/
theorem fnExactWordsText_holds : Rows.FnExactWordsTextSaid :=
  OpenClaim.holds_of_wide 8 Try.f8 rfl rfl rfl rfl rfl rfl rfl ⟨rfl, rfl, rfl, rfl, rfl⟩ rfl rfl rfl rfl rfl (by as_aux_lemma => kernel_rfl) Try.func8 closed_FnExactWordsText
    (by as_aux_lemma => exact of_decide_eq_true (by kernel_rfl)) (by unfold Func.isWrapper; first | (rw [if_pos (by decide +kernel)]; kernel_rfl) | (rw [if_neg (by decide +kernel)]; exact ⟨rfl, rfl⟩))
    (fun os started H enc _ => lifted_FnExactWordsText os started H enc)
#print axioms fnExactWordsText_holds

end Go.Proofs.Ytabjbmickngohaa
