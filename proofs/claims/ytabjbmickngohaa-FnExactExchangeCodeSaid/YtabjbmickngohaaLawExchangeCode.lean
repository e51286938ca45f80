/- The law FnExactExchangeCode returns true for every code. No condition. -/
import Derived.Test.YtabjbmickngohaaExchS
import Derived.Test.YtabjbmickngohaaOpenCode
namespace Go.Proofs.Ytabjbmickngohaa
open Go.ChangeShapes Go.WideShapes Go.ChangeAt Go.RowKit
open Go.ChangeMaps (open_string shut_string)

theorem eqCodeA_c (k n : Int) (o : ByteArray) (w : World) :
    Calls Try.prog 18 #[.agg #[.int .i64 k, .int .i64 n, .string o], .agg #[.int .i64 k, .int .i64 n, .string o]] w fun e w' => e = .returned (.bool true) ∧ Below w.heap.size w w' := by
  go_enter Try.func18, Try.ntmps18
  go_wp2
  go_ret
  exact ⟨rfl, ((Below.refl _ _).alloc (Nat.le_refl _) _).alloc (by simp) _⟩
theorem codeR_form (b : Bool) (k n : Int) (o : ByteArray) : ∃ k2 n2 o2, codeR b k n o = .tuple #[.agg #[.int .i64 k2, .int .i64 n2, .string o2], .bool b] := ⟨_, _, _, rfl⟩
set_option maxHeartbeats 1000000 in
theorem walk_FnExactExchangeCode (W : World) (v : Value) (h : CodeIn v) :
    Calls Try.prog 5 #[v] W fun e W' => e = .returned (.bool true) ∧ Below W.heap.size W W' := by
  obtain ⟨k, n, o, rfl, ho⟩ := h
  have HS := hid (fun w : World => spec_ExchangeCode_c k n o w ho)
  have HI := hid (fun w : World => impl_ExchangeCode_c k n o w ho)
  obtain ⟨k2, n2, o2, hR⟩ := codeR_form (isCode2 k n o) k n (exOut o n.toNat)
  obtain ⟨b, hb⟩ : ∃ b, b = (isCode2 k n o) := ⟨_, rfl⟩
  rw [show exC k n o = .tuple #[.agg #[.int .i64 k2, .int .i64 n2, .string o2], .bool (isCode2 k n o)] from hR, ← hb] at HS HI
  clear hR hb
  by_cases hbig : 1048576 < o.size
  · go_enter Try.func5, Try.ntmps5
    go_wp2_with fail
    refine (szCode_c k n o 1048576 _ (Nat.le_refl _) ho).mono ?_
    rintro e w1 ⟨rfl, hb1⟩
    go_wp2
    go_ret
    exact ⟨rfl, ((Below.refl _ _).alloc (Nat.le_refl _) _).trans (hb1.mono (by simp))⟩
  · go_enter Try.func5, Try.ntmps5
    go_wp2_with fail
    refine (szCode_c k n o 1048576 _ (Nat.le_refl _) ho).mono ?_
    rintro e w1 ⟨rfl, hb1⟩
    obtain ⟨⟨hc0, hc1, hc2⟩, _, hz⟩ := box3 hb1
    have hbW : Below W.heap.size W w1 := ((Below.refl _ _).alloc (Nat.le_refl _) _).trans (hb1.mono (by simp))
    go_wp2_with fail
    refine (toCode_c k n o _).mono ?_
    rintro e w2 ⟨rfl, hb2⟩
    go_wp2_with fail
    refine (HS.out _).mono ?_
    rintro e w3 ⟨rfl, hb3⟩
    have hbW3 : Below W.heap.size W w3 := hbW.trans ((bs hb2 hb3).mono hbW.size)
    obtain ⟨e0, e1, e2⟩ := three (cells_below (A := #[.int .i64 k, .int .i64 n, .string o]) (fun q => match q with | 0 => hc0 | 1 => hc1 | 2 => hc2 | q + 3 => by rw [box_kept (show Below (W.heap.size + 1) _ w1 by simpa using hb1) (q + 3) |>.1]) (bs hb2 hb3) hz)
    have hz3 := Nat.lt_of_lt_of_le hz (bs hb2 hb3).size
    clear hc0 hc1 hc2
    go_wp2_with fail
    refine (toCode_c k n o _).mono ?_
    rintro e w4 ⟨rfl, hb4⟩
    go_wp2_with fail
    refine (HI.out _).mono ?_
    rintro e w5 ⟨rfl, hb5⟩
    have hbW5 := hbW3.trans ((((Below.refl _ _).alloc (Nat.le_refl _) _).trans ((bs hb4 hb5).mono (by simp))).mono hbW3.size)
    obtain ⟨⟨f0, f1, f2⟩, _, hz5⟩ := box3 (bs hb4 hb5)
    have hs5 := hbW5.size
    clear e0 e1 e2
    go_wp2_with fail
    refine (eqCodeA_c k2 n2 o2 _).mono ?_
    rintro e w6 ⟨rfl, hb6⟩
    have hfin := (hbW5.alloc hs5 _).trans (hb6.mono (by simp; omega))
    cases b
    all_goals
      go_wp2
      go_ret
      exact ⟨rfl, hfin⟩

set_option maxRecDepth 100000 in
theorem lifted_FnExactExchangeCode (os : Os) (started : os.Started) (H : Type) (enc : TypeId × Value → H) :
    ReturnsInHanded {} Try.checked os 5 .any (Rows.fnExactExchangeCodeSpec.pre6 enc Try.prog Try.f5 Rows.fnExactExchangeCodeRow.domain false) (Rows.fnExactExchangeCodeSpec.post enc Try.prog Try.f5 false true false false) := by
  refine returnsInHanded_of_change_sized (C := Try.checked) own started (by kernel_rfl) Try.func5
    (ChangeSpec.witness6 (enc := enc) (C := Try.checked) false ⟨#[], #[.agg #[.int .i64 0, .int .i64 0, .string ByteArray.empty]], []⟩ 8 (by kernel_rfl) (by kernel_rfl) (by kernel_rfl) (by kernel_rfl)) ?_
  intro W base args ds gs before hval0 hW hcnd hsz0 _
  have hsz : (DataW.weightsEach Try.prog (Try.f5.params.toList ++ Rows.fnExactExchangeCodeSpec.plain.varTypes Try.prog) (ds ++ gs)).all (· ≤ reachBytes) = true := hsz0
  clear hsz0
  have hval : ∀ (j : Nat) t v, Try.f5.params[j]? = some t → args[j]? = some v → Value.okWide Try.prog W .any base t v := hval0
  have hW' := hW
  obtain ⟨p, q, hA0, hV, rfl, hfz, hnd⟩ := hW
  have hA : DataW.TrodAll enc Try.prog W 0 (fun _ => true) true Try.f5.params.toList args.toList ds p := hA0
  rw [Try.params5] at hA hval hsz
  obtain ⟨v0, vs0, d0, ds0, p0, q0, hargs, rfl, rfl, h0, r0⟩ := trodAll_cons hA
  obtain ⟨rfl, rfl, rfl⟩ := trodAll_nil r0
  obtain rfl : args = #[v0] := by cases args; simp_all
  obtain ⟨rfl, rfl⟩ := trodVars_none hV
  have k0 := h0
  have lt0 : ∀ x ∈ p0, x.block < W.heap.size := by obtain ⟨m, hm⟩ := k0; exact DataW.trod_lt m _ _ _ hm
  have w0 := open_code (enc := enc) (hval 0 28 v0 rfl rfl) h0 (fun x hx => DataW.weights_mem_each (j := 0) rfl rfl x hx) hsz
  clear hA0 hval0
  refine (walk_FnExactExchangeCode W v0 w0).mono fun e W' ⟨he, bel⟩ => ?_
  subst he
  exact ⟨_, rfl, _, _, _, [], _, [], hW', trodAll_mk1 (shut_bool Try.underlying4 _), (trodAll_cons_mk (Below.trod laidOut (by kernel_rfl) (of_decide_eq_true (by kernel_rfl)) k0 bel lt0) trodAll_mk0), rfl, bel.frame _, fun h => by cases h⟩

theorem closed_FnExactExchangeCode : joinedFacts Try.prog 5 Try.f5 Rows.fnExactExchangeCodeSpec Rows.fnExactExchangeCodeRow = true := by
  unfold joinedFacts
  rw [headMayEnter, headLiftsFinal, headMake]
  kernel_rfl
/-- The law returns true for every input, and its arguments read as before: the given statement. -/
theorem fnExactExchangeCode_holds : Rows.FnExactExchangeCodeSaid :=
  OpenClaim.holds_of_wide 5 Try.f5 rfl rfl rfl rfl rfl rfl rfl ⟨rfl, rfl, rfl, rfl, rfl⟩ rfl rfl rfl rfl rfl (by as_aux_lemma => kernel_rfl) Try.func5 closed_FnExactExchangeCode
    (by as_aux_lemma => exact of_decide_eq_true (by kernel_rfl)) (by unfold Func.isWrapper; first | (rw [if_pos (by decide +kernel)]; kernel_rfl) | (rw [if_neg (by decide +kernel)]; exact ⟨rfl, rfl⟩))
    (fun os started H enc _ => lifted_FnExactExchangeCode os started H enc)
#print axioms fnExactExchangeCode_holds

end Go.Proofs.Ytabjbmickngohaa
