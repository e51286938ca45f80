/- The law FnExactRingTail returns true for every code and every text. No condition. -/
import Derived.Test.YtiigfnlkilfomaaTailS
import Derived.Test.YtiigfnlkilfomaaBox
import Derived.Test.YtiigfnlkilfomaaOpenCode
namespace Go.Proofs.Ytiigfnlkilfomaa
open Go.ChangeShapes Go.WideShapes Go.ChangeAt Go.RowKit
open Go.ChangeMaps (open_string shut_string)

set_option maxHeartbeats 1000000 in
theorem walk_FnExactRingTail (W : World) (v : Value) (h : CodeIn v) (s : ByteArray) (hs : s.size ≤ maxLen) :
    Calls Try.prog 3 #[v, .string s] W fun e W' => e = .returned (.bool true) ∧ Below W.heap.size W W' := by
  obtain ⟨k, n, o, rfl, ho⟩ := h
  have hs2 := hs
  unfold maxLen at hs2
  by_cases hs1 : 1048576 < s.size
  · go_enter Try.func3, Try.ntmps3
    go_wp2
    go_ret
    exact ⟨rfl, (Below.refl _ _).alloc (Nat.le_refl _) _⟩
  by_cases hbig : 1048576 < o.size
  · skip
    go_enter Try.func3, Try.ntmps3
    go_wp2_with fail
    refine (szCode_c k n o 1048576 _ (Nat.le_refl _) ho).mono ?_
    rintro e w1 ⟨rfl, hb1⟩
    go_wp2
    go_ret
    exact ⟨rfl, ((Below.refl _ _).alloc (Nat.le_refl _) _).trans (hb1.mono (by simp))⟩
  cases hok : tailOk k n o s
  · have HS := hid (fun w : World => spec_RingTail_no k n o s w ho hs hok)
    have HI := hid (fun w : World => impl_RingTail_no k n o s w ho hs hok)
    clear hok
    go_enter Try.func3, Try.ntmps3
    go_wp2_with fail
    refine (szCode_c k n o 1048576 _ (Nat.le_refl _) ho).mono ?_
    rintro e w1 ⟨rfl, hb1⟩
    obtain ⟨⟨hc0, hc1, hc2⟩, _, hz⟩ := box3 hb1
    have hbW : Below W.heap.size W w1 := ((Below.refl _ _).alloc (Nat.le_refl _) _).trans (hb1.mono (by simp))
    go_wp2_with fail
    refine (toCode_c k n o _).mono ?_
    rintro e w2 ⟨rfl, hb2⟩
    go_wp2_with fail
    refine (HS.out _).mono ?_
    rintro e w3 ⟨rfl, hb3⟩
    have hbW3 : Below W.heap.size W w3 := hbW.trans ((bs hb2 hb3).mono hbW.size)
    obtain ⟨e0, e1, e2⟩ := three (cells_below (A := #[.int .i64 k, .int .i64 n, .string o]) (fun q => match q with | 0 => hc0 | 1 => hc1 | 2 => hc2 | q + 3 => by rw [box_kept (show Below (W.heap.size + 1) _ w1 by simpa using hb1) (q + 3) |>.1]) (bs hb2 hb3) hz)
    clear hc0 hc1 hc2
    go_wp2_with fail
    refine (toCode_c k n o _).mono ?_
    rintro e w4 ⟨rfl, hb4⟩
    go_wp2_with fail
    refine (HI.out _).mono ?_
    rintro e w5 ⟨rfl, hb5⟩
    have hbW5 := hbW3.trans ((bs hb4 hb5).mono hbW3.size)
    go_wp2
    go_ret
    exact ⟨rfl, hbW5⟩
  · obtain ⟨kk, nn, rfl, rfl, hrest⟩ := ring_facts (tail_facts hok).1
    clear hrest
    have HS := hid (fun w : World => spec_RingTail_yes kk nn o s w ho hok)
    have HI := hid (fun w : World => impl_RingTail_yes kk nn o s w ho hs hok)
    obtain ⟨k, hk⟩ : ∃ k : Int, k = kk := ⟨_, rfl⟩
    obtain ⟨n, hn⟩ : ∃ n : Int, n = nn := ⟨_, rfl⟩
    rw [← hk, ← hn] at HS HI
    rw [← hk, ← hn]
    clear hok hk hn
    go_enter Try.func3, Try.ntmps3
    go_wp2_with fail
    refine (szCode_c k n o 1048576 _ (Nat.le_refl _) ho).mono ?_
    rintro e w1 ⟨rfl, hb1⟩
    obtain ⟨⟨hc0, hc1, hc2⟩, _, hz⟩ := box3 hb1
    have hbW : Below W.heap.size W w1 := ((Below.refl _ _).alloc (Nat.le_refl _) _).trans (hb1.mono (by simp))
    go_wp2_with fail
    refine (toCode_c k n o _).mono ?_
    rintro e w2 ⟨rfl, hb2⟩
    go_wp2_with fail
    refine (HS.out _).mono ?_
    rintro e w3 ⟨t, p, hT, hle, rfl, hb3⟩
    have hbW3 : Below W.heap.size W w3 := hbW.trans ((bs hb2 hb3).mono hbW.size)
    obtain ⟨e0, e1, e2⟩ := three (cells_below (A := #[.int .i64 k, .int .i64 n, .string o]) (fun q => match q with | 0 => hc0 | 1 => hc1 | 2 => hc2 | q + 3 => by rw [box_kept (show Below (W.heap.size + 1) _ w1 by simpa using hb1) (q + 3) |>.1]) (bs hb2 hb3) hz)
    clear hc0 hc1 hc2
    go_wp2_with fail
    refine (toCode_c k n o _).mono ?_
    rintro e w4 ⟨rfl, hb4⟩
    go_wp2_with fail
    refine (HI.out _).mono ?_
    rintro e w5 ⟨t2, p2, hT2, _, rfl, hb5⟩
    have hbW5 := hbW3.trans ((bs hb4 hb5).mono hbW3.size)
    obtain ⟨rfl, rfl⟩ := isTail_unique hT hT2
    clear hT hT2
    go_wp2
    go_ret
    exact ⟨rfl, hbW5⟩

set_option maxRecDepth 100000 in
theorem lifted_FnExactRingTail (os : Os) (started : os.Started) (H : Type) (enc : TypeId × Value → H) :
    ReturnsInHanded {} Try.checked os 3 .any (Rows.fnExactRingTailSpec.pre6 enc Try.prog Try.f3 Rows.fnExactRingTailRow.domain false) (Rows.fnExactRingTailSpec.post enc Try.prog Try.f3 false true false false) := by
  refine returnsInHanded_of_change_sized (C := Try.checked) own started (by kernel_rfl) Try.func3
    (ChangeSpec.witness6 (enc := enc) (C := Try.checked) false ⟨#[], #[.agg #[.int .i64 0, .int .i64 0, .string ByteArray.empty], .string ByteArray.empty], []⟩ 8 (by kernel_rfl) (by kernel_rfl) (by kernel_rfl) (by kernel_rfl)) ?_
  intro W base args ds gs before hval0 hW hcnd hsz0 _
  have hsz : (DataW.weightsEach Try.prog (Try.f3.params.toList ++ Rows.fnExactRingTailSpec.plain.varTypes Try.prog) (ds ++ gs)).all (· ≤ reachBytes) = true := hsz0
  clear hsz0
  have hval : ∀ (j : Nat) t v, Try.f3.params[j]? = some t → args[j]? = some v → Value.okWide Try.prog W .any base t v := hval0
  have hW' := hW
  obtain ⟨p, q, hA0, hV, rfl, hfz, hnd⟩ := hW
  have hA : DataW.TrodAll enc Try.prog W 0 (fun _ => true) true Try.f3.params.toList args.toList ds p := hA0
  rw [Try.params3] at hA hval hsz
  obtain ⟨v0, vs0, d0, ds0, p0, q0, hargs, rfl, rfl, h0, r0⟩ := trodAll_cons hA
  obtain ⟨v1, vs1, d1, ds1, p1, q1, rfl, rfl, rfl, h1, r1⟩ := trodAll_cons r0
  obtain ⟨rfl, rfl, rfl⟩ := trodAll_nil r1
  obtain rfl : args = #[v0, v1] := by cases args; simp_all
  obtain ⟨rfl, rfl⟩ := trodVars_none hV
  have k0 := h0
  have lt0 : ∀ x ∈ p0, x.block < W.heap.size := by obtain ⟨m, hm⟩ := k0; exact DataW.trod_lt m _ _ _ hm
  have k1 := h1
  have lt1 : ∀ x ∈ p1, x.block < W.heap.size := by obtain ⟨m, hm⟩ := k1; exact DataW.trod_lt m _ _ _ hm
  have w0 := open_code (enc := enc) (hval 0 23 v0 rfl rfl) h0 (fun x hx => DataW.weights_mem_each (j := 0) rfl rfl x hx) hsz
  obtain ⟨a1, rfl, _, _, w1⟩ := open_string Try.underlying9 (hval 1 9 v1 rfl rfl) h1
  clear hA0 hval0
  refine (walk_FnExactRingTail W v0 w0 a1 w1).mono fun e W' ⟨he, bel⟩ => ?_
  subst he
  exact ⟨_, rfl, _, _, _, [], _, [], hW', trodAll_mk1 (shut_bool Try.underlying4 _), (trodAll_cons_mk (Below.trod laidOut (by kernel_rfl) (of_decide_eq_true (by kernel_rfl)) k0 bel lt0) (trodAll_cons_mk (Below.trod laidOut (by kernel_rfl) (of_decide_eq_true (by kernel_rfl)) k1 bel lt1) trodAll_mk0)), rfl, bel.frame _, fun h => by cases h⟩

theorem closed_FnExactRingTail : joinedFacts Try.prog 3 Try.f3 Rows.fnExactRingTailSpec Rows.fnExactRingTailRow = true := by
  unfold joinedFacts
  rw [headMayEnter, headLiftsFinal, headMake]
  kernel_rfl
/-- The law returns true for every input, and its arguments read as before: the given statement. -/
theorem fnExactRingTail_holds : Rows.FnExactRingTailSaid :=
  OpenClaim.holds_of_wide 3 Try.f3 rfl rfl rfl rfl rfl rfl rfl ⟨rfl, rfl, rfl, rfl, rfl⟩ rfl rfl rfl rfl rfl (by as_aux_lemma => kernel_rfl) Try.func3 closed_FnExactRingTail
    (by as_aux_lemma => exact of_decide_eq_true (by kernel_rfl)) (by unfold Func.isWrapper; first | (rw [if_pos (by decide +kernel)]; kernel_rfl) | (rw [if_neg (by decide +kernel)]; exact ⟨rfl, rfl⟩))
    (fun os started H enc _ => lifted_FnExactRingTail os started H enc)
#print axioms fnExactRingTail_holds

end Go.Proofs.Ytiigfnlkilfomaa
