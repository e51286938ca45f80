/- The law FnExactRingAfter returns true for every code, every text and every number. No condition. -/
import Derived.Test.YtiigfnlkilfomaaAfter
import Derived.Test.YtiigfnlkilfomaaBox
import Derived.Test.YtiigfnlkilfomaaOpenCode
namespace Go.Proofs.Ytiigfnlkilfomaa
open Go.ChangeShapes Go.WideShapes Go.ChangeAt Go.RowKit
open Go.ChangeMaps (open_string shut_string)

set_option maxHeartbeats 1000000 in
theorem walk_FnExactRingAfter (W : World) (v : Value) (h : CodeIn v) (s : ByteArray) (hs : s.size ≤ maxLen) (m : Int) (hmw : (Lit.int .i64 m).wf = true) :
    Calls Try.prog 4 #[v, .string s, .int .i64 m] W fun e W' => e = .returned (.bool true) ∧ Below W.heap.size W W' := by
  obtain ⟨k, n, o, rfl, ho⟩ := h
  have hs2 := hs
  unfold maxLen at hs2
  by_cases hs1 : 1048576 < s.size
  · go_enter Try.func4, Try.ntmps4
    go_wp2
    go_ret
    exact ⟨rfl, (Below.refl _ _).alloc (Nat.le_refl _) _⟩
  by_cases hbig : 1048576 < o.size
  · skip
    go_enter Try.func4, Try.ntmps4
    go_wp2_with fail
    refine (szCode_c k n o 1048576 _ (Nat.le_refl _) ho).mono ?_
    rintro e w1 ⟨rfl, hb1⟩
    go_wp2
    go_ret
    exact ⟨rfl, ((Below.refl _ _).alloc (Nat.le_refl _) _).trans (hb1.mono (by simp))⟩
  cases hok : afterOk k n o s m
  · have HS := hid (fun w : World => spec_RingAfter_no k n o s m w ho hs hok)
    have HI := hid (fun w : World => impl_RingAfter_no k n o s m w ho hs hok)
    clear hok hmw
    go_enter Try.func4, Try.ntmps4
    go_wp2_with fail
    refine (szCode_c k n o 1048576 _ (Nat.le_refl _) ho).mono ?_
    rintro e w1 ⟨rfl, hb1⟩
    obtain ⟨⟨hc0, hc1, hc2⟩, _, hz⟩ := box3 hb1
    have hbW : Below W.heap.size W w1 := ((Below.refl _ _).alloc (Nat.le_refl _) _).trans (hb1.mono (by simp))
    go_wp2_with fail
    refine (toCode_c k n o _).mono ?_
    rintro e w2 ⟨rfl, hb2⟩
    go_wp2_with fail
    refine (HS.out _).mono ?_
    rintro e w3 ⟨rfl, hb3⟩
    have hbW3 : Below W.heap.size W w3 := hbW.trans ((bs hb2 hb3).mono hbW.size)
    obtain ⟨e0, e1, e2⟩ := three (cells_below (A := #[.int .i64 k, .int .i64 n, .string o]) (fun q => match q with | 0 => hc0 | 1 => hc1 | 2 => hc2 | q + 3 => by rw [box_kept (show Below (W.heap.size + 1) _ w1 by simpa using hb1) (q + 3) |>.1]) (bs hb2 hb3) hz)
    clear hc0 hc1 hc2
    go_wp2_with fail
    refine (toCode_c k n o _).mono ?_
    rintro e w4 ⟨rfl, hb4⟩
    go_wp2_with fail
    refine (HI.out _).mono ?_
    rintro e w5 ⟨rfl, hb5⟩
    have hbW5 := hbW3.trans ((bs hb4 hb5).mono hbW3.size)
    go_wp2
    go_ret
    exact ⟨rfl, hbW5⟩
  · obtain ⟨ht, hm0, hm1⟩ := after_facts hok
    obtain ⟨mm, rfl⟩ : ∃ mm : Nat, m = mm := ⟨m.toNat, by omega⟩
    obtain ⟨kk, nn, rfl, rfl, hrest⟩ := ring_facts (tail_facts ht).1
    clear hrest
    have HS := hid (fun w : World => spec_RingAfter_yes kk nn o s mm w ho ht (by omega))
    have HI := hid (fun w : World => impl_RingAfter_yes kk nn o s mm w ho hs ht (by omega))
    obtain ⟨k, hk⟩ : ∃ k : Int, k = kk := ⟨_, rfl⟩
    obtain ⟨n, hn⟩ : ∃ n : Int, n = nn := ⟨_, rfl⟩
    obtain ⟨m, hm⟩ : ∃ m : Int, m = mm := ⟨_, rfl⟩
    rw [← hk, ← hn, ← hm] at HS HI
    rw [← hk, ← hn, ← hm]
    clear hok hk hn hm hm0 hm1 hmw ht
    go_enter Try.func4, Try.ntmps4
    go_wp2_with fail
    refine (szCode_c k n o 1048576 _ (Nat.le_refl _) ho).mono ?_
    rintro e w1 ⟨rfl, hb1⟩
    obtain ⟨⟨hc0, hc1, hc2⟩, _, hz⟩ := box3 hb1
    have hbW : Below W.heap.size W w1 := ((Below.refl _ _).alloc (Nat.le_refl _) _).trans (hb1.mono (by simp))
    go_wp2_with fail
    refine (toCode_c k n o _).mono ?_
    rintro e w2 ⟨rfl, hb2⟩
    go_wp2_with fail
    refine (HS.out _).mono ?_
    rintro e w3 ⟨t, p, hT, rfl, hb3⟩
    have hbW3 : Below W.heap.size W w3 := hbW.trans ((bs hb2 hb3).mono hbW.size)
    obtain ⟨e0, e1, e2⟩ := three (cells_below (A := #[.int .i64 k, .int .i64 n, .string o]) (fun q => match q with | 0 => hc0 | 1 => hc1 | 2 => hc2 | q + 3 => by rw [box_kept (show Below (W.heap.size + 1) _ w1 by simpa using hb1) (q + 3) |>.1]) (bs hb2 hb3) hz)
    clear hc0 hc1 hc2
    go_wp2_with fail
    refine (toCode_c k n o _).mono ?_
    rintro e w4 ⟨rfl, hb4⟩
    go_wp2_with fail
    refine (HI.out _).mono ?_
    rintro e w5 ⟨t2, p2, hT2, rfl, hb5⟩
    have hbW5 := hbW3.trans ((bs hb4 hb5).mono hbW3.size)
    obtain ⟨rfl, rfl⟩ := isTail_unique hT hT2
    obtain ⟨y, hy⟩ : ∃ y, y = txt (itr (ringB o kk nn) s.data.toList (redn t p mm)) := ⟨_, rfl⟩
    rw [← hy]
    clear hT hT2 hy
    go_wp2
    go_ret
    exact ⟨rfl, hbW5⟩

set_option maxRecDepth 100000 in
theorem lifted_FnExactRingAfter (os : Os) (started : os.Started) (H : Type) (enc : TypeId × Value → H) :
    ReturnsInHanded {} Try.checked os 4 .any (Rows.fnExactRingAfterSpec.pre6 enc Try.prog Try.f4 Rows.fnExactRingAfterRow.domain false) (Rows.fnExactRingAfterSpec.post enc Try.prog Try.f4 false true false false) := by
  refine returnsInHanded_of_change_sized (C := Try.checked) own started (by kernel_rfl) Try.func4
    (ChangeSpec.witness6 (enc := enc) (C := Try.checked) false ⟨#[], #[.agg #[.int .i64 0, .int .i64 0, .string ByteArray.empty], .string ByteArray.empty, .int .i64 0], []⟩ 8 (by kernel_rfl) (by kernel_rfl) (by kernel_rfl) (by kernel_rfl)) ?_
  intro W base args ds gs before hval0 hW hcnd hsz0 _
  have hsz : (DataW.weightsEach Try.prog (Try.f4.params.toList ++ Rows.fnExactRingAfterSpec.plain.varTypes Try.prog) (ds ++ gs)).all (· ≤ reachBytes) = true := hsz0
  clear hsz0
  have hval : ∀ (j : Nat) t v, Try.f4.params[j]? = some t → args[j]? = some v → Value.okWide Try.prog W .any base t v := hval0
  have hW' := hW
  obtain ⟨p, q, hA0, hV, rfl, hfz, hnd⟩ := hW
  have hA : DataW.TrodAll enc Try.prog W 0 (fun _ => true) true Try.f4.params.toList args.toList ds p := hA0
  rw [Try.params4] at hA hval hsz
  obtain ⟨v0, vs0, d0, ds0, p0, q0, hargs, rfl, rfl, h0, r0⟩ := trodAll_cons hA
  obtain ⟨v1, vs1, d1, ds1, p1, q1, rfl, rfl, rfl, h1, r1⟩ := trodAll_cons r0
  obtain ⟨v2, vs2, d2, ds2, p2, q2, rfl, rfl, rfl, h2, r2⟩ := trodAll_cons r1
  obtain ⟨rfl, rfl, rfl⟩ := trodAll_nil r2
  obtain rfl : args = #[v0, v1, v2] := by cases args; simp_all
  obtain ⟨rfl, rfl⟩ := trodVars_none hV
  have k0 := h0
  have lt0 : ∀ x ∈ p0, x.block < W.heap.size := by obtain ⟨m, hm⟩ := k0; exact DataW.trod_lt m _ _ _ hm
  have k1 := h1
  have lt1 : ∀ x ∈ p1, x.block < W.heap.size := by obtain ⟨m, hm⟩ := k1; exact DataW.trod_lt m _ _ _ hm
  have k2 := h2
  have lt2 : ∀ x ∈ p2, x.block < W.heap.size := by obtain ⟨m, hm⟩ := k2; exact DataW.trod_lt m _ _ _ hm
  have w0 := open_code (enc := enc) (hval 0 23 v0 rfl rfl) h0 (fun x hx => DataW.weights_mem_each (j := 0) rfl rfl x hx) hsz
  obtain ⟨a1, rfl, _, _, w1⟩ := open_string Try.underlying9 (hval 1 9 v1 rfl rfl) h1
  obtain ⟨a2, rfl, _, _, w2⟩ := open_int Try.underlying3 (hval 2 3 v2 rfl rfl) h2
  clear hA0 hval0
  refine (walk_FnExactRingAfter W v0 w0 a1 w1 a2 w2).mono fun e W' ⟨he, bel⟩ => ?_
  subst he
  exact ⟨_, rfl, _, _, _, [], _, [], hW', trodAll_mk1 (shut_bool Try.underlying4 _), (trodAll_cons_mk (Below.trod laidOut (by kernel_rfl) (of_decide_eq_true (by kernel_rfl)) k0 bel lt0) (trodAll_cons_mk (Below.trod laidOut (by kernel_rfl) (of_decide_eq_true (by kernel_rfl)) k1 bel lt1) (trodAll_cons_mk (Below.trod laidOut (by kernel_rfl) (of_decide_eq_true (by kernel_rfl)) k2 bel lt2) trodAll_mk0))), rfl, bel.frame _, fun h => by cases h⟩

theorem closed_FnExactRingAfter : joinedFacts Try.prog 4 Try.f4 Rows.fnExactRingAfterSpec Rows.fnExactRingAfterRow = true := by
  unfold joinedFacts
  rw [headMayEnter, headLiftsFinal, headMake]
  kernel_rfl
/-- The law returns true for every input, and its arguments read as before: the given statement. -/
theorem fnExactRingAfter_holds : Rows.FnExactRingAfterSaid :=
  OpenClaim.holds_of_wide 4 Try.f4 rfl rfl rfl rfl rfl rfl rfl ⟨rfl, rfl, rfl, rfl, rfl⟩ rfl rfl rfl rfl rfl (by as_aux_lemma => kernel_rfl) Try.func4 closed_FnExactRingAfter
    (by as_aux_lemma => exact of_decide_eq_true (by kernel_rfl)) (by unfold Func.isWrapper; first | (rw [if_pos (by decide +kernel)]; kernel_rfl) | (rw [if_neg (by decide +kernel)]; exact ⟨rfl, rfl⟩))
    (fun os started H enc _ => lifted_FnExactRingAfter os started H enc)
#print axioms fnExactRingAfter_holds

end Go.Proofs.Ytiigfnlkilfomaa
