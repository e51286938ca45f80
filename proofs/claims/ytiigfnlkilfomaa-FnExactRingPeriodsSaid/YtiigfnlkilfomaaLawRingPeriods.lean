/- The law FnExactRingPeriods returns true for every code and every number. No condition. -/
import Derived.Test.YtiigfnlkilfomaaPerW
import Derived.Test.YtiigfnlkilfomaaOpenCode
namespace Go.Proofs.Ytiigfnlkilfomaa
open Go.ChangeShapes Go.WideShapes Go.ChangeAt Go.RowKit
open Go.ChangeMaps (open_string shut_string)

theorem tail_ex {f : List UInt8 → List UInt8} {l : List UInt8} : ∀ n, ¬ Fresh f l n → ∃ t p, IsTail f l t p
  | 0, h => absurd (fun i j _ hj => absurd hj (Nat.not_lt_zero _)) h
  | n + 1, h => by
    rcases Classical.em (Fresh f l n) with hf | hf
    · obtain ⟨i, hi, e⟩ : ∃ i, i < n ∧ itr f l i = itr f l n := Classical.byContradiction fun hne => h fun i j hij hj e => by
        rcases Nat.lt_or_ge j n with h1 | h1
        · exact hf i j hij h1 e
        · obtain rfl : j = n := by omega
          exact hne ⟨i, hij, e⟩
      exact ⟨i, n - i, ⟨by omega, by rw [show i + (n - i) = n by omega]; exact e.symm, by rw [show i + (n - i) = n by omega]; exact hf⟩⟩
    · exact tail_ex n hf
theorem tails_all {o : ByteArray} {n m : Nat} (h : RFit o n m) : Tails o n m := fun i _ => by
  refine tail_ex (2 ^ m + 1) fun hf => ?_
  have := fresh_le (k := 2) (L := m) (by omega) (fun q => by
    have hw := ring_words (k := 2) (n := n) (o := o) (l := wAt 2 m i) (by omega) h.n1 h.lo (by rw [h.os]; exact Nat.le_refl _) (wAt_lets (k := 2) (by omega) m i) (by rw [wAt_len]; exact h.m1) q
    rw [wAt_len] at hw
    exact hw) hf
  omega
def persOf (k n : Int) (o : ByteArray) (m : Int) (R : List Int) : Prop := R.length ≤ 1000 ∧
  (∀ w, Calls Try.prog 24 #[.agg #[.int .i64 k, .int .i64 n, .string o], .int .i64 m] w fun e w' => ∃ v, e = .returned v ∧ w'.ownsRow w.heap.size 3 1 v R.length (intVals R) ∧ Below w.heap.size w w') ∧
  (∀ w, Calls Try.prog 25 #[.agg #[.int .i64 k, .int .i64 n, .string o], .int .i64 m] w fun e w' => ∃ v, e = .returned v ∧ w'.ownsRow w.heap.size 3 1 v R.length (intVals R) ∧ Below w.heap.size w w')
theorem distinctI_le (zs : List Int) : (distinctI zs).length ≤ zs.length := nodup_le _ _ (distinctI_facts zs).1 fun x hx => ((distinctI_facts zs).2 x).1 hx
theorem pers_ex (k n : Int) (o : ByteArray) (m : Int) (ho : o.size ≤ maxLen) : ∃ R, persOf k n o m R := by
  cases hok : fitsB k n o m
  · exact ⟨[], by simp, fun w => spec_RingPeriods_no k n o m w ho hok, fun w => impl_RingPeriods_no k n o m w ho hok⟩
  · obtain ⟨rfl, nn, mm, rfl, rfl, hR⟩ := fits_facts hok
    refine ⟨distinctI (tps o nn mm (2 ^ mm)), ?_, fun w => spec_RingPeriods_yes nn mm o w ho hR hok (tails_all hR), fun w => impl_RingPeriods_yes nn mm o w ho hR hok⟩
    have h1 := distinctI_le (tps o nn mm (2 ^ mm))
    rw [tps_len] at h1
    have h2 : 2 ^ mm ≤ 2 ^ 8 := Nat.pow_le_pow_right (by omega) hR.m8
    omega
set_option maxHeartbeats 2000000 in
theorem walk_FnExactRingPeriods (W : World) (v : Value) (h : CodeIn v) (m : Int) (hmw : (Lit.int .i64 m).wf = true) :
    Calls Try.prog 9 #[v, .int .i64 m] W fun e W' => e = .returned (.bool true) ∧ Below W.heap.size W W' := by
  obtain ⟨k, n, o, rfl, ho⟩ := h
  clear hmw
  by_cases hbig : 1048576 < o.size
  · go_enter Try.func9, Try.ntmps9
    go_wp2_with fail
    refine (szCode_c k n o 1048576 _ (Nat.le_refl _) ho).mono ?_
    rintro e w1 ⟨rfl, hb1⟩
    go_wp2
    go_ret
    exact ⟨rfl, ((Below.refl _ _).alloc (Nat.le_refl _) _).trans (hb1.mono (by simp))⟩
  obtain ⟨R, hRle, hS, hI⟩ := pers_ex k n o m ho
  obtain ⟨r, hr⟩ : ∃ r, r = R.length := ⟨_, rfl⟩
  rw [← hr] at hS hI hRle
  have HS := hid hS
  have HI := hid hI
  clear hr hS hI
  go_enter Try.func9, Try.ntmps9
  go_wp2_with fail
  refine (szCode_c k n o 1048576 _ (Nat.le_refl _) ho).mono ?_
  rintro e w1 ⟨rfl, hb1⟩
  obtain ⟨⟨hc0, hc1, hc2⟩, _, hz⟩ := box3 hb1
  have hbW : Below W.heap.size W w1 := ((Below.refl _ _).alloc (Nat.le_refl _) _).trans (hb1.mono (by simp))
  have HK := hid (fun (V : World) (hV : Below w1.heap.size w1 V) => (⟨(hV.cell (p := ⟨W.heap.size, 0, none⟩) hz).trans hc0, (hV.cell (p := ⟨W.heap.size, 1, none⟩) hz).trans hc1, (hV.cell (p := ⟨W.heap.size, 2, none⟩) hz).trans hc2⟩ : V.cell? ⟨W.heap.size, 0, none⟩ = some (.int .i64 k) ∧ V.cell? ⟨W.heap.size, 1, none⟩ = some (.int .i64 n) ∧ V.cell? ⟨W.heap.size, 2, none⟩ = some (.string o)))
  go_wp2_with fail
  refine (toCode_c k n o _).mono ?_
  rintro e w2 ⟨rfl, hb2⟩
  go_wp2_with fail
  refine (HS.out _).mono ?_
  rintro e w3 ⟨v1, rfl, ho1, hb3⟩
  obtain ⟨a1, c1, rfl, hr1⟩ := owns_rowAt ho1 (by omega)
  have hB3 := bs hb2 hb3
  clear hc0 hc1 hc2 hb1 ho1
  obtain ⟨h0, h1, h2⟩ := HK.out _ hB3
  go_wp2_with fail
  refine (toCode_c k n o _).mono ?_
  rintro e w4 ⟨rfl, hb4⟩
  clear h0 h1 h2
  go_wp2_with fail
  refine (HI.out _).mono ?_
  rintro e w5 ⟨v2, rfl, ho2, hb5⟩
  obtain ⟨a2, c2, rfl, hr2⟩ := owns_rowAt ho2 (by omega)
  have hC5 := bs hb4 hb5
  go_wp2_with fail
  refine (eqIntS_c a2 a1 r c2 c1 R _ hr2 (hr1.below hC5 (Nat.le_refl _))).mono ?_
  rintro e w6 ⟨rfl, hb6⟩
  have ho3 := owns_below ho2 hb6
  go_wp2_with fail
  refine (markIntS_c _ _ r 1 _ _ ho3 (by omega) (by omega)).mono ?_
  rintro e w7 ⟨rfl, ho4, hg4⟩
  have hb7 : Below w4.heap.size w6 w7 := (Below.refl _ _).grown hg4 (bs hb5 hb6).size (fun k hk => (ho3.lt k hk).1)
  obtain ⟨a4, c4, hv4, hr4⟩ := owns_rowAt ho4 (by omega)
  simp only [Value.slice.injEq, true_and] at hv4
  obtain ⟨rfl, rfl⟩ := hv4
  go_wp2_with fail
  refine (heldIntS_c a2 r c2 1 _ hr4 (by omega)).mono ?_
  rintro e w8 ⟨rfl, rfl⟩
  have hC7 : Below w3.heap.size w3 w7 := (bs hC5 hb6).trans (hb7.mono hb4.size)
  have hB7 := bs hB3 hC7
  clear hr2 ho2 ho3 ho4 hg4 hb7 hb6 hb5 hb4 hC5
  obtain ⟨h0, h1, h2⟩ := HK.out _ hB7
  go_wp2_with fail
  refine (toCode_c k n o _).mono ?_
  rintro e w9 ⟨rfl, hb9⟩
  clear h0 h1 h2
  go_wp2_with fail
  refine (HI.out _).mono ?_
  rintro e w10 ⟨v6, rfl, ho6, hb10⟩
  obtain ⟨a6, c6, rfl, hr6⟩ := owns_rowAt ho6 (by omega)
  have hD := bs hb9 hb10
  go_wp2_with fail
  refine (eqIntS_c a6 a1 r c6 c1 R _ hr6 (hr1.below (bs hC7 hD) (Nat.le_refl _))).mono ?_
  rintro e w11 ⟨rfl, hb11⟩
  have hr7 := hr4.below (bs hD hb11) (Nat.le_refl _)
  go_wp2_with fail
  refine (heldIntS_c a2 r c2 1 _ hr7 (by omega)).mono ?_
  rintro e w12 ⟨rfl, rfl⟩
  go_wp2
  go_ret
  exact ⟨rfl, hbW.trans ((bs (bs hB7 hD) hb11).mono hbW.size)⟩

set_option maxRecDepth 100000 in
theorem lifted_FnExactRingPeriods (os : Os) (started : os.Started) (H : Type) (enc : TypeId × Value → H) :
    ReturnsInHanded {} Try.checked os 9 .any (Rows.fnExactRingPeriodsSpec.pre6 enc Try.prog Try.f9 Rows.fnExactRingPeriodsRow.domain false) (Rows.fnExactRingPeriodsSpec.post enc Try.prog Try.f9 false true false false) := by
  refine returnsInHanded_of_change_sized (C := Try.checked) own started (by kernel_rfl) Try.func9
    (ChangeSpec.witness6 (enc := enc) (C := Try.checked) false ⟨#[], #[.agg #[.int .i64 0, .int .i64 0, .string ByteArray.empty], .int .i64 0], []⟩ 8 (by kernel_rfl) (by kernel_rfl) (by kernel_rfl) (by kernel_rfl)) ?_
  intro W base args ds gs before hval0 hW hcnd hsz0 _
  have hsz : (DataW.weightsEach Try.prog (Try.f9.params.toList ++ Rows.fnExactRingPeriodsSpec.plain.varTypes Try.prog) (ds ++ gs)).all (· ≤ reachBytes) = true := hsz0
  clear hsz0
  have hval : ∀ (j : Nat) t v, Try.f9.params[j]? = some t → args[j]? = some v → Value.okWide Try.prog W .any base t v := hval0
  have hW' := hW
  obtain ⟨p, q, hA0, hV, rfl, hfz, hnd⟩ := hW
  have hA : DataW.TrodAll enc Try.prog W 0 (fun _ => true) true Try.f9.params.toList args.toList ds p := hA0
  rw [Try.params9] at hA hval hsz
  obtain ⟨v0, vs0, d0, ds0, p0, q0, hargs, rfl, rfl, h0, r0⟩ := trodAll_cons hA
  obtain ⟨v1, vs1, d1, ds1, p1, q1, rfl, rfl, rfl, h1, r1⟩ := trodAll_cons r0
  obtain ⟨rfl, rfl, rfl⟩ := trodAll_nil r1
  obtain rfl : args = #[v0, v1] := by cases args; simp_all
  obtain ⟨rfl, rfl⟩ := trodVars_none hV
  have k0 := h0
  have lt0 : ∀ x ∈ p0, x.block < W.heap.size := by obtain ⟨m, hm⟩ := k0; exact DataW.trod_lt m _ _ _ hm
  have k1 := h1
  have lt1 : ∀ x ∈ p1, x.block < W.heap.size := by obtain ⟨m, hm⟩ := k1; exact DataW.trod_lt m _ _ _ hm
  have w0 := open_code (enc := enc) (hval 0 23 v0 rfl rfl) h0 (fun x hx => DataW.weights_mem_each (j := 0) rfl rfl x hx) hsz
  obtain ⟨a1, rfl, _, _, w1⟩ := open_int Try.underlying3 (hval 1 3 v1 rfl rfl) h1
  clear hA0 hval0
  refine (walk_FnExactRingPeriods W v0 w0 a1 w1).mono fun e W' ⟨he, bel⟩ => ?_
  subst he
  exact ⟨_, rfl, _, _, _, [], _, [], hW', trodAll_mk1 (shut_bool Try.underlying4 _), (trodAll_cons_mk (Below.trod laidOut (by kernel_rfl) (of_decide_eq_true (by kernel_rfl)) k0 bel lt0) (trodAll_cons_mk (Below.trod laidOut (by kernel_rfl) (of_decide_eq_true (by kernel_rfl)) k1 bel lt1) trodAll_mk0)), rfl, bel.frame _, fun h => by cases h⟩

theorem closed_FnExactRingPeriods : joinedFacts Try.prog 9 Try.f9 Rows.fnExactRingPeriodsSpec Rows.fnExactRingPeriodsRow = true := by
  unfold joinedFacts
  rw [headMayEnter, headLiftsFinal, headMake]
  kernel_rfl
/-- The law returns true for every input, and its arguments read as before: the given statement. -/
theorem fnExactRingPeriods_holds : Rows.FnExactRingPeriodsSaid :=
  OpenClaim.holds_of_wide 9 Try.f9 rfl rfl rfl rfl rfl rfl rfl ⟨rfl, rfl, rfl, rfl, rfl⟩ rfl rfl rfl rfl rfl (by as_aux_lemma => kernel_rfl) Try.func9 closed_FnExactRingPeriods
    (by as_aux_lemma => exact of_decide_eq_true (by kernel_rfl)) (by unfold Func.isWrapper; first | (rw [if_pos (by decide +kernel)]; kernel_rfl) | (rw [if_neg (by decide +kernel)]; exact ⟨rfl, rfl⟩))
    (fun os started H enc _ => lifted_FnExactRingPeriods os started H enc)
#print axioms fnExactRingPeriods_holds

end Go.Proofs.Ytiigfnlkilfomaa
