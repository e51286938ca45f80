/- The law FnExactCountTable returns true for every list of texts. No condition. -/
import Derived.Test.YtomeinlaiidmpaaTable
import Derived.Test.YtomeinlaiidmpaaOpen
namespace Go.Proofs.Ytomeinlaiidmpaa
open Go.ChangeShapes Go.WideShapes Go.ChangeAt Go.RowKit
open Go.ChangeMaps (open_string shut_string)

theorem TGrid.grown {T1 T0 : TypeId} {w w' : World} {base : Nat} {v : Value} {rows : List (List Int)} {row : Option Nat} (h : TGrid T1 T0 w base v rows) (hg : w.grownBy w' row) (hk : ∀ k, row = some k → k < base) : TGrid T1 T0 w' base v rows := by
  obtain ⟨vs, ho, hr⟩ := h
  have key : ∀ {e n : Nat} {x : Value} {xs : List Value}, w.ownsRow base e 1 x n xs → w'.ownsRow base e 1 x n xs := by
    intro e n x xs hx
    refine hx.kept hg ?_
    cases hb : x.ownBlock with
    | none => exact Or.inl rfl
    | some b =>
      refine Or.inr fun hh => ?_
      have h1 := (hx.lt b hb).1
      have h2 := hk b hh.symm
      omega
  exact ⟨vs, key ho, hr.len, fun i x r hx hr' => key (hr.own i x r hx hr'), hr.apart⟩
theorem drewN_below {w w' : World} (h : ∃ m, w' = w.drewN m) : Below w.heap.size w w' := by
  obtain ⟨q, rfl⟩ := h
  exact below_drewN (Below.refl _ _) q
theorem ctOf_small {ss : List ByteArray} : (ctOf ss).length ≤ 3 ∧ (∀ r ∈ ctOf ss, r.length ≤ 3) ∧ cells (ctOf ss) ≤ 9 := by
  unfold ctOf
  split
  · rename_i h
    have hl := subst_len h
    refine ⟨by rw [ct_len]; omega, fun r hr => ?_, ?_⟩
    · simp only [ctAt, List.mem_map, List.mem_range] at hr
      obtain ⟨i, _, rfl⟩ := hr
      rw [ctRow_len]; omega
    · have : (ctAt ss.length ss ss.length 0).map List.length = List.replicate ss.length ss.length := by
        unfold ctAt
        refine List.ext_getElem (by simp) fun i h1 h2 => by simp [ctRow_len]
      unfold cells
      rw [this, List.sum_replicate_nat]
      rcases hl with h | h <;> rw [h] <;> decide
  · simp [cells]
theorem tab_of {T1 T0 : TypeId} {w : World} {base : Nat} {a : Option Addr} {n cap : Nat} {rows : List (List Int)} (h : TGrid T1 T0 w base (.slice a n cap) rows) (h3 : rows.length ≤ 3) (hr3 : ∀ r ∈ rows, r.length ≤ 140737488351232) : TabAt w a n rows ∧ n = rows.length := by
  obtain ⟨a', c', hv, ht⟩ := grid_tabAt h (by omega) hr3
  simp only [Value.slice.injEq] at hv
  obtain ⟨rfl, rfl, rfl⟩ := hv
  exact ⟨ht, rfl⟩
theorem markTab_rows {k : Nat} {rows : List (List Int)} (h : ∀ r ∈ rows, r.length ≤ 3) : ∀ r ∈ markTab k rows, r.length ≤ 140737488351232 := by
  induction rows generalizing k with
  | nil => simp [markTab]
  | cons q qs ih =>
    intro r hr
    simp only [markTab, List.mem_cons] at hr
    rcases hr with rfl | hr
    · rw [markRow_len]; have := h q (by simp); omega
    · exact ih (fun r hr => h r (by simp [hr])) r hr

set_option maxHeartbeats 2000000 in
theorem walk_FnExactCountTable (W : World) (v : Value) (h : StrsIn W v) :
    Calls Try.prog 5 #[v] W fun e W' => e = .returned (.bool true) ∧ Below W.heap.size W W' := by
  obtain ⟨a, n, c, ss, rfl, hr, hlim, hs⟩ := h
  have HS := hid hs
  clear hs
  obtain ⟨R, hR⟩ : ∃ R, R = ctOf ss := ⟨_, rfl⟩
  have hsm := ctOf_small (ss := ss)
  rw [← hR] at hsm
  obtain ⟨hR3, hRr, hRc⟩ := hsm
  have HRR := hid (fun r hr => Nat.le_trans (hRr r hr) (by omega : 3 ≤ 140737488351232))
  have HMR := hid (markTab_rows (k := 1) hRr)
  have HR := hid hR
  obtain ⟨m, hm⟩ : ∃ m, m = R.length := ⟨_, rfl⟩
  obtain ⟨cc, hcc⟩ : ∃ cc, cc = cells R := ⟨_, rfl⟩
  have HM := hid hm
  have HCC := hid hcc
  rw [← hm] at hR3
  rw [← hcc] at hRc
  clear hR hRr hm hcc
  have hn := hr.lim
  go_enter Try.func5, Try.ntmps5
  go_wp2_with fail
  refine (szStringS_c a n c 1048576 ss _ hr (by omega) HS.out).mono ?_
  rintro e w1 ⟨rfl, r, rfl, hcase⟩
  clear hcase
  by_cases hr0 : r < 0
  · go_wp2
    go_ret
    exact ⟨rfl, Below.refl _ _⟩
  · go_wp2_with fail
    refine (toStringS_c a n c ss _ hr hlim).mono ?_
    rintro e w1 ⟨v1, rfl, ho1, hb1⟩
    obtain ⟨a1, c1, rfl, hr1⟩ := owns_rowAt ho1 hr.lim
    go_wp2_with fail
    refine (spec_CountTable_c a1 n c1 ss _ hr1 HS.out).mono ?_
    rintro e w2 ⟨v2, rfl, hg2, hb2⟩
    rw [← HR.out] at hg2
    obtain ⟨a2, c2, hv2, ht2⟩ := grid_tabAt hg2 (by rw [← HM.out]; omega) HRR.out
    rw [← HM.out] at hv2 ht2
    subst hv2
    have B02 := bs hb1 hb2
    go_wp2_with fail
    refine (toStringS_c a n c ss _ (rowAt_trans hr B02) hlim).mono ?_
    rintro e w3 ⟨v3, rfl, ho3, hb3⟩
    obtain ⟨a3, c3, rfl, hr3⟩ := owns_rowAt ho3 hr.lim
    go_wp2_with fail
    refine (impl_CountTable_c a3 n c3 ss _ hr3 HS.out).mono ?_
    rintro e w4 ⟨v4, rfl, hg4, hb4⟩
    rw [← HR.out] at hg4
    obtain ⟨a4, c4, hv4, ht4⟩ := grid_tabAt hg4 (by rw [← HM.out]; omega) HRR.out
    rw [← HM.out] at hv4 ht4
    subst hv4
    go_wp2_with fail
    refine (eqIntSS_c a4 a2 m c4 c2 R _ ht4 (ht2.below (bs hb3 hb4) (Nat.le_refl _))).mono ?_
    rintro e w5 ⟨rfl, hd5⟩
    have hb5 := drewN_below hd5
    clear hd5
    have C25 := bs (bs hb3 hb4) hb5
    have C05 := bs B02 C25
    go_wp2_with fail
    refine (toStringS_c a n c ss _ (rowAt_trans hr C05) hlim).mono ?_
    rintro e w6 ⟨v6, rfl, ho6, hb6⟩
    obtain ⟨a6, c6, rfl, hr6⟩ := owns_rowAt ho6 hr.lim
    go_wp2_with fail
    have C36 := bs (bs hb4 hb5) hb6
    refine (eqStringS_c a3 a6 n c3 c6 ss _ (rowAt_trans hr3 C36) hr6).mono ?_
    rintro e w7 ⟨rfl, hb7⟩
    have C37 := bs C36 hb7
    have ho7 := owns_below ho3 C37
    go_wp2_with fail
    refine (markStringS_c _ _ n 1 _ _ ho7 (by omega) (by omega)).mono ?_
    rintro e w8 ⟨rfl, ho8, hg8⟩
    have C47 := bs (bs hb5 hb6) hb7
    have hg4' := (hg4.below C47).grown hg8 (fun k hk => (ho3.lt k hk).2)
    have C27 := bs hb3 C37
    have C28 : Below w2.heap.size w2 w8 := C27.grown hg8 C27.size (fun k hk => (ho7.lt k hk).1)
    have ht8 := (tab_of hg4' (by rw [← HM.out]; omega) HRR.out).1
    go_wp2_with fail
    refine (eqIntSS_c a4 a2 m c4 c2 R _ ht8 (ht2.below C28 (Nat.le_refl _))).mono ?_
    rintro e w9 ⟨rfl, hd9⟩
    have hb9 := drewN_below hd9
    clear hd9
    have hg9 := hg4'.below hb9
    have C29 := C28.trans (hb9.mono C28.size)
    have hs39 : w3.heap.size ≤ w9.heap.size := Nat.le_trans C37.size (Nat.le_trans hg8.size hb9.size)
    go_wp2_with fail
    refine (markIntSS_c w3.heap.size _ 1 R _ hg9 (by rw [← HCC.out]; omega) (by rw [← HM.out]; omega) hs39).mono ?_
    rintro e w10 ⟨rfl, hg10, hb10⟩
    rw [← HCC.out]
    have C210 := C29.trans (hb10.mono hb3.size)
    have ht10 := (tab_of hg10 (by rw [markTab_len, ← HM.out]; omega) HMR.out).1
    go_wp2_with fail
    refine (heldIntSS_c a4 m c4 1 R _ ht10 (by rw [← HCC.out]; omega)).mono ?_
    rintro e w11 ⟨rfl, rfl⟩
    rw [← HCC.out]
    have C010 := B02.trans (C210.mono B02.size)
    go_wp2_with fail
    refine (toStringS_c a n c ss _ (rowAt_trans hr C010) hlim).mono ?_
    rintro e w12 ⟨v12, rfl, ho12, hb12⟩
    obtain ⟨a12, c12, rfl, hr12⟩ := owns_rowAt ho12 hr.lim
    go_wp2_with fail
    refine (impl_CountTable_c a12 n c12 ss _ hr12 HS.out).mono ?_
    rintro e w13 ⟨v13, rfl, hg13, hb13⟩
    rw [← HR.out] at hg13
    obtain ⟨a13, c13, hv13, ht13⟩ := grid_tabAt hg13 (by rw [← HM.out]; omega) HRR.out
    rw [← HM.out] at hv13 ht13
    subst hv13
    have D1013 := bs hb12 hb13
    have C213 := C210.trans (D1013.mono C210.size)
    go_wp2_with fail
    refine (eqIntSS_c a13 a2 m c13 c2 R _ ht13 (ht2.below C213 (Nat.le_refl _))).mono ?_
    rintro e w14 ⟨rfl, hd14⟩
    have hb14 := drewN_below hd14
    clear hd14
    have ht14 := (tab_of (hg10.below (bs D1013 hb14)) (by rw [markTab_len, ← HM.out]; omega) HMR.out).1
    go_wp2_with fail
    refine (heldIntSS_c a4 m c4 1 R _ ht14 (by rw [← HCC.out]; omega)).mono ?_
    rintro e w15 ⟨rfl, rfl⟩
    rw [← HCC.out]
    go_wp2
    go_ret
    exact ⟨rfl, C010.trans ((bs D1013 hb14).mono C010.size)⟩

set_option maxRecDepth 100000 in
theorem lifted_FnExactCountTable (os : Os) (started : os.Started) (H : Type) (enc : TypeId × Value → H) :
    ReturnsInHanded {} Try.checked os 5 .any (Rows.fnExactCountTableSpec.pre6 enc Try.prog Try.f5 Rows.fnExactCountTableRow.domain false) (Rows.fnExactCountTableSpec.post enc Try.prog Try.f5 false true false false) := by
  refine returnsInHanded_of_change_sized (C := Try.checked) own started (by kernel_rfl) Try.func5
    (ChangeSpec.witness6 (enc := enc) (C := Try.checked) false ⟨#[], #[.slice none 0 0], []⟩ 8 (by kernel_rfl) (by kernel_rfl) (by kernel_rfl) (by kernel_rfl)) ?_
  intro W base args ds gs before hval0 hW hcnd hsz0 _
  have hsz : (DataW.weightsEach Try.prog (Try.f5.params.toList ++ Rows.fnExactCountTableSpec.plain.varTypes Try.prog) (ds ++ gs)).all (· ≤ reachBytes) = true := hsz0
  clear hsz0
  have hval : ∀ (j : Nat) t v, Try.f5.params[j]? = some t → args[j]? = some v → Value.okWide Try.prog W .any base t v := hval0
  have hW' := hW
  obtain ⟨p, q, hA0, hV, rfl, hfz, hnd⟩ := hW
  have hA : DataW.TrodAll enc Try.prog W 0 (fun _ => true) true Try.f5.params.toList args.toList ds p := hA0
  rw [Try.params5] at hA hval hsz
  obtain ⟨v0, vs0, d0, ds0, p0, q0, hargs, rfl, rfl, h0, r0⟩ := trodAll_cons hA
  obtain ⟨rfl, rfl, rfl⟩ := trodAll_nil r0
  obtain rfl : args = #[v0] := by cases args; simp_all
  obtain ⟨rfl, rfl⟩ := trodVars_none hV
  have k0 := h0
  have lt0 : ∀ x ∈ p0, x.block < W.heap.size := by obtain ⟨m, hm⟩ := k0; exact DataW.trod_lt m _ _ _ hm
  have w0 := open_strs (enc := enc) (hval 0 27 v0 rfl rfl) h0 (fun x hx => DataW.weights_mem_each (j := 0) rfl rfl x hx) hsz
  clear hA0 hval0
  refine (walk_FnExactCountTable W v0 w0).mono fun e W' ⟨he, bel⟩ => ?_
  subst he
  exact ⟨_, rfl, _, _, _, [], _, [], hW', trodAll_mk1 (shut_bool Try.underlying4 _), (trodAll_cons_mk (Below.trod laidOut (by kernel_rfl) (of_decide_eq_true (by kernel_rfl)) k0 bel lt0) trodAll_mk0), rfl, bel.frame _, fun h => by cases h⟩

theorem closed_FnExactCountTable : joinedFacts Try.prog 5 Try.f5 Rows.fnExactCountTableSpec Rows.fnExactCountTableRow = true := by
  unfold joinedFacts
  rw [headMayEnter, headLiftsFinal, headMake]
  kernel_rfl
/-- The law returns true for every input, and its arguments read as before: the given statement. -/
theorem fnExactCountTable_holds : Rows.FnExactCountTableSaid :=
  OpenClaim.holds_of_wide 5 Try.f5 rfl rfl rfl rfl rfl rfl rfl ⟨rfl, rfl, rfl, rfl, rfl⟩ rfl rfl rfl rfl rfl (by as_aux_lemma => kernel_rfl) Try.func5 closed_FnExactCountTable
    (by as_aux_lemma => exact of_decide_eq_true (by kernel_rfl)) (by unfold Func.isWrapper; first | (rw [if_pos (by decide +kernel)]; kernel_rfl) | (rw [if_neg (by decide +kernel)]; exact ⟨rfl, rfl⟩))
    (fun os started H enc _ => lifted_FnExactCountTable os started H enc)
#print axioms fnExactCountTable_holds

end Go.Proofs.Ytomeinlaiidmpaa
