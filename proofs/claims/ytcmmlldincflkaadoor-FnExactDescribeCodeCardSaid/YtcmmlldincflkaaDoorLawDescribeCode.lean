/- The law FnExactDescribeCode returns true for every code, as a tied card. No condition but what the card ties. -/
import Derived.Test.YtcmmlldincflkaaDoorDescD
import Derived.Test.YtcmmlldincflkaaDoorGive
import Derived.Test.YtcmmlldincflkaaDoorTie
import Derived.Test.YtcmmlldincflkaaDoorCards
import Derived.LaidMore
import Derived.Stop.Joined
import Derived.Lib.LaidTab
namespace Go.Proofs.YtcmmlldincflkaaDoor
open Go.ChangeShapes Go.WideShapes Go.ChangeAt Go.RowKit
open Go.ChangeMaps (open_string shut_string)

theorem gPow : Tryd.prog.globalNamed "internal/strconv.uint64pow10" = some ((Tryd.prog.globalNamed "internal/strconv.uint64pow10").getD 0) := by kernel_rfl
theorem tPow : (Tryd.prog.globals[(Tryd.prog.globalNamed "internal/strconv.uint64pow10").getD 0]?).map (·.type) = some 86 := by kernel_rfl
theorem cellsU64 : Tryd.prog.cellsOf 77 = 1 := by kernel_rfl
theorem cellsPow : Tryd.prog.cellsOf 86 = 20 := by kernel_rfl
theorem laidPow : (Rows.laid_internal_strconv_uint64pow10 : DataW Unit) = Lib.tabData .u64 Lib.pow10Tab := by kernel_rfl
theorem tab_of_laid {W : World} (h : laidMetH Tryd.prog [("math/bits.deBruijn32tab", Rows.laid_math_bits_deBruijn32tab), ("math/bits.deBruijn64tab", Rows.laid_math_bits_deBruijn64tab), ("internal/strconv.uint64pow10", Rows.laid_internal_strconv_uint64pow10)] W) : TabW W := by
  rw [MakeChecks.laidMetH_plain _ _ _ (by kernel_rfl)] at h
  obtain ⟨ps, ⟨g0, t0, cs0, f0, p0, q0, hg0, ht0, hv0, hd0, ⟨g1, t1, cs1, f1, p1, q1, hg1, ht1, hv1, hd1, ⟨g2, t2, cs2, f2, p2, q2, hg2, ht2, hv2, hd2, _, _⟩, _⟩, _⟩, _, _⟩ := h
  obtain rfl := Option.some.inj (gPow.symm.trans hg2)
  obtain rfl := Option.some.inj (tPow.symm.trans ht2)
  rw [laidPow] at hd2
  unfold TabW Lib.TabIs
  rw [hv2, ← Lib.cells_of_tab Tryd.underlying86 Tryd.underlying77 cellsU64 cellsPow hd2]
theorem spec_DescribeCode_no (k n : Int) (o : ByteArray) (w : World) (ho : o.size ≤ maxLen) (h : isCode k n o = false) :
    Calls Tryd.prog 5 #[.agg #[.int .i64 k, .int .i64 n, .string o]] w fun e w' => e = .returned (.string ⟨#[]⟩) ∧ Below w.heap.size w w' := by
  have HI := hid (fun w : World => spec_IsCode_c k n o w ho)
  rw [h] at HI
  clear h
  go_enter Tryd.func5, Tryd.ntmps5
  go_wp2_with fail
  refine (HI.out _).mono ?_
  rintro e w1 ⟨rfl, hb⟩
  have hb2 : Below w.heap.size w w1 := ((Below.refl _ _).alloc (Nat.le_refl _) _).trans (hb.mono (by simp))
  clear hb HI
  go_wp2
  go_ret
  exact ⟨rfl, hb2⟩
theorem impl_DescribeCode_no (k n : Int) (o : ByteArray) (w : World) (ho : o.size ≤ maxLen) (h : isCode k n o = false) :
    Calls Tryd.prog 7 #[.agg #[.int .i64 k, .int .i64 n, .string o]] w fun e w' => e = .returned (.string ⟨#[]⟩) ∧ Below w.heap.size w w' := by
  have HI := hid (fun w : World => impl_IsCode_c k n o w ho)
  rw [h] at HI
  clear h
  go_enter Tryd.func7, Tryd.ntmps7
  go_wp2_with fail
  refine (HI.out _).mono ?_
  rintro e w1 ⟨rfl, hb⟩
  have hb2 : Below w.heap.size w w1 := ((Below.refl _ _).alloc (Nat.le_refl _) _).trans (hb.mono (by simp))
  clear hb HI
  go_wp2
  go_ret
  exact ⟨rfl, hb2⟩
theorem desc_ex (k n : Int) (o : ByteArray) (ho : o.size ≤ maxLen) : ∃ t : ByteArray, (∀ w, Calls Tryd.prog 5 #[.agg #[.int .i64 k, .int .i64 n, .string o]] w fun e w' => e = .returned (.string t) ∧ Below w.heap.size w w') ∧ ∀ w, TabW w → Calls Tryd.prog 7 #[.agg #[.int .i64 k, .int .i64 n, .string o]] w fun e w' => e = .returned (.string t) ∧ Below w.heap.size w w' := by
  cases h : isCode k n o
  · exact ⟨_, fun w => spec_DescribeCode_no k n o w ho h, fun w _ => impl_DescribeCode_no k n o w ho h⟩
  · obtain ⟨kk, nn, rfl, rfl, _⟩ := code_facts h
    obtain ⟨b, hb, _⟩ := one_ex fun w => spec_IsOneToOne_yes kk nn o w ho h
    exact ⟨_, fun w => spec_DescribeCode_yes kk nn o b hb w ho h, fun w ht => impl_DescribeCode_yes kk nn o b hb w ho h ht⟩
set_option maxHeartbeats 1000000 in
theorem walk_FnExactDescribeCode (W : World) (v : Value) (h : CodeIn v) (ht : TabW W) :
    Calls Tryd.prog 3 #[v] W fun e W' => e = .returned (.bool true) ∧ Below W.heap.size W W' := by
  obtain ⟨k, n, o, rfl, ho⟩ := h
  obtain ⟨t, hS, hI⟩ := desc_ex k n o ho
  have HS := hid hS
  have HI := hid (fun (w : World) (hw : Below W.heap.size W w) => hI w (tab_below ht hw (Nat.le_refl _)))
  clear hS hI ht
  by_cases hb : 1048576 < o.size
  · go_enter Tryd.func3, Tryd.ntmps3
    go_wp2_with fail
    refine (szCode_c k n o 1048576 _ (Nat.le_refl _) ho).mono ?_
    rintro e w1 ⟨rfl, hb1⟩
    go_wp2
    go_ret
    exact ⟨rfl, ((Below.refl _ _).alloc (Nat.le_refl _) _).trans (hb1.mono (by simp))⟩
  · go_enter Tryd.func3, Tryd.ntmps3
    go_wp2_with fail
    refine (szCode_c k n o 1048576 _ (Nat.le_refl _) ho).mono ?_
    rintro e w1 ⟨rfl, hb1⟩
    obtain ⟨⟨hc0, hc1, hc2⟩, _, hz⟩ := box3 hb1
    have hbW : Below W.heap.size W w1 := ((Below.refl _ _).alloc (Nat.le_refl _) _).trans (hb1.mono (by simp))
    go_wp2_with fail
    refine (toCode_c k n o _).mono ?_
    rintro e w2 ⟨rfl, hb2⟩
    go_wp2_with fail
    refine (HS.out _).mono ?_
    rintro e w3 ⟨rfl, hb3⟩
    have hb13 := bs hb2 hb3
    obtain ⟨hcell, _⟩ := bcell hb13
    go_wp2_with fail
    refine (toCode_c k n o _).mono ?_
    rintro e w4 ⟨rfl, hb4⟩
    have hb14 := hbW.trans ((bs hb13 hb4).mono hbW.size)
    go_wp2_with fail
    refine (HI.out _ hb14).mono ?_
    rintro e w5 ⟨rfl, hb5⟩
    go_wp2
    go_ret
    exact ⟨rfl, bs hb14 hb5⟩

theorem door_FnExactDescribeCode (os : Os) (args : Array Value) : laidMetH Tryd.prog Rows.fnExactDescribeCodeRow.laid ((World.doorLaid Tryd.prog 24 os).forCall (fun _ _ => 0) ⟨#[], args, []⟩).memory :=
  laidMetH_of_parts3 (fuel := 8) (laidMet_of_run' 8 (by kernel_rfl) (by kernel_rfl)) (by kernel_rfl) (by kernel_rfl)
set_option maxRecDepth 100000 in
theorem lifted_FnExactDescribeCode (os : Os) (started : os.Started) (H : Type) (enc : TypeId × Value → H) :
    ReturnsInHanded {} Tryd.checked os 3 .any (fun w args => (Rows.fnExactDescribeCodeSpec.pre enc Tryd.prog Tryd.f3 Rows.fnExactDescribeCodeRow.domain false w args ∧ laidMetH Tryd.prog Rows.fnExactDescribeCodeRow.laid w) ∧ sizedMet enc Tryd.prog Tryd.f3 (OpenSpec.ofChange Rows.fnExactDescribeCodeSpec) false w args) (Rows.fnExactDescribeCodeSpec.post enc Tryd.prog Tryd.f3 false true false false) := by
  refine returnsInHanded_of_change_and (C := Tryd.checked) (X := fun w _ => laidMetH Tryd.prog Rows.fnExactDescribeCodeRow.laid w) (fun _ _ _ hh h => h.of_heap hh) own started (by kernel_rfl) Tryd.func3
    (ChangeSpec.witness_shaped (enc := enc) (C := Tryd.checked) (os := os) (X := fun w _ => laidMetH Tryd.prog Rows.fnExactDescribeCodeRow.laid w) false (World.doorLaid Tryd.prog 24 os) #[.agg #[.int .i64 0, .int .i64 0, .string ByteArray.empty]] 8 rfl (World.shaped_of_RefB (by kernel_rfl) (by kernel_rfl)) (by kernel_rfl) (by kernel_rfl) (by kernel_rfl) (door_FnExactDescribeCode os _)) ?_
  intro W base args ds gs before hval0 hW hcnd hsz0 hLaid _
  have htab := tab_of_laid hLaid
  have hsz : (DataW.weightsEach Tryd.prog (Tryd.f3.params.toList ++ Rows.fnExactDescribeCodeSpec.plain.varTypes Tryd.prog) (ds ++ gs)).all (· ≤ reachBytes) = true := hsz0
  clear hsz0
  have hval : ∀ (j : Nat) t v, Tryd.f3.params[j]? = some t → args[j]? = some v → Value.okWide Tryd.prog W .any base t v := hval0
  have hW' := hW
  obtain ⟨p, q, hA0, hV, rfl, hfz, hnd⟩ := hW
  have hA : DataW.TrodAll enc Tryd.prog W 0 (fun _ => true) true Tryd.f3.params.toList args.toList ds p := hA0
  rw [Tryd.params3] at hA hval hsz
  obtain ⟨v0, vs0, d0, ds0, p0, q0, hargs, rfl, rfl, h0, r0⟩ := trodAll_cons hA
  obtain ⟨rfl, rfl, rfl⟩ := trodAll_nil r0
  obtain rfl : args = #[v0] := by cases args; simp_all
  obtain ⟨rfl, rfl⟩ := trodVars_none hV
  have k0 := h0
  have lt0 : ∀ x ∈ p0, x.block < W.heap.size := by obtain ⟨m, hm⟩ := k0; exact DataW.trod_lt m _ _ _ hm
  have w0 := open_code (enc := enc) (hval 0 23 v0 rfl rfl) h0 (fun x hx => DataW.weights_mem_each (j := 0) rfl rfl x hx) hsz
  clear hA0 hval0
  refine (walk_FnExactDescribeCode W v0 w0 htab).mono fun e W' ⟨he, bel⟩ => ?_
  subst he
  exact ⟨_, rfl, _, _, _, [], _, [], hW', trodAll_mk1 (shut_bool Tryd.underlying4 _), (trodAll_cons_mk (Below.trod laidOut (by kernel_rfl) (of_decide_eq_true (by kernel_rfl)) k0 bel lt0) trodAll_mk0), rfl, bel.frame _, fun h => by cases h⟩

theorem closed_FnExactDescribeCode : joinedFacts Tryd.prog 3 Tryd.f3 Rows.fnExactDescribeCodeSpec Rows.fnExactDescribeCodeRow = true := by
  unfold joinedFacts
  rw [headMayEnter, headLiftsFinal, headMake]
  kernel_rfl
/-- The law returns true for every input, and its arguments read as before: the given statement. -/
theorem fnExactDescribeCode_holds : Rows.FnExactDescribeCodeSaid :=
  OpenClaim.holds_of_wide 3 Tryd.f3 rfl rfl rfl rfl rfl rfl rfl ⟨rfl, rfl, rfl, rfl, rfl⟩ rfl rfl rfl rfl rfl (by as_aux_lemma => kernel_rfl) Tryd.func3 closed_FnExactDescribeCode
    (by as_aux_lemma => exact of_decide_eq_true (by kernel_rfl)) (by unfold Func.isWrapper; first | (rw [if_pos (by decide +kernel)]; kernel_rfl) | (rw [if_neg (by decide +kernel)]; exact ⟨rfl, rfl⟩))
    (fun os started H enc _ => lifted_FnExactDescribeCode os started H enc)
theorem fnExactDescribeCode_card : Rows.FnExactDescribeCodeCardSaid :=
  Claim7.holds_tied_plain_at .later [] [.data, .data, .data] true (true, "ccfbe47bf5e2374b921df9a59842e8ce7a467f1e26223a8225383a9be1350b42") false
    fnExactDescribeCode_holds (fun _ h => by cases h) (by kernel_rfl) (fun _ h => by cases h) fnExactDescribeCode_row_tie rfl ⟨rfl, rfl⟩ (by kernel_rfl) rfl
    (fun f fn hf hfn => by
      obtain rfl : f = 3 := Option.some.inj ((show Tryd.prog.funcNamed "loop.example/g03103/laws.FnExactDescribeCode" = some 3 by kernel_rfl).symm.trans hf) |>.symm
      obtain rfl : fn = Tryd.f3 := (Option.some.inj (Tryd.func3.symm.trans hfn)).symm
      exact ⟨by kernel_rfl, fun j t ht => by
        rw [Tryd.params3] at ht
        have hm : t ∈ [23] := by simpa using Array.mem_of_getElem? ht
        have hall : ([23].all fun u => !Tryd.prog.wantsStandIn u) = true := by kernel_rfl
        exact (show Tryd.prog.wantsStandIn t = false by simpa using List.all_eq_true.1 hall t hm)⟩)
    (by kernel_rfl)
#print axioms fnExactDescribeCode_card

end Go.Proofs.YtcmmlldincflkaaDoor
