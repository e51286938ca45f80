/- The law FnExactNumbersText returns true for every list of ints, as a tied card. No condition but what the card ties. -/
import Derived.Test.YtfkfhjehmhajeaaDoorNums
import Derived.Test.YtfkfhjehmhajeaaDoorIntsIn
import Derived.Test.YtfkfhjehmhajeaaDoorTie
import Derived.Test.YtfkfhjehmhajeaaDoorCards
import Derived.LaidMore
import Derived.Stop.Joined
import Derived.Lib.LaidTab
namespace Go.Proofs.YtfkfhjehmhajeaaDoor
open Go.ChangeShapes Go.WideShapes Go.ChangeAt Go.RowKit
open Go.ChangeMaps (open_string shut_string)

theorem gPow : Tryd.prog.globalNamed "internal/strconv.uint64pow10" = some ((Tryd.prog.globalNamed "internal/strconv.uint64pow10").getD 0) := by kernel_rfl
theorem tPow : (Tryd.prog.globals[(Tryd.prog.globalNamed "internal/strconv.uint64pow10").getD 0]?).map (·.type) = some 54 := by kernel_rfl
theorem cellsU64 : Tryd.prog.cellsOf 47 = 1 := by kernel_rfl
theorem cellsPow : Tryd.prog.cellsOf 54 = 20 := by kernel_rfl
theorem laidPow : (Rows.laid_internal_strconv_uint64pow10 : DataW Unit) = Lib.tabData .u64 Lib.pow10Tab := by kernel_rfl
theorem tab_of_laid {W : World} (h : laidMetH Tryd.prog [("math/bits.deBruijn32tab", Rows.laid_math_bits_deBruijn32tab), ("math/bits.deBruijn64tab", Rows.laid_math_bits_deBruijn64tab), ("internal/strconv.uint64pow10", Rows.laid_internal_strconv_uint64pow10)] W) : TabW W := by
  rw [MakeChecks.laidMetH_plain _ _ _ (by kernel_rfl)] at h
  obtain ⟨ps, ⟨g0, t0, cs0, f0, p0, q0, hg0, ht0, hv0, hd0, ⟨g1, t1, cs1, f1, p1, q1, hg1, ht1, hv1, hd1, ⟨g2, t2, cs2, f2, p2, q2, hg2, ht2, hv2, hd2, _, _⟩, _⟩, _⟩, _, _⟩ := h
  obtain rfl := Option.some.inj (gPow.symm.trans hg2)
  obtain rfl := Option.some.inj (tPow.symm.trans ht2)
  rw [laidPow] at hd2
  unfold TabW Lib.TabIs
  rw [hv2, ← Lib.cells_of_tab Tryd.underlying54 Tryd.underlying47 cellsU64 cellsPow hd2]
set_option maxHeartbeats 1000000 in
theorem walk_FnExactNumbersText (W : World) (v : Value) (h : IntsIn W v) (ht : TabW W) :
    Calls Tryd.prog 3 #[v] W fun e W' => e = .returned (.bool true) ∧ Below W.heap.size W W' := by
  obtain ⟨a, n, c, xs, rfl, hr, hlim, hb⟩ := h
  have HR := hid hr
  have HN := hid hr.lim
  by_cases hbig : 1048576 < n
  · have hb2 : (1048576 : Int) < (n : Int) := by omega
    clear hr ht hb
    go_enter Tryd.func3, Tryd.ntmps3
    go_wp2
    go_ret
    exact ⟨rfl, Below.refl _ _⟩
  · have hb2 : ¬ ((1048576 : Int) < (n : Int)) := by omega
    have HS := hid (fun (a : Option Addr) (c : Nat) (w : World) h => spec_NumbersText_c a n c xs w h hb (by omega))
    have HI := hid (fun (a : Option Addr) (c : Nat) (w : World) h (hw : Below W.heap.size W w) => impl_NumbersText_c a n c xs w h hb (by omega) (tab_below ht hw (Nat.le_refl _)))
    obtain ⟨res, hres⟩ : ∃ res, res = numsT xs := ⟨_, rfl⟩
    rw [← hres] at HS HI
    clear hres ht hb hr
    go_enter Tryd.func3, Tryd.ntmps3
    go_wp2_with fail
    refine (toIntS_c a n c xs _ HR.out hlim).mono ?_
    rintro e w1 ⟨v1, rfl, ho1, hb1⟩
    obtain ⟨a1, c1, rfl, hr1⟩ := owns_rowAt ho1 HN.out
    go_wp2_with fail
    refine (HS.out _ _ _ hr1).mono ?_
    rintro e w2 ⟨rfl, hb2⟩
    have hb12 := bs hb1 hb2
    have hr2 := rowAt_trans HR.out hb12
    go_wp2_with fail
    refine (toIntS_c a n c xs _ hr2 hlim).mono ?_
    rintro e w3 ⟨v2, rfl, ho2, hb3⟩
    obtain ⟨a2, c2, rfl, hr2'⟩ := owns_rowAt ho2 HN.out
    have hb13 := bs hb12 hb3
    go_wp2_with fail
    refine (HI.out _ _ _ hr2' hb13).mono ?_
    rintro e w4 ⟨rfl, hb4⟩
    have hb14 := bs hb13 hb4
    have hr3 := rowAt_trans HR.out hb14
    go_wp2_with fail
    refine (toIntS_c a n c xs _ hr3 hlim).mono ?_
    rintro e w5 ⟨v3, rfl, ho3, hb5⟩
    obtain ⟨a3, c3, rfl, hr3'⟩ := owns_rowAt ho3 HN.out
    go_wp2_with fail
    refine (eqIntS_c a2 a3 n c2 c3 xs _ (rowAt_trans hr2' (bs hb4 hb5)) hr3').mono ?_
    rintro e w6 ⟨rfl, hb6⟩
    go_wp2
    go_ret
    exact ⟨rfl, bs (bs hb14 hb5) hb6⟩

theorem door_FnExactNumbersText (os : Os) (args : Array Value) : laidMetH Tryd.prog Rows.fnExactNumbersTextRow.laid ((World.doorLaid Tryd.prog 24 os).forCall (fun _ _ => 0) ⟨#[], args, []⟩).memory :=
  laidMetH_of_parts3 (fuel := 8) (laidMet_of_run' 8 (by kernel_rfl) (by kernel_rfl)) (by kernel_rfl) (by kernel_rfl)
set_option maxRecDepth 100000 in
theorem lifted_FnExactNumbersText (os : Os) (started : os.Started) (H : Type) (enc : TypeId × Value → H) :
    ReturnsInHanded {} Tryd.checked os 3 .any (fun w args => (Rows.fnExactNumbersTextSpec.pre enc Tryd.prog Tryd.f3 Rows.fnExactNumbersTextRow.domain false w args ∧ laidMetH Tryd.prog Rows.fnExactNumbersTextRow.laid w) ∧ sizedMet enc Tryd.prog Tryd.f3 (OpenSpec.ofChange Rows.fnExactNumbersTextSpec) false w args) (Rows.fnExactNumbersTextSpec.post enc Tryd.prog Tryd.f3 false true false false) := by
  refine returnsInHanded_of_change_and (C := Tryd.checked) (X := fun w _ => laidMetH Tryd.prog Rows.fnExactNumbersTextRow.laid w) (fun _ _ _ hh h => h.of_heap hh) own started (by kernel_rfl) Tryd.func3
    (ChangeSpec.witness_shaped (enc := enc) (C := Tryd.checked) (os := os) (X := fun w _ => laidMetH Tryd.prog Rows.fnExactNumbersTextRow.laid w) false (World.doorLaid Tryd.prog 24 os) #[.slice none 0 0] 8 rfl (World.shaped_of_RefB (by kernel_rfl) (by kernel_rfl)) (by kernel_rfl) (by kernel_rfl) (by kernel_rfl) (door_FnExactNumbersText os _)) ?_
  intro W base args ds gs before hval0 hW hcnd hsz0 hLaid _
  have htab := tab_of_laid hLaid
  have hsz : (DataW.weightsEach Tryd.prog (Tryd.f3.params.toList ++ Rows.fnExactNumbersTextSpec.plain.varTypes Tryd.prog) (ds ++ gs)).all (· ≤ reachBytes) = true := hsz0
  clear hsz0
  have hval : ∀ (j : Nat) t v, Tryd.f3.params[j]? = some t → args[j]? = some v → Value.okWide Tryd.prog W .any base t v := hval0
  have hW' := hW
  obtain ⟨p, q, hA0, hV, rfl, hfz, hnd⟩ := hW
  have hA : DataW.TrodAll enc Tryd.prog W 0 (fun _ => true) true Tryd.f3.params.toList args.toList ds p := hA0
  rw [Tryd.params3] at hA hval hsz
  obtain ⟨v0, vs0, d0, ds0, p0, q0, hargs, rfl, rfl, h0, r0⟩ := trodAll_cons hA
  obtain ⟨rfl, rfl, rfl⟩ := trodAll_nil r0
  obtain rfl : args = #[v0] := by cases args; simp_all
  obtain ⟨rfl, rfl⟩ := trodVars_none hV
  have k0 := h0
  have lt0 : ∀ x ∈ p0, x.block < W.heap.size := by obtain ⟨m, hm⟩ := k0; exact DataW.trod_lt m _ _ _ hm
  have w0 := open_intsV (enc := enc) (hval 0 22 v0 rfl rfl) h0 (fun x hx => DataW.weights_mem_each (j := 0) rfl rfl x hx) hsz
  clear hA0 hval0
  refine (walk_FnExactNumbersText W v0 w0 htab).mono fun e W' ⟨he, bel⟩ => ?_
  subst he
  exact ⟨_, rfl, _, _, _, [], _, [], hW', trodAll_mk1 (shut_bool Tryd.underlying4 _), (trodAll_cons_mk (Below.trod laidOut (by kernel_rfl) (of_decide_eq_true (by kernel_rfl)) k0 bel lt0) trodAll_mk0), rfl, bel.frame _, fun h => by cases h⟩

theorem closed_FnExactNumbersText : joinedFacts Tryd.prog 3 Tryd.f3 Rows.fnExactNumbersTextSpec Rows.fnExactNumbersTextRow = true := by
  unfold joinedFacts
  rw [headMayEnter, headLiftsFinal, headMake]
  kernel_rfl
/-- The law returns true for every input, and its arguments read as before: the given statement. -/
theorem fnExactNumbersText_holds : Rows.FnExactNumbersTextSaid :=
  OpenClaim.holds_of_wide 3 Tryd.f3 rfl rfl rfl rfl rfl rfl rfl ⟨rfl, rfl, rfl, rfl, rfl⟩ rfl rfl rfl rfl rfl (by as_aux_lemma => kernel_rfl) Tryd.func3 closed_FnExactNumbersText
    (by as_aux_lemma => exact of_decide_eq_true (by kernel_rfl)) (by unfold Func.isWrapper; first | (rw [if_pos (by decide +kernel)]; kernel_rfl) | (rw [if_neg (by decide +kernel)]; exact ⟨rfl, rfl⟩))
    (fun os started H enc _ => lifted_FnExactNumbersText os started H enc)
theorem fnExactNumbersText_card : Rows.FnExactNumbersTextCardSaid :=
  Claim7.holds_tied_plain_at .later [] [.data, .data, .data] true (true, "8d973b159058dfbb522b5bdc466501554f31d63ba4e741b74370a471ffaf6323") false
    fnExactNumbersText_holds (fun _ h => by cases h) (by kernel_rfl) (fun _ h => by cases h) fnExactNumbersText_row_tie rfl ⟨rfl, rfl⟩ (by kernel_rfl) rfl
    (fun f fn hf hfn => by
      obtain rfl : f = 3 := Option.some.inj ((show Tryd.prog.funcNamed "loop.example/g03103/laws.FnExactNumbersText" = some 3 by kernel_rfl).symm.trans hf) |>.symm
      obtain rfl : fn = Tryd.f3 := (Option.some.inj (Tryd.func3.symm.trans hfn)).symm
      exact ⟨by kernel_rfl, fun j t ht => by
        rw [Tryd.params3] at ht
        have hm : t ∈ [22] := by simpa using Array.mem_of_getElem? ht
        have hall : ([22].all fun u => !Tryd.prog.wantsStandIn u) = true := by kernel_rfl
        exact (show Tryd.prog.wantsStandIn t = false by simpa using List.all_eq_true.1 hall t hm)⟩)
    (by kernel_rfl)
#print axioms fnExactNumbersText_card

end Go.Proofs.YtfkfhjehmhajeaaDoor
