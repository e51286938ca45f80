/- The law FnExactDescribeMatrix returns true for every table, as a tied card. No condition but what the card ties. -/
import Derived.Test.YtpfeflhcbcgbfaaGreatDoorDMxS
import Derived.Test.YtpfeflhcbcgbfaaGreatDoorDMxI
import Derived.Test.YtpfeflhcbcgbfaaGreatDoorOpenM
import Derived.Test.YtpfeflhcbcgbfaaGreatDoorSessC
import Derived.Test.YtpfeflhcbcgbfaaGreatDoorTie
import Derived.Test.YtpfeflhcbcgbfaaGreatDoorCards
import Derived.LaidMore
import Derived.Stop.Joined
import Derived.Lib.LaidTab
import Derived.Lay
import Derived.MakeChecks
namespace Go.Proofs.YtpfeflhcbcgbfaaGreatDoor
open Go.ChangeShapes Go.WideShapes Go.ChangeAt Go.RowKit
open Go.ChangeMaps (open_string shut_string)

theorem gPow : Tryz.prog.globalNamed "internal/strconv.uint64pow10" = some ((Tryz.prog.globalNamed "internal/strconv.uint64pow10").getD 0) := by kernel_rfl
theorem tPow : (Tryz.prog.globals[(Tryz.prog.globalNamed "internal/strconv.uint64pow10").getD 0]?).map (·.type) = some 133 := by kernel_rfl
theorem cellsU64 : Tryz.prog.cellsOf 120 = 1 := by kernel_rfl
theorem cellsPow : Tryz.prog.cellsOf 133 = 20 := by kernel_rfl
theorem laidPow : (Rows.laid_internal_strconv_uint64pow10 : DataW Unit) = Lib.tabData .u64 Lib.pow10Tab := by kernel_rfl
theorem tab_of_laid {W : World} (h : laidMetH Tryz.prog [("math/bits.deBruijn32tab", Rows.laid_math_bits_deBruijn32tab), ("math/bits.deBruijn64tab", Rows.laid_math_bits_deBruijn64tab), ("internal/strconv.uint64pow10", Rows.laid_internal_strconv_uint64pow10)] W) : TabW W := by
  rw [MakeChecks.laidMetH_plain _ _ _ (by kernel_rfl)] at h
  obtain ⟨ps, ⟨g0, t0, cs0, f0, p0, q0, hg0, ht0, hv0, hd0, ⟨g1, t1, cs1, f1, p1, q1, hg1, ht1, hv1, hd1, ⟨g2, t2, cs2, f2, p2, q2, hg2, ht2, hv2, hd2, _, _⟩, _⟩, _⟩, _, _⟩ := h
  obtain rfl := Option.some.inj (gPow.symm.trans hg2)
  obtain rfl := Option.some.inj (tPow.symm.trans ht2)
  rw [laidPow] at hd2
  unfold TabW Lib.TabIs
  rw [hv2, ← Lib.cells_of_tab Tryz.underlying133 Tryz.underlying120 cellsU64 cellsPow hd2]
set_option maxRecDepth 100000 in
theorem spec_DescribeMatrix_no (a : Option Addr) (n c : Nat) (M : List (List Int)) (w : World) (hr : TabAt w a n M) (h : isSm M = false) :
    Calls Tryz.prog 11 #[.slice a n c] w fun e w' => e = .returned (.string ⟨#[]⟩) ∧ Below w.heap.size w w' := by
  have HI := hid (spec_IsSmall_c a n c M w hr)
  rw [h] at HI
  clear hr h
  go_enter Tryz.func11, Tryz.ntmps11
  go_wp2_with fail
  refine HI.out.mono ?_
  rintro e w' ⟨rfl, rfl⟩
  go_wp2
  go_ret
  exact ⟨rfl, Below.refl _ _⟩
set_option maxRecDepth 100000 in
theorem impl_DescribeMatrix_no (a : Option Addr) (n c : Nat) (M : List (List Int)) (w : World) (hr : TabAt w a n M) (h : isSm M = false) :
    Calls Tryz.prog 13 #[.slice a n c] w fun e w' => e = .returned (.string ⟨#[]⟩) ∧ Below w.heap.size w w' := by
  obtain ⟨W2, hW2⟩ : ∃ W2, W2 = w.alloc (.cells #[.slice a n c] 31) := ⟨_, rfl⟩
  have hB : Below w.heap.size w W2 := by rw [hW2]; exact (Below.refl _ _).alloc (Nat.le_refl _) _
  have hbx : BoxC W2 w.heap.size #[.slice a n c] := by rw [hW2]; exact BoxC.new _ _ _
  have p0 := hbx.cell 0
  have HI := hid (impl_IsSmall_c a n c M W2 (hr.below hB (Nat.le_refl _)))
  rw [h] at HI
  have HB := hid hB
  clear hr hB h hbx
  go_enter Tryz.func13, Tryz.ntmps13
  go_wp2_with (rw [← hW2])
  first | rw [← hW2] | skip
  clear hW2
  refine HI.out.mono ?_
  rintro e w1 ⟨rfl, rfl⟩
  go_wp2
  go_ret
  exact ⟨rfl, HB.out⟩
theorem descM_ex (M : List (List Int)) (n : Nat) : ∃ t : ByteArray, (∀ (w : World) (a : Option Addr) (c : Nat), TabAt w a n M → Calls Tryz.prog 11 #[.slice a n c] w fun e w' => e = .returned (.string t) ∧ Below w.heap.size w w') ∧ ∀ (w : World) (a : Option Addr) (c : Nat), TabAt w a n M → TabW w → Calls Tryz.prog 13 #[.slice a n c] w fun e w' => e = .returned (.string t) ∧ Below w.heap.size w w' := by
  cases h : isSm M
  · exact ⟨_, fun w a c hr => spec_DescribeMatrix_no a n c M w hr h, fun w a c hr _ => impl_DescribeMatrix_no a n c M w hr h⟩
  · exact ⟨_, fun w a c hr => spec_DescribeMatrix_yes a n c M w hr h, fun w a c hr ht => impl_DescribeMatrix_yes a n c M w hr h ht⟩
theorem tabOwn_tab {w : World} {base n c : Nat} {a : Option Addr} {rows : List (List Int)} (h : TabOwn 39 3 w base (.slice a n c) n rows) (hn : n ≤ 140737488351232) (hs : ∀ r ∈ rows, r.length ≤ 140737488351232) : TabAt w a n rows := by
  obtain ⟨hl, xs, ho, hi⟩ := h
  have hx := ho.1
  obtain ⟨a', c', hev, hrow⟩ := owns_rowAt ho hn
  simp only [Value.slice.injEq, true_and] at hev
  obtain ⟨rfl, rfl⟩ := hev
  refine ⟨xs, hrow, ?_, fun i x r hx hr => ?_⟩
  · rw [hrow.len, hl]
  · obtain ⟨a2, c2, rfl, h2⟩ := owns_rowAt (hi i x r hx hr) (hs r (List.mem_of_getElem? hr))
    exact ⟨a2, c2, rfl, h2⟩
set_option maxHeartbeats 4000000 in
set_option maxRecDepth 100000 in
theorem walk_FnExactDescribeMatrix (W : World) (v : Value) (h : IntssIn W v) (ht : TabW W) :
    Calls Tryz.prog 4 #[v] W fun e W' => e = .returned (.bool true) ∧ Below W.heap.size W W' := by
  obtain ⟨a, c, rows, rfl, hr, hlim, hs⟩ := h
  obtain ⟨n, hn⟩ : ∃ n, n = rows.length := ⟨_, rfl⟩
  rw [← hn] at hr hlim ⊢
  have HSZ := hid (szIntSS_c a n c 1048576 rows W hr (Nat.le_refl _) hs)
  unfold SzP at HSZ
  have HTO := hid (fun (V : World) (hV : Below W.heap.size W V) => (toIntSS_c a n c rows V (hr.below hV (Nat.le_refl _)) hlim hs).mono (R' := fun e w' => ∃ b d, e = .returned (.slice b n d) ∧ TabAt w' b n rows ∧ Below V.heap.size V w') (by
    rintro e w' ⟨b, d, rfl, ho, hb⟩
    exact ⟨b, d, rfl, tabOwn_tab ho (by omega) (fun r hr => by have := hs r hr; omega), hb⟩))
  obtain ⟨t, hS, hI⟩ := descM_ex rows n
  have HS := hid hS
  have HI := hid (fun (w : World) (hw : Below W.heap.size W w) (a : Option Addr) (c : Nat) (h : TabAt w a n rows) => hI w a c h (tab_below ht hw (Nat.le_refl _)))
  have HEQ := hid (fun (V : World) (g1 g2 : Option Addr) (d1 d2 : Nat) (h1 : TabAt V g1 n rows) (h2 : TabAt V g2 n rows) => eqIntSS_c g1 g2 n d1 d2 rows V h1 h2)
  clear hr hS hI hn ht hs
  go_enter Tryz.func4, Tryz.ntmps4
  go_wp2_with fail
  refine HSZ.out.mono ?_
  rintro e w1 ⟨r, rfl, hcase, hb1⟩
  have HB1 := hid hb1
  clear hb1 HSZ hcase
  by_cases hr0 : r < 0
  · go_wp2
    go_ret
    exact ⟨rfl, HB1.out⟩
  · go_wp2_with fail
    refine (HTO.out _ HB1.out).mono ?_
    rintro e w2 ⟨g2, d2, rfl, hr2, hb2⟩
    have HB2 := hid (HB1.out.trans (hb2.mono HB1.out.size))
    have HS2 := hid (HS.out w2 g2 d2 hr2)
    clear hb2 hr2 HS
    go_wp2_with fail
    refine HS2.out.mono ?_
    rintro e w3 ⟨rfl, hb3⟩
    have HB3 := hid (HB2.out.trans (hb3.mono HB2.out.size))
    clear hb3 HS2
    go_wp2_with fail
    refine (HTO.out _ HB3.out).mono ?_
    rintro e w4 ⟨g4, d4, rfl, hr4, hb4⟩
    have HB4 := hid (HB3.out.trans (hb4.mono HB3.out.size))
    have HI4 := hid (HI.out w4 HB4.out g4 d4 hr4)
    have HR4 := hid hr4
    clear hb4 hr4 HI
    go_wp2_with fail
    refine HI4.out.mono ?_
    rintro e w5 ⟨rfl, hb5⟩
    have HB5 := hid (HB4.out.trans (hb5.mono HB4.out.size))
    have HR5 := hid (HR4.out.below hb5 (Nat.le_refl _))
    clear hb5 HI4 HR4
    go_wp2_with fail
    refine (HTO.out _ HB5.out).mono ?_
    rintro e w6 ⟨g6, d6, rfl, hr6, hb6⟩
    have HB6 := hid (HB5.out.trans (hb6.mono HB5.out.size))
    have HE6 := hid (HEQ.out w6 g4 g6 d4 d6 (HR5.out.below hb6 (Nat.le_refl _)) hr6)
    clear hb6 hr6 HTO HEQ
    go_wp2_with fail
    refine HE6.out.mono ?_
    rintro e w7 ⟨rfl, m, hw7⟩
    have hb7 : Below w6.heap.size w6 w7 := by rw [hw7]; exact below_drewN (Below.refl _ _) _
    have HB7 := hid (HB6.out.trans (hb7.mono HB6.out.size))
    clear hb7 hw7 HE6
    go_wp2
    go_ret
    exact ⟨rfl, HB7.out⟩

theorem door_FnExactDescribeMatrix (os : Os) (args : Array Value) : laidMetH Tryz.prog Rows.fnExactDescribeMatrixRow.laid ((World.doorLaid Tryz.prog 24 os).forCall (fun _ _ => 0) ⟨#[], args, []⟩).memory :=
  laidMetH_of_parts3 (fuel := 8) (laidMet_of_run' 8 (by kernel_rfl) (by kernel_rfl)) (by kernel_rfl) (by kernel_rfl)
set_option maxRecDepth 100000 in
theorem lifted_FnExactDescribeMatrix (os : Os) (started : os.Started) (H : Type) (enc : TypeId × Value → H) :
    ReturnsInHanded {} Tryz.checked os 4 .any (fun w args => (Rows.fnExactDescribeMatrixSpec.pre enc Tryz.prog Tryz.f4 Rows.fnExactDescribeMatrixRow.domain false w args ∧ laidMetH Tryz.prog Rows.fnExactDescribeMatrixRow.laid w) ∧ sizedMet enc Tryz.prog Tryz.f4 (OpenSpec.ofChange Rows.fnExactDescribeMatrixSpec) false w args) (Rows.fnExactDescribeMatrixSpec.post enc Tryz.prog Tryz.f4 false true false false) := by
  refine returnsInHanded_of_change_and (C := Tryz.checked) (X := fun w _ => laidMetH Tryz.prog Rows.fnExactDescribeMatrixRow.laid w) (fun _ _ _ hh h => h.of_heap hh) own started (by kernel_rfl) Tryz.func4
    (ChangeSpec.witness_shaped (enc := enc) (C := Tryz.checked) (os := os) (X := fun w _ => laidMetH Tryz.prog Rows.fnExactDescribeMatrixRow.laid w) false (World.doorLaid Tryz.prog 24 os) #[.slice none 0 0] 8 rfl (World.shaped_of_RefB (by kernel_rfl) (by kernel_rfl)) (by kernel_rfl) (by kernel_rfl) (by kernel_rfl) (door_FnExactDescribeMatrix os _)) ?_
  intro W base args ds gs before hval0 hW hcnd hsz0 hLaid _
  have htab := tab_of_laid hLaid
  have hsz : (DataW.weightsEach Tryz.prog (Tryz.f4.params.toList ++ Rows.fnExactDescribeMatrixSpec.plain.varTypes Tryz.prog) (ds ++ gs)).all (· ≤ reachBytes) = true := hsz0
  clear hsz0
  have hval : ∀ (j : Nat) t v, Tryz.f4.params[j]? = some t → args[j]? = some v → Value.okWide Tryz.prog W .any base t v := hval0
  have hW' := hW
  obtain ⟨p, q, hA0, hV, rfl, hfz, hnd⟩ := hW
  have hA : DataW.TrodAll enc Tryz.prog W 0 (fun _ => true) true Tryz.f4.params.toList args.toList ds p := hA0
  rw [Tryz.params4] at hA hval hsz
  obtain ⟨v0, vs0, d0, ds0, p0, q0, hargs, rfl, rfl, h0, r0⟩ := trodAll_cons hA
  obtain ⟨rfl, rfl, rfl⟩ := trodAll_nil r0
  obtain rfl : args = #[v0] := by cases args; simp_all
  obtain ⟨rfl, rfl⟩ := trodVars_none hV
  have k0 := h0
  have lt0 : ∀ x ∈ p0, x.block < W.heap.size := by obtain ⟨m, hm⟩ := k0; exact DataW.trod_lt m _ _ _ hm
  have w0 := open_intss (enc := enc) (hval 0 31 v0 rfl rfl) h0 (fun x hx => DataW.weights_mem_each (j := 0) rfl rfl x hx) hsz
  clear hA0 hval0
  refine (walk_FnExactDescribeMatrix W v0 w0 htab).mono fun e W' ⟨he, bel⟩ => ?_
  subst he
  exact ⟨_, rfl, _, _, _, [], _, [], hW', trodAll_mk1 (shut_bool Tryz.underlying4 _), (trodAll_cons_mk (Below.trod laidOut (by kernel_rfl) (of_decide_eq_true (by kernel_rfl)) k0 bel lt0) trodAll_mk0), rfl, bel.frame _, fun h => by cases h⟩

theorem closed_FnExactDescribeMatrix : joinedFacts Tryz.prog 4 Tryz.f4 Rows.fnExactDescribeMatrixSpec Rows.fnExactDescribeMatrixRow = true := by
  unfold joinedFacts
  rw [headMayEnter, headLiftsFinal, headMake]
  kernel_rfl
/-- The law returns true for every input, and its arguments read as before: the given statement. -/
theorem fnExactDescribeMatrix_holds : Rows.FnExactDescribeMatrixSaid :=
  OpenClaim.holds_of_wide 4 Tryz.f4 rfl rfl rfl rfl rfl rfl rfl ⟨rfl, rfl, rfl, rfl, rfl⟩ rfl rfl rfl rfl rfl (by as_aux_lemma => kernel_rfl) Tryz.func4 closed_FnExactDescribeMatrix
    (by as_aux_lemma => exact of_decide_eq_true (by kernel_rfl)) (by unfold Func.isWrapper; first | (rw [if_pos (by decide +kernel)]; kernel_rfl) | (rw [if_neg (by decide +kernel)]; exact ⟨rfl, rfl⟩))
    (fun os started H enc _ => lifted_FnExactDescribeMatrix os started H enc)
theorem fnExactDescribeMatrix_card : Rows.FnExactDescribeMatrixCardSaid :=
  Claim7.holds_tied_plain_at .later [] [.data, .data, .data] true (true, "8c8320814b88bdb935aa5a88e2226b0647fe5b3b616686c8676263a258487e31") false
    fnExactDescribeMatrix_holds (fun _ h => by cases h) (by kernel_rfl) (fun _ h => by cases h) fnExactDescribeMatrix_row_tie rfl ⟨rfl, rfl⟩ (by kernel_rfl) rfl
    (fun f fn hf hfn => by
      obtain rfl : f = 4 := Option.some.inj ((show Tryz.prog.funcNamed "loop.example/g03103/laws.FnExactDescribeMatrix" = some 4 by kernel_rfl).symm.trans hf) |>.symm
      obtain rfl : fn = Tryz.f4 := (Option.some.inj (Tryz.func4.symm.trans hfn)).symm
      exact ⟨by kernel_rfl, fun j t ht => by
        rw [Tryz.params4] at ht
        have hm : t ∈ [31] := by simpa using Array.mem_of_getElem? ht
        have hall : ([31].all fun u => !Tryz.prog.wantsStandIn u) = true := by kernel_rfl
        exact (show Tryz.prog.wantsStandIn t = false by simpa using List.all_eq_true.1 hall t hm)⟩)
    (by kernel_rfl)
#print axioms fnExactDescribeMatrix_card

end Go.Proofs.YtpfeflhcbcgbfaaGreatDoor
