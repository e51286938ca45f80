/- The law FnExactDescribeShift returns true for every shift, as a tied card. No condition but what the card ties. -/
import Derived.Test.YtpfeflhcbcgbfaaGreatDoorDShS
import Derived.Test.YtpfeflhcbcgbfaaGreatDoorDShI
import Derived.Test.YtpfeflhcbcgbfaaGreatDoorOpenSh
import Derived.Test.YtpfeflhcbcgbfaaGreatDoorIsSh
import Derived.Test.YtpfeflhcbcgbfaaGreatDoorTie
import Derived.Test.YtpfeflhcbcgbfaaGreatDoorCards
import Derived.Test.YtpfeflhcbcgbfaaGreatDoorShap
import Derived.LaidMore
import Derived.Stop.Joined
import Derived.Lib.LaidTab
import Derived.Lay
import Derived.MakeChecks
namespace Go.Proofs.YtpfeflhcbcgbfaaGreatDoor
open Go.ChangeShapes Go.WideShapes Go.ChangeAt Go.RowKit
open Go.ChangeMaps (open_string shut_string)

theorem gPow : Tryz.prog.globalNamed "internal/strconv.uint64pow10" = some ((Tryz.prog.globalNamed "internal/strconv.uint64pow10").getD 0) := by kernel_rfl
theorem tPow : (Tryz.prog.globals[(Tryz.prog.globalNamed "internal/strconv.uint64pow10").getD 0]?).map (·.type) = some 133 := by kernel_rfl
theorem cellsU64 : Tryz.prog.cellsOf 120 = 1 := by kernel_rfl
theorem cellsPow : Tryz.prog.cellsOf 133 = 20 := by kernel_rfl
theorem laidPow : (Rows.laid_internal_strconv_uint64pow10 : DataW Unit) = Lib.tabData .u64 Lib.pow10Tab := by kernel_rfl
theorem laidW_of {W : World} (h : laidMetH Tryz.prog [("math/bits.deBruijn32tab", Rows.laid_math_bits_deBruijn32tab), ("math/bits.deBruijn64tab", Rows.laid_math_bits_deBruijn64tab), ("internal/strconv.uint64pow10", Rows.laid_internal_strconv_uint64pow10)] W) (hs : W.ShapedOpen Tryz.prog) : LaidW W := by
  refine ⟨?_, Tryz.laysM144.s1_3 W hs⟩
  rw [MakeChecks.laidMetH_plain _ _ _ (by kernel_rfl)] at h
  obtain ⟨ps, ⟨g0, t0, cs0, f0, p0, q0, hg0, ht0, hv0, hd0, ⟨g1, t1, cs1, f1, p1, q1, hg1, ht1, hv1, hd1, ⟨g2, t2, cs2, f2, p2, q2, hg2, ht2, hv2, hd2, _, _⟩, _⟩, _⟩, _, _⟩ := h
  obtain rfl := Option.some.inj (gPow.symm.trans hg2)
  obtain rfl := Option.some.inj (tPow.symm.trans ht2)
  rw [laidPow] at hd2
  unfold TabW Lib.TabIs
  rw [hv2, ← Lib.cells_of_tab Tryz.underlying133 Tryz.underlying120 cellsU64 cellsPow hd2]
theorem spec_DescribeShift_no (L : Int) (a : Option Addr) (n c : Nat) (ss : List ByteArray) (w : World) (hr : RowAt w a n (strVals ss)) (hz : ∀ s ∈ ss, s.size ≤ maxLen) (h : okShI L ss = false) :
    Calls Tryz.prog 6 #[.agg #[.int .i64 L, .slice a n c]] w fun e w' => e = .returned (.string ⟨#[]⟩) ∧ Below w.heap.size w w' := by
  obtain ⟨W2, hW2⟩ : ∃ W2, W2 = w.alloc (.cells #[.int .i64 L, .slice a n c] 27) := ⟨_, rfl⟩
  have hB : Below w.heap.size w W2 := by rw [hW2]; exact (Below.refl _ _).alloc (Nat.le_refl _) _
  have hbx : BoxC W2 w.heap.size #[.int .i64 L, .slice a n c] := by rw [hW2]; exact BoxC.new _ _ _
  have p0 := hbx.cell 0
  have p1 := hbx.cell 1
  have HI := hid (spec_IsShift_c L a n c ss W2 (hr.below hB (Nat.le_refl _)) hz)
  rw [h] at HI
  have HB := hid hB
  clear hr hB h hz hbx
  go_enter Tryz.func6, Tryz.ntmps6
  go_wp2_with (rw [← hW2])
  first | rw [← hW2] | skip
  clear hW2
  refine HI.out.mono ?_
  rintro e w1 ⟨rfl, hb1⟩
  go_wp2
  go_ret
  exact ⟨rfl, HB.out.trans (hb1.mono HB.out.size)⟩
theorem impl_DescribeShift_no (L : Int) (a : Option Addr) (n c : Nat) (ss : List ByteArray) (w : World) (hr : RowAt w a n (strVals ss)) (hz : ∀ s ∈ ss, s.size ≤ maxLen) (h : okShI L ss = false) :
    Calls Tryz.prog 8 #[.agg #[.int .i64 L, .slice a n c]] w fun e w' => e = .returned (.string ⟨#[]⟩) ∧ Below w.heap.size w w' := by
  obtain ⟨W2, hW2⟩ : ∃ W2, W2 = w.alloc (.cells #[.int .i64 L, .slice a n c] 27) := ⟨_, rfl⟩
  have hB : Below w.heap.size w W2 := by rw [hW2]; exact (Below.refl _ _).alloc (Nat.le_refl _) _
  have hbx : BoxC W2 w.heap.size #[.int .i64 L, .slice a n c] := by rw [hW2]; exact BoxC.new _ _ _
  have p0 := hbx.cell 0
  have p1 := hbx.cell 1
  have HI := hid (impl_IsShift_c L a n c ss W2 (hr.below hB (Nat.le_refl _)) hz)
  rw [h] at HI
  have HB := hid hB
  clear hr hB h hz hbx
  go_enter Tryz.func8, Tryz.ntmps8
  go_wp2_with (rw [← hW2])
  first | rw [← hW2] | skip
  clear hW2
  refine HI.out.mono ?_
  rintro e w1 ⟨rfl, hb1⟩
  go_wp2
  go_ret
  exact ⟨rfl, HB.out.trans (hb1.mono HB.out.size)⟩
theorem descS_ex (L : Int) (ss : List ByteArray) (n : Nat) (hz : ∀ s ∈ ss, s.size ≤ maxLen) : ∃ t : ByteArray, (∀ (w : World) (a : Option Addr) (c : Nat), RowAt w a n (strVals ss) → Calls Tryz.prog 6 #[.agg #[.int .i64 L, .slice a n c]] w fun e w' => e = .returned (.string t) ∧ Below w.heap.size w w') ∧ ∀ (w : World) (a : Option Addr) (c : Nat), RowAt w a n (strVals ss) → LaidW w → Calls Tryz.prog 8 #[.agg #[.int .i64 L, .slice a n c]] w fun e w' => e = .returned (.string t) ∧ Below w.heap.size w w' := by
  cases h : okShI L ss
  · exact ⟨_, fun w a c hr => spec_DescribeShift_no L a n c ss w hr hz h, fun w a c hr _ => impl_DescribeShift_no L a n c ss w hr hz h⟩
  · obtain ⟨k, rfl, hok⟩ := okShI_ok h
    exact ⟨_, fun w a c hr => spec_DescribeShift_yes k a n c ss w hr hok, fun w a c hr hl => impl_DescribeShift_yes k a n c ss w hr hok hl.max hl.tab⟩
set_option maxHeartbeats 4000000 in
set_option maxRecDepth 100000 in
theorem walk_FnExactDescribeShift (W : World) (v : Value) (h : ShiftIn W v) (hl : LaidW W) :
    Calls Tryz.prog 3 #[v] W fun e W' => e = .returned (.bool true) ∧ Below W.heap.size W W' := by
  obtain ⟨L, a, c, ss, rfl, hr, hlim, hz⟩ := h
  have HSZ' := fun (V : World) (hV : Below W.heap.size W V) => szShift_c L a c 1048576 ss V (hr.below hV (Nat.le_refl _)) (Nat.le_refl _) hz
  obtain ⟨n, hn⟩ : ∃ n, n = ss.length := ⟨_, rfl⟩
  rw [← hn] at hr hlim HSZ' ⊢
  unfold SzP at HSZ'
  have HSZ := hid HSZ'
  obtain ⟨W2, hW2⟩ : ∃ W2, W2 = W.alloc (.cells #[.int .i64 L, .slice a n c] 24) := ⟨_, rfl⟩
  have hB : Below W.heap.size W W2 := by rw [hW2]; exact (Below.refl _ _).alloc (Nat.le_refl _) _
  have hsz : W2.heap.size = W.heap.size + 1 := by rw [hW2]; simp
  have hbx : BoxC W2 W.heap.size #[.int .i64 L, .slice a n c] := by rw [hW2]; exact BoxC.new _ _ _
  have HBX := hid (fun (V : World) (hV : Below W2.heap.size W2 V) => show (V.cell? ⟨W.heap.size, 0, none⟩ = some (.int .i64 L) ∧ V.cell? ⟨W.heap.size, 1, none⟩ = some (.slice a n c)) ∧ Below W.heap.size W V from ⟨⟨(hbx.below hV).cell 0, (hbx.below hV).cell 1⟩, hB.trans (hV.mono (by omega))⟩)
  obtain ⟨t, hS, hI⟩ := descS_ex L ss n hz
  have HS := hid hS
  have HI := hid (fun (w : World) (hw : Below W.heap.size W w) (a : Option Addr) (c : Nat) (h : RowAt w a n (strVals ss)) => hI w a c h ⟨tab_below hl.tab hw (Nat.le_refl _), max_below hl.max hw (Nat.le_refl _)⟩)
  have HTO := hid (fun (V : World) (hV : Below W.heap.size W V) => show Calls Tryz.prog 7 #[.agg #[.int .i64 L, .slice a n c]] V fun e w' => ∃ b d, e = .returned (.agg #[.int .i64 L, .slice b n d]) ∧ RowAt w' b n (strVals ss) ∧ Below V.heap.size V w' from (toShift_c L a n c ss V (hr.below hV (Nat.le_refl _)) hlim).mono (by
    rintro e w' ⟨b, d, rfl, ho, hb⟩
    obtain ⟨b', d', he, hrr⟩ := owns_rowAt ho (by omega)
    simp only [Value.slice.injEq, true_and] at he
    obtain ⟨rfl, rfl⟩ := he
    exact ⟨b, d, rfl, hrr, hb⟩))
  have HEQ := hid (fun (V : World) (g1 g2 : Option Addr) (d1 d2 : Nat) (h1 : RowAt V g1 n (strVals ss)) (h2 : RowAt V g2 n (strVals ss)) => eqShift_c L g1 g2 n d1 d2 ss V h1 h2)
  have HB := hid hB
  have p0 := hbx.cell 0
  have p1 := hbx.cell 1
  have HSZ2 := hid (HSZ.out W2 hB)
  clear hr hB hl hS hI hz hbx hn HSZ HSZ'
  go_enter Tryz.func3, Tryz.ntmps3
  go_wp2_with (rw [← hW2])
  first | rw [← hW2] | skip
  clear hW2
  refine HSZ2.out.mono ?_
  rintro e w1 ⟨r, rfl, hcase, hb1⟩
  have HB1 := hid hb1
  obtain ⟨⟨q0, q1⟩, hbw1⟩ := HBX.out w1 hb1
  clear p0 p1 hb1 HSZ2 hcase
  by_cases hr0 : r < 0
  · go_wp2
    go_ret
    exact ⟨rfl, hbw1⟩
  · go_wp2_with fail
    refine (HTO.out _ hbw1).mono ?_
    rintro e w2 ⟨g2, d2, rfl, hr2, hb2⟩
    have HB2 := hid (HB1.out.trans (hb2.mono HB1.out.size))
    have HS2 := hid (HS.out w2 g2 d2 hr2)
    clear q0 q1 hbw1 hb2 hr2
    go_wp2_with fail
    refine HS2.out.mono ?_
    rintro e w3 ⟨rfl, hb3⟩
    have HB3 := hid (HB2.out.trans (hb3.mono HB2.out.size))
    obtain ⟨⟨q0, q1⟩, hbw3⟩ := HBX.out w3 HB3.out
    clear hb3
    go_wp2_with fail
    refine (HTO.out _ hbw3).mono ?_
    rintro e w4 ⟨g4, d4, rfl, hr4, hb4⟩
    have HB4 := hid (HB3.out.trans (hb4.mono HB3.out.size))
    obtain ⟨W5, hW5⟩ : ∃ W5, W5 = w4.alloc (.cells #[.int .i64 L, .slice g4 n d4] 27) := ⟨_, rfl⟩
    have hb5 : Below w4.heap.size w4 W5 := by rw [hW5]; exact (Below.refl _ _).alloc (Nat.le_refl _) _
    have HX5 := hid (show BoxC W5 w4.heap.size #[.int .i64 L, .slice g4 n d4] by rw [hW5]; exact BoxC.new _ _ _)
    have HB5 := hid (HB4.out.trans (hb5.mono HB4.out.size))
    have HR5 := hid (hr4.below hb5 (Nat.le_refl _))
    have HW5 := hid hW5
    obtain ⟨_, hbw5⟩ := HBX.out W5 HB5.out
    have HI5 := hid (HI.out W5 hbw5 g4 d4 HR5.out)
    have x0 := HX5.out.cell 0
    have x1 := HX5.out.cell 1
    clear q0 q1 hbw3 hb4 hr4 hb5 hW5
    go_upto_region 7 with fail
    first | rw [← HW5.out] | trace_state
    go_wp2_with fail
    refine HI5.out.mono ?_
    rintro e w6 ⟨rfl, hb6⟩
    have HB6 := hid (HB5.out.trans (hb6.mono HB5.out.size))
    have HX6 := hid (HX5.out.below hb6)
    have HR6 := hid (HR5.out.below hb6 (Nat.le_refl _))
    clear x0 x1 hb6 hbw5
    have hbZ : Below w6.heap.size w6 w6.drew := (Below.refl _ _).drew
    have HKK := hid (fun (V : World) (hV : Below w6.heap.size w6 V) => show V.cell? ⟨w4.heap.size, 0, none⟩ = some (.int .i64 L) ∧ V.cell? ⟨w4.heap.size, 1, none⟩ = some (.slice g4 n d4) ∧ V.cell? ⟨W.heap.size, 0, none⟩ = some (.int .i64 L) ∧ V.cell? ⟨W.heap.size, 1, none⟩ = some (.slice a n c) ∧ Below w6.heap.size w6 V from
      ⟨(HX6.out.below hV).cell 0, (HX6.out.below hV).cell 1, (HBX.out V (HB6.out.trans (hV.mono HB6.out.size))).1.1, (HBX.out V (HB6.out.trans (hV.mono HB6.out.size))).1.2, hV⟩)
    have HTO6 := hid (fun (V : World) (hV : Below w6.heap.size w6 V) => HTO.out V (HBX.out V (HB6.out.trans (hV.mono HB6.out.size))).2)
    have HEQ6 := hid (fun (V : World) (hV : Below w6.heap.size w6 V) (g : Option Addr) (d : Nat) (hg : RowAt V g n (strVals ss)) => HEQ.out V g4 g d4 d (HR6.out.below hV (Nat.le_refl _)) hg)
    have HBE := hid (fun (V : World) (hV : Below w6.heap.size w6 V) => (HBX.out V (HB6.out.trans (hV.mono HB6.out.size))).2)
    go_wp2
    go_region_held3 (fun V => V.cell? ⟨w4.heap.size, 0, none⟩ = some (.int .i64 L) ∧ V.cell? ⟨w4.heap.size, 1, none⟩ = some (.slice g4 n d4) ∧ V.cell? ⟨W.heap.size, 0, none⟩ = some (.int .i64 L) ∧ V.cell? ⟨W.heap.size, 1, none⟩ = some (.slice a n c) ∧ Below w6.heap.size w6 V)
      (first | with_reducible exact HKK.out _ hbZ)
      (first | (go_at_call 7; refine (HTO6.out _ hbZ).mono ?_; rintro e w7 ⟨g7, d7, rfl, hr7, hb7⟩; have hbZ := hbZ.trans (hb7.mono hbZ.size)) | (go_at_call 9; refine (HEQ6.out _ hbZ _ _ hr7).mono ?_; rintro e w8 ⟨rfl, hb8⟩; have hbZ := hbZ.trans (hb8.mono hbZ.size)))
    all_goals
      have HBL := hid (HBE.out _ hbZ)
      clear HKK HTO6 HEQ6 HBE
      go_wp2
      go_ret
      exact ⟨rfl, HBL.out⟩

theorem door_FnExactDescribeShift (os : Os) (args : Array Value) : laidMetH Tryz.prog Rows.fnExactDescribeShiftRow.laid ((World.laidAll Tryz.prog os Rows.fnExactDescribeShiftRow.laid).forCall (fun _ _ => 0) ⟨#[], args, []⟩).memory :=
  by rw [MakeChecks.laidMetH_plain _ _ _ (by kernel_rfl)]; exact laidMet_laidAll _ (by kernel_rfl) (by kernel_rfl)
set_option maxRecDepth 100000 in
theorem lifted_FnExactDescribeShift (os : Os) (started : os.Started) (H : Type) (enc : TypeId × Value → H) :
    ReturnsInHanded {} Tryz.checked os 3 .any (fun w args => (Rows.fnExactDescribeShiftSpec.pre enc Tryz.prog Tryz.f3 Rows.fnExactDescribeShiftRow.domain false w args ∧ laidMetH Tryz.prog Rows.fnExactDescribeShiftRow.laid w) ∧ sizedMet enc Tryz.prog Tryz.f3 (OpenSpec.ofChange Rows.fnExactDescribeShiftSpec) false w args) (Rows.fnExactDescribeShiftSpec.post enc Tryz.prog Tryz.f3 false true false false) := by
  refine change_and_shaped (C := Tryz.checked) (X := fun w _ => laidMetH Tryz.prog Rows.fnExactDescribeShiftRow.laid w) (fun _ _ _ hh h => h.of_heap hh) own started (by kernel_rfl) Tryz.func3
    (ChangeSpec.witness_shaped (enc := enc) (C := Tryz.checked) (os := os) (X := fun w _ => laidMetH Tryz.prog Rows.fnExactDescribeShiftRow.laid w) false (World.laidAll Tryz.prog os Rows.fnExactDescribeShiftRow.laid) #[.agg #[.int .i64 0, .slice none 0 0]] 8 (World.laidAll_os _ _ _) (World.shaped_of_ZipB (by kernel_rfl) (by kernel_rfl)) (by kernel_rfl) (by kernel_rfl) (by kernel_rfl) (door_FnExactDescribeShift os _)) ?_
  intro W base args ds gs before hval0 hW hcnd hsz0 hLaid hsh _
  have htab := laidW_of hLaid hsh
  have hsz : (DataW.weightsEach Tryz.prog (Tryz.f3.params.toList ++ Rows.fnExactDescribeShiftSpec.plain.varTypes Tryz.prog) (ds ++ gs)).all (· ≤ reachBytes) = true := hsz0
  clear hsz0
  have hval : ∀ (j : Nat) t v, Tryz.f3.params[j]? = some t → args[j]? = some v → Value.okWide Tryz.prog W .any base t v := hval0
  have hW' := hW
  obtain ⟨p, q, hA0, hV, rfl, hfz, hnd⟩ := hW
  have hA : DataW.TrodAll enc Tryz.prog W 0 (fun _ => true) true Tryz.f3.params.toList args.toList ds p := hA0
  rw [Tryz.params3] at hA hval hsz
  obtain ⟨v0, vs0, d0, ds0, p0, q0, hargs, rfl, rfl, h0, r0⟩ := trodAll_cons hA
  obtain ⟨rfl, rfl, rfl⟩ := trodAll_nil r0
  obtain rfl : args = #[v0] := by cases args; simp_all
  obtain ⟨rfl, rfl⟩ := trodVars_none hV
  have k0 := h0
  have lt0 : ∀ x ∈ p0, x.block < W.heap.size := by obtain ⟨m, hm⟩ := k0; exact DataW.trod_lt m _ _ _ hm
  have w0 := open_shift (enc := enc) (hval 0 24 v0 rfl rfl) h0 (fun x hx => DataW.weights_mem_each (j := 0) rfl rfl x hx) hsz
  clear hA0 hval0
  refine (walk_FnExactDescribeShift W v0 w0 htab).mono fun e W' ⟨he, bel⟩ => ?_
  subst he
  exact ⟨_, rfl, _, _, _, [], _, [], hW', trodAll_mk1 (shut_bool Tryz.underlying4 _), (trodAll_cons_mk (Below.trod laidOut (by kernel_rfl) (of_decide_eq_true (by kernel_rfl)) k0 bel lt0) trodAll_mk0), rfl, bel.frame _, fun h => by cases h⟩

theorem closed_FnExactDescribeShift : joinedFacts Tryz.prog 3 Tryz.f3 Rows.fnExactDescribeShiftSpec Rows.fnExactDescribeShiftRow = true := by
  unfold joinedFacts
  rw [headMayEnter, headLiftsFinal, headMake]
  kernel_rfl
/-- The law returns true for every input, and its arguments read as before: the given statement. -/
theorem fnExactDescribeShift_holds : Rows.FnExactDescribeShiftSaid :=
  OpenClaim.holds_of_wide 3 Tryz.f3 rfl rfl rfl rfl rfl rfl rfl ⟨rfl, rfl, rfl, rfl, rfl⟩ rfl rfl rfl rfl rfl (by as_aux_lemma => kernel_rfl) Tryz.func3 closed_FnExactDescribeShift
    (by as_aux_lemma => exact of_decide_eq_true (by kernel_rfl)) (by unfold Func.isWrapper; first | (rw [if_pos (by decide +kernel)]; kernel_rfl) | (rw [if_neg (by decide +kernel)]; exact ⟨rfl, rfl⟩))
    (fun os started H enc _ => lifted_FnExactDescribeShift os started H enc)
theorem fnExactDescribeShift_card : Rows.FnExactDescribeShiftCardSaid :=
  Claim7.holds_tied_plain_at .later [] [.data, .data, .data] true (true, "8c8320814b88bdb935aa5a88e2226b0647fe5b3b616686c8676263a258487e31") false
    fnExactDescribeShift_holds (fun _ h => by cases h) (by kernel_rfl) (fun _ h => by cases h) fnExactDescribeShift_row_tie rfl ⟨rfl, rfl⟩ (by kernel_rfl) rfl
    (fun f fn hf hfn => by
      obtain rfl : f = 3 := Option.some.inj ((show Tryz.prog.funcNamed "loop.example/g03103/laws.FnExactDescribeShift" = some 3 by kernel_rfl).symm.trans hf) |>.symm
      obtain rfl : fn = Tryz.f3 := (Option.some.inj (Tryz.func3.symm.trans hfn)).symm
      exact ⟨by kernel_rfl, fun j t ht => by
        rw [Tryz.params3] at ht
        have hm : t ∈ [24] := by simpa using Array.mem_of_getElem? ht
        have hall : ([24].all fun u => !Tryz.prog.wantsStandIn u) = true := by kernel_rfl
        exact (show Tryz.prog.wantsStandIn t = false by simpa using List.all_eq_true.1 hall t hm)⟩)
    (by kernel_rfl)
#print axioms fnExactDescribeShift_card

end Go.Proofs.YtpfeflhcbcgbfaaGreatDoor
