/- The law FnExactDescribeLabels returns true for every labelled graph, as a tied card. No condition but what the card ties. -/
import Derived.Test.YtpfeflhcbcgbfaaDoorDescLS
import Derived.Test.YtpfeflhcbcgbfaaDoorDescLI
import Derived.Test.YtpfeflhcbcgbfaaDoorToLab
import Derived.Test.YtpfeflhcbcgbfaaDoorTie
import Derived.Test.YtpfeflhcbcgbfaaDoorCards
import Derived.LaidMore
import Derived.Stop.Joined
import Derived.Lib.LaidTab
namespace Go.Proofs.YtpfeflhcbcgbfaaDoor
open Go.ChangeShapes Go.WideShapes Go.ChangeAt Go.RowKit
open Go.ChangeMaps (open_string shut_string)

theorem gPow : Tryd.prog.globalNamed "internal/strconv.uint64pow10" = some ((Tryd.prog.globalNamed "internal/strconv.uint64pow10").getD 0) := by kernel_rfl
theorem tPow : (Tryd.prog.globals[(Tryd.prog.globalNamed "internal/strconv.uint64pow10").getD 0]?).map (·.type) = some 120 := by kernel_rfl
theorem cellsU64 : Tryd.prog.cellsOf 96 = 1 := by kernel_rfl
theorem cellsPow : Tryd.prog.cellsOf 120 = 20 := by kernel_rfl
theorem laidPow : (Rows.laid_internal_strconv_uint64pow10 : DataW Unit) = Lib.tabData .u64 Lib.pow10Tab := by kernel_rfl
theorem tab_of_laid {W : World} (h : laidMetH Tryd.prog [("math/bits.deBruijn32tab", Rows.laid_math_bits_deBruijn32tab), ("math/bits.deBruijn64tab", Rows.laid_math_bits_deBruijn64tab), ("internal/strconv.uint64pow10", Rows.laid_internal_strconv_uint64pow10)] W) : TabW W := by
  rw [MakeChecks.laidMetH_plain _ _ _ (by kernel_rfl)] at h
  obtain ⟨ps, ⟨g0, t0, cs0, f0, p0, q0, hg0, ht0, hv0, hd0, ⟨g1, t1, cs1, f1, p1, q1, hg1, ht1, hv1, hd1, ⟨g2, t2, cs2, f2, p2, q2, hg2, ht2, hv2, hd2, _, _⟩, _⟩, _⟩, _, _⟩ := h
  obtain rfl := Option.some.inj (gPow.symm.trans hg2)
  obtain rfl := Option.some.inj (tPow.symm.trans ht2)
  rw [laidPow] at hd2
  unfold TabW Lib.TabIs
  rw [hv2, ← Lib.cells_of_tab Tryd.underlying120 Tryd.underlying96 cellsU64 cellsPow hd2]
/-- A valid graph has few arcs. -/
def arcVal (a : Int × Int × Int) : Int := (a.1 * 3 + a.2.2) * 12 + a.2.1
theorem arc_rise {L S : Int} {A : List (Int × Int × Int)} (hL : L ≤ 3) (hS : S ≤ 12) {n : Nat} (h : arcsTo L S A n = true) : ∀ k, k < n → (k : Int) ≤ arcVal (arcAt A k)
  | 0, hk => by
    have := arcsTo_all h 0 hk
    unfold arcStep arcOkB at this
    simp only [Bool.and_eq_true, inB_iff] at this
    unfold arcVal
    omega
  | k + 1, hk => by
    have ih := arc_rise hL hS h k (by omega)
    have h1 := arcsTo_all h (k + 1) hk
    have h0 := arcsTo_all h k (by omega)
    unfold arcStep arcOkB at h1 h0
    simp only [Bool.and_eq_true, inB_iff] at h1 h0
    have hb := h1.2
    rw [show k + 1 - 1 = k by omega, show (k + 1 == 0) = false by simp, Bool.false_or, befB_iff] at hb
    unfold arcVal at ih ⊢
    omega
theorem labs_few {L S : Int} {A : List (Int × Int × Int)} (h : labsB L S A = true) : A.length ≤ 1000000 := by
  unfold labsB at h
  simp only [Bool.and_eq_true, inB_iff] at h
  obtain ⟨⟨h1, h2⟩, h3⟩ := h
  rcases Nat.eq_zero_or_pos A.length with h0 | h0
  · omega
  · have hr := arc_rise (by omega) (by omega) h3 (A.length - 1) (by omega)
    have ha := arcsTo_all h3 (A.length - 1) (by omega)
    unfold arcStep arcOkB at ha
    simp only [Bool.and_eq_true, inB_iff] at ha
    unfold arcVal at hr
    omega
theorem spec_DescribeLabels_no (L S : Int) (a : Option Addr) (n c : Nat) (A : List (Int × Int × Int)) (w : World) (hr : RowAt w a (n * 3) (arcVals A)) (hn : n ≤ 1048576) (h : labsB L S A = false) :
    Calls Tryd.prog 5 #[.agg #[.int .i64 L, .int .i64 S, .slice a n c]] w fun e w' => e = .returned (.string ⟨#[]⟩) ∧ Below w.heap.size w w' := by
  have HBX := hid (fun (V : World) (hV : Below (w.heap.size + 1) (w.alloc (.cells #[.int .i64 L, .int .i64 S, .slice a n c] 29)) V) => lab_box hV)
  obtain ⟨W2, hW2⟩ : ∃ W2, W2 = w.alloc (.cells #[.int .i64 L, .int .i64 S, .slice a n c] 29) := ⟨_, rfl⟩
  have hB : Below w.heap.size w W2 := by rw [hW2]; exact (Below.refl _ _).alloc (Nat.le_refl _) _
  have hsz : W2.heap.size = w.heap.size + 1 := by rw [hW2]; simp
  rw [← hW2, ← hsz] at HBX
  have HI := hid (fun (W : World) (hW : Below w.heap.size w W) => spec_IsLabels_c L S a n c A W (hr.below hW (Nat.le_refl _)) hn)
  rw [h] at HI
  obtain ⟨⟨p0, p1, p2⟩, _⟩ := HBX.out W2 (Below.refl _ _)
  have HB := hid hB
  clear hr hB h
  go_enter Tryd.func5, Tryd.ntmps5
  go_wp2_with (rw [← hW2])
  first | rw [← hW2] | skip
  clear hW2
  refine (HI.out _ HB.out).mono ?_
  rintro e w1 ⟨rfl, hb1⟩
  go_wp2
  go_ret
  exact ⟨rfl, HB.out.trans (hb1.mono HB.out.size)⟩
theorem impl_DescribeLabels_no (L S : Int) (a : Option Addr) (n c : Nat) (A : List (Int × Int × Int)) (w : World) (hr : RowAt w a (n * 3) (arcVals A)) (hn : n ≤ 1048576) (h : labsB L S A = false) :
    Calls Tryd.prog 7 #[.agg #[.int .i64 L, .int .i64 S, .slice a n c]] w fun e w' => e = .returned (.string ⟨#[]⟩) ∧ Below w.heap.size w w' := by
  have HBX := hid (fun (V : World) (hV : Below (w.heap.size + 1) (w.alloc (.cells #[.int .i64 L, .int .i64 S, .slice a n c] 29)) V) => lab_box hV)
  obtain ⟨W2, hW2⟩ : ∃ W2, W2 = w.alloc (.cells #[.int .i64 L, .int .i64 S, .slice a n c] 29) := ⟨_, rfl⟩
  have hB : Below w.heap.size w W2 := by rw [hW2]; exact (Below.refl _ _).alloc (Nat.le_refl _) _
  have hsz : W2.heap.size = w.heap.size + 1 := by rw [hW2]; simp
  rw [← hW2, ← hsz] at HBX
  have HI := hid (fun (W : World) (hW : Below w.heap.size w W) => impl_IsLabels_w L S a n c A W (hr.below hW (Nat.le_refl _)) hn)
  rw [h] at HI
  obtain ⟨⟨p0, p1, p2⟩, _⟩ := HBX.out W2 (Below.refl _ _)
  have HB := hid hB
  clear hr hB h
  go_enter Tryd.func7, Tryd.ntmps7
  go_wp2_with (rw [← hW2])
  first | rw [← hW2] | skip
  clear hW2
  refine (HI.out _ HB.out).mono ?_
  rintro e w1 ⟨rfl, hb1⟩
  go_wp2
  go_ret
  exact ⟨rfl, HB.out.trans (hb1.mono HB.out.size)⟩
theorem descL_ex (L S : Int) (A : List (Int × Int × Int)) (n : Nat) (hA : A.length = n) (hn : n ≤ 1048576) : ∃ t : ByteArray, (∀ (w : World) (a : Option Addr) (c : Nat), RowAt w a (n * 3) (arcVals A) → Calls Tryd.prog 5 #[.agg #[.int .i64 L, .int .i64 S, .slice a n c]] w fun e w' => e = .returned (.string t) ∧ Below w.heap.size w w') ∧ ∀ (w : World) (a : Option Addr) (c : Nat), RowAt w a (n * 3) (arcVals A) → TabW w → Calls Tryd.prog 7 #[.agg #[.int .i64 L, .int .i64 S, .slice a n c]] w fun e w' => e = .returned (.string t) ∧ Below w.heap.size w w' := by
  cases h : labsB L S A
  · exact ⟨_, fun w a c hr => spec_DescribeLabels_no L S a n c A w hr hn h, fun w a c hr _ => impl_DescribeLabels_no L S a n c A w hr hn h⟩
  · have hf := labs_few h
    obtain ⟨k, s, G, rfl, rfl, rfl, hG⟩ := labs_some h
    exact ⟨_, fun w a c hr => spec_DescribeLabels_yes k s a n c G w hr hG (by omega) h, fun w a c hr ht => impl_DescribeLabels_yes k s a n c G w hr hG (by omega) h ht⟩
set_option maxHeartbeats 2000000 in
set_option maxRecDepth 100000 in
theorem walk_FnExactDescribeLabels (W : World) (v : Value) (h : LabIn W v) (ht : TabW W) :
    Calls Tryd.prog 3 #[v] W fun e W' => e = .returned (.bool true) ∧ Below W.heap.size W W' := by
  obtain ⟨L, S, a, c, A, rfl, hr⟩ := h
  obtain ⟨n, hn⟩ : ∃ n, n = A.length := ⟨_, rfl⟩
  rw [← hn] at hr ⊢
  have HN := hid hn.symm
  clear hn
  have hlim := hr.lim
  have HBX := hid (fun (V : World) (hV : Below (W.heap.size + 1) (W.alloc (.cells #[.int .i64 L, .int .i64 S, .slice a n c] 24)) V) => lab_box hV)
  obtain ⟨W2, hW2⟩ : ∃ W2, W2 = W.alloc (.cells #[.int .i64 L, .int .i64 S, .slice a n c] 24) := ⟨_, rfl⟩
  have hB : Below W.heap.size W W2 := by rw [hW2]; exact (Below.refl _ _).alloc (Nat.le_refl _) _
  have hsz : W2.heap.size = W.heap.size + 1 := by rw [hW2]; simp
  rw [← hW2, ← hsz] at HBX
  have HSZ := hid (fun (V : World) => szLabels_c L S a n c V (by omega))
  obtain ⟨⟨p0, p1, p2⟩, _⟩ := HBX.out W2 (Below.refl _ _)
  have HB := hid hB
  by_cases hb : 1048576 < n
  · rw [if_pos hb] at HSZ
    clear hr hB ht
    go_enter Tryd.func3, Tryd.ntmps3
    go_wp2_with (rw [← hW2])
    first | rw [← hW2] | skip
    clear hW2
    refine (HSZ.out _).mono ?_
    rintro e w1 ⟨rfl, hb1⟩
    go_wp2
    go_ret
    exact ⟨rfl, HB.out.trans (hb1.mono HB.out.size)⟩
  · rw [if_neg hb] at HSZ
    obtain ⟨t, hS, hI⟩ := descL_ex L S A n HN.out (by omega)
    have HS := hid hS
    have HI := hid (fun (w : World) (hw : Below W.heap.size W w) (a : Option Addr) (c : Nat) (h : RowAt w a (n * 3) (arcVals A)) => hI w a c h (tab_below ht hw (Nat.le_refl _)))
    have HTO := hid (fun (V : World) (hV : Below W.heap.size W V) => toLabels_c L S a n c A V (hr.below hV (Nat.le_refl _)) (by omega))
    have HEQ := hid (fun (V : World) (g1 g2 : Option Addr) (d1 d2 : Nat) (h1 : RowAt V g1 (n * 3) (arcVals A)) (h2 : RowAt V g2 (n * 3) (arcVals A)) => eqLabels_c L S g1 g2 n d1 d2 (A.flatMap fun a => [a.1, a.2.1, a.2.2]) V (by omega) (by rw [← arcVals_ints]; exact h1) (by rw [← arcVals_ints]; exact h2))
    have hpos : ¬ ((1048576 : Int) - (n : Int) < 0) := by omega
    clear hr hB ht hS hI
    go_enter Tryd.func3, Tryd.ntmps3
    go_wp2_with (rw [← hW2])
    first | rw [← hW2] | skip
    clear hW2
    refine (HSZ.out _).mono ?_
    rintro e w1 ⟨rfl, hb1⟩
    have HB1 := hid hb1
    obtain ⟨⟨q0, q1, q2⟩, _, hbw1⟩ := HBX.out w1 hb1
    clear p0 p1 p2 hb1
    go_wp2_with fail
    refine (HTO.out _ hbw1).mono ?_
    rintro e w2 ⟨g2, d2, rfl, hr2, hb2⟩
    have HB2 := hid (HB1.out.trans (hb2.mono HB1.out.size))
    have HS2 := hid (HS.out w2 g2 d2 hr2)
    clear q0 q1 q2 hbw1 hb2 hr2
    go_wp2_with fail
    refine HS2.out.mono ?_
    rintro e w3 ⟨rfl, hb3⟩
    have HB3 := hid (HB2.out.trans (hb3.mono HB2.out.size))
    obtain ⟨⟨q0, q1, q2⟩, _, hbw3⟩ := HBX.out w3 HB3.out
    clear hb3
    go_wp2_with fail
    refine (HTO.out _ hbw3).mono ?_
    rintro e w4 ⟨g4, d4, rfl, hr4, hb4⟩
    have HB4 := hid (HB3.out.trans (hb4.mono HB3.out.size))
    obtain ⟨W5, hW5⟩ : ∃ W5, W5 = w4.alloc (.cells #[.int .i64 L, .int .i64 S, .slice g4 n d4] 29) := ⟨_, rfl⟩
    have hb5 : Below w4.heap.size w4 W5 := by rw [hW5]; exact (Below.refl _ _).alloc (Nat.le_refl _) _
    have HX5 := hid (show BoxC W5 w4.heap.size #[.int .i64 L, .int .i64 S, .slice g4 n d4] by rw [hW5]; exact BoxC.new _ _ _)
    have HB5 := hid (HB4.out.trans (hb5.mono HB4.out.size))
    have HR5 := hid (hr4.below hb5 (Nat.le_refl _))
    have HW5 := hid hW5
    obtain ⟨_, _, hbw5⟩ := HBX.out W5 HB5.out
    have HI5 := hid (HI.out W5 hbw5 g4 d4 HR5.out)
    obtain ⟨⟨x0, x1, x2⟩, _⟩ := HX5.out.c3
    clear q0 q1 q2 hbw3 hb4 hr4 hb5 hW5
    go_upto_region 7 with fail
    first | rw [← HW5.out] | trace_state
    go_wp2_with fail
    refine HI5.out.mono ?_
    rintro e w6 ⟨rfl, hb6⟩
    have HB6 := hid (HB5.out.trans (hb6.mono HB5.out.size))
    have HX6 := hid (HX5.out.below hb6)
    have HR6 := hid (HR5.out.below hb6 (Nat.le_refl _))
    clear x0 x1 x2 hb6 hbw5
    have hbZ : Below w6.heap.size w6 w6.drew := (Below.refl _ _).drew
    have HKK := hid (fun (V : World) (hV : Below w6.heap.size w6 V) => show V.cell? ⟨w4.heap.size, 0, none⟩ = some (.int .i64 L) ∧ V.cell? ⟨w4.heap.size, 1, none⟩ = some (.int .i64 S) ∧ V.cell? ⟨w4.heap.size, 2, none⟩ = some (.slice g4 n d4) ∧ V.cell? ⟨W.heap.size, 0, none⟩ = some (.int .i64 L) ∧ V.cell? ⟨W.heap.size, 1, none⟩ = some (.int .i64 S) ∧ V.cell? ⟨W.heap.size, 2, none⟩ = some (.slice a n c) ∧ Below w6.heap.size w6 V from by
      obtain ⟨⟨y0, y1, y2⟩, _⟩ := (HX6.out.below hV).c3
      obtain ⟨⟨z0, z1, z2⟩, _⟩ := HBX.out V (HB6.out.trans (hV.mono HB6.out.size))
      exact ⟨y0, y1, y2, z0, z1, z2, hV⟩)
    have HTO6 := hid (fun (V : World) (hV : Below w6.heap.size w6 V) => HTO.out V (HBX.out V (HB6.out.trans (hV.mono HB6.out.size))).2.2)
    have HEQ6 := hid (fun (V : World) (hV : Below w6.heap.size w6 V) (g : Option Addr) (d : Nat) (hg : RowAt V g (n * 3) (arcVals A)) => HEQ.out V g4 g d4 d (HR6.out.below hV (Nat.le_refl _)) hg)
    have HBE := hid (fun (V : World) (hV : Below w6.heap.size w6 V) => (HBX.out V (HB6.out.trans (hV.mono HB6.out.size))).2.2)
    go_wp2
    go_region_held3 (fun V => V.cell? ⟨w4.heap.size, 0, none⟩ = some (.int .i64 L) ∧ V.cell? ⟨w4.heap.size, 1, none⟩ = some (.int .i64 S) ∧ V.cell? ⟨w4.heap.size, 2, none⟩ = some (.slice g4 n d4) ∧ V.cell? ⟨W.heap.size, 0, none⟩ = some (.int .i64 L) ∧ V.cell? ⟨W.heap.size, 1, none⟩ = some (.int .i64 S) ∧ V.cell? ⟨W.heap.size, 2, none⟩ = some (.slice a n c) ∧ Below w6.heap.size w6 V)
      (first | with_reducible exact HKK.out _ hbZ)
      (first | (go_at_call 6; refine (HTO6.out _ hbZ).mono ?_; rintro e w7 ⟨g7, d7, rfl, hr7, hb7⟩; have hbZ := hbZ.trans (hb7.mono hbZ.size)) | (go_at_call 8; refine (HEQ6.out _ hbZ _ _ hr7).mono ?_; rintro e w8 ⟨rfl, hb8⟩; have hbZ := hbZ.trans (hb8.mono hbZ.size)))
    all_goals
      have HBL := hid (HBE.out _ hbZ)
      clear HKK HTO6 HEQ6 HBE
      go_wp2
      go_ret
      exact ⟨rfl, HBL.out⟩

theorem door_FnExactDescribeLabels (os : Os) (args : Array Value) : laidMetH Tryd.prog Rows.fnExactDescribeLabelsRow.laid ((World.doorLaid Tryd.prog 24 os).forCall (fun _ _ => 0) ⟨#[], args, []⟩).memory :=
  laidMetH_of_parts3 (fuel := 8) (laidMet_of_run' 8 (by kernel_rfl) (by kernel_rfl)) (by kernel_rfl) (by kernel_rfl)
set_option maxRecDepth 100000 in
theorem lifted_FnExactDescribeLabels (os : Os) (started : os.Started) (H : Type) (enc : TypeId × Value → H) :
    ReturnsInHanded {} Tryd.checked os 3 .any (fun w args => (Rows.fnExactDescribeLabelsSpec.pre enc Tryd.prog Tryd.f3 Rows.fnExactDescribeLabelsRow.domain false w args ∧ laidMetH Tryd.prog Rows.fnExactDescribeLabelsRow.laid w) ∧ sizedMet enc Tryd.prog Tryd.f3 (OpenSpec.ofChange Rows.fnExactDescribeLabelsSpec) false w args) (Rows.fnExactDescribeLabelsSpec.post enc Tryd.prog Tryd.f3 false true false false) := by
  refine returnsInHanded_of_change_and (C := Tryd.checked) (X := fun w _ => laidMetH Tryd.prog Rows.fnExactDescribeLabelsRow.laid w) (fun _ _ _ hh h => h.of_heap hh) own started (by kernel_rfl) Tryd.func3
    (ChangeSpec.witness_shaped (enc := enc) (C := Tryd.checked) (os := os) (X := fun w _ => laidMetH Tryd.prog Rows.fnExactDescribeLabelsRow.laid w) false (World.doorLaid Tryd.prog 24 os) #[.agg #[.int .i64 0, .int .i64 0, .slice none 0 0]] 8 rfl (World.shaped_of_RefB (by kernel_rfl) (by kernel_rfl)) (by kernel_rfl) (by kernel_rfl) (by kernel_rfl) (door_FnExactDescribeLabels os _)) ?_
  intro W base args ds gs before hval0 hW hcnd hsz0 hLaid _
  have htab := tab_of_laid hLaid
  have hsz : (DataW.weightsEach Tryd.prog (Tryd.f3.params.toList ++ Rows.fnExactDescribeLabelsSpec.plain.varTypes Tryd.prog) (ds ++ gs)).all (· ≤ reachBytes) = true := hsz0
  clear hsz0
  have hval : ∀ (j : Nat) t v, Tryd.f3.params[j]? = some t → args[j]? = some v → Value.okWide Tryd.prog W .any base t v := hval0
  have hW' := hW
  obtain ⟨p, q, hA0, hV, rfl, hfz, hnd⟩ := hW
  have hA : DataW.TrodAll enc Tryd.prog W 0 (fun _ => true) true Tryd.f3.params.toList args.toList ds p := hA0
  rw [Tryd.params3] at hA hval hsz
  obtain ⟨v0, vs0, d0, ds0, p0, q0, hargs, rfl, rfl, h0, r0⟩ := trodAll_cons hA
  obtain ⟨rfl, rfl, rfl⟩ := trodAll_nil r0
  obtain rfl : args = #[v0] := by cases args; simp_all
  obtain ⟨rfl, rfl⟩ := trodVars_none hV
  have k0 := h0
  have lt0 : ∀ x ∈ p0, x.block < W.heap.size := by obtain ⟨m, hm⟩ := k0; exact DataW.trod_lt m _ _ _ hm
  have w0 := open_labels (enc := enc) (hval 0 24 v0 rfl rfl) h0 (fun x hx => DataW.weights_mem_each (j := 0) rfl rfl x hx) hsz
  clear hA0 hval0
  refine (walk_FnExactDescribeLabels W v0 w0 htab).mono fun e W' ⟨he, bel⟩ => ?_
  subst he
  exact ⟨_, rfl, _, _, _, [], _, [], hW', trodAll_mk1 (shut_bool Tryd.underlying4 _), (trodAll_cons_mk (Below.trod laidOut (by kernel_rfl) (of_decide_eq_true (by kernel_rfl)) k0 bel lt0) trodAll_mk0), rfl, bel.frame _, fun h => by cases h⟩

theorem closed_FnExactDescribeLabels : joinedFacts Tryd.prog 3 Tryd.f3 Rows.fnExactDescribeLabelsSpec Rows.fnExactDescribeLabelsRow = true := by
  unfold joinedFacts
  rw [headMayEnter, headLiftsFinal, headMake]
  kernel_rfl
/-- The law returns true for every input, and its arguments read as before: the given statement. -/
theorem fnExactDescribeLabels_holds : Rows.FnExactDescribeLabelsSaid :=
  OpenClaim.holds_of_wide 3 Tryd.f3 rfl rfl rfl rfl rfl rfl rfl ⟨rfl, rfl, rfl, rfl, rfl⟩ rfl rfl rfl rfl rfl (by as_aux_lemma => kernel_rfl) Tryd.func3 closed_FnExactDescribeLabels
    (by as_aux_lemma => exact of_decide_eq_true (by kernel_rfl)) (by unfold Func.isWrapper; first | (rw [if_pos (by decide +kernel)]; kernel_rfl) | (rw [if_neg (by decide +kernel)]; exact ⟨rfl, rfl⟩))
    (fun os started H enc _ => lifted_FnExactDescribeLabels os started H enc)
theorem fnExactDescribeLabels_card : Rows.FnExactDescribeLabelsCardSaid :=
  Claim7.holds_tied_plain_at .later [] [.data, .data, .data] true (true, "0a1910087f483f2c78ebd50a77617b59d3d058e84d100eea0855ef4ee0134430") false
    fnExactDescribeLabels_holds (fun _ h => by cases h) (by kernel_rfl) (fun _ h => by cases h) fnExactDescribeLabels_row_tie rfl ⟨rfl, rfl⟩ (by kernel_rfl) rfl
    (fun f fn hf hfn => by
      obtain rfl : f = 3 := Option.some.inj ((show Tryd.prog.funcNamed "loop.example/g03103/laws.FnExactDescribeLabels" = some 3 by kernel_rfl).symm.trans hf) |>.symm
      obtain rfl : fn = Tryd.f3 := (Option.some.inj (Tryd.func3.symm.trans hfn)).symm
      exact ⟨by kernel_rfl, fun j t ht => by
        rw [Tryd.params3] at ht
        have hm : t ∈ [24] := by simpa using Array.mem_of_getElem? ht
        have hall : ([24].all fun u => !Tryd.prog.wantsStandIn u) = true := by kernel_rfl
        exact (show Tryd.prog.wantsStandIn t = false by simpa using List.all_eq_true.1 hall t hm)⟩)
    (by kernel_rfl)
#print axioms fnExactDescribeLabels_card

end Go.Proofs.YtpfeflhcbcgbfaaDoor
