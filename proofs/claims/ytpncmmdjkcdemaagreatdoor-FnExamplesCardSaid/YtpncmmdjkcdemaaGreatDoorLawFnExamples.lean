/- The law FnExamples returns true for all bytes, as a tied card. No condition but what the card ties. -/
import Derived.Test.YtpncmmdjkcdemaaGreatDoorExAll
import Derived.Test.YtpncmmdjkcdemaaGreatDoorBig
import Derived.Test.YtpncmmdjkcdemaaGreatDoorSame
import Derived.Test.YtpncmmdjkcdemaaGreatDoorBytesIn
import Derived.Test.YtpncmmdjkcdemaaGreatDoorLaidW
namespace Go.Proofs.YtpncmmdjkcdemaaGreatDoor
open Go.ChangeShapes Go.WideShapes Go.ChangeAt Go.RowKit
open Go.ChangeMaps (open_string shut_string)

theorem exM_smallF (n : Int) : small9 ((exM n).getD []) = true := by
  unfold exM
  repeat' split
  all_goals decide
theorem tab9F {w : World} {base : Nat} {a : Option Addr} {n c : Nat} {rows : List (List Int)} (h : TGrid 57 3 w base (.slice a n c) rows) (h1 : rows.length ≤ 9) (h2 : ∀ r ∈ rows, r.length ≤ 9) : TabAt w a n rows := by
  obtain ⟨a', c', hv, ht⟩ := grid_tabAt h (by omega) (fun r hr => Nat.le_trans (h2 r hr) (by omega))
  simp only [Value.slice.injEq] at hv
  obtain ⟨rfl, rfl, rfl⟩ := hv
  exact ht
/-- A fact that lasts while what is in memory stays. -/
def Kp (w : World) (P : World → Prop) : Prop := ∀ V, Below w.heap.size w V → P V
theorem Kp.mv {w w' : World} {P : World → Prop} (h : Kp w P) (hb : Below w.heap.size w w') : Kp w' P := fun V hV => h V (hb.trans (hV.mono hb.size))
theorem Kp.now {w : World} {P : World → Prop} (h : Kp w P) : P w := h w (Below.refl _ _)
theorem Kp.and {w : World} {P Q : World → Prop} (h : Kp w P) (g : Kp w Q) : Kp w fun V => P V ∧ Q V := fun V hV => ⟨h V hV, g V hV⟩
theorem kp_row {w : World} {a : Option Addr} {n : Nat} {xs : List Value} (h : RowAt w a n xs) : Kp w fun V => RowAt V a n xs := fun _ hV => h.below hV (Nat.le_refl _)
theorem kp_tab {w : World} {a : Option Addr} {n : Nat} {xs : List (List Int)} (h : TabAt w a n xs) : Kp w fun V => TabAt V a n xs := fun _ hV => h.below hV (Nat.le_refl _)
theorem kp_laid {w : World} (h : LaidW w) : Kp w LaidW := fun _ hV => laid_below h hV (Nat.le_refl _)
theorem kp_bel (w : World) : Kp w fun V => Below w.heap.size w V := fun _ hV => hV
theorem kp_box2 (w : World) (x y : Value) (T : TypeId) : Kp (w.alloc (.cells #[x, y] T)) fun V => V.cell? ⟨w.heap.size, 0, none⟩ = some x ∧ V.cell? ⟨w.heap.size, 1, none⟩ = some y := fun V hV =>
  ⟨(hV.cell (p := ⟨w.heap.size, 0, none⟩) (by simp)).trans (World.cell?_alloc_at _ _ _ _ rfl), (hV.cell (p := ⟨w.heap.size, 1, none⟩) (by simp)).trans (World.cell?_alloc_at _ _ _ _ rfl)⟩
theorem kp_box3 (w : World) (x y z : Value) (T : TypeId) : Kp (w.alloc (.cells #[x, y, z] T)) fun V => V.cell? ⟨w.heap.size, 0, none⟩ = some x ∧ V.cell? ⟨w.heap.size, 1, none⟩ = some y ∧ V.cell? ⟨w.heap.size, 2, none⟩ = some z := fun V hV =>
  ⟨(hV.cell (p := ⟨w.heap.size, 0, none⟩) (by simp)).trans (World.cell?_alloc_at _ _ _ _ rfl), (hV.cell (p := ⟨w.heap.size, 1, none⟩) (by simp)).trans (World.cell?_alloc_at _ _ _ _ rfl), (hV.cell (p := ⟨w.heap.size, 2, none⟩) (by simp)).trans (World.cell?_alloc_at _ _ _ _ rfl)⟩
theorem bel_al (w : World) (o : Obj) : Below w.heap.size w (w.alloc o) := (Below.refl _ _).alloc (Nat.le_refl _) _
theorem range_true {t hi : Int} {b : Bool} (h : b = decide (1 ≤ t ∧ t ≤ hi)) (h1 : 1 ≤ t) : decide (t ≤ hi) = b := by
  rw [h]
  simp [h1]
theorem range_false {t hi : Int} {b : Bool} (h : b = decide (1 ≤ t ∧ t ≤ hi)) (h1 : ¬ 1 ≤ t) : b = false := by
  rw [h]
  simp [h1]
set_option maxHeartbeats 4000000 in
set_option maxRecDepth 100000 in
theorem walk_FnExamples (W : World) (v : Value) (h : BytesIn W v) (hl : LaidW W) :
    Calls Tryz.prog 3 #[v] W fun e W' => e = .returned (.bool true) ∧ Below W.heap.size W W' := by
  obtain ⟨a, n, c, lb, rfl, hr⟩ := h
  have hlim := hr.lim
  by_cases hbig : 1048576 < n
  · clear hl
    go_enter Tryz.func3, Tryz.ntmps3
    go_wp2_with fail
    refine (big_c a n c _ hlim).mono ?_
    rintro e w1 ⟨rfl, rfl⟩
    rw [decide_eq_true hbig]
    go_wp2
    go_ret
    exact ⟨rfl, Below.refl _ _⟩
  have HK := hid ((kp_row hr).and ((kp_laid hl).and (kp_bel W)))
  clear hr hl
  go_enter Tryz.func3, Tryz.ntmps3
  go_wp2_with fail
  refine (big_c a n c _ hlim).mono ?_
  rintro e w1 ⟨rfl, rfl⟩
  rw [decide_eq_false hbig]
  go_wp2_with fail
  refine (DrawExampleMatrix_c a n c lb _ HK.out.now.1).mono ?_
  rintro e w1 ⟨t1, rfl, _, hb⟩
  have HK := hid (HK.out.mv hb)
  clear hb
  obtain ⟨b1, hb1⟩ : ∃ b, b = decide (1 ≤ t1 ∧ t1 ≤ 8) := ⟨_, rfl⟩
  have HI := hid (fun w h => impl_ExampleMatrix_c t1 w h)
  have HS := hid (fun w => spec_ExampleMatrix_c t1 w)
  have HX := hid (exM_mat t1)
  have HY := hid (small9_facts (exM_smallF t1))
  unfold ExMPost at HI HS
  rw [(exM_mat t1).2, ← hb1] at HI HS
  rw [← hb1] at HX
  obtain ⟨M, hM⟩ : ∃ M, M = (exM t1).getD [] := ⟨_, rfl⟩
  rw [← hM] at HI HS HX HY
  have HMat := hid HX.out.1
  have HD1 := hid hb1
  clear hM hb1 HX
  go_wp2_with fail
  refine (HI.out _ HK.out.now.2.1).mono ?_
  rintro e w2 ⟨a1, c1, rfl, hg, hb⟩
  have KM1 := hid (kp_tab (tab9F hg HY.out.1 HY.out.2))
  have HK := hid (HK.out.mv hb)
  clear hg hb HI
  go_wp2_with fail
  refine (HS.out _).mono ?_
  rintro e w3 ⟨a2, c2, rfl, hg, hb⟩
  have KM1 := hid ((KM1.out.mv hb).and (kp_tab (tab9F hg HY.out.1 HY.out.2)))
  have HK := hid (HK.out.mv hb)
  clear hg hb HS
  go_wp2_with fail
  refine (DrawExampleShift_c a n c lb _ HK.out.now.1).mono ?_
  rintro e w4 ⟨t2, rfl, _, hb⟩
  have HK := hid (HK.out.mv hb)
  have KM1 := hid (KM1.out.mv hb)
  clear hb
  obtain ⟨b2, hb2⟩ : ∃ b, b = decide (1 ≤ t2 ∧ t2 ≤ 6) := ⟨_, rfl⟩
  have HI := hid (fun w h => impl_ExampleShift_c t2 w h)
  have HS := hid (fun w => spec_ExampleShift_c t2 w)
  have HSh := hid (fun a c w h => IsShift_ex t2 a c w h)
  unfold ShO ShOwn at HI HS
  rw [(exS_is t2).1, ← hb2] at HI HS
  rw [← hb2] at HSh
  obtain ⟨ss, hss⟩ : ∃ ss, ss = ((exS t2).map (·.2)).getD [] := ⟨_, rfl⟩
  obtain ⟨k, hk⟩ : ∃ k : Nat, k = ((exS t2).map (·.1)).getD 0 := ⟨_, rfl⟩
  rw [← hss, ← hk] at HI HS HSh
  obtain ⟨p, hp⟩ : ∃ p, p = ss.length := ⟨_, rfl⟩
  rw [← hp] at HI HS HSh
  have HD2 := hid hb2
  clear hss hk hp hb2
  go_wp2_with fail
  refine (HI.out _ HK.out.now.2.1).mono ?_
  rintro e w5 ⟨a3, c3, rfl, ho, hb⟩
  have hal := bel_al w5 (.cells #[.int .i64 k, .slice a3 p c3] 30)
  have KS := hid (((kp_row ho.row).mv hal).and (kp_box2 w5 (.int .i64 k) (.slice a3 p c3) 30))
  have HK := hid ((HK.out.mv hb).mv hal)
  have KM1 := hid ((KM1.out.mv hb).mv hal)
  clear ho hb HI hal
  go_wp2_with fail
  refine (HS.out _).mono ?_
  rintro e w6 ⟨a4, c4, rfl, ho, hb⟩
  have hal := bel_al w6 (.cells #[.int .i64 k, .slice a4 p c4] 30)
  have KS := hid (((KS.out.mv hb).mv hal).and (((kp_row ho.row).mv hal).and (kp_box2 w6 (.int .i64 k) (.slice a4 p c4) 30)))
  have HK := hid ((HK.out.mv hb).mv hal)
  have KM1 := hid ((KM1.out.mv hb).mv hal)
  clear ho hb HS hal
  go_wp2_with fail
  refine (DrawExampleLabels_c a n c lb _ HK.out.now.1).mono ?_
  rintro e w7 ⟨t3, rfl, _, hb⟩
  have HK := hid (HK.out.mv hb)
  have KM1 := hid (KM1.out.mv hb)
  have KS := hid (KS.out.mv hb)
  clear hb
  obtain ⟨b3, hb3⟩ : ∃ b, b = decide (1 ≤ t3 ∧ t3 ≤ 3) := ⟨_, rfl⟩
  obtain ⟨x, y, q, xs, hq, hS, hI, hR⟩ := labels_is t3
  rw [← hb3] at hS hI hR
  unfold LabPost at hS hI
  have HI := hid hI
  have HS := hid hS
  have HLa := hid hR
  have HD3 := hid hb3
  clear hb3 hI hS hR
  go_wp2_with fail
  refine (HI.out _).mono ?_
  rintro e w8 ⟨a5, c5, rfl, ho, hb⟩
  have hal := bel_al w8 (.cells #[.int .i64 x, .int .i64 y, .slice a5 q c5] 35)
  have KL := hid (((kp_row (owns_rowAt3 ho (by omega))).mv hal).and (kp_box3 w8 (.int .i64 x) (.int .i64 y) (.slice a5 q c5) 35))
  have HK := hid ((HK.out.mv hb).mv hal)
  have KM1 := hid ((KM1.out.mv hb).mv hal)
  have KS := hid ((KS.out.mv hb).mv hal)
  clear ho hb HI hal
  go_wp2_with fail
  refine (HS.out _).mono ?_
  rintro e w9 ⟨a6, c6, rfl, ho, hb⟩
  have hal := bel_al w9 (.cells #[.int .i64 x, .int .i64 y, .slice a6 q c6] 35)
  have KL := hid (((KL.out.mv hb).mv hal).and (((kp_row (owns_rowAt3 ho (by omega))).mv hal).and (kp_box3 w9 (.int .i64 x) (.int .i64 y) (.slice a6 q c6) 35)))
  have HK := hid ((HK.out.mv hb).mv hal)
  have KM1 := hid ((KM1.out.mv hb).mv hal)
  have KS := hid ((KS.out.mv hb).mv hal)
  clear ho hb HS hal
  go_wp2_with fail
  refine (DrawExampleSubst_c a n c lb _ HK.out.now.1).mono ?_
  rintro e w10 ⟨t4, rfl, _, hb⟩
  have HK := hid (HK.out.mv hb)
  have KM1 := hid (KM1.out.mv hb)
  have KS := hid (KS.out.mv hb)
  have KL := hid (KL.out.mv hb)
  clear hb
  obtain ⟨b4, hb4⟩ : ∃ b, b = decide (1 ≤ t4 ∧ t4 ≤ 4) := ⟨_, rfl⟩
  have HI := hid (fun w => impl_ExampleSubst_c t4 w)
  have HS := hid (fun w => spec_ExampleSubst_c t4 w)
  have HSu := hid (exSub_is t4)
  have HSz := hid (exSub_sz t4)
  unfold ExPost at HI HS
  rw [show exOk t4 = b4 from hb4.symm] at HI HS
  rw [← hb4] at HSu
  obtain ⟨us, hus⟩ : ∃ us, us = exSub t4 := ⟨_, rfl⟩
  rw [← hus] at HI HS HSu HSz
  have hu3 : (strVals us).length ≤ 3 := by simpa [strVals] using HSz.out.1
  obtain ⟨u, hu⟩ : ∃ u, u = (strVals us).length := ⟨_, rfl⟩
  rw [← hu] at HI HS hu3
  have HD4 := hid hb4
  clear hus hu hb4
  go_wp2_with fail
  refine (HI.out _).mono ?_
  rintro e w11 ⟨v1, rfl, ho, hb⟩
  obtain ⟨a7, c7, rfl, hr7⟩ := owns_rowAt ho (by omega)
  have KU := hid (kp_row hr7)
  have HK := hid (HK.out.mv hb)
  have KM1 := hid (KM1.out.mv hb)
  have KS := hid (KS.out.mv hb)
  have KL := hid (KL.out.mv hb)
  clear ho hr7 hb HI
  go_wp2_with fail
  refine (HS.out _).mono ?_
  rintro e w12 ⟨v2, rfl, ho, hb⟩
  obtain ⟨a8, c8, rfl, hr8⟩ := owns_rowAt ho (by omega)
  have KU := hid ((KU.out.mv hb).and (kp_row hr8))
  have HK := hid (HK.out.mv hb)
  have KM1 := hid (KM1.out.mv hb)
  have KS := hid (KS.out.mv hb)
  have KL := hid (KL.out.mv hb)
  clear ho hr8 hb HS
  go_wp2_with fail
  refine (sameLists_c _ _ _ _ _ M _ KM1.out.now.1 KM1.out.now.2).mono ?_
  rintro e w13 ⟨rfl, m13, h13⟩
  have hb : Below w12.heap.size w12 w13 := by rw [h13]; exact below_drewN (Below.refl _ _) _
  have HK := hid (HK.out.mv hb)
  have KM1 := hid (KM1.out.mv hb)
  have KS := hid (KS.out.mv hb)
  have KL := hid (KL.out.mv hb)
  have KU := hid (KU.out.mv hb)
  clear hb h13
  obtain ⟨p0, p1⟩ := KS.out.now.1.2
  obtain ⟨p2, p3⟩ := KS.out.now.2.2
  go_wp2_with fail
  clear p0 p1 p2 p3
  refine (sameShift_c _ _ _ _ _ _ ss _ KS.out.now.1.1 KS.out.now.2.1).mono ?_
  rintro e w14 ⟨rfl, hb⟩
  have HK := hid (HK.out.mv hb)
  have KM1 := hid (KM1.out.mv hb)
  have KS := hid (KS.out.mv hb)
  have KL := hid (KL.out.mv hb)
  have KU := hid (KU.out.mv hb)
  clear hb
  obtain ⟨p0, p1, p2⟩ := KL.out.now.1.2
  obtain ⟨p3, p4, p5⟩ := KL.out.now.2.2
  go_wp2_with fail
  clear p0 p1 p2 p3 p4 p5
  refine (sameLabels_c _ _ _ _ _ _ _ xs _ (by omega) KL.out.now.1.1 KL.out.now.2.1).mono ?_
  rintro e w15 ⟨rfl, hb⟩
  have HK := hid (HK.out.mv hb)
  have KM1 := hid (KM1.out.mv hb)
  have KS := hid (KS.out.mv hb)
  have KL := hid (KL.out.mv hb)
  have KU := hid (KU.out.mv hb)
  clear hb
  go_wp2_with fail
  refine (sameTexts_c _ _ _ _ _ us _ KU.out.now.1 KU.out.now.2).mono ?_
  rintro e w16 ⟨rfl, hb⟩
  have HK := hid (HK.out.mv hb)
  have KM1 := hid (KM1.out.mv hb)
  have KS := hid (KS.out.mv hb)
  have KL := hid (KL.out.mv hb)
  have KU := hid (KU.out.mv hb)
  clear hb
  obtain ⟨p0, p1⟩ := KS.out.now.1.2
  have hd1 := HD1.out
  have hd2 := HD2.out
  have hd3 := HD3.out
  have hd4 := HD4.out
  by_cases h1 : 1 ≤ t1
  all_goals (first | (have d1 := range_true hd1 h1) | (obtain rfl := range_false hd1 h1))
  all_goals clear hd1
  all_goals by_cases h2 : 1 ≤ t2
  all_goals (first | (have d2 := range_true hd2 h2) | (obtain rfl := range_false hd2 h2))
  all_goals clear hd2
  all_goals by_cases h3 : 1 ≤ t3
  all_goals (first | (have d3 := range_true hd3 h3) | (obtain rfl := range_false hd3 h3))
  all_goals clear hd3
  all_goals by_cases h4 : 1 ≤ t4
  all_goals (first | (have d4 := range_true hd4 h4) | (obtain rfl := range_false hd4 h4))
  all_goals clear hd4
  all_goals
    go_wp2_with fail
    refine (spec_IsMatrix_c _ _ _ M _ KM1.out.now.1).mono ?_
    rintro e w17 ⟨rfl, rfl⟩
    rw [HMat.out]
    go_wp2_with fail
    refine (HSh.out _ _ _ KS.out.now.1.1).mono ?_
    rintro e w18 ⟨rfl, hb⟩
    have HK := hid (HK.out.mv hb)
    have KL := hid (KL.out.mv hb)
    have KU := hid (KU.out.mv hb)
    clear hb p0 p1
    obtain ⟨p0, p1, p2⟩ := KL.out.now.1.2
    go_wp2_with fail
    refine (HLa.out _ _ _ KL.out.now.1.1).mono ?_
    rintro e w19 ⟨rfl, hb⟩
    have HK := hid (HK.out.mv hb)
    have KU := hid (KU.out.mv hb)
    clear hb p0 p1 p2
    go_wp2_with fail
    refine (spec_IsSubst_c _ _ _ us _ KU.out.now.1 (fun s hs => Nat.le_trans (HSz.out.2 s hs) (by unfold maxLen; omega))).mono ?_
    rintro e w20 ⟨rfl, rfl⟩
    rw [HSu.out]
    go_wp2
    go_ret
    exact ⟨rfl, HK.out.now.2.2⟩
theorem door_FnExamples (os : Os) (args : Array Value) : laidMetH Tryz.prog Rows.fnExamplesRow.laid ((World.laidAll Tryz.prog os Rows.fnExamplesRow.laid).forCall (fun _ _ => 0) ⟨#[], args, []⟩).memory :=
  by rw [MakeChecks.laidMetH_plain _ _ _ (by kernel_rfl)]; exact laidMet_laidAll _ (by kernel_rfl) (by kernel_rfl)
set_option maxRecDepth 100000 in
theorem lifted_FnExamples (os : Os) (started : os.Started) (H : Type) (enc : TypeId × Value → H) :
    ReturnsInHanded {} Tryz.checked os 3 .any (fun w args => (Rows.fnExamplesSpec.pre enc Tryz.prog Tryz.f3 Rows.fnExamplesRow.domain false w args ∧ laidMetH Tryz.prog Rows.fnExamplesRow.laid w) ∧ sizedMet enc Tryz.prog Tryz.f3 (OpenSpec.ofChange Rows.fnExamplesSpec) false w args) (Rows.fnExamplesSpec.post enc Tryz.prog Tryz.f3 false true false false) := by
  refine change_and_shaped (C := Tryz.checked) (X := fun w _ => laidMetH Tryz.prog Rows.fnExamplesRow.laid w) (fun _ _ _ hh h => h.of_heap hh) own started (by kernel_rfl) Tryz.func3
    (ChangeSpec.witness_shaped (enc := enc) (C := Tryz.checked) (os := os) (X := fun w _ => laidMetH Tryz.prog Rows.fnExamplesRow.laid w) false (World.laidAll Tryz.prog os Rows.fnExamplesRow.laid) #[.slice none 0 0] 8 (World.laidAll_os _ _ _) (World.shaped_of_ZipB (by kernel_rfl) (by kernel_rfl)) (by kernel_rfl) (by kernel_rfl) (by kernel_rfl) (door_FnExamples os _)) ?_
  intro W base args ds gs before hval0 hW hcnd hsz0 hLaid hsh _
  have htab := laidW_of hLaid hsh
  have hsz : (DataW.weightsEach Tryz.prog (Tryz.f3.params.toList ++ Rows.fnExamplesSpec.plain.varTypes Tryz.prog) (ds ++ gs)).all (· ≤ reachBytes) = true := hsz0
  clear hsz0
  have hval : ∀ (j : Nat) t v, Tryz.f3.params[j]? = some t → args[j]? = some v → Value.okWide Tryz.prog W .any base t v := hval0
  have hW' := hW
  obtain ⟨p, q, hA0, hV, rfl, hfz, hnd⟩ := hW
  have hA : DataW.TrodAll enc Tryz.prog W 0 (fun _ => true) true Tryz.f3.params.toList args.toList ds p := hA0
  rw [Tryz.params3] at hA hval hsz
  obtain ⟨v0, vs0, d0, ds0, p0, q0, hargs, rfl, rfl, h0, r0⟩ := trodAll_cons hA
  obtain ⟨rfl, rfl, rfl⟩ := trodAll_nil r0
  obtain rfl : args = #[v0] := by cases args; simp_all
  obtain ⟨rfl, rfl⟩ := trodVars_none hV
  have k0 := h0
  have lt0 : ∀ x ∈ p0, x.block < W.heap.size := by obtain ⟨m, hm⟩ := k0; exact DataW.trod_lt m _ _ _ hm
  have w0 := open_bytes (enc := enc) (hval 0 22 v0 rfl rfl) h0 (fun x hx => DataW.weights_mem_each (j := 0) rfl rfl x hx) hsz
  clear hA0 hval0
  refine (walk_FnExamples W v0 w0 htab).mono fun e W' ⟨he, bel⟩ => ?_
  subst he
  exact ⟨_, rfl, _, _, _, [], _, [], hW', trodAll_mk1 (shut_bool Tryz.underlying4 _), (trodAll_cons_mk (Below.trod laidOut (by kernel_rfl) (of_decide_eq_true (by kernel_rfl)) k0 bel lt0) trodAll_mk0), rfl, bel.frame _, fun h => by cases h⟩

theorem closed_FnExamples : joinedFacts Tryz.prog 3 Tryz.f3 Rows.fnExamplesSpec Rows.fnExamplesRow = true := by
  unfold joinedFacts
  rw [headMayEnter, headLiftsFinal, headMake]
  kernel_rfl
/-- The law returns true for every input, and its arguments read as before: the given statement. -/
theorem fnExamples_holds : Rows.FnExamplesSaid :=
  OpenClaim.holds_of_wide 3 Tryz.f3 rfl rfl rfl rfl rfl rfl rfl ⟨rfl, rfl, rfl, rfl, rfl⟩ rfl rfl rfl rfl rfl (by as_aux_lemma => kernel_rfl) Tryz.func3 closed_FnExamples
    (by as_aux_lemma => exact of_decide_eq_true (by kernel_rfl)) (by unfold Func.isWrapper; first | (rw [if_pos (by decide +kernel)]; kernel_rfl) | (rw [if_neg (by decide +kernel)]; exact ⟨rfl, rfl⟩))
    (fun os started H enc _ => lifted_FnExamples os started H enc)
theorem fnExamples_card : Rows.FnExamplesCardSaid :=
  Claim7.holds_tied_plain_at .later [] [.data, .data, .data, .data, .sentinel, .sentinel, .pinned] true (true, "d1cc8c749bdaf4fff5c5e29cd81352fbf0d975c7e23da67a737398e75120b1a8") true
    fnExamples_holds (fun _ h => by cases h) (by kernel_rfl) (fun _ h => by cases h) fnExamples_row_tie rfl ⟨rfl, rfl⟩ (by kernel_rfl) rfl
    (fun f fn hf hfn => by
      obtain rfl : f = 3 := Option.some.inj ((show Tryz.prog.funcNamed "loop.example/g03103/laws.FnExamples" = some 3 by kernel_rfl).symm.trans hf) |>.symm
      obtain rfl : fn = Tryz.f3 := (Option.some.inj (Tryz.func3.symm.trans hfn)).symm
      exact ⟨by kernel_rfl, fun j t ht => by
        rw [Tryz.params3] at ht
        have hm : t ∈ [22] := by simpa using Array.mem_of_getElem? ht
        have hall : ([22].all fun u => !Tryz.prog.wantsStandIn u) = true := by kernel_rfl
        exact (show Tryz.prog.wantsStandIn t = false by simpa using List.all_eq_true.1 hall t hm)⟩)
    (by kernel_rfl)
#print axioms fnExamples_card

end Go.Proofs.YtpncmmdjkcdemaaGreatDoor
