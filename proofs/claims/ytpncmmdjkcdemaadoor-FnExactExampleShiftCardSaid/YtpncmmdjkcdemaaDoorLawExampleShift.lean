/- The law FnExactExampleShift returns true for every number, as a tied card. No condition but what the card ties. -/
import Derived.Test.YtpncmmdjkcdemaaDoorShLaw
import Derived.Test.YtpncmmdjkcdemaaDoorLaidW
namespace Go.Proofs.YtpncmmdjkcdemaaDoor
open Go.ChangeShapes Go.WideShapes Go.ChangeAt Go.RowKit
open Go.ChangeMaps (open_string shut_string)

theorem exS_len (n : Int) : (((exS n).map (·.2)).getD []).length ≤ 8 := by
  unfold exS
  repeat' split
  all_goals simp
set_option maxHeartbeats 4000000 in
theorem walk_FnExactExampleShift (W : World) (t : Int) (htw : (Lit.int .i64 t).wf = true) (hl : LaidW W) :
    Calls Tryd.prog 3 #[.int .i64 t] W fun e W' => e = .returned (.bool true) ∧ Below W.heap.size W W' := by
  clear htw
  have HS := hid (fun w => spec_ExampleShift_c t w)
  have HI := hid (fun w h => impl_ExampleShift_c t w h)
  unfold ShO ShOwn at HS HI
  have hn8 := exS_len t
  obtain ⟨ss, hss⟩ : ∃ ss, ss = ((exS t).map (·.2)).getD [] := ⟨_, rfl⟩
  obtain ⟨b, hb⟩ : ∃ b, b = (exS t).isSome := ⟨_, rfl⟩
  obtain ⟨k, hk⟩ : ∃ k : Nat, k = ((exS t).map (·.1)).getD 0 := ⟨_, rfl⟩
  rw [← hss, ← hb, ← hk] at HS HI
  rw [← hss] at hn8
  obtain ⟨n, hn⟩ : ∃ n, n = ss.length := ⟨_, rfl⟩
  rw [← hn] at HS HI hn8
  have HLW := hid hl
  clear hss hb hk hn hl
  have hq : ¬ ((1 : Int) + (n : Int) < 0) := by omega
  go_enter Tryd.func3, Tryd.ntmps3
  go_wp2_with fail
  refine (HS.out _).mono ?_
  rintro e w1 ⟨a1, c1, rfl, ho1, hb1⟩
  have HB1 := hid hb1
  have R1 := hid ho1.row
  have hA1 := (Below.refl w1.heap.size w1).alloc (Nat.le_refl _) (.cells #[.int .i64 k, .slice a1 n c1] 24)
  have hL1 := laid_below (laid_below HLW.out hb1 (Nat.le_refl _)) hA1 (Nat.le_refl _)
  clear ho1 hb1
  go_wp2_with fail
  refine (HI.out _ hL1).mono ?_
  rintro e w2 ⟨a2, c2, rfl, ho2, hb2⟩
  obtain ⟨p0, p1, pf0, pf1, hz1, hB2⟩ := sh_box hb2
  have HK := hid (fun (V : World) (hV : Below (w1.heap.size + 1) w2 V) => (⟨(hV.cell (p := ⟨w1.heap.size, 0, none⟩) (Nat.lt_succ_self _)).trans p0, (hV.cell (p := ⟨w1.heap.size, 1, none⟩) (Nat.lt_succ_self _)).trans p1⟩ : V.cell? ⟨w1.heap.size, 0, none⟩ = some (.int .i64 k) ∧ V.cell? ⟨w1.heap.size, 1, none⟩ = some (.slice a1 n c1)))
  have HO2 := hid (show OffRow w2 (w1.heap.size + 1) a2 n (strVals ss) by simpa using ho2)
  have HB2 := hid hB2
  have hA2 : Below w2.heap.size w2 (w2.alloc (.cells #[.int .i64 k, .slice a2 n c2] 24)) := (Below.refl _ _).alloc (Nat.le_refl _) _
  have HE := hid (eqShiftS_c k a2 a1 n c2 c1 ss _ (HO2.out.row.below hA2 (Nat.le_refl _)) ((R1.out.below hB2 (Nat.le_refl _)).below hA2 (Nat.le_refl _)))
  have HA2 := hid hA2
  clear hb2 ho2 hB2 hA2 hA1 hL1
  go_wp2_with fail
  refine HE.out.mono ?_
  rintro e w3 ⟨rfl, hb3⟩
  obtain ⟨q0, q1, _, _, hz2, hB3⟩ := sh_box hb3
  have HB3 := hid hB3
  have HO3 := hid (HO2.out.below hB3)
  have HM := hid (markShift_c (w1.heap.size + 1) k a2 n c2 1 (strVals ss) w3 HO3.out (by omega))
  have HNB := hid (show some w2.heap.size ≠ blkN a2 n by
    unfold blkN
    split
    · simp
    · rename_i hn0
      obtain ⟨g, off, ha, _, hg, _⟩ := HO2.out.at_ (by omega)
      rw [ha]
      intro e
      injection e with e
      have : g < w2.heap.size := hg
      have e' : w2.heap.size = g := e
      omega)
  have HBS := hid (show ∀ g, blkN a2 n = some g → w1.heap.size + 1 ≤ g by
    intro g hg
    unfold blkN at hg
    split at hg
    · cases hg
    · rename_i hn0
      obtain ⟨g', off, ha, hlo, _⟩ := HO2.out.at_ (by omega)
      rw [ha] at hg
      injection hg with hg
      rw [← hg]
      exact hlo)
  clear hb3 hB3 HE
  go_wp2_with fail
  refine HM.out.mono ?_
  rintro e w4 ⟨rfl, ho4, hg4⟩
  have HO4 := hid ho4
  have HB4 := hid (show Below (w1.heap.size + 1) w2 w4 from (HB3.out.mono (by omega)).grown hg4 (by have := HB3.out.size; omega) (fun k hk => HBS.out k hk))
  have q0 := (hg4.cell_far ⟨w2.heap.size, 0, none⟩ hz2 HNB.out).trans q0
  have q1 := (hg4.cell_far ⟨w2.heap.size, 1, none⟩ hz2 HNB.out).trans q1
  have hs4 : w2.heap.size < w4.heap.size := Nat.lt_of_lt_of_le hz2 hg4.size
  have HH := hid (fun (V : World) (hV : Below w4.heap.size w4 V) => heldShift_c k a2 n c2 1 V (HO4.out.row.below hV (Nat.le_refl _)) (by omega) (by omega))
  clear ho4 hg4 HM
  go_wp2_with fail
  refine (HH.out _ (Below.refl _ _)).mono ?_
  rintro e w5 ⟨rfl, hb5⟩
  have HB5 := hid hb5
  have HB25 := hid (show Below (w1.heap.size + 1) w2 w5 from HB4.out.trans (hb5.mono (by omega)))
  have HBW5 := hid (show Below W.heap.size W w5 from HB1.out.trans ((HB2.out.trans (HB25.out.mono (by omega))).mono HB1.out.size))
  clear hb5
  go_wp2_with fail
  refine (HI.out _ (laid_below HLW.out HBW5.out (Nat.le_refl _))).mono ?_
  rintro e w6 ⟨a6, c6, rfl, ho6, hb6⟩
  have HB6 := hid (show Below (w1.heap.size + 1) w2 w6 from HB25.out.trans (hb6.mono (by have := HB25.out.size; omega)))
  obtain ⟨r0, r1⟩ := HK.out _ HB6.out
  have hs6 : w1.heap.size < w6.heap.size := by have := HB6.out.size; omega
  have hA6 : Below w6.heap.size w6 (w6.alloc (.cells #[.int .i64 k, .slice a6 n c6] 24)) := (Below.refl _ _).alloc (Nat.le_refl _) _
  have HE := hid (eqShiftS_c k a6 a1 n c6 c1 ss _ (ho6.row.below hA6 (Nat.le_refl _)) ((R1.out.below (HB2.out.trans (HB6.out.mono (by omega))) (Nat.le_refl _)).below hA6 (Nat.le_refl _)))
  have HC6 := hid (bs HB5.out hb6)
  have HA6 := hid hA6
  clear ho6 hb6 hA6
  go_wp2_with fail
  refine HE.out.mono ?_
  rintro e w7 ⟨rfl, hb7⟩
  have HC7 := hid (show Below w4.heap.size w4 w7 from bs HC6.out (HA6.out.trans (hb7.mono (by simp))))
  have q0 := (HC7.out.cell (p := ⟨w2.heap.size, 0, none⟩) hs4).trans q0
  have q1 := (HC7.out.cell (p := ⟨w2.heap.size, 1, none⟩) hs4).trans q1
  clear hb7 HE
  go_wp2_with fail
  refine (HH.out _ HC7.out).mono ?_
  rintro e w8 ⟨rfl, hb8⟩
  have HB8 := hid (show Below W.heap.size W w8 from HB1.out.trans ((HB2.out.trans ((HB4.out.trans ((bs HC7.out hb8).mono (by omega))).mono (by omega))).mono HB1.out.size))
  clear hb8
  go_wp2
  go_ret
  exact ⟨rfl, HB8.out⟩

theorem door_FnExactExampleShift (os : Os) (args : Array Value) : laidMetH Tryd.prog Rows.fnExactExampleShiftRow.laid ((World.laidAll Tryd.prog os Rows.fnExactExampleShiftRow.laid).forCall (fun _ _ => 0) ⟨#[], args, []⟩).memory :=
  by rw [MakeChecks.laidMetH_plain _ _ _ (by kernel_rfl)]; exact laidMet_laidAll _ (by kernel_rfl) (by kernel_rfl)
set_option maxRecDepth 100000 in
theorem lifted_FnExactExampleShift (os : Os) (started : os.Started) (H : Type) (enc : TypeId × Value → H) :
    ReturnsInHanded {} Tryd.checked os 3 .any (fun w args => (Rows.fnExactExampleShiftSpec.pre enc Tryd.prog Tryd.f3 Rows.fnExactExampleShiftRow.domain false w args ∧ laidMetH Tryd.prog Rows.fnExactExampleShiftRow.laid w) ∧ sizedMet enc Tryd.prog Tryd.f3 (OpenSpec.ofChange Rows.fnExactExampleShiftSpec) false w args) (Rows.fnExactExampleShiftSpec.post enc Tryd.prog Tryd.f3 false true false false) := by
  refine change_and_shaped (C := Tryd.checked) (X := fun w _ => laidMetH Tryd.prog Rows.fnExactExampleShiftRow.laid w) (fun _ _ _ hh h => h.of_heap hh) own started (by kernel_rfl) Tryd.func3
    (ChangeSpec.witness_shaped (enc := enc) (C := Tryd.checked) (os := os) (X := fun w _ => laidMetH Tryd.prog Rows.fnExactExampleShiftRow.laid w) false (World.laidAll Tryd.prog os Rows.fnExactExampleShiftRow.laid) #[.int .i64 0] 8 (World.laidAll_os _ _ _) (World.shaped_of_ZipB (by kernel_rfl) (by kernel_rfl)) (by kernel_rfl) (by kernel_rfl) (by kernel_rfl) (door_FnExactExampleShift os _)) ?_
  intro W base args ds gs before hval0 hW hcnd hsz0 hLaid hsh _
  have htab := laidW_of hLaid hsh
  have hsz : (DataW.weightsEach Tryd.prog (Tryd.f3.params.toList ++ Rows.fnExactExampleShiftSpec.plain.varTypes Tryd.prog) (ds ++ gs)).all (· ≤ reachBytes) = true := hsz0
  clear hsz0
  have hval : ∀ (j : Nat) t v, Tryd.f3.params[j]? = some t → args[j]? = some v → Value.okWide Tryd.prog W .any base t v := hval0
  have hW' := hW
  obtain ⟨p, q, hA0, hV, rfl, hfz, hnd⟩ := hW
  have hA : DataW.TrodAll enc Tryd.prog W 0 (fun _ => true) true Tryd.f3.params.toList args.toList ds p := hA0
  rw [Tryd.params3] at hA hval hsz
  obtain ⟨v0, vs0, d0, ds0, p0, q0, hargs, rfl, rfl, h0, r0⟩ := trodAll_cons hA
  obtain ⟨rfl, rfl, rfl⟩ := trodAll_nil r0
  obtain rfl : args = #[v0] := by cases args; simp_all
  obtain ⟨rfl, rfl⟩ := trodVars_none hV
  have k0 := h0
  have lt0 : ∀ x ∈ p0, x.block < W.heap.size := by obtain ⟨m, hm⟩ := k0; exact DataW.trod_lt m _ _ _ hm
  obtain ⟨a0, rfl, _, _, w0⟩ := open_int Tryd.underlying3 (hval 0 3 v0 rfl rfl) h0
  clear hA0 hval0
  refine (walk_FnExactExampleShift W a0 w0 htab).mono fun e W' ⟨he, bel⟩ => ?_
  subst he
  exact ⟨_, rfl, _, _, _, [], _, [], hW', trodAll_mk1 (shut_bool Tryd.underlying4 _), (trodAll_cons_mk (Below.trod laidOut (by kernel_rfl) (of_decide_eq_true (by kernel_rfl)) k0 bel lt0) trodAll_mk0), rfl, bel.frame _, fun h => by cases h⟩

theorem closed_FnExactExampleShift : joinedFacts Tryd.prog 3 Tryd.f3 Rows.fnExactExampleShiftSpec Rows.fnExactExampleShiftRow = true := by
  unfold joinedFacts
  rw [headMayEnter, headLiftsFinal, headMake]
  kernel_rfl
/-- The law returns true for every input, and its arguments read as before: the given statement. -/
theorem fnExactExampleShift_holds : Rows.FnExactExampleShiftSaid :=
  OpenClaim.holds_of_wide 3 Tryd.f3 rfl rfl rfl rfl rfl rfl rfl ⟨rfl, rfl, rfl, rfl, rfl⟩ rfl rfl rfl rfl rfl (by as_aux_lemma => kernel_rfl) Tryd.func3 closed_FnExactExampleShift
    (by as_aux_lemma => exact of_decide_eq_true (by kernel_rfl)) (by unfold Func.isWrapper; first | (rw [if_pos (by decide +kernel)]; kernel_rfl) | (rw [if_neg (by decide +kernel)]; exact ⟨rfl, rfl⟩))
    (fun os started H enc _ => lifted_FnExactExampleShift os started H enc)
theorem fnExactExampleShift_card : Rows.FnExactExampleShiftCardSaid :=
  Claim7.holds_tied_plain_at .later [] [.data, .data, .data, .data, .sentinel, .sentinel, .pinned] true (true, "54c3f7c00f5662df13d6bebfe318e5c8d34d6c60b8dc9841aa15b402820f3398") true
    fnExactExampleShift_holds (fun _ h => by cases h) (by kernel_rfl) (fun _ h => by cases h) fnExactExampleShift_row_tie rfl ⟨rfl, rfl⟩ (by kernel_rfl) rfl
    (fun f fn hf hfn => by
      obtain rfl : f = 3 := Option.some.inj ((show Tryd.prog.funcNamed "loop.example/g03103/laws.FnExactExampleShift" = some 3 by kernel_rfl).symm.trans hf) |>.symm
      obtain rfl : fn = Tryd.f3 := (Option.some.inj (Tryd.func3.symm.trans hfn)).symm
      exact ⟨by kernel_rfl, fun j t ht => by
        rw [Tryd.params3] at ht
        have hm : t ∈ [3] := by simpa using Array.mem_of_getElem? ht
        have hall : ([3].all fun u => !Tryd.prog.wantsStandIn u) = true := by kernel_rfl
        exact (show Tryd.prog.wantsStandIn t = false by simpa using List.all_eq_true.1 hall t hm)⟩)
    (by kernel_rfl)
#print axioms fnExactExampleShift_card

end Go.Proofs.YtpncmmdjkcdemaaDoor
