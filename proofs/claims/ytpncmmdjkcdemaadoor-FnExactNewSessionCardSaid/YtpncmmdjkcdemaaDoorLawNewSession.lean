/- The law FnExactNewSession returns true, as a tied card. No condition but what the card ties. -/
import Derived.Test.YtpncmmdjkcdemaaDoorSesLaw
import Derived.Test.YtpncmmdjkcdemaaDoorLaidW
namespace Go.Proofs.YtpncmmdjkcdemaaDoor
open Go.ChangeShapes Go.WideShapes Go.ChangeAt Go.RowKit
open Go.ChangeMaps (open_string shut_string)

theorem mtab9 : (markTab 1 sesM).length = 2 ∧ ∀ r ∈ markTab 1 sesM, r.length ≤ 9 := by decide
theorem stab9 : sesM.length = 2 ∧ ∀ r ∈ sesM, r.length ≤ 9 := by decide
set_option maxHeartbeats 4000000 in
theorem walk_FnExactNewSession (W : World) (hl : LaidW W) :
    Calls Tryd.prog 5 #[] W fun e W' => e = .returned (.bool true) ∧ Below W.heap.size W W' := by
  have HS := hid (fun w => spec_NewSession_c w)
  have HI := hid (fun w h => impl_NewSession_c w h)
  unfold NewPost sesA at HS HI
  have HLW := hid hl
  clear hl
  go_enter Tryd.func5, Tryd.ntmps5
  go_wp2_with fail
  refine (HS.out _).mono ?_
  rintro e w1 ⟨a1, c1, a2, c2, vs, B, hB, rfl, hv, ht, hlt, ho, hb1⟩
  have T1 := hid (tab_mk hv ht stab9.1 (by omega) stab9.2)
  have R1 := hid ho.row
  have HB1 := hid hb1
  have hL1 := laid_below (laid_below HLW.out hb1 (Nat.le_refl _)) ((Below.refl w1.heap.size w1).alloc (Nat.le_refl _) (.cells #[.slice a1 2 c1, .int .i64 2, .slice a2 1 c2, .int .i64 2, .int .i64 2, .string ⟨#[97, 98, 98, 97]⟩] 38)) (Nat.le_refl _)
  have HI1 := hid (HI.out _ hL1)
  clear hv ht hlt ho hb1 hL1 hB

  go_wp2_with fail
  refine HI1.out.mono ?_
  rintro e w2 ⟨b1, d1, b2, d2, us, D, hD, rfl, hv2, ht2, hlt2, ho2, hb2⟩
  obtain ⟨⟨p0, p1, p2, p3, p4, p5⟩, _, hz1, hB2⟩ := ses_box hb2
  have HK := hid (fun (V : World) (hV : Below (w1.heap.size + 1) w2 V) => ses_kept (V' := V) ⟨p0, p1, p2, p3, p4, p5⟩ (hV.block w1.heap.size (Nat.lt_succ_self _)))
  rw [World.size_alloc] at hD hv2 ht2
  have HB2 := hid hB2
  have HO2 := hid ho2
  have HLT2 := hid hlt2
  have HA2 := hid (show Below w2.heap.size w2 (w2.alloc (.cells #[.slice b1 2 d1, .int .i64 2, .slice b2 1 d2, .int .i64 2, .int .i64 2, .string ⟨#[97, 98, 98, 97]⟩] 38)) from (Below.refl _ _).alloc (Nat.le_refl _) _)
  have HE := hid (eqSessionN_c b1 b2 a1 a2 d1 d2 c1 c2 _ ((tab_mk hv2 ht2 stab9.1 (by omega) stab9.2).below HA2.out (Nat.le_refl _)) ((T1.out.below hB2 (Nat.le_refl _)).below HA2.out (Nat.le_refl _)) (ho2.row.below HA2.out (Nat.le_refl _)) ((R1.out.below hB2 (Nat.le_refl _)).below HA2.out (Nat.le_refl _)))
  have HV2 := hid hv2
  have HT2 := hid ht2
  have hDw : D ≤ w2.heap.size := by
    obtain ⟨g, off, _, h1, h2, _⟩ := ho2.at_ (by omega)
    omega
  have HAQ := hid (show ∀ g, blkN b2 1 = some g → D ≤ g ∧ g < w2.heap.size from fun g hg => by
    obtain ⟨g', off, ha, h1, h2, _⟩ := HO2.out.at_ (by omega)
    rw [ha] at hg
    simp [blkN] at hg
    omega)
  unfold sesA at HE
  clear hv2 ht2 hlt2 ho2 hb2 hB2 HI1
  go_wp2_with fail
  refine HE.out.mono ?_
  rintro e w3 ⟨rfl, hb3⟩
  obtain ⟨⟨q0, q1, q2, q3, q4, q5⟩, _, hz2, hB3⟩ := ses_box hb3
  have HQ3 := hid (show _ ∧ _ ∧ _ ∧ _ ∧ _ ∧ _ from ⟨q0, q1, q2, q3, q4, q5⟩)
  have HM := hid (markSessionN_c (w1.heap.size + 1) D w2.heap.size b1 b2 d1 d2 us w3 (owns_below HV2.out hB3) (HT2.out.below hB3) HLT2.out (HO2.out.below hB3) hD hDw (by omega) HAQ.out)
  unfold sesA at HM
  have HB3 := hid hB3
  clear hb3 hB3 HE p0 p1 p2 p3 p4 p5
  go_wp2_with fail
  refine HM.out.mono ?_
  rintro e w4 ⟨rfl, hv4, ht4, ho4, hb4, hk4⟩
  obtain ⟨q0, q1, q2, q3, q4, q5⟩ := ses_kept HQ3.out (hk4 w2.heap.size (Nat.le_refl _) hz2)
  have hs4 : w2.heap.size < w4.heap.size := Nat.lt_of_lt_of_le hz2 hb4.size
  have HQ4 := hid (show _ ∧ _ ∧ _ ∧ _ ∧ _ ∧ _ from ⟨q0, q1, q2, q3, q4, q5⟩)
  have HB4 := hid (show Below (w1.heap.size + 1) w2 w4 from (HB3.out.mono (by omega)).trans hb4)
  have T4 := hid (tab_mk hv4 ht4 mtab9.1 (by omega) mtab9.2)
  have R4 := hid ho4.row
  have HH := hid (fun (V : World) (hV : Below w4.heap.size w4 V) => heldSessionN_c b1 b2 d1 d2 V (T4.out.below hV (Nat.le_refl _)) (R4.out.below hV (Nat.le_refl _)))
  unfold sesA at HH
  clear hv4 ht4 ho4 hb4 hk4 HM
  go_wp2_with fail
  refine (HH.out _ (Below.refl _ _)).mono ?_
  rintro e w5 ⟨rfl, hb5⟩
  have HB5 := hid hb5
  have HB25 := hid (show Below (w1.heap.size + 1) w2 w5 from HB4.out.trans (hb5.mono (by omega)))
  have HBW5 := hid (show Below W.heap.size W w5 from HB1.out.trans ((HB2.out.trans (HB25.out.mono (by omega))).mono HB1.out.size))
  clear hb5 q0 q1 q2 q3 q4 q5
  have HI5 := hid (HI.out _ (laid_below HLW.out HBW5.out (Nat.le_refl _)))
  go_wp2_with fail
  refine HI5.out.mono ?_
  rintro e w6 ⟨e1, f1, e2, f2, ts, E, hE, rfl, hv6, ht6, hlt6, ho6, hb6⟩
  have HB6 := hid (show Below (w1.heap.size + 1) w2 w6 from HB25.out.trans (hb6.mono (by have := HB25.out.size; omega)))
  obtain ⟨r0, r1, r2, r3, r4, r5⟩ := HK.out _ HB6.out
  have hs6 : w1.heap.size < w6.heap.size := by have := HB6.out.size; omega
  have HA6 := hid (show Below w6.heap.size w6 (w6.alloc (.cells #[.slice e1 2 f1, .int .i64 2, .slice e2 1 f2, .int .i64 2, .int .i64 2, .string ⟨#[97, 98, 98, 97]⟩] 38)) from (Below.refl _ _).alloc (Nat.le_refl _) _)
  have HB16 := hid (show Below w1.heap.size w1 w6 from HB2.out.trans (HB6.out.mono (by omega)))
  have HE := hid (eqSessionN_c e1 e2 a1 a2 f1 f2 c1 c2 _ ((tab_mk hv6 ht6 stab9.1 (by omega) stab9.2).below HA6.out (Nat.le_refl _)) ((T1.out.below HB16.out (Nat.le_refl _)).below HA6.out (Nat.le_refl _)) (ho6.row.below HA6.out (Nat.le_refl _)) ((R1.out.below HB16.out (Nat.le_refl _)).below HA6.out (Nat.le_refl _)))
  have HC6 := hid (bs HB5.out hb6)
  unfold sesA at HE
  clear hv6 ht6 hlt6 ho6 hb6 hE HI5
  go_wp2_with fail
  refine HE.out.mono ?_
  rintro e w7 ⟨rfl, hb7⟩
  have HC7 := hid (show Below w4.heap.size w4 w7 from bs HC6.out (HA6.out.trans (hb7.mono (by simp))))
  obtain ⟨q0, q1, q2, q3, q4, q5⟩ := ses_kept HQ4.out (HC7.out.block w2.heap.size hs4)
  clear hb7 HE r0 r1 r2 r3 r4 r5
  go_wp2_with fail
  refine (HH.out _ HC7.out).mono ?_
  rintro e w8 ⟨rfl, hb8⟩
  have HB8 := hid (show Below W.heap.size W w8 from HB1.out.trans ((HB2.out.trans ((HB4.out.trans ((bs HC7.out hb8).mono (by omega))).mono (by omega))).mono HB1.out.size))
  clear hb8
  go_wp2
  go_ret
  exact ⟨rfl, HB8.out⟩

theorem door_FnExactNewSession (os : Os) (args : Array Value) : laidMetH Tryd.prog Rows.fnExactNewSessionRow.laid ((World.laidAll Tryd.prog os Rows.fnExactNewSessionRow.laid).forCall (fun _ _ => 0) ⟨#[], args, []⟩).memory :=
  by rw [MakeChecks.laidMetH_plain _ _ _ (by kernel_rfl)]; exact laidMet_laidAll _ (by kernel_rfl) (by kernel_rfl)
set_option maxRecDepth 100000 in
theorem lifted_FnExactNewSession (os : Os) (started : os.Started) (H : Type) (enc : TypeId × Value → H) :
    ReturnsInHanded {} Tryd.checked os 5 .any (fun w args => (Rows.fnExactNewSessionSpec.pre enc Tryd.prog Tryd.f5 Rows.fnExactNewSessionRow.domain false w args ∧ laidMetH Tryd.prog Rows.fnExactNewSessionRow.laid w) ∧ sizedMet enc Tryd.prog Tryd.f5 (OpenSpec.ofChange Rows.fnExactNewSessionSpec) false w args) (Rows.fnExactNewSessionSpec.post enc Tryd.prog Tryd.f5 false true false false) := by
  refine change_and_shaped (C := Tryd.checked) (X := fun w _ => laidMetH Tryd.prog Rows.fnExactNewSessionRow.laid w) (fun _ _ _ hh h => h.of_heap hh) own started (by kernel_rfl) Tryd.func5
    (ChangeSpec.witness_shaped (enc := enc) (C := Tryd.checked) (os := os) (X := fun w _ => laidMetH Tryd.prog Rows.fnExactNewSessionRow.laid w) false (World.laidAll Tryd.prog os Rows.fnExactNewSessionRow.laid) #[] 8 (World.laidAll_os _ _ _) (World.shaped_of_ZipB (by kernel_rfl) (by kernel_rfl)) (by kernel_rfl) (by kernel_rfl) (by kernel_rfl) (door_FnExactNewSession os _)) ?_
  intro W base args ds gs before hval0 hW hcnd hsz0 hLaid hsh _
  have htab := laidW_of hLaid hsh
  have hsz : (DataW.weightsEach Tryd.prog (Tryd.f5.params.toList ++ Rows.fnExactNewSessionSpec.plain.varTypes Tryd.prog) (ds ++ gs)).all (· ≤ reachBytes) = true := hsz0
  clear hsz0
  have hval : ∀ (j : Nat) t v, Tryd.f5.params[j]? = some t → args[j]? = some v → Value.okWide Tryd.prog W .any base t v := hval0
  have hW' := hW
  obtain ⟨p, q, hA0, hV, rfl, hfz, hnd⟩ := hW
  have hA : DataW.TrodAll enc Tryd.prog W 0 (fun _ => true) true Tryd.f5.params.toList args.toList ds p := hA0
  rw [Tryd.params5] at hA hval hsz
  obtain ⟨hargs, rfl, rfl⟩ := trodAll_nil hA
  obtain rfl : args = #[] := by cases args; simp_all
  obtain ⟨rfl, rfl⟩ := trodVars_none hV
  clear hA0 hval0
  refine (walk_FnExactNewSession W htab).mono fun e W' ⟨he, bel⟩ => ?_
  subst he
  exact ⟨_, rfl, _, _, _, [], _, [], hW', trodAll_mk1 (shut_bool Tryd.underlying4 _), trodAll_mk0, rfl, bel.frame _, fun h => by cases h⟩

theorem closed_FnExactNewSession : joinedFacts Tryd.prog 5 Tryd.f5 Rows.fnExactNewSessionSpec Rows.fnExactNewSessionRow = true := by
  unfold joinedFacts
  rw [headMayEnter, headLiftsFinal, headMake]
  kernel_rfl
/-- The law returns true for every input, and its arguments read as before: the given statement. -/
theorem fnExactNewSession_holds : Rows.FnExactNewSessionSaid :=
  OpenClaim.holds_of_wide 5 Tryd.f5 rfl rfl rfl rfl rfl rfl rfl ⟨rfl, rfl, rfl, rfl, rfl⟩ rfl rfl rfl rfl rfl (by as_aux_lemma => kernel_rfl) Tryd.func5 closed_FnExactNewSession
    (by as_aux_lemma => exact of_decide_eq_true (by kernel_rfl)) (by unfold Func.isWrapper; first | (rw [if_pos (by decide +kernel)]; kernel_rfl) | (rw [if_neg (by decide +kernel)]; exact ⟨rfl, rfl⟩))
    (fun os started H enc _ => lifted_FnExactNewSession os started H enc)
theorem fnExactNewSession_card : Rows.FnExactNewSessionCardSaid :=
  Claim7.holds_tied_plain_at .later [] [.data, .data, .data, .data, .sentinel, .sentinel, .pinned] true (true, "54c3f7c00f5662df13d6bebfe318e5c8d34d6c60b8dc9841aa15b402820f3398") true
    fnExactNewSession_holds (fun _ h => by cases h) (by kernel_rfl) (fun _ h => by cases h) fnExactNewSession_row_tie rfl ⟨rfl, rfl⟩ (by kernel_rfl) rfl
    (fun f fn hf hfn => by
      obtain rfl : f = 5 := Option.some.inj ((show Tryd.prog.funcNamed "loop.example/g03103/laws.FnExactNewSession" = some 5 by kernel_rfl).symm.trans hf) |>.symm
      obtain rfl : fn = Tryd.f5 := (Option.some.inj (Tryd.func5.symm.trans hfn)).symm
      exact ⟨by kernel_rfl, fun j t ht => by
        rw [Tryd.params5] at ht
        have hm : t ∈ [] := by simpa using Array.mem_of_getElem? ht
        have hall : ([].all fun u => !Tryd.prog.wantsStandIn u) = true := by kernel_rfl
        exact (show Tryd.prog.wantsStandIn t = false by simpa using List.all_eq_true.1 hall t hm)⟩)
    (by kernel_rfl)
#print axioms fnExactNewSession_card

end Go.Proofs.YtpncmmdjkcdemaaDoor
