/- The law FnExactExampleMatrix returns true for every number, as a tied card. No condition but what the card ties. -/
import Derived.Test.YtpncmmdjkcdemaaDoorExM
import Derived.Test.YtpncmmdjkcdemaaDoorLaidW
namespace Go.Proofs.YtpncmmdjkcdemaaDoor
open Go.ChangeShapes Go.WideShapes Go.ChangeAt Go.RowKit
open Go.ChangeMaps (open_string shut_string)

theorem exM_small (n : Int) : small9 ((exM n).getD []) = true := by
  unfold exM
  repeat' split
  all_goals decide
theorem cells9 {M : List (List Int)} (h : M.length ≤ 9) (h2 : ∀ r ∈ M, r.length ≤ 9) : cells M ≤ 81 := by
  have : ∀ (l : List (List Int)), (∀ r ∈ l, r.length ≤ 9) → cells l ≤ 9 * l.length := by
    intro l
    induction l with
    | nil => intro _; simp [cells]
    | cons r l ih =>
      intro hl
      have h1 := hl r (by simp)
      have h3 := ih fun q hq => hl q (by simp [hq])
      unfold cells at h3 ⊢
      simp only [List.map_cons, List.sum_cons, List.length_cons]
      omega
  have := this M h2
  omega
theorem markTab9 : ∀ {rows : List (List Int)} {k : Nat}, (∀ r ∈ rows, r.length ≤ 9) → ∀ r ∈ markTab k rows, r.length ≤ 9
  | [], k, _ => by simp [markTab]
  | q :: qs, k, h => by
    intro r hr
    simp only [markTab, List.mem_cons] at hr
    rcases hr with rfl | hr
    · rw [markRow_len]; exact h q (by simp)
    · exact markTab9 (fun r hr => h r (by simp [hr])) r hr
theorem tab9 {w : World} {base : Nat} {a : Option Addr} {n c : Nat} {rows : List (List Int)} (h : TGrid 48 3 w base (.slice a n c) rows) (h1 : rows.length ≤ 9) (h2 : ∀ r ∈ rows, r.length ≤ 9) : TabAt w a n rows := by
  obtain ⟨a', c', hv, ht⟩ := grid_tabAt h (by omega) (fun r hr => Nat.le_trans (h2 r hr) (by omega))
  simp only [Value.slice.injEq] at hv
  obtain ⟨rfl, rfl, rfl⟩ := hv
  exact ht
set_option maxHeartbeats 2000000 in
theorem walk_FnExactExampleMatrix (W : World) (n : Int) (hnw : (Lit.int .i64 n).wf = true) (ht : LaidW W) :
    Calls Tryd.prog 4 #[.int .i64 n] W fun e W' => e = .returned (.bool true) ∧ Below W.heap.size W W' := by
  clear hnw
  have HS := hid (fun w => spec_ExampleMatrix_c n w)
  have HI := hid (fun w h => impl_ExampleMatrix_c n w h)
  unfold ExMPost at HS HI
  obtain ⟨hR9, hRr⟩ := small9_facts (exM_small n)
  obtain ⟨R, hR⟩ : ∃ R, R = (exM n).getD [] := ⟨_, rfl⟩
  obtain ⟨b, hb⟩ : ∃ b, b = (exM n).isSome := ⟨_, rfl⟩
  rw [← hR, ← hb] at HS HI
  rw [← hR] at hR9 hRr
  have hcc := cells9 hR9 hRr
  obtain ⟨m, hm⟩ : ∃ m, m = R.length := ⟨_, rfl⟩
  obtain ⟨cc, hcce⟩ : ∃ cc, cc = cells R := ⟨_, rfl⟩
  rw [← hm] at HS HI
  have HM := hid hm
  have HCC := hid hcce
  have HRR := hid hRr
  have HR9 := hid hR9
  have HLW := hid ht
  rw [← hcce] at hcc
  have hm9 : m ≤ 9 := by omega
  clear hR hb hm hcce hRr hR9 ht
  go_enter Tryd.func4, Tryd.ntmps4
  go_wp2_with fail
  refine (HS.out _).mono ?_
  rintro e w1 ⟨a1, c1, rfl, hg1, hb1⟩
  have HB1 := hid hb1
  have HG1 := hid hg1
  go_wp2_with fail
  refine (HI.out _ (laid_below HLW.out hb1 (Nat.le_refl _))).mono ?_
  rintro e w2 ⟨a2, c2, rfl, hg2, hb2⟩
  have HQ := hid (eqIntSS_c a2 a1 m c2 c1 R _ (tab9 hg2 HR9.out HRR.out) (tab9 (hg1.below hb2) HR9.out HRR.out))
  clear hb1 hg1
  go_wp2_with fail
  refine HQ.out.mono ?_
  rintro e w3 ⟨rfl, hd3⟩
  obtain ⟨q3, hq3⟩ := hd3
  have hb3 : Below w2.heap.size w2 w3 := by rw [hq3]; exact below_drewN (Below.refl _ _) _
  have HB3 := hid (bs hb2 hb3)
  have HMK := hid (markIntSS_c w1.heap.size _ 1 R _ (hg2.below hb3) (by rw [← HCC.out]; omega) (by rw [← HM.out]; omega) HB3.out.size)
  rw [← HCC.out] at HMK
  clear hq3 hb3 hb2 hg2 HQ
  go_wp2_with fail
  refine HMK.out.mono ?_
  rintro e w4 ⟨rfl, hg4, hb4⟩
  have HB4 := hid (HB3.out.trans hb4)
  have HG4 := hid hg4
  have HH := hid (fun w' (h : Below w4.heap.size w4 w') => heldIntSS_c a2 m c2 1 R w' (tab9 (HG4.out.below h) (by rw [markTab_len]; exact HR9.out) (markTab9 HRR.out)) (by rw [← HCC.out]; omega))
  rw [← HCC.out] at HH
  clear hg4 hb4 HMK
  go_wp2_with fail
  refine (HH.out _ (Below.refl _ _)).mono ?_
  rintro e w5 ⟨rfl, rfl⟩
  go_wp2_with fail
  refine (HI.out _ (laid_below HLW.out (HB1.out.trans (HB4.out.mono HB1.out.size)) (Nat.le_refl _))).mono ?_
  rintro e w5 ⟨a5, c5, rfl, hg5, hb5⟩
  have HB5 := hid (HB4.out.trans (hb5.mono HB4.out.size))
  have HQ := hid (eqIntSS_c a5 a1 m c5 c1 R _ (tab9 hg5 HR9.out HRR.out) (tab9 (HG1.out.below HB5.out) HR9.out HRR.out))
  have HB45 := hid hb5
  clear hg5 hb5
  go_wp2_with fail
  refine HQ.out.mono ?_
  rintro e w6 ⟨rfl, hd6⟩
  obtain ⟨q6, hq6⟩ := hd6
  have hb6 : Below w5.heap.size w5 w6 := by rw [hq6]; exact below_drewN (Below.refl _ _) _
  have HB6 := hid (HB5.out.trans (hb6.mono HB5.out.size))
  have HB46 := hid (bs HB45.out hb6)
  clear hq6 hb6 HQ
  go_wp2_with fail
  refine (HH.out _ HB46.out).mono ?_
  rintro e w7 ⟨rfl, rfl⟩
  go_wp2
  go_ret
  exact ⟨rfl, HB1.out.trans (HB6.out.mono HB1.out.size)⟩

theorem door_FnExactExampleMatrix (os : Os) (args : Array Value) : laidMetH Tryd.prog Rows.fnExactExampleMatrixRow.laid ((World.laidAll Tryd.prog os Rows.fnExactExampleMatrixRow.laid).forCall (fun _ _ => 0) ⟨#[], args, []⟩).memory :=
  by rw [MakeChecks.laidMetH_plain _ _ _ (by kernel_rfl)]; exact laidMet_laidAll _ (by kernel_rfl) (by kernel_rfl)
set_option maxRecDepth 100000 in
theorem lifted_FnExactExampleMatrix (os : Os) (started : os.Started) (H : Type) (enc : TypeId × Value → H) :
    ReturnsInHanded {} Tryd.checked os 4 .any (fun w args => (Rows.fnExactExampleMatrixSpec.pre enc Tryd.prog Tryd.f4 Rows.fnExactExampleMatrixRow.domain false w args ∧ laidMetH Tryd.prog Rows.fnExactExampleMatrixRow.laid w) ∧ sizedMet enc Tryd.prog Tryd.f4 (OpenSpec.ofChange Rows.fnExactExampleMatrixSpec) false w args) (Rows.fnExactExampleMatrixSpec.post enc Tryd.prog Tryd.f4 false true false false) := by
  refine change_and_shaped (C := Tryd.checked) (X := fun w _ => laidMetH Tryd.prog Rows.fnExactExampleMatrixRow.laid w) (fun _ _ _ hh h => h.of_heap hh) own started (by kernel_rfl) Tryd.func4
    (ChangeSpec.witness_shaped (enc := enc) (C := Tryd.checked) (os := os) (X := fun w _ => laidMetH Tryd.prog Rows.fnExactExampleMatrixRow.laid w) false (World.laidAll Tryd.prog os Rows.fnExactExampleMatrixRow.laid) #[.int .i64 0] 8 (World.laidAll_os _ _ _) (World.shaped_of_ZipB (by kernel_rfl) (by kernel_rfl)) (by kernel_rfl) (by kernel_rfl) (by kernel_rfl) (door_FnExactExampleMatrix os _)) ?_
  intro W base args ds gs before hval0 hW hcnd hsz0 hLaid hsh _
  have htab := laidW_of hLaid hsh
  have hsz : (DataW.weightsEach Tryd.prog (Tryd.f4.params.toList ++ Rows.fnExactExampleMatrixSpec.plain.varTypes Tryd.prog) (ds ++ gs)).all (· ≤ reachBytes) = true := hsz0
  clear hsz0
  have hval : ∀ (j : Nat) t v, Tryd.f4.params[j]? = some t → args[j]? = some v → Value.okWide Tryd.prog W .any base t v := hval0
  have hW' := hW
  obtain ⟨p, q, hA0, hV, rfl, hfz, hnd⟩ := hW
  have hA : DataW.TrodAll enc Tryd.prog W 0 (fun _ => true) true Tryd.f4.params.toList args.toList ds p := hA0
  rw [Tryd.params4] at hA hval hsz
  obtain ⟨v0, vs0, d0, ds0, p0, q0, hargs, rfl, rfl, h0, r0⟩ := trodAll_cons hA
  obtain ⟨rfl, rfl, rfl⟩ := trodAll_nil r0
  obtain rfl : args = #[v0] := by cases args; simp_all
  obtain ⟨rfl, rfl⟩ := trodVars_none hV
  have k0 := h0
  have lt0 : ∀ x ∈ p0, x.block < W.heap.size := by obtain ⟨m, hm⟩ := k0; exact DataW.trod_lt m _ _ _ hm
  obtain ⟨a0, rfl, _, _, w0⟩ := open_int Tryd.underlying3 (hval 0 3 v0 rfl rfl) h0
  clear hA0 hval0
  refine (walk_FnExactExampleMatrix W a0 w0 htab).mono fun e W' ⟨he, bel⟩ => ?_
  subst he
  exact ⟨_, rfl, _, _, _, [], _, [], hW', trodAll_mk1 (shut_bool Tryd.underlying4 _), (trodAll_cons_mk (Below.trod laidOut (by kernel_rfl) (of_decide_eq_true (by kernel_rfl)) k0 bel lt0) trodAll_mk0), rfl, bel.frame _, fun h => by cases h⟩

theorem closed_FnExactExampleMatrix : joinedFacts Tryd.prog 4 Tryd.f4 Rows.fnExactExampleMatrixSpec Rows.fnExactExampleMatrixRow = true := by
  unfold joinedFacts
  rw [headMayEnter, headLiftsFinal, headMake]
  kernel_rfl
/-- The law returns true for every input, and its arguments read as before: the given statement. -/
theorem fnExactExampleMatrix_holds : Rows.FnExactExampleMatrixSaid :=
  OpenClaim.holds_of_wide 4 Tryd.f4 rfl rfl rfl rfl rfl rfl rfl ⟨rfl, rfl, rfl, rfl, rfl⟩ rfl rfl rfl rfl rfl (by as_aux_lemma => kernel_rfl) Tryd.func4 closed_FnExactExampleMatrix
    (by as_aux_lemma => exact of_decide_eq_true (by kernel_rfl)) (by unfold Func.isWrapper; first | (rw [if_pos (by decide +kernel)]; kernel_rfl) | (rw [if_neg (by decide +kernel)]; exact ⟨rfl, rfl⟩))
    (fun os started H enc _ => lifted_FnExactExampleMatrix os started H enc)
theorem fnExactExampleMatrix_card : Rows.FnExactExampleMatrixCardSaid :=
  Claim7.holds_tied_plain_at .later [] [.data, .data, .data, .data, .sentinel, .sentinel, .pinned] true (true, "54c3f7c00f5662df13d6bebfe318e5c8d34d6c60b8dc9841aa15b402820f3398") true
    fnExactExampleMatrix_holds (fun _ h => by cases h) (by kernel_rfl) (fun _ h => by cases h) fnExactExampleMatrix_row_tie rfl ⟨rfl, rfl⟩ (by kernel_rfl) rfl
    (fun f fn hf hfn => by
      obtain rfl : f = 4 := Option.some.inj ((show Tryd.prog.funcNamed "loop.example/g03103/laws.FnExactExampleMatrix" = some 4 by kernel_rfl).symm.trans hf) |>.symm
      obtain rfl : fn = Tryd.f4 := (Option.some.inj (Tryd.func4.symm.trans hfn)).symm
      exact ⟨by kernel_rfl, fun j t ht => by
        rw [Tryd.params4] at ht
        have hm : t ∈ [3] := by simpa using Array.mem_of_getElem? ht
        have hall : ([3].all fun u => !Tryd.prog.wantsStandIn u) = true := by kernel_rfl
        exact (show Tryd.prog.wantsStandIn t = false by simpa using List.all_eq_true.1 hall t hm)⟩)
    (by kernel_rfl)
#print axioms fnExactExampleMatrix_card

end Go.Proofs.YtpncmmdjkcdemaaDoor
