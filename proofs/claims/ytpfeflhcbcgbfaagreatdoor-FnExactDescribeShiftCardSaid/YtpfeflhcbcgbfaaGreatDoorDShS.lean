/- A report of a shift, the reference's function. Conditions: a shift that is one, in memory. -/
import Derived.Test.YtpfeflhcbcgbfaaGreatDoorOrbI
import Derived.Test.YtpfeflhcbcgbfaaGreatDoorLangS
import Derived.Test.YtpfeflhcbcgbfaaGreatDoorDShP
import Derived.Test.YtpfeflhcbcgbfaaGreatDoorCntS
namespace Go.Proofs.YtpfeflhcbcgbfaaGreatDoor
open Go.RowKit
set_option maxHeartbeats 8000000 in
set_option maxRecDepth 100000 in
theorem spec_OrbitWords_c (k nn : Nat) (a : Option Addr) (n c : Nat) (ss : List ByteArray) (w : World) (hr : RowAt w a n (strVals ss)) (hok : okShB k ss = true) (hnn : 1 ≤ nn ∧ nn ≤ 6) :
    Calls Tryz.prog 18 #[.agg #[.int .i64 k, .slice a n c], .int .i64 nn] w (KeptPost (oV ss k nn) k nn w) := by
  obtain ⟨hk, hl8, hsw, _⟩ := okSh_facts hok
  have hln : ss.length = n := by simpa [strVals] using hr.len
  have hs3 : ∀ t ∈ ss, t.size ≤ 3 := fun t ht => by
    obtain ⟨i, hi⟩ := List.mem_iff_getElem?.1 ht
    exact (hsw i t hi).2.2
  have hs : ∀ t ∈ ss, t.size ≤ 1048576 := fun t ht => by have := hs3 t ht; omega
  have hps := pow_small hk.2 (show nn ≤ 8 by omega)
  have HWO := hid (fun w : World => spec_l2All_c k nn w hk (by omega))
  have HIS := hid (fun (V : World) (hV : Below w.heap.size w V) => spec_IsShift_ok k a n c ss V (hr.below hV (Nat.le_refl _)) hok)
  have HLI := hid (fun w => l1In_c (nn : Int) 1 6 w)
  rw [inB_t (show (1 : Int) ≤ (nn : Int) ∧ (nn : Int) ≤ 6 by omega)] at HLI
  have HWS := hid (fun i : Nat => wdB_size k nn i)
  have HRO := hid (fun (i : Nat) (V : World) => spec_RootOf_c (wdB k nn i) V (lets_wd hk) (by rw [wdB_size]; omega) (by rw [wdB_size]; omega))
  have HLE := hid (fun (i : Nat) (V : World) => spec_LeastTurn_c (wdB k nn i) V (lets_wd hk) (by rw [wdB_size]; omega) (by rw [wdB_size]; omega))
  have HTI := hid (fun (i : Nat) (V : World) => l2Times_e (wdB k nn i) 5 V (by rw [wdB_size]; omega) (by omega))
  have HAV := hid (fun (i : Nat) (V : World) (hV : Below w.heap.size w V) => show Calls Tryz.prog 65 #[.slice a n c, .string ⟨(Lib.repeatL (wdB k nn i).data.toList 5).toArray⟩] V fun e w' => e = .returned (.bool (avB ss (Lib.repeatL (wdB k nn i).data.toList 5))) ∧ V = w' from l3Avoids_c a n c ss ⟨(Lib.repeatL (wdB k nn i).data.toList 5).toArray⟩ V (hr.below hV (Nat.le_refl _)) hs (by
    show (Lib.repeatL (wdB k nn i).data.toList 5).toArray.size ≤ _
    rw [List.size_toArray, Lib.repeatL_length, size_list, wdB_size]
    omega) (by omega))
  have HOV := hid (fun i : Nat => show oV ss k nn i = (leastB (wdB k nn i) && primB (wdB k nn i) && avB ss (Lib.repeatL (wdB k nn i).data.toList 5)) from by
    rw [av_five (by rw [size_list, wdB_size]; omega) hs3, wdB_list]
    rfl)
  have HLB := hid (fun i : Nat => show leastB (wdB k nn i) = decide (minT (wdB k nn i) ((wdB k nn i).size - 1) = wdB k nn i) from rfl)
  unfold RootPost at HRO
  unfold WordsPost at HWO
  unfold KeptPost
  obtain ⟨p, hp⟩ : ∃ p, p = oV ss k nn := ⟨_, rfl⟩
  rw [← hp] at HOV
  rw [← hp]
  obtain ⟨m, hm⟩ : ∃ m, m = k ^ nn := ⟨_, rfl⟩
  rw [← hm] at HWO hps
  rw [← hm]
  have hm1 : 1 ≤ m := by rw [hm]; exact Nat.one_le_pow _ _ (by omega)
  obtain ⟨W2, hW2⟩ : ∃ W2, W2 = w.alloc (.cells #[.int .i64 k, .slice a n c] 27) := ⟨_, rfl⟩
  have hB : Below w.heap.size w W2 := by rw [hW2]; exact (Below.refl _ _).alloc (Nat.le_refl _) _
  have hsz : W2.heap.size = w.heap.size + 1 := by rw [hW2]; simp
  have hbx : BoxC W2 w.heap.size #[.int .i64 k, .slice a n c] := by rw [hW2]; exact BoxC.new _ _ _
  have HBX := hid (fun (V : World) (hV : Below W2.heap.size W2 V) => show (V.cell? ⟨w.heap.size, 0, none⟩ = some (.int .i64 k) ∧ V.cell? ⟨w.heap.size, 1, none⟩ = some (.slice a n c)) ∧ Below w.heap.size w V from ⟨⟨(hbx.below hV).cell 0, (hbx.below hV).cell 1⟩, hB.trans (hV.mono (by omega))⟩)
  have HO0 := hid (owns_lit3 (w := W2) (base := W2.heap.size) (e := 9) #[] [] rfl (Nat.le_refl _) (by unfold maxLen; simp))
  have HE0 := hid (show Below W2.heap.size W2 (W2.alloc (.cells #[] 9)) from (Below.refl _ _).alloc (Nat.le_refl _) _)
  have hszW := hB.size
  obtain ⟨⟨q0, q1⟩, hbl0⟩ := HBX.out _ HE0.out
  have HIS1 := hid (HIS.out _ hbl0)
  clear hB hbx hp hm hk hr hs hs3 hok hsw hln hbl0 HIS
  go_enter Tryz.func18, Tryz.ntmps18
  go_wp2_with (first | rw [← hW2])
  first | rw [← hW2] | skip
  clear hW2
  refine HIS1.out.mono ?_
  rintro e w1 ⟨rfl, hb1⟩
  have hb2 : Below W2.heap.size W2 w1 := HE0.out.trans (hb1.mono HE0.out.size)
  obtain ⟨⟨s0, s1⟩, hbl1⟩ := HBX.out _ hb2
  have HO1 := hid (owns_below HO0.out hb1)
  have HB1 := hid hb2
  have hs1 := (HO1.out.lt W2.heap.size rfl).2
  clear hb1 hb2 hbl1 q0 q1 HIS1 HO0 HE0
  go_wp2_with (go_at_call 58; refine (HLI.out _).mono ?_; rintro e w' ⟨rfl, rfl⟩)
  refine (HWO.out _).mono ?_
  rintro e w5 ⟨v, rfl, hown5, hb5⟩
  obtain ⟨g5, c5, rfl, hg5, hlt5⟩ := hown5.form (by omega)
  have hgne : g5 ≠ W2.heap.size := by omega
  have HW5 := hid (owns_base (base' := W2.heap.size) hown5 (by omega))
  have HO5 := hid (show w5.ownsRow W2.heap.size 9 1 (.slice (some ⟨W2.heap.size, 0, none⟩) 0 0) ((List.range 0).filter p).length (strVals (kp p k nn 0)) from owns_below HO1.out hb5)
  have HN5 := hid (show (Value.slice (some ⟨W2.heap.size, 0, none⟩) 0 0).ownBlock ≠ some g5 by simp [Value.ownBlock]; omega)
  have HB5 := hid (HB1.out.trans (hb5.mono (by omega)))
  clear hown5 hb5 hlt5 hg5 HO1 HB1 HWO s0 s1
  go_wp2
  go_loopw [5, 7] (fun v i wr => ∃ j : Nat, j ≤ m ∧ i = .int .i64 j ∧ Hid (wr.ownsRow W2.heap.size 9 1 v ((List.range j).filter p).length (strVals (kp p k nn j))) ∧ Hid (v.ownBlock ≠ some g5) ∧ Hid (wr.ownsRow W2.heap.size 9 1 (.slice (some ⟨g5, 0, none⟩) m c5) m (strVals (wds k nn m))) ∧ Hid (Below W2.heap.size W2 wr)) (fun _ i _ => m - (intOf i).toNat)
  case atStart =>
    refine ⟨0, by omega, rfl, ?_, ?_, HW5, HB5⟩
    · rw [← hsz]
      exact HO5
    · rw [← hsz]
      exact HN5
  case round =>
    clear HO5 HN5 HW5 HB5
    obtain ⟨j, hj, rfl, HO, HNE, HWD, HBL⟩ := hrel
    have hcnt := kp_le p j
    by_cases hlt : j < m
    · have hji : (j : Int) < (m : Int) := by omega
      obtain ⟨a6, c6, he6, hr6⟩ := owns_rowAt HWD.out (by omega)
      simp only [Value.slice.injEq, true_and] at he6
      obtain ⟨rfl, rfl⟩ := he6
      obtain ⟨b5, o5, he5, hb5, hcl5⟩ := hr6.at_ (by omega)
      simp only [Option.some.injEq, Addr.mk.injEq, and_true] at he5
      obtain ⟨rfl, rfl⟩ := he5
      have hcell := hcl5 j _ (strVals_get (wds_get hlt))
      rw [Nat.zero_add] at hcell
      have HKK := hid (fun (V : World) (hV : Below wr.heap.size wr V) => show V.cell? ⟨w.heap.size, 0, none⟩ = some (.int .i64 k) ∧ V.cell? ⟨w.heap.size, 1, none⟩ = some (.slice a n c) from (HBX.out _ (HBL.out.trans (hV.mono HBL.out.size))).1)
      have HROj := hid (HRO.out j wr)
      have HLEj := hid (HLE.out j)
      have HTIj := hid (HTI.out j)
      have HAVj := hid (fun (V : World) (hV : Below wr.heap.size wr V) => HAV.out j V (HBX.out _ (HBL.out.trans (hV.mono HBL.out.size))).2)
      have HOVj := hid (HOV.out j)
      have HLBj := hid (HLB.out j)
      have hws := HWS.out j
      clear hr6 hcl5
      obtain ⟨d, hd⟩ : ∃ d, d = ((List.range j).filter p).length := ⟨_, rfl⟩
      have HY := hid (fun h : p j = true => kp_yes (k := k) (n := nn) h)
      have HN := hid (fun h : p j = false => kp_no (k := k) (n := nn) h)
      have HCY := hid (fun h : p j = true => cn_yes h)
      have HCN := hid (fun h : p j = false => cn_no h)
      have hszQ := HBL.out.size
      have HO2 := HO.out
      rw [← hd] at HO2 hcnt HCY HCN
      have HO := hid HO2
      clear HO2 hd
      obtain ⟨o, ho⟩ : ∃ o, o = p j := ⟨_, rfl⟩
      rw [← ho] at HOVj HY HN HCY HCN
      obtain ⟨x, hx⟩ : ∃ x, x = wdB k nn j := ⟨_, rfl⟩
      rw [← hx] at HROj HLEj HTIj HAVj HOVj HLBj hws hcell HY
      obtain ⟨Y5, hY5⟩ : ∃ Y5 : ByteArray, Y5 = ⟨(Lib.repeatL x.data.toList 5).toArray⟩ := ⟨_, rfl⟩
      rw [← hY5] at HTIj HAVj
      obtain ⟨A, hA⟩ : ∃ A, A = avB ss (Lib.repeatL x.data.toList 5) := ⟨_, rfl⟩
      rw [← hA] at HAVj HOVj
      obtain ⟨PB, hPB⟩ : ∃ PB, PB = primB x := ⟨_, rfl⟩
      rw [← hPB] at HROj HOVj
      obtain ⟨LB, hLB⟩ : ∃ LB, LB = leastB x := ⟨_, rfl⟩
      rw [← hLB] at HOVj HLBj
      obtain ⟨mm, hmm⟩ : ∃ mm, mm = minT x (x.size - 1) := ⟨_, rfl⟩
      rw [← hmm] at HLEj HLBj
      clear ho hx hY5 hA hPB hLB hmm
      go_wp2_with fail
      refine HROj.out.mono ?_
      rintro e w6 ⟨r, mr, rfl, hrp, hb6⟩
      have hrx : (r.toList == x.toList) = PB := by rw [ba_list_eq, hrp]
      have hmx : (mm.toList == x.toList) = LB := by rw [ba_list_eq, HLBj.out]
      have HB6 := hid hb6
      have hcell6 := fun (V : World) (hV : Below wr.heap.size wr V) => (hV.cell (p := ⟨g5, j, none⟩) hb5).trans hcell
      have HC6 := hid hcell6
      obtain ⟨t0, t1⟩ := HKK.out w6 hb6
      clear hrp hb6 hcell6 hcell HROj HLBj
      cases LB with
      | false =>
        obtain rfl : o = false := by rw [HOVj.out]; rfl
        clear HOVj
        go_wp2
        go_quiet ((first | (go_at_call 64; exact Calls.quiet_of (HLEj.out _)) | (go_at_call 66; exact Calls.quiet_of_same ((HTIj.out _).mono (fun e w' h => ⟨h.1, h.2.symm⟩))) | (go_at_call 65; exact Calls.quiet_of_same ((HAVj.out _ (below_drewN HB6.out _)).mono (fun e w' h => ⟨h.1, h.2.symm⟩)))))
        have hbZ := below_drewN HB6.out nq
        obtain ⟨wq, hwq⟩ : ∃ wq, wq = w6.drewN nq := ⟨_, rfl⟩
        rw [← hwq] at hbZ
        rw [← hwq]
        clear hwq
        · have HBq := hid (HBL.out.trans (hbZ.mono hszQ))
          have HOq := hid (owns_below HO.out hbZ)
          have HWq := hid (owns_below HWD.out hbZ)
          have hszq := HBq.out.size
          have hb5q := Nat.lt_of_lt_of_le hb5 hbZ.size
          have hcq := HC6.out _ hbZ
          clear hbZ HKK HO HWD HBL HLEj HTIj HAVj HB6 t0 t1
          have HN2 := hid (HN.out (by first | rfl | trivial))
          have HCN2 := hid (HCN.out (by first | rfl | trivial))
          clear HY HN HCY HCN
          go_wp2
          go_roundw
          case rel => exact ⟨j + 1, by omega, by go_num, hid (by rw [HN2.out, HCN2.out]; exact HOq.out), HNE, HWq, HBq⟩
          case measure => simp [intOf]; omega
      | true =>
        cases PB with
        | false =>
          obtain rfl : o = false := by rw [HOVj.out]; rfl
          clear HOVj
          go_wp2
          go_quiet ((first | (go_at_call 64; exact Calls.quiet_of (HLEj.out _)) | (go_at_call 66; exact Calls.quiet_of_same ((HTIj.out _).mono (fun e w' h => ⟨h.1, h.2.symm⟩))) | (go_at_call 65; exact Calls.quiet_of_same ((HAVj.out _ (below_drewN HB6.out _)).mono (fun e w' h => ⟨h.1, h.2.symm⟩)))))
          have hbZ := below_drewN HB6.out nq
          obtain ⟨wq, hwq⟩ : ∃ wq, wq = w6.drewN nq := ⟨_, rfl⟩
          rw [← hwq] at hbZ
          rw [← hwq]
          clear hwq
          · have HBq := hid (HBL.out.trans (hbZ.mono hszQ))
            have HOq := hid (owns_below HO.out hbZ)
            have HWq := hid (owns_below HWD.out hbZ)
            have hszq := HBq.out.size
            have hb5q := Nat.lt_of_lt_of_le hb5 hbZ.size
            have hcq := HC6.out _ hbZ
            clear hbZ HKK HO HWD HBL HLEj HTIj HAVj HB6 t0 t1
            have HN2 := hid (HN.out (by first | rfl | trivial))
            have HCN2 := hid (HCN.out (by first | rfl | trivial))
            clear HY HN HCY HCN
            go_wp2
            go_roundw
            case rel => exact ⟨j + 1, by omega, by go_num, hid (by rw [HN2.out, HCN2.out]; exact HOq.out), HNE, HWq, HBq⟩
            case measure => simp [intOf]; omega
        | true =>
          obtain rfl : o = A := by rw [HOVj.out]; rfl
          clear HOVj
          cases o with
          | false =>
            go_wp2
            go_quiet ((first | (go_at_call 64; exact Calls.quiet_of (HLEj.out _)) | (go_at_call 66; exact Calls.quiet_of_same ((HTIj.out _).mono (fun e w' h => ⟨h.1, h.2.symm⟩))) | (go_at_call 65; exact Calls.quiet_of_same ((HAVj.out _ (below_drewN HB6.out _)).mono (fun e w' h => ⟨h.1, h.2.symm⟩)))))
            have hbZ := below_drewN HB6.out nq
            obtain ⟨wq, hwq⟩ : ∃ wq, wq = w6.drewN nq := ⟨_, rfl⟩
            rw [← hwq] at hbZ
            rw [← hwq]
            clear hwq
            · have HBq := hid (HBL.out.trans (hbZ.mono hszQ))
              have HOq := hid (owns_below HO.out hbZ)
              have HWq := hid (owns_below HWD.out hbZ)
              have hszq := HBq.out.size
              have hb5q := Nat.lt_of_lt_of_le hb5 hbZ.size
              have hcq := HC6.out _ hbZ
              clear hbZ HKK HO HWD HBL HLEj HTIj HAVj HB6 t0 t1
              have HN2 := hid (HN.out (by first | rfl | trivial))
              have HCN2 := hid (HCN.out (by first | rfl | trivial))
              clear HY HN HCY HCN
              go_wp2
              go_roundw
              case rel => exact ⟨j + 1, by omega, by go_num, hid (by rw [HN2.out, HCN2.out]; exact HOq.out), HNE, HWq, HBq⟩
              case measure => simp [intOf]; omega
          | true =>
            go_wp2
            go_quiet ((first | (go_at_call 64; exact Calls.quiet_of (HLEj.out _)) | (go_at_call 66; exact Calls.quiet_of_same ((HTIj.out _).mono (fun e w' h => ⟨h.1, h.2.symm⟩))) | (go_at_call 65; exact Calls.quiet_of_same ((HAVj.out _ (below_drewN HB6.out _)).mono (fun e w' h => ⟨h.1, h.2.symm⟩)))))
            have hbZ := below_drewN HB6.out nq
            obtain ⟨wq, hwq⟩ : ∃ wq, wq = w6.drewN nq := ⟨_, rfl⟩
            rw [← hwq] at hbZ
            rw [← hwq]
            clear hwq
            · have HBq := hid (HBL.out.trans (hbZ.mono hszQ))
              have HOq := hid (owns_below HO.out hbZ)
              have HWq := hid (owns_below HWD.out hbZ)
              have hszq := HBq.out.size
              have hb5q := Nat.lt_of_lt_of_le hb5 hbZ.size
              have hcq := HC6.out _ hbZ
              clear hbZ HKK HO HWD HBL HLEj HTIj HAVj HB6 t0 t1
              have HY2 := hid (HY.out (by first | rfl | trivial))
              have HCY2 := hid (HCY.out (by first | rfl | trivial))
              clear HY HN HCY HCN
              have HO3 := HOq.out
              go_wp2_with (first | (at_builtin; go_must (refine wpList_app3 rfl _ _ 22 rfl W2.heap.size 9 (.string ByteArray.empty) 16 Tryz.underlying22 infoStr3 rfl _ d _ _ HO3 rfl rfl rfl (by omega) (by unfold maxLen; omega) hszq g5 HNE.out hb5q ?_); intro v' w8 hown8 hgr8 hne8))
              have HO8 := hid hown8
              have HE8 := hid hne8
              have HK8 := hid (HWq.out.kept hgr8 (Or.inr fun e => HNE.out (by rw [← e]; rfl)))
              have HB8 := hid (HBq.out.grown hgr8 hszq (fun k hk => (HO3.lt k hk).1))
              clear hown8 hgr8 hne8 HO3
              go_roundw
              case rel => exact ⟨j + 1, by omega, by go_num, hid (by rw [HY2.out, HCY2.out]; exact HO8.out), HE8, HK8, HB8⟩
              case measure => simp [intOf]; omega
    · obtain rfl : j = m := by omega
      have HFIN := hid (owns_base (base' := w.heap.size) HO.out hszW)
      go_wp2
      go_ret
      exact ⟨_, rfl, HFIN.out, (HBX.out _ HBL.out).2⟩
end Go.Proofs.YtpfeflhcbcgbfaaGreatDoor
namespace Go.Proofs.YtpfeflhcbcgbfaaGreatDoor
open Go.RowKit
set_option maxHeartbeats 8000000 in
set_option maxRecDepth 100000 in
theorem spec_DescribeShift_yes (k : Nat) (a : Option Addr) (n c : Nat) (ss : List ByteArray) (w : World) (hr : RowAt w a n (strVals ss)) (hok : okShB k ss = true) :
    Calls Tryz.prog 6 #[.agg #[.int .i64 k, .slice a n c]] w fun e w' => e = .returned (.string (dshT ss k)) ∧ Below w.heap.size w w' := by
  obtain ⟨hk, hl8, hsw, _⟩ := okSh_facts hok
  obtain ⟨W2, hW2⟩ : ∃ W2, W2 = w.alloc (.cells #[.int .i64 k, .slice a n c] 27) := ⟨_, rfl⟩
  have hB : Below w.heap.size w W2 := by rw [hW2]; exact (Below.refl _ _).alloc (Nat.le_refl _) _
  have hsz : W2.heap.size = w.heap.size + 1 := by rw [hW2]; simp
  have hbx : BoxC W2 w.heap.size #[.int .i64 k, .slice a n c] := by rw [hW2]; exact BoxC.new _ _ _
  have HBX := hid (fun (V : World) (hV : Below W2.heap.size W2 V) => show (V.cell? ⟨w.heap.size, 0, none⟩ = some (.int .i64 k) ∧ V.cell? ⟨w.heap.size, 1, none⟩ = some (.slice a n c)) ∧ Below w.heap.size w V from ⟨⟨(hbx.below hV).cell 0, (hbx.below hV).cell 1⟩, hB.trans (hV.mono (by omega))⟩)
  have HRW := fun (V : World) (hV : Below W2.heap.size W2 V) => hr.below (hB.trans (hV.mono (by omega))) (Nat.le_refl _)
  have HIS := hid (spec_IsShift_ok k a n c ss W2 (hr.below hB (Nat.le_refl _)) hok)
  have HCW := hid (fun (j : Nat) (hj : j ≤ 6) (V : World) (hV : Below W2.heap.size W2 V) => show Calls Tryz.prog 17 #[.agg #[.int .i64 k, .slice a n c], .int .i64 j] V fun e w' => e = .returned (.int .i64 (cwI ss k j)) ∧ Below V.heap.size V w' from spec_CountWords_c k j a n c ss V (HRW V hV) hok hj)
  have HOW := hid (fun (j : Nat) (hj : 1 ≤ j ∧ j ≤ 6) (V : World) (hV : Below W2.heap.size W2 V) => show Calls Tryz.prog 18 #[.agg #[.int .i64 k, .slice a n c], .int .i64 j] V fun e w' => ∃ g cc d, e = .returned (.slice g d cc) ∧ (d : Int) = ocI ss k j ∧ d ≤ 6561 ∧ Below V.heap.size V w' from (spec_OrbitWords_c k j a n c ss V (HRW V hV) hok hj).mono (by
    rintro e w' ⟨v, rfl, hown, hb⟩
    have h1 := ocI_bd (ss := ss) hk.2 hj.2
    unfold ocI at h1
    obtain ⟨g, cc, rfl, _⟩ := owns_rowAt hown (by omega)
    exact ⟨g, cc, _, rfl, rfl, by omega, hb⟩))
  have HST := hid (fun (V : World) (hV : Below W2.heap.size W2 V) => show Calls Tryz.prog 21 #[.agg #[.int .i64 k, .slice a n c]] V fun e w' => ∃ g cc, e = .returned (.slice g (stL ss k).length cc) ∧ Below V.heap.size V w' from (spec_StatesOf_c k a n c ss V (HRW V hV) hok).mono (by
    rintro e w' ⟨v, rfl, hown, hb⟩
    have h1 := stL_len (ss := ss) hk.2
    obtain ⟨g, cc, rfl, _⟩ := owns_rowAt hown (by omega)
    exact ⟨g, cc, rfl, hb⟩))
  have HCO := hid (fun (V : World) (hV : Below W2.heap.size W2 V) => spec_IsConnected_c k a n c ss V (HRW V hV) hok)
  have HLEN := hid (stL_len (ss := ss) hk.2)
  have HFN := hid (fun W => spec_FormatInt_c ((stL ss k).length : Int) W (by have := stL_len (ss := ss) hk.2; omega) (by have := stL_len (ss := ss) hk.2; omega))
  have HN1 := hid (fun (W : World) (ar : Option Addr) (cr : Nat) (hrr : RowAt W ar 7 (intVals (cntL (cwI ss k) 0 7))) => spec_NumbersText_c ar 7 cr _ W hrr (fun x hx => by obtain ⟨i, h1, h2, rfl⟩ := cntL_mem hx; exact cwI_i64 hk.2 (by omega)) (by omega))
  rw [numsT_cntZ _ _ _ (by omega), show joinV ((cntL (cwI ss k) 0 7).map fmtB) ⟨#[44]⟩ = wdT ss k from rfl] at HN1
  have HN2 := hid (fun (W : World) (ar : Option Addr) (cr : Nat) (hrr : RowAt W ar 5 (intVals (cntL (ocI ss k) 1 5))) => spec_NumbersText_c ar 5 cr _ W hrr (fun x hx => by obtain ⟨i, h1, h2, rfl⟩ := cntL_mem hx; exact ocI_i64 hk.2 (by omega)) (by omega))
  rw [numsT_cntZ _ _ _ (by omega), show joinV ((cntL (ocI ss k) 1 5).map fmtB) ⟨#[44]⟩ = orT ss k from rfl] at HN2
  have HC1 := hid (fun j => cntL_succ (cwI ss k) 0 j)
  have HC2 := hid (fun j => cntL_succ (ocI ss k) 1 j)
  have hz1 := wdT_size (ss := ss) hk.2
  have hz2 := orT_size (ss := ss) hk.2
  have hz3 := fmtB_leZ (x := ((stL ss k).length : Int)) ⟨by omega, by have := stL_len (ss := ss) hk.2; omega⟩
  have hz4 := yesB_size (conV ss k)
  have HYE := hid (fun W => l35Yes_c (conV ss k) W)
  have HTX := hid (show dshT ss k = dshJ (wdT ss k) (fmtB ((stL ss k).length : Int)) (yesB (conV ss k)) (orT ss k) from rfl)
  rw [dshJ_eq] at HTX
  obtain ⟨TX, hTX⟩ : ∃ T, T = dshT ss k := ⟨_, rfl⟩
  rw [← hTX] at HTX
  rw [← hTX]
  obtain ⟨tw, htw⟩ : ∃ t, t = wdT ss k := ⟨_, rfl⟩
  rw [← htw] at HTX HN1 hz1
  obtain ⟨tr, htr⟩ : ∃ t, t = orT ss k := ⟨_, rfl⟩
  rw [← htr] at HTX HN2 hz2
  obtain ⟨tf, htf⟩ : ∃ t, t = fmtB ((stL ss k).length : Int) := ⟨_, rfl⟩
  rw [← htf] at HTX HFN hz3
  obtain ⟨N, hN⟩ : ∃ N, N = (stL ss k).length := ⟨_, rfl⟩
  rw [← hN] at HFN HST HLEN
  obtain ⟨cv, hcv⟩ : ∃ v, v = conV ss k := ⟨_, rfl⟩
  rw [← hcv] at HTX HCO HYE hz4
  obtain ⟨ty, hty⟩ : ∃ t, t = yesB cv := ⟨_, rfl⟩
  rw [← hty] at HTX HYE hz4
  obtain ⟨fw, hfw⟩ : ∃ f, f = cwI ss k := ⟨_, rfl⟩
  rw [← hfw] at HC1 HCW HN1
  obtain ⟨fo, hfo⟩ : ∃ f, f = ocI ss k := ⟨_, rfl⟩
  rw [← hfo] at HC2 HOW HN2
  have HB := hid hB
  have q0 := hbx.cell 0
  have q1 := hbx.cell 1
  clear hr HRW hB hbx hk hok hsw hl8 hTX htw htr htf hN hcv hty hfw hfo
  go_enter Tryz.func6, Tryz.ntmps6
  go_wp2_with (rw [← hW2])
  first | rw [← hW2] | skip
  clear hW2
  refine HIS.out.mono ?_
  rintro e w1 ⟨rfl, hb1⟩
  have HB1 := hid hb1
  have HO1 := hid (show ((w1.alloc (.cells #[] 3)).alloc (.cells #[] 3)).ownsRow w1.heap.size 3 1 (.slice (some ⟨w1.heap.size, 0, none⟩) 0 0) 0 (intVals (cntL fw 0 0)) from (owns_lit3 (w := w1) (base := w1.heap.size) (e := 3) #[] [] rfl (Nat.le_refl _) (by unfold maxLen; simp)).alloc _)
  have HO2 := hid (show ((w1.alloc (.cells #[] 3)).alloc (.cells #[] 3)).ownsRow w1.heap.size 3 1 (.slice (some ⟨w1.heap.size + 1, 0, none⟩) 0 0) 0 (intVals (cntL fo 1 0)) from by
    have := owns_lit3 (w := w1.alloc (.cells #[] 3)) (base := w1.heap.size) (e := 3) #[] [] rfl (by simp) (by unfold maxLen; simp)
    rw [World.size_alloc] at this
    exact this)
  have HB2 := hid (show Below w1.heap.size w1 ((w1.alloc (.cells #[] 3)).alloc (.cells #[] 3)) from ((Below.refl _ _).alloc (Nat.le_refl _) _).alloc (by simp) _)
  clear q0 q1 hb1 HIS
  go_wp2
  go_loopw [3, 5] (fun v i wr => ∃ j : Nat, j ≤ 7 ∧ i = .int .i64 j ∧ Hid (wr.ownsRow w1.heap.size 3 1 v j (intVals (cntL fw 0 j))) ∧ Hid (v.ownBlock ≠ some (w1.heap.size + 1)) ∧ Hid (wr.ownsRow w1.heap.size 3 1 (.slice (some ⟨w1.heap.size + 1, 0, none⟩) 0 0) 0 (intVals (cntL fo 1 0))) ∧ Hid (Below w1.heap.size w1 wr)) (fun _ i _ => 7 - (intOf i).toNat)
  case atStart => exact ⟨0, by omega, rfl, HO1, hid (by simp [Value.ownBlock]), HO2, HB2⟩
  case round =>
    clear HO1 HO2 HB2
    obtain ⟨j, hj, rfl, HO, HNE, HOZ, HBL⟩ := hrel
    by_cases hlt : j < 7
    · have hji : (j : Int) ≤ 6 := by omega
      have HBV := hid (HB1.out.trans (HBL.out.mono HB1.out.size))
      obtain ⟨s0, s1⟩ := (HBX.out _ HBV.out).1
      have HCWj := hid (HCW.out j (by omega) wr HBV.out)
      have HCS := hid (HC1.out j)
      rw [Nat.zero_add] at HCS
      obtain ⟨y, hy⟩ : ∃ y, y = fw j := ⟨_, rfl⟩
      rw [← hy] at HCWj HCS
      have hszQ := HBL.out.size
      clear hy
      go_wp2_with fail
      refine HCWj.out.mono ?_
      rintro e w5 ⟨rfl, hb5⟩
      have HO5 := hid (owns_below HO.out hb5)
      have HZ5 := hid (owns_below HOZ.out hb5)
      have HB5 := hid (HBL.out.trans (hb5.mono hszQ))
      have hszR := HB5.out.size
      have hz5 := (HZ5.out.lt _ rfl).2
      have HO3 := HO5.out
      clear hb5 HO HOZ HBL HCWj s0 s1
      go_wp2_with (first | (at_builtin; go_must (refine wpList_app4 rfl _ _ 39 rfl w1.heap.size 3 (.int .i64 0) 8 Tryz.underlying39 infoIntZ rfl _ j _ _ HO3 rfl rfl rfl (by omega) (by unfold maxLen; omega) hszR ?_); intro v' w8 hown8 hgr8 hne8))
      have HO8 := hid hown8
      have HE8 := hid (hne8 _ HNE.out hz5)
      have HZ8 := hid (HZ5.out.kept hgr8 (Or.inr fun e => HNE.out (by rw [← e]; rfl)))
      have HB8 := hid (HB5.out.grown hgr8 hszR (fun k hk => (HO3.lt k hk).1))
      clear hown8 hgr8 hne8 HO3
      go_roundw
      case rel => exact ⟨j + 1, by omega, by go_num, hid (by rw [HCS.out]; exact HO8.out), HE8, HZ8, HB8⟩
      case measure => simp [intOf]; omega
    · have h7 : j = 7 := by omega
      have hji : ¬ ((j : Int) ≤ 6) := by omega
      have HO7 := hid (show wr.ownsRow w1.heap.size 3 1 u3 7 (intVals (cntL fw 0 7)) from by
        have := HO.out
        rw [h7] at this
        exact this)
      clear h7 hlt hj
      have HPE := hid (show ∀ bb, u3.ownBlock = some bb → (Value.slice (some ⟨w1.heap.size + 1, 0, none⟩) 0 0).ownBlock ≠ some bb from fun bb h e => by
        rw [← e] at h
        exact HNE.out (h.trans rfl))
      clear HO HNE
      go_wp2
      go_loopw [4, 6] (fun v i wr => ∃ j : Nat, j ≤ 5 ∧ i = .int .i64 ((j + 1 : Nat) : Int) ∧ Hid (wr.ownsRow w1.heap.size 3 1 v j (intVals (cntL fo 1 j))) ∧ Hid (∀ bb, u3.ownBlock = some bb → v.ownBlock ≠ some bb) ∧ Hid (wr.ownsRow w1.heap.size 3 1 u3 7 (intVals (cntL fw 0 7))) ∧ Hid (Below w1.heap.size w1 wr)) (fun _ i _ => 7 - (intOf i).toNat)
      case atStart => exact ⟨0, by omega, rfl, HOZ, HPE, HO7, HBL⟩
      case round =>
        clear HOZ HPE HO7 HBL
        obtain ⟨j, hj, rfl, HO, HPE, HOW7, HBL⟩ := hrel
        obtain ⟨J, hJ⟩ : ∃ J, J = j + 1 := ⟨_, rfl⟩
        rw [← hJ]
        have HJ := hid hJ
        by_cases hlt : j < 5
        · have hji : (J : Int) ≤ 5 := by omega
          have HJI := hid (show (J : Int) + 1 = ((j + 1 + 1 : Nat) : Int) by rw [hJ]; rfl)
          have HBV := hid (HB1.out.trans (HBL.out.mono HB1.out.size))
          obtain ⟨s0, s1⟩ := (HBX.out _ HBV.out).1
          have HOWj := hid (HOW.out J (by omega) wr HBV.out)
          have HCS := hid (show intVals (cntL fo 1 (j + 1)) = intVals (cntL fo 1 j) ++ [.int .i64 (fo J)] from by rw [HC2.out j, Nat.add_comm 1 j, ← hJ])
          obtain ⟨y, hy⟩ : ∃ y, y = fo J := ⟨_, rfl⟩
          rw [← hy] at HOWj HCS
          have hszQ := HBL.out.size
          clear hy hJ
          go_wp2_with fail
          refine HOWj.out.mono ?_
          rintro e w5 ⟨g9, c9, d9, rfl, hd9, hd6, hb5⟩
          have HO5 := hid (owns_below HO.out hb5)
          have HZ5 := hid (owns_below HOW7.out hb5)
          have HB5 := hid (HBL.out.trans (hb5.mono hszQ))
          have hszR := HB5.out.size
          have HO3 := HO5.out
          have HD9 := hid hd9
          clear hb5 HO HOW7 HBL HOWj s0 s1 hd9
          go_wp2_with (first | (at_builtin; go_must (refine wpList_app4 rfl _ _ 39 rfl w1.heap.size 3 (.int .i64 0) 8 Tryz.underlying39 infoIntZ rfl _ j _ _ HO3 rfl rfl rfl (by omega) (by unfold maxLen; omega) hszR ?_); intro v' w8 hown8 hgr8 hne8))
          have HO8 := hid hown8
          have HE8 := hid (show ∀ bb, u3.ownBlock = some bb → v'.ownBlock ≠ some bb from fun bb h => hne8 bb (HPE.out bb h) (HZ5.out.lt bb h).2)
          have HZ8 := hid (HZ5.out.kept hgr8 (by
            cases hv : u3.ownBlock with
            | none => exact Or.inl rfl
            | some bb => exact Or.inr fun e => HPE.out bb hv e.symm))
          have HB8 := hid (HB5.out.grown hgr8 hszR (fun k hk => (HO3.lt k hk).1))
          clear hown8 hgr8 hne8 HO3
          go_roundw
          case rel => exact ⟨j + 1, by omega, congrArg (Value.int .i64) HJI.out, hid (by rw [HCS.out, ← HD9.out]; exact HO8.out), HE8, HZ8, HB8⟩
          case measure => have := HJ.out; simp [intOf]; omega
        · obtain rfl : j = 5 := by omega
          have hji : ¬ ((J : Int) ≤ 5) := by omega
          have HBV := hid (HB1.out.trans (HBL.out.mono HB1.out.size))
          obtain ⟨ar, cr, har, hrw⟩ := owns_rowAt HOW7.out (by omega)
          obtain ⟨ao, co, hao, hro⟩ := owns_rowAt HO.out (by omega)
          subst har hao
          have HRW7 := hid hrw
          have HRO5 := hid hro
          clear hrw hro HO HOW7 HPE hJ
          have hbZ : Below wr.heap.size wr wr.drew := (Below.refl _ _).drew
          have HKK := hid (fun (V : World) (hV : Below wr.heap.size wr V) => show V.cell? ⟨w.heap.size, 0, none⟩ = some (.int .i64 k) ∧ V.cell? ⟨w.heap.size, 1, none⟩ = some (.slice a n c) ∧ Below wr.heap.size wr V from ⟨(HBX.out V (HBV.out.trans (hV.mono HBV.out.size))).1.1, (HBX.out V (HBV.out.trans (hV.mono HBV.out.size))).1.2, hV⟩)
          have HSTV := hid (fun (V : World) (hV : Below wr.heap.size wr V) => HST.out V (HBV.out.trans (hV.mono HBV.out.size)))
          have HCOV := hid (fun (V : World) (hV : Below wr.heap.size wr V) => HCO.out V (HBV.out.trans (hV.mono HBV.out.size)))
          have HN1V := hid (fun (V : World) (hV : Below wr.heap.size wr V) => HN1.out V ar cr (HRW7.out.below hV (Nat.le_refl _)))
          have HN2V := hid (fun (V : World) (hV : Below wr.heap.size wr V) => HN2.out V ao co (HRO5.out.below hV (Nat.le_refl _)))
          have hN9 := HLEN.out
          have g1 : ¬ ((9223372036854775807 : Int) < 6 + (tw.size : Int)) := by omega
          have g2 : ¬ ((9223372036854775807 : Int) < 6 + (tw.size : Int) + 8) := by omega
          have g3 : ¬ ((9223372036854775807 : Int) < 6 + (tw.size : Int) + 8 + (tf.size : Int)) := by omega
          have g1' : ¬ (9223372036854775807 < 6 + tw.size) := by omega
          have g2' : ¬ (9223372036854775807 < 6 + tw.size + 8) := by omega
          have g3' : ¬ (9223372036854775807 < 6 + tw.size + 8 + tf.size) := by omega
          go_wp2
          go_region_held3 (fun V => V.cell? ⟨w.heap.size, 0, none⟩ = some (.int .i64 k) ∧ V.cell? ⟨w.heap.size, 1, none⟩ = some (.slice a n c) ∧ Below wr.heap.size wr V)
            (first | with_reducible exact HKK.out _ hbZ)
            (first | (go_at_call 19; refine (HN1V.out _ hbZ).mono ?_; rintro e w3 ⟨rfl, hb3⟩; have hbZ := hbZ.trans (hb3.mono hbZ.size)) | (go_at_call 21; refine (HSTV.out _ hbZ).mono ?_; rintro e w4 ⟨g4, c4, rfl, hb4⟩; have hbZ := hbZ.trans (hb4.mono hbZ.size)) | (go_at_call 20; refine (HFN.out _).mono ?_; rintro e w5 ⟨rfl, hb5⟩; have hbZ := hbZ.trans (hb5.mono hbZ.size)))
          have HBQ := hid hbZ
          obtain ⟨X, hX⟩ : ∃ X : ByteArray, X = ⟨#[119, 111, 114, 100, 115, 32]⟩ ++ tw ++ ⟨#[32, 115, 116, 97, 116, 101, 115, 32]⟩ ++ tf := ⟨_, rfl⟩
          have hXs : X.size ≤ 2000 := by
            rw [hX]
            simp only [ByteArray.size_append]
            show 6 + tw.size + 8 + tf.size ≤ 2000
            omega
          rw [← hX] at HTX
          rw [← hX]
          obtain ⟨t0, t1, _⟩ := HKK.out _ hbZ
          clear hX g1 g2 g3 g1' g2' g3' HN1V HSTV HFN
          have g1 : ¬ ((9223372036854775807 : Int) < (X.size : Int) + 11) := by omega
          have g2 : ¬ ((9223372036854775807 : Int) < (X.size : Int) + 11 + (ty.size : Int)) := by omega
          have g3 : ¬ ((9223372036854775807 : Int) < (X.size : Int) + 11 + (ty.size : Int) + 8) := by omega
          have g4 : ¬ ((9223372036854775807 : Int) < (X.size : Int) + 11 + (ty.size : Int) + 8 + (tr.size : Int)) := by omega
          have g1' : ¬ (9223372036854775807 < X.size + 11) := by omega
          have g2' : ¬ (9223372036854775807 < X.size + 11 + ty.size) := by omega
          have g3' : ¬ (9223372036854775807 < X.size + 11 + ty.size + 8) := by omega
          have g4' : ¬ (9223372036854775807 < X.size + 11 + ty.size + 8 + tr.size) := by omega
          have HCOQ := hid (HCOV.out _ hbZ)
          clear hbZ
          go_wp2_with fail
          refine HCOQ.out.mono ?_
          rintro e w6 ⟨rfl, hb6⟩
          have HB6 := hid (HBQ.out.trans (hb6.mono HBQ.out.size))
          go_wp2_with fail
          refine (HYE.out _).mono ?_
          rintro e w7 ⟨rfl, rfl⟩
          go_wp2_with fail
          refine (HN2V.out _ HB6.out).mono ?_
          rintro e w8 ⟨rfl, hb8⟩
          have HB8 := hid ((HBX.out _ (HBV.out.trans ((HB6.out.trans (hb8.mono HB6.out.size)).mono HBV.out.size))).2)
          go_wp2
          go_ret
          exact ⟨by rw [HTX.out]; rfl, HB8.out⟩
end Go.Proofs.YtpfeflhcbcgbfaaGreatDoor
