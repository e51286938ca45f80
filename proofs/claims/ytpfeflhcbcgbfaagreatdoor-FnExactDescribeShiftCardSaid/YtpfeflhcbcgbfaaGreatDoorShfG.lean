/- Shifts: whether a pair goes on in a list, the reference's way. Conditions: a shift, its words and the list in memory. -/
import Derived.Test.YtpfeflhcbcgbfaaGreatDoorShfA
import Derived.Test.YtpfeflhcbcgbfaaGreatDoorFiltM
import Derived.Test.YtpfeflhcbcgbfaaGreatDoorBoxC
import Derived.Test.YtpfeflhcbcgbfaaGreatDoorStI
namespace Go.Proofs.YtpfeflhcbcgbfaaGreatDoor
open Go.RowKit
set_option maxHeartbeats 4000000 in
set_option maxRecDepth 100000 in
theorem l3Words_c (k nn : Nat) (a : Option Addr) (n c : Nat) (ss : List ByteArray) (w : World) (hr : RowAt w a n (strVals ss)) (hs : ∀ t ∈ ss, t.size ≤ 1048576) (hk : 1 ≤ k ∧ k ≤ 3) (hnn : nn ≤ 8) (hn : n ≤ 1048576) :
    Calls Tryz.prog 146 #[.agg #[.int .i64 k, .slice a n c], .int .i64 nn] w (KeptPost (fun i => avB ss (wAt k nn i)) k nn w) := by
  have hps := pow_small hk.2 hnn
  have HWO := hid (fun w : World => spec_l2All_c k nn w hk hnn)
  obtain ⟨p, hp⟩ : ∃ p, p = (fun i => avB ss (wAt k nn i)) := ⟨_, rfl⟩
  have HAV := hid (fun (V : World) (i : Nat) (hV : Below w.heap.size w V) => show Calls Tryz.prog 65 #[.slice a n c, .string (wdB k nn i)] V fun e w' => e = .returned (.bool (p i)) ∧ V = w' from by
    have := l3Avoids_c a n c ss (wdB k nn i) V (hr.below hV (Nat.le_refl _)) hs (by rw [wdB_size]; omega) hn
    rw [wdB_list] at this
    rw [hp]
    exact this)
  rw [← hp]
  obtain ⟨m, hm⟩ : ∃ m, m = k ^ nn := ⟨_, rfl⟩
  unfold WordsPost at HWO
  unfold KeptPost
  rw [← hm] at HWO hps
  rw [← hm]
  have hm1 : 1 ≤ m := by rw [hm]; exact Nat.one_le_pow _ _ (by omega)
  obtain ⟨W2, hW2⟩ : ∃ W2, W2 = w.alloc (.cells #[.int .i64 k, .slice a n c] 27) := ⟨_, rfl⟩
  have hB : Below w.heap.size w W2 := by rw [hW2]; exact (Below.refl _ _).alloc (Nat.le_refl _) _
  have hsz : W2.heap.size = w.heap.size + 1 := by rw [hW2]; simp
  have hbx : BoxC W2 w.heap.size #[.int .i64 k, .slice a n c] := by rw [hW2]; exact BoxC.new _ _ _
  have HBX := hid (fun (V : World) (hV : Below W2.heap.size W2 V) => show (V.cell? ⟨w.heap.size, 0, none⟩ = some (.int .i64 k) ∧ V.cell? ⟨w.heap.size, 1, none⟩ = some (.slice a n c)) ∧ Below w.heap.size w V from ⟨⟨(hbx.below hV).cell 0, (hbx.below hV).cell 1⟩, hB.trans (hV.mono (by omega))⟩)
  have HO0 := hid (owns_lit3 (w := W2) (base := W2.heap.size) (e := 9) #[] [] rfl (Nat.le_refl _) (by unfold maxLen; simp))
  have HE0 := hid (show Below W2.heap.size W2 (W2.alloc (.cells #[] 9)) from (Below.refl _ _).alloc (Nat.le_refl _) _)
  have hszW := hB.size
  obtain ⟨⟨q0, q1⟩, _⟩ := HBX.out _ HE0.out
  clear hB hbx hp hm hk hr hs
  go_enter Tryz.func146, Tryz.ntmps146
  go_wp2_with (first | rw [← hW2])
  first | rw [← hW2] | skip
  clear hW2
  refine (HWO.out _).mono ?_
  rintro e w1 ⟨v, rfl, hown, hb1⟩
  have hou1 := owns_below HO0.out hb1
  have hb2 : Below W2.heap.size W2 w1 := HE0.out.trans (hb1.mono HE0.out.size)
  obtain ⟨g5, c5, rfl, hg5, hlt5⟩ := hown.form (by omega)
  have hgne : g5 ≠ W2.heap.size := by simp at hg5; omega
  have hown2 := owns_base (base' := W2.heap.size) hown HE0.out.size
  have HO1 := hid (show w1.ownsRow W2.heap.size 9 1 (.slice (some ⟨W2.heap.size, 0, none⟩) 0 0) ((List.range 0).filter p).length (strVals (kp p k nn 0)) from hou1)
  have HN1 := hid (show (Value.slice (some ⟨W2.heap.size, 0, none⟩) 0 0).ownBlock ≠ some g5 by simp [Value.ownBlock]; omega)
  have HW1 := hid hown2
  have HB1 := hid hb2
  clear hou1 hb2 hown hown2 hb1 hlt5 hg5 q0 q1 HO0 HE0 hgne
  go_wp2
  go_loopw [5, 7] (fun v i wr => ∃ j : Nat, j ≤ m ∧ i = .int .i64 j ∧ Hid (wr.ownsRow W2.heap.size 9 1 v ((List.range j).filter p).length (strVals (kp p k nn j))) ∧ Hid (v.ownBlock ≠ some g5) ∧ Hid (wr.ownsRow W2.heap.size 9 1 (.slice (some ⟨g5, 0, none⟩) m c5) m (strVals (wds k nn m))) ∧ Hid (Below W2.heap.size W2 wr)) (fun _ i _ => m - (intOf i).toNat)
  case atStart =>
    refine ⟨0, by omega, rfl, ?_, ?_, HW1, HB1⟩
    · rw [← hsz]
      exact HO1
    · rw [← hsz]
      exact HN1
  case round =>
    clear HO1 HN1 HW1 HB1
    obtain ⟨j, hj, rfl, HO, HNE, HWD, HBL⟩ := hrel
    have hcnt := kp_le p j
    by_cases hlt : j < m
    · have hji : (j : Int) < (m : Int) := by omega
      obtain ⟨a6, c6, he6, hr6⟩ := owns_rowAt HWD.out (by omega)
      simp only [Value.slice.injEq, true_and] at he6
      obtain ⟨rfl, rfl⟩ := he6
      obtain ⟨b5, o5, he5, hb5, hcl5⟩ := hr6.at_ (by omega)
      simp only [Option.some.injEq, Addr.mk.injEq, and_true] at he5
      obtain ⟨rfl, rfl⟩ := he5
      have hcell := hcl5 j _ (strVals_get (wds_get hlt))
      rw [Nat.zero_add] at hcell
      obtain ⟨⟨s0, s1⟩, hbw⟩ := HBX.out _ HBL.out
      have HBW := hid hbw
      clear hr6 hcl5 hbw
      obtain ⟨d, hd⟩ : ∃ d, d = ((List.range j).filter p).length := ⟨_, rfl⟩
      have HC := hid hd
      have HQ := hid (fun q : Nat => show Calls Tryz.prog 65 #[.slice a n c, .string (wdB k nn j)] (wr.drewN q) fun e w' => e = .returned (.bool (p j)) ∧ wr.drewN q = w' from HAV.out _ j (HBW.out.trans (below_drewN (Below.refl _ _) _)))
      have HY := hid (fun h : p j = true => kp_yes (k := k) (n := nn) h)
      have HN := hid (fun h : p j = false => kp_no (k := k) (n := nn) h)
      have HCY := hid (fun h : p j = true => cn_yes h)
      have HCN := hid (fun h : p j = false => cn_no h)
      have hszQ := HBL.out.size
      have HO2 := HO.out
      rw [← hd] at HO2 hcnt HCY HCN
      have HO := hid HO2
      clear HO2 hd
      obtain ⟨o, ho⟩ : ∃ o, o = p j := ⟨_, rfl⟩
      rw [← ho] at HQ HY HN HCY HCN
      clear ho
      go_wp2
      go_quiet ((go_at_call 65; exact Calls.quiet_of_same ((HQ.out _).mono (fun e w' h => ⟨h.1, h.2.symm⟩))))
      obtain ⟨wq, hwq⟩ : ∃ wq, wq = wr.drewN nq := ⟨_, rfl⟩
      rw [← hwq]
      have hbq : Below wr.heap.size wr wq := by rw [hwq]; exact below_drewN (Below.refl _ _) _
      have hsq : wr.heap.size = wq.heap.size := by rw [hwq]; simp
      have hb5q : g5 < wq.heap.size := by omega
      have hcq := (hbq.cell (p := ⟨g5, j, none⟩) hb5).trans hcell
      have HOq := hid (owns_below HO.out hbq)
      have HWq := hid (owns_below HWD.out hbq)
      have HBq := hid (HBL.out.trans (hbq.mono hszQ))
      have hszq : W2.heap.size ≤ wq.heap.size := HBq.out.size
      clear hwq hbq hcell HO HWD HBL s0 s1 HQ
      cases o with
      | false =>
        have HN2 := hid (HN.out rfl)
        have HCN2 := hid (HCN.out rfl)
        clear HY HN HCY HCN
        go_wp2
        go_roundw
        case rel => exact ⟨j + 1, by omega, by go_num, hid (by rw [HN2.out, HCN2.out]; exact HOq.out), HNE, HWq, HBq⟩
        case measure => simp [intOf]; omega
      | true =>
        have HY2 := hid (HY.out rfl)
        have HCY2 := hid (HCY.out rfl)
        clear HY HN HCY HCN
        have HO3 := HOq.out
        go_wp2_with (first | (at_builtin; go_must (refine wpList_app3 rfl _ _ 22 rfl W2.heap.size 9 (.string ByteArray.empty) 16 Tryz.underlying22 infoStr3 rfl _ d _ _ HO3 rfl rfl rfl (by omega) (by unfold maxLen; omega) hszq g5 HNE.out hb5q ?_); intro v' w8 hown8 hgr8 hne8))
        have HO8 := hid hown8
        have HK8 := hid (HWq.out.kept hgr8 (Or.inr fun e => HNE.out (by rw [← e]; rfl)))
        have HB8 := hid (HBq.out.grown hgr8 hszq (fun k hk => (HO3.lt k hk).1))
        have HE8 := hid hne8
        clear hown8 hgr8 hne8 HO3
        go_roundw
        case rel => exact ⟨j + 1, by omega, by go_num, hid (by rw [HY2.out, HCY2.out]; exact HO8.out), HE8, HK8, HB8⟩
        case measure => simp [intOf]; omega
    · obtain rfl : j = m := by omega
      have HFIN := hid (owns_base (base' := w.heap.size) HO.out hszW)
      go_wp2
      go_ret
      exact ⟨_, rfl, HFIN.out, (HBX.out _ HBL.out).2⟩
end Go.Proofs.YtpfeflhcbcgbfaaGreatDoor
namespace Go.Proofs.YtpfeflhcbcgbfaaGreatDoor
open Go.RowKit
theorem anyT_stop {L : List Nat} {f : Nat → Bool} {t q : Nat} (hq : L[t]? = some q) (h : f q = true) : L.any f = true := List.any_eq_true.2 ⟨q, List.mem_of_getElem? hq, h⟩
theorem anyT_step {L : List Nat} {f : Nat → Bool} {t q : Nat} (hq : L[t]? = some q) (h : f q = false) (hz : (L.take t).any f = false) : (L.take (t + 1)).any f = false := by
  rw [List.take_add_one, hq, List.any_append, hz]
  simp [h]
set_option maxHeartbeats 8000000 in
set_option maxRecDepth 100000 in
theorem l3GoesT_c (k i M : Nat) (a : Option Addr) (n c : Nat) (ss : List ByteArray) (gw : Option Addr) (cw : Nat) (L : List Nat) (w : World) (hr : RowAt w a n (strVals ss)) (hs : ∀ t ∈ ss, t.size ≤ 1048576) (hk : 1 ≤ k ∧ k ≤ 3) (hn : n ≤ 1048576) (hi : i < k ^ 2) (hL : ∀ q ∈ L, q < k ^ 2) (hM : M ≤ 1048576) (hw : RowAt w gw M (strVals (L.map (wdB k 2)))) :
    Calls Tryz.prog 147 #[.agg #[.int .i64 k, .slice a n c], .slice gw M cw, .string (wdB k 2 i), .bool true] w fun e w' => e = .returned (.bool (L.any (eP ss k i))) ∧ Below w.heap.size w w' := by
  have hML : L.length = M := by simpa [strVals] using hw.len
  have HML := hid hML
  have HAV := hid (fun (V : World) (wd : ByteArray) (hwd : wd.size ≤ 1048576) (hV : Below w.heap.size w V) => l3Avoids_c a n c ss wd V (hr.below hV (Nat.le_refl _)) hs hwd hn)
  obtain ⟨W2, hW2⟩ : ∃ W2, W2 = w.alloc (.cells #[.int .i64 k, .slice a n c] 27) := ⟨_, rfl⟩
  have hB : Below w.heap.size w W2 := by rw [hW2]; exact (Below.refl _ _).alloc (Nat.le_refl _) _
  have hsz : W2.heap.size = w.heap.size + 1 := by rw [hW2]; simp
  have hbx : BoxC W2 w.heap.size #[.int .i64 k, .slice a n c] := by rw [hW2]; exact BoxC.new _ _ _
  have HBX := hid (fun (V : World) (hV : Below W2.heap.size W2 V) => show (V.cell? ⟨w.heap.size, 0, none⟩ = some (.int .i64 k) ∧ V.cell? ⟨w.heap.size, 1, none⟩ = some (.slice a n c)) ∧ Below w.heap.size w V from ⟨⟨(hbx.below hV).cell 0, (hbx.below hV).cell 1⟩, hB.trans (hV.mono (by omega))⟩)
  have HLK := hid (fun (t q : Nat) (h : L[t]? = some q) => hL q (List.mem_of_getElem? h))
  have HRA := hid hw
  have hus : (wdB k 2 i).size = 2 := wdB_size k 2 i
  have hu1 := pair_get1 hk hi (by rw [hus]; omega)
  have HJ := hid (fun (q : Nat) (hq : q < k ^ 2) => pair_join (i := i) hk hq)
  obtain ⟨f, hf⟩ : ∃ f, f = eP ss k i := ⟨_, rfl⟩
  have HF := hid hf
  have HE := hid (show L.any f = (L.take M).any f by rw [List.take_of_length_le (by omega)])
  rw [← hf]
  clear hr hs hf hL hw hB hbx hML
  go_enter Tryz.func147, Tryz.ntmps147
  go_wp2_with (rw [← hW2])
  first | rw [← hW2] | skip
  clear hW2
  go_loopw [9] (fun i' wr => ∃ t : Nat, t ≤ M ∧ i' = .int .i64 t ∧ Hid ((L.take t).any f = false) ∧ Hid (Below W2.heap.size W2 wr)) (fun i' _ => M - (intOf i').toNat)
  case atStart => exact ⟨0, by omega, rfl, hid rfl, hid (Below.refl _ _)⟩
  case round =>
    obtain ⟨t, ht, rfl, HZ, HBL⟩ := hrel
    by_cases hlt : t < M
    · have hti : (t : Int) < (M : Int) := by omega
      obtain ⟨q, hq⟩ := get_some (l := L) (n := t) (by rw [HML.out]; exact hlt)
      obtain ⟨b, off, rfl, hb, hc⟩ := HRA.out.at_ (by omega)
      obtain ⟨⟨s0, s1⟩, hbw⟩ := HBX.out _ HBL.out
      have hcell := (hbw.cell (p := ⟨b, off + t, none⟩) hb).trans (hc t (.string (wdB k 2 q)) (by simp [strVals, hq]))
      have hqk := HLK.out t q hq
      have hvs : (wdB k 2 q).size = 2 := wdB_size k 2 q
      have hv0 := pair_get0 hk hqk (by rw [hvs]; omega)
      have HPJ := hid (HJ.out q hqk)
      have HYES := hid (fun h : f q = true => anyT_stop (f := f) hq h)
      have HNO := hid (fun h : f q = false => anyT_step (f := f) hq h HZ.out)
      have HEP := hid (show f q = (decide (i % k = q / k) && avB ss (pairW k i ++ [letB (q % k)])) from by rw [HF.out]; rfl)
      have HBW := hid hbw
      obtain ⟨x, hx⟩ : ∃ x, x = i % k := ⟨_, rfl⟩
      obtain ⟨y, hy⟩ : ∃ y, y = q / k := ⟨_, rfl⟩
      obtain ⟨E, hE⟩ : ∃ E, E = f q := ⟨_, rfl⟩
      rw [← hE] at HEP HYES HNO
      have hu1' := hu1
      rw [← hx] at hu1' HEP
      rw [← hy] at hv0 HEP
      clear hE hq hx hy hc hb hbw hu1
      by_cases hxy : x = y
      · subst hxy
        have hes : ((wdB k 2 q).extract 1 2).size = 1 := by rw [ByteArray.size_extract, hvs]; rfl
        have huz : ¬ (9223372036854775807 < (wdB k 2 i).size + 1) := by omega
        have huz2 : ¬ (9223372036854775807 < (wdB k 2 i).size + ((wdB k 2 q).extract 1 2).size) := by omega
        have HEV := hid (show E = avB ss (pairW k i ++ [letB (q % k)]) from by rw [HEP.out, decide_eq_true rfl]; rfl)
        have HCALL := hid (fun r : Nat => show Calls Tryz.prog 65 #[.slice a n c, .string (wdB k 2 i ++ (wdB k 2 q).extract 1 2)] (wr.drewN r) fun e w' => e = .returned (.bool E) ∧ wr.drewN r = w' from by
          have := HAV.out (wr.drewN r) (wdB k 2 i ++ (wdB k 2 q).extract 1 2) (by rw [ByteArray.size_append, ByteArray.size_extract]; omega) (HBW.out.trans (below_drewN (Below.refl _ _) _))
          rw [HPJ.out, ← HEV.out] at this
          exact this)
        clear HEP HEV
        go_wp2
        go_quiet ((go_at_call 65; exact Calls.quiet_of_same ((HCALL.out _).mono (fun e w' h => ⟨h.1, h.2.symm⟩))))
        have HBD := hid (below_drewN HBL.out nq)
        clear HCALL
        cases E with
        | true =>
          have HR := hid (HYES.out rfl)
          go_wp2
          go_ret
          exact ⟨ret_bool HR.out.symm, (HBX.out _ HBD.out).2⟩
        | false =>
          have HN := hid (HNO.out rfl)
          go_wp2
          go_quiet (fail)
          go_wp2
          go_roundw
          case rel => exact ⟨t + 1, by omega, by go_num, HN, hid (below_drewN HBL.out _)⟩
          case measure => simp [intOf]; omega
      · have HEP := hid (show E = false from by rw [HEP.out, decide_eq_false hxy]; rfl)
        have HN := hid (HNO.out HEP.out)
        have h1 : ((x : Int) == (y : Int)) = false := by simp; omega
        have h2 : ((97 + (y : Int)) == (97 + (x : Int))) = false := by simp; omega
        have h3 : decide ((y : Int) = (x : Int)) = false := decide_eq_false (by omega)
        go_wp2
        go_quiet (fail)
        have HBD := hid (below_drewN HBL.out nq)
        go_wp2
        go_quiet (fail)
        go_wp2
        go_roundw
        case rel => exact ⟨t + 1, by omega, by go_num, HN, hid (below_drewN HBL.out _)⟩
        case measure => simp [intOf]; omega
    · obtain rfl : t = M := by omega
      go_wp2
      go_ret
      exact ⟨ret_bool (HZ.out.symm.trans HE.out.symm), (HBX.out _ HBL.out).2⟩
set_option maxHeartbeats 8000000 in
set_option maxRecDepth 100000 in
theorem l3GoesF_c (k i M : Nat) (a : Option Addr) (n c : Nat) (ss : List ByteArray) (gw : Option Addr) (cw : Nat) (L : List Nat) (w : World) (hr : RowAt w a n (strVals ss)) (hs : ∀ t ∈ ss, t.size ≤ 1048576) (hk : 1 ≤ k ∧ k ≤ 3) (hn : n ≤ 1048576) (hi : i < k ^ 2) (hL : ∀ q ∈ L, q < k ^ 2) (hM : M ≤ 1048576) (hw : RowAt w gw M (strVals (L.map (wdB k 2)))) :
    Calls Tryz.prog 147 #[.agg #[.int .i64 k, .slice a n c], .slice gw M cw, .string (wdB k 2 i), .bool false] w fun e w' => e = .returned (.bool (L.any fun r => eP ss k r i)) ∧ Below w.heap.size w w' := by
  have hML : L.length = M := by simpa [strVals] using hw.len
  have HML := hid hML
  have HAV := hid (fun (V : World) (wd : ByteArray) (hwd : wd.size ≤ 1048576) (hV : Below w.heap.size w V) => l3Avoids_c a n c ss wd V (hr.below hV (Nat.le_refl _)) hs hwd hn)
  obtain ⟨W2, hW2⟩ : ∃ W2, W2 = w.alloc (.cells #[.int .i64 k, .slice a n c] 27) := ⟨_, rfl⟩
  have hB : Below w.heap.size w W2 := by rw [hW2]; exact (Below.refl _ _).alloc (Nat.le_refl _) _
  have hsz : W2.heap.size = w.heap.size + 1 := by rw [hW2]; simp
  have hbx : BoxC W2 w.heap.size #[.int .i64 k, .slice a n c] := by rw [hW2]; exact BoxC.new _ _ _
  have HBX := hid (fun (V : World) (hV : Below W2.heap.size W2 V) => show (V.cell? ⟨w.heap.size, 0, none⟩ = some (.int .i64 k) ∧ V.cell? ⟨w.heap.size, 1, none⟩ = some (.slice a n c)) ∧ Below w.heap.size w V from ⟨⟨(hbx.below hV).cell 0, (hbx.below hV).cell 1⟩, hB.trans (hV.mono (by omega))⟩)
  have HLK := hid (fun (t q : Nat) (h : L[t]? = some q) => hL q (List.mem_of_getElem? h))
  have HRA := hid hw
  have hus : (wdB k 2 i).size = 2 := wdB_size k 2 i
  have hu1 := pair_get0 hk hi (by rw [hus]; omega)
  have HJ := hid (fun (q : Nat) (hq : q < k ^ 2) => pair_join (i := q) (j := i) hk hi)
  obtain ⟨f, hf⟩ : ∃ f : Nat → Bool, f = (fun r => eP ss k r i) := ⟨_, rfl⟩
  have HF := hid hf
  have HE := hid (show L.any f = (L.take M).any f by rw [List.take_of_length_le (by omega)])
  rw [← hf]
  clear hr hs hf hL hw hB hbx hML
  go_enter Tryz.func147, Tryz.ntmps147
  go_wp2_with (rw [← hW2])
  first | rw [← hW2] | skip
  clear hW2
  go_loopw [9] (fun i' wr => ∃ t : Nat, t ≤ M ∧ i' = .int .i64 t ∧ Hid ((L.take t).any f = false) ∧ Hid (Below W2.heap.size W2 wr)) (fun i' _ => M - (intOf i').toNat)
  case atStart => exact ⟨0, by omega, rfl, hid rfl, hid (Below.refl _ _)⟩
  case round =>
    obtain ⟨t, ht, rfl, HZ, HBL⟩ := hrel
    by_cases hlt : t < M
    · have hti : (t : Int) < (M : Int) := by omega
      obtain ⟨q, hq⟩ := get_some (l := L) (n := t) (by rw [HML.out]; exact hlt)
      obtain ⟨b, off, rfl, hb, hc⟩ := HRA.out.at_ (by omega)
      obtain ⟨⟨s0, s1⟩, hbw⟩ := HBX.out _ HBL.out
      have hcell := (hbw.cell (p := ⟨b, off + t, none⟩) hb).trans (hc t (.string (wdB k 2 q)) (by simp [strVals, hq]))
      have hqk := HLK.out t q hq
      have hvs : (wdB k 2 q).size = 2 := wdB_size k 2 q
      have hv0 := pair_get1 hk hqk (by rw [hvs]; omega)
      have HPJ := hid (HJ.out q hqk)
      have HYES := hid (fun h : f q = true => anyT_stop (f := f) hq h)
      have HNO := hid (fun h : f q = false => anyT_step (f := f) hq h HZ.out)
      have HEP := hid (show f q = (decide (q % k = i / k) && avB ss (pairW k q ++ [letB (i % k)])) from by rw [HF.out]; rfl)
      have HBW := hid hbw
      obtain ⟨x, hx⟩ : ∃ x, x = i / k := ⟨_, rfl⟩
      obtain ⟨y, hy⟩ : ∃ y, y = q % k := ⟨_, rfl⟩
      obtain ⟨E, hE⟩ : ∃ E, E = f q := ⟨_, rfl⟩
      rw [← hE] at HEP HYES HNO
      have hu1' := hu1
      rw [← hx] at hu1' HEP
      rw [← hy] at hv0 HEP
      clear hE hq hx hy hc hb hbw hu1
      by_cases hxy : x = y
      · subst hxy
        have hes : ((wdB k 2 i).extract 1 2).size = 1 := by rw [ByteArray.size_extract, hus]; rfl
        have huz : ¬ (9223372036854775807 < (wdB k 2 q).size + 1) := by omega
        have huz2 : ¬ (9223372036854775807 < (wdB k 2 q).size + ((wdB k 2 i).extract 1 2).size) := by omega
        have HEV := hid (show E = avB ss (pairW k q ++ [letB (i % k)]) from by rw [HEP.out, decide_eq_true rfl]; rfl)
        have HCALL := hid (fun V : World => fun hV : Below w.heap.size w V => show Calls Tryz.prog 65 #[.slice a n c, .string (wdB k 2 q ++ (wdB k 2 i).extract 1 2)] V fun e w' => e = .returned (.bool E) ∧ V = w' from by
          have := HAV.out V (wdB k 2 q ++ (wdB k 2 i).extract 1 2) (by rw [ByteArray.size_append, ByteArray.size_extract]; omega) hV
          rw [HPJ.out, ← HEV.out] at this
          exact this)
        clear HEP HEV
        go_wp2
        go_quiet (fail)
        obtain ⟨wq, hwq⟩ : ∃ wq, wq = wr.drewN nq := ⟨_, rfl⟩
        rw [← hwq]
        have hBq : Below W2.heap.size W2 wq := by rw [hwq]; exact below_drewN HBL.out _
        have hBL := hBq
        clear HBL
        have HBL := hid hBL
        have hcq : wq.cell? ⟨b, off + t, none⟩ = some (.string (wdB k 2 q)) := by rw [hwq]; simpa using hcell
        obtain ⟨⟨s0, s1⟩, hbw⟩ := HBX.out _ HBL.out
        have HQQ := hid (fun r : Nat => HCALL.out (wq.drewN r) (below_drewN hbw _))
        clear hcell hwq hBq hBL hbw HBW
        go_wp2
        go_quiet ((go_at_call 65; exact Calls.quiet_of_same ((HQQ.out _).mono (fun e w' h => ⟨h.1, h.2.symm⟩))))
        have HBD := hid (below_drewN HBL.out nq)
        clear HCALL
        cases E with
        | true =>
          have HR := hid (HYES.out rfl)
          go_wp2
          go_ret
          exact ⟨ret_bool HR.out.symm, (HBX.out _ HBD.out).2⟩
        | false =>
          have HN := hid (HNO.out rfl)
          go_wp2
          go_roundw
          case rel => exact ⟨t + 1, by omega, by go_num, HN, hid (below_drewN HBL.out _)⟩
          case measure => simp [intOf]; omega
      · have HEP := hid (show E = false from by rw [HEP.out, decide_eq_false (fun e => hxy e.symm)]; rfl)
        have HN := hid (HNO.out HEP.out)
        have h1 : ((x : Int) == (y : Int)) = false := by simp; omega
        have h2 : ((97 + (y : Int)) == (97 + (x : Int))) = false := by simp; omega
        have h3 : decide ((y : Int) = (x : Int)) = false := decide_eq_false (by omega)
        go_wp2
        go_quiet (fail)
        go_wp2
        go_quiet (fail)
        go_wp2
        go_roundw
        case rel => exact ⟨t + 1, by omega, by go_num, HN, hid (below_drewN HBL.out _)⟩
        case measure => simp [intOf]; omega
    · obtain rfl : t = M := by omega
      go_wp2
      go_ret
      exact ⟨ret_bool (HZ.out.symm.trans HE.out.symm), (HBX.out _ HBL.out).2⟩
end Go.Proofs.YtpfeflhcbcgbfaaGreatDoor
