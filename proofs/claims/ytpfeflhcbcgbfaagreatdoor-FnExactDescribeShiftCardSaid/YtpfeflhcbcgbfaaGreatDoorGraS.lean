/- The table of a shift, the reference's way. Conditions: a shift that is one, in memory. -/
import Derived.Test.YtpfeflhcbcgbfaaGreatDoorLangS
import Derived.Test.YtpfeflhcbcgbfaaGreatDoorMat
import Derived.Test.YtpfeflhcbcgbfaaGreatDoorMul
import Derived.Test.YtpfeflhcbcgbfaaGreatDoorPer
namespace Go.Proofs.YtpfeflhcbcgbfaaGreatDoor
open Go.RowKit
/-- The words of two letters in the language are the states. -/
theorem inL_two {ss : List ByteArray} {k i : Nat} (hk : 1 ≤ k ∧ k ≤ 3) (hi : i < k ^ 2) : inL ss k 2 i = livB ss k i := by
  unfold inL inLV
  have hx0 : (wdB k 2 i).extract 0 2 = wdB k 2 i := by
    apply ByteArray.ext
    apply Array.toList_inj.1
    have hz : (wdB k 2 i).data.toList.length = 2 := by rw [size_list, wdB_size]
    rw [ByteArray.data_extract, Array.toList_extract, List.extract_eq_take_drop, List.drop_zero, List.take_of_length_le (by omega)]
  have hx1 : (wdB k 2 i).extract ((wdB k 2 i).size - 2) (wdB k 2 i).size = wdB k 2 i := by
    rw [wdB_size]
    exact hx0
  rw [hx0, hx1, hasB_st hk hi, wdB_list]
  by_cases h0 : ((stL ss k).map (wdB k 2)).length = 0
  · rw [if_pos h0]
    cases hl : livB ss k i with
    | false => rfl
    | true =>
      have hm : i ∈ stL ss k := List.mem_filter.2 ⟨List.mem_range.2 hi, hl⟩
      rw [List.length_map] at h0
      rw [List.length_eq_zero_iff.1 h0] at hm
      cases hm
  · rw [if_neg h0]
    by_cases ha : avB ss (wAt k 2 i) = false
    · rw [if_pos ha]
      cases hl : livB ss k i with
      | false => rfl
      | true =>
        have := (livP_ok (livB_iff.1 hl)).2
        unfold okP pairW at this
        rw [ha] at this
        cases this
    · rw [if_neg ha, wdB_size, if_pos (Nat.le_refl _), Bool.and_self]
theorem filt_two {ss : List ByteArray} {k : Nat} (hk : 1 ≤ k ∧ k ≤ 3) : (List.range (k ^ 2)).filter (inL ss k 2) = stL ss k := by
  unfold stL
  exact List.filter_congr fun i hi => inL_two hk (List.mem_range.1 hi)
theorem kept_two {ss : List ByteArray} {k : Nat} (hk : 1 ≤ k ∧ k ≤ 3) {w : World} {e : Ending} {w' : World} (h : KeptPost (inL ss k 2) k 2 w e w') : StPost ss k w e w' := by
  unfold KeptPost kp at h
  rw [filt_two hk] at h
  exact h
set_option maxHeartbeats 1000000 in
theorem spec_StatesOf_c (k : Nat) (a : Option Addr) (n c : Nat) (ss : List ByteArray) (w : World) (hr : RowAt w a n (strVals ss)) (hok : okShB k ss = true) :
    Calls Tryz.prog 21 #[.agg #[.int .i64 k, .slice a n c]] w (StPost ss k w) := by
  have hB := (Below.refl w.heap.size w).alloc (Nat.le_refl _) (.cells #[.int .i64 k, .slice a n c] 27)
  have HLA := hid ((spec_LanguageOf_c k 2 a n c ss _ (hr.below hB (Nat.le_refl _)) hok (by omega)).mono fun e w' h => kept_two (okSh_facts hok).1 h)
  have HB := hid hB
  clear hB hr hok
  go_enter Tryz.func21, Tryz.ntmps21
  go_wp2_with fail
  refine HLA.out.mono ?_
  rintro e w6 ⟨v6, rfl, hown6, hb6⟩
  have HO6 := hid (owns_base (base' := w.heap.size) hown6 HB.out.size)
  have HB6 := hid (HB.out.trans (hb6.mono HB.out.size))
  clear hown6 hb6
  go_wp2
  go_ret
  exact ⟨_, rfl, HO6.out, HB6.out⟩
set_option maxHeartbeats 1000000 in
theorem impl_StatesOf_c (k : Nat) (a : Option Addr) (n c : Nat) (ss : List ByteArray) (w : World) (hr : RowAt w a n (strVals ss)) (hok : okShB k ss = true) (hm : MaxW w) :
    Calls Tryz.prog 33 #[.agg #[.int .i64 k, .slice a n c]] w (StPost ss k w) := by
  have hB := (Below.refl w.heap.size w).alloc (Nat.le_refl _) (.cells #[.int .i64 k, .slice a n c] 27)
  have HLA := hid ((impl_LanguageOf_c k 2 a n c ss _ (hr.below hB (Nat.le_refl _)) hok (max_below hm hB (Nat.le_refl _)) (by omega)).mono fun e w' h => kept_two (okSh_facts hok).1 h)
  have HB := hid hB
  clear hB hr hok hm
  go_enter Tryz.func33, Tryz.ntmps33
  go_wp2_with fail
  refine HLA.out.mono ?_
  rintro e w6 ⟨v6, rfl, hown6, hb6⟩
  have HO6 := hid (owns_base (base' := w.heap.size) hown6 HB.out.size)
  have HB6 := hid (HB.out.trans (hb6.mono HB.out.size))
  clear hown6 hb6
  go_wp2
  go_ret
  exact ⟨_, rfl, HO6.out, HB6.out⟩
end Go.Proofs.YtpfeflhcbcgbfaaGreatDoor
namespace Go.Proofs.YtpfeflhcbcgbfaaGreatDoor
open Go.RowKit
def fillT (N : Nat) (f : Nat → Nat → Int) (i j : Nat) : List (List Int) := (List.range N).map fun p => (List.range N).map fun q => if p < i ∨ (p = i ∧ q < j) then f p q else 0
theorem fill_rect (N : Nat) (f : Nat → Nat → Int) (i j : Nat) : Rect (fillT N f i j) N N := by
  refine ⟨by simp [fillT], fun r hr => ?_⟩
  unfold fillT at hr
  obtain ⟨p, _, rfl⟩ := List.mem_map.1 hr
  simp
theorem at2_fill {N : Nat} {f : Nat → Nat → Int} {i j p q : Nat} (hp : p < N) (hq : q < N) : at2 (fillT N f i j) p q = if p < i ∨ (p = i ∧ q < j) then f p q else 0 := by
  have h1 : (fillT N f i j)[p]? = some ((List.range N).map fun q => if p < i ∨ (p = i ∧ q < j) then f p q else 0) := by simp [fillT, hp]
  rw [at2_row h1]
  exact at0_get (by simp [hq])
theorem fill_zero (N : Nat) (f : Nat → Nat → Int) : fillT N f 0 0 = zeroTab N N := by
  have hz : Rect (zeroTab N N) N N := ⟨by simp [zeroTab], fun r hr => by unfold zeroTab at hr; rw [(List.mem_replicate.1 hr).2]; simp⟩
  refine rect_ext (fill_rect N f 0 0) hz fun p q hp hq => ?_
  rw [at2_fill hp hq, if_neg (by omega)]
  have h1 : (zeroTab N N)[p]? = some (List.replicate N 0) := by simp [zeroTab, hp]
  rw [at2_row h1]
  exact (at0_get (by simp [hq])).symm
theorem fill_put {N : Nat} {f : Nat → Nat → Int} {i j : Nat} (hi : i < N) (hj : j < N) {u : Int} (hu : f i j = u) : put2 (fillT N f i j) i j u = fillT N f i (j + 1) := by
  refine rect_ext ((fill_rect N f i j).put2 i j u) (fill_rect N f i (j + 1)) fun p q hp hq => ?_
  rw [at2_fill hp hq]
  by_cases h : i = p ∧ j = q
  · obtain ⟨rfl, rfl⟩ := h
    rw [put2_same (fill_rect N f i j) hi hj, if_pos (by omega), hu]
  · rw [put2_other _ (by omega), at2_fill hp hq]
    by_cases h2 : p < i ∨ (p = i ∧ q < j)
    · rw [if_pos h2, if_pos (by omega)]
    · rw [if_neg h2, if_neg (by omega)]
theorem fill_skip {N : Nat} {f : Nat → Nat → Int} {i j : Nat} (hu : f i j = 0) : fillT N f i j = fillT N f i (j + 1) := by
  refine rect_ext (fill_rect N f i j) (fill_rect N f i (j + 1)) fun p q hp hq => ?_
  rw [at2_fill hp hq, at2_fill hp hq]
  by_cases h : p = i ∧ q = j
  · obtain ⟨rfl, rfl⟩ := h
    rw [if_neg (by omega), if_pos (by omega), hu]
  · by_cases h2 : p < i ∨ (p = i ∧ q < j)
    · rw [if_pos h2, if_pos (by omega)]
    · rw [if_neg h2, if_neg (by omega)]
theorem fill_next (N : Nat) (f : Nat → Nat → Int) (i : Nat) : fillT N f i N = fillT N f (i + 1) 0 := by
  refine rect_ext (fill_rect N f i N) (fill_rect N f (i + 1) 0) fun p q hp hq => ?_
  rw [at2_fill hp hq, at2_fill hp hq]
  by_cases h2 : p < i ∨ (p = i ∧ q < N)
  · rw [if_pos h2, if_pos (by omega)]
  · rw [if_neg h2, if_neg (by omega)]
/-- The table of a shift. -/
def gF (ss : List ByteArray) (k : Nat) (L : List Nat) (p q : Nat) : Int := if eP ss k (L.getD p 0) (L.getD q 0) = true then 1 else 0
noncomputable def gM (ss : List ByteArray) (k : Nat) : List (List Int) := fillT (stL ss k).length (gF ss k (stL ss k)) (stL ss k).length 0
theorem gF_get {ss : List ByteArray} {k : Nat} {L : List Nat} {p q i j : Nat} (hp : L[p]? = some i) (hq : L[q]? = some j) : gF ss k L p q = if eP ss k i j = true then 1 else 0 := by
  unfold gF
  rw [List.getD_eq_getElem?_getD, List.getD_eq_getElem?_getD, hp, hq]
  rfl
theorem gF_bit (ss : List ByteArray) (k : Nat) (L : List Nat) (p q : Nat) : 0 ≤ gF ss k L p q ∧ gF ss k L p q ≤ 1 := by
  unfold gF
  split <;> omega
theorem gM_rect (ss : List ByteArray) (k : Nat) : Rect (gM ss k) (stL ss k).length (stL ss k).length := fill_rect _ _ _ _
theorem gM_bit (ss : List ByteArray) (k p q : Nat) (hp : p < (stL ss k).length) (hq : q < (stL ss k).length) : 0 ≤ at2 (gM ss k) p q ∧ at2 (gM ss k) p q ≤ 1 := by
  unfold gM
  rw [at2_fill hp hq, if_pos (by omega)]
  exact gF_bit ss k _ p q
theorem stL_mem {ss : List ByteArray} {k t q : Nat} (h : (stL ss k)[t]? = some q) : q < k ^ 2 := by
  have := List.mem_filter.1 (List.mem_of_getElem? h)
  exact List.mem_range.1 this.1
def GraPost (ss : List ByteArray) (k : Nat) (w : World) (e : Ending) (w' : World) : Prop := ∃ v, e = .returned (.tuple #[v, .bool (decide ((stL ss k).length ≠ 0))]) ∧ ((stL ss k).length ≠ 0 → TGrid 39 3 w' w.heap.size v (gM ss k)) ∧ Below w.heap.size w w'
end Go.Proofs.YtpfeflhcbcgbfaaGreatDoor
namespace Go.Proofs.YtpfeflhcbcgbfaaGreatDoor
open Go.RowKit
set_option maxHeartbeats 8000000 in
set_option maxRecDepth 100000 in
theorem spec_GraphOf_c (k : Nat) (a : Option Addr) (n c : Nat) (ss : List ByteArray) (w : World) (hr : RowAt w a n (strVals ss)) (hok : okShB k ss = true) :
    Calls Tryz.prog 59 #[.agg #[.int .i64 k, .slice a n c]] w (GraPost ss k w) := by
  obtain ⟨hk, hl8, hsw, _⟩ := okSh_facts hok
  have hln : ss.length = n := by simpa [strVals] using hr.len
  have hs : ∀ t ∈ ss, t.size ≤ 1048576 := fun t ht => by
    obtain ⟨i, hi⟩ := List.mem_iff_getElem?.1 ht
    have := (hsw i t hi).2.2
    omega
  obtain ⟨W2, hW2⟩ : ∃ W2, W2 = w.alloc (.cells #[.int .i64 k, .slice a n c] 27) := ⟨_, rfl⟩
  have hB : Below w.heap.size w W2 := by rw [hW2]; exact (Below.refl _ _).alloc (Nat.le_refl _) _
  have hsz : W2.heap.size = w.heap.size + 1 := by rw [hW2]; simp
  have hbx : BoxC W2 w.heap.size #[.int .i64 k, .slice a n c] := by rw [hW2]; exact BoxC.new _ _ _
  have HST := hid (spec_StatesOf_c k a n c ss W2 (hr.below hB (Nat.le_refl _)) hok)
  have HAV := hid (fun (V : World) (wd : ByteArray) (hwd : wd.size ≤ 1048576) (hV : Below W2.heap.size W2 V) => l3Avoids_c a n c ss wd V (hr.below (hB.trans (hV.mono (by omega))) (Nat.le_refl _)) hs hwd (by omega))
  have HLEN := hid (stL_len (ss := ss) hk.2)
  have HBX := hid (fun (V : World) (hV : Below W2.heap.size W2 V) => show (V.cell? ⟨w.heap.size, 0, none⟩ = some (.int .i64 k) ∧ V.cell? ⟨w.heap.size, 1, none⟩ = some (.slice a n c)) ∧ Below w.heap.size w V from ⟨⟨(hbx.below hV).cell 0, (hbx.below hV).cell 1⟩, hB.trans (hV.mono (by omega))⟩)
  have HLK := hid (fun (t q : Nat) (h : (stL ss k)[t]? = some q) => stL_mem h)
  have HJ := hid (fun (i q : Nat) (hq : q < k ^ 2) => pair_join (i := i) hk hq)
  have HU1 := hid (fun (i : Nat) (hi : i < k ^ 2) (h : 1 < (wdB k 2 i).size) => pair_get1 hk hi h)
  have HV0 := hid (fun (i : Nat) (hi : i < k ^ 2) (h : 0 < (wdB k 2 i).size) => pair_get0 hk hi h)
  have HZ := hid (fun (N : Nat) (w : World) (hN : N ≤ 9) => spec_l4Zero_c N N w (by omega) (by omega))
  unfold StPost at HST
  unfold GridPost at HZ
  unfold GraPost gM
  obtain ⟨L, hL⟩ : ∃ L, L = stL ss k := ⟨_, rfl⟩
  rw [← hL] at HST HLEN HLK
  rw [← hL]
  obtain ⟨N, hN⟩ : ∃ N, N = L.length := ⟨_, rfl⟩
  rw [← hN] at HST HLEN
  rw [← hN]
  have HNL := hid hN
  have HGF := hid (fun (p q i j : Nat) (hp : L[p]? = some i) (hq : L[q]? = some j) => gF_get (ss := ss) (k := k) hp hq)
  obtain ⟨f, hf⟩ : ∃ f, f = gF ss k L := ⟨_, rfl⟩
  rw [← hf] at HGF
  rw [← hf]
  obtain ⟨D, hD⟩ : ∃ D, D = decide (N ≠ 0) := ⟨_, rfl⟩
  rw [← hD]
  have HB := hid hB
  have q0 := hbx.cell 0
  have q1 := hbx.cell 1
  clear hr hs hB hbx hok hsw hln hL hN hk hf
  go_enter Tryz.func59, Tryz.ntmps59
  go_wp2_with (rw [← hW2])
  first | rw [← hW2] | skip
  clear hW2
  refine HST.out.mono ?_
  rintro e w1 ⟨v, rfl, hown, hb1⟩
  have hN9 := HLEN.out
  obtain ⟨gw, cw, rfl, hrow⟩ := owns_rowAt hown (by omega)
  have HB1 := hid hb1
  have HRA := hid hrow
  clear hown hrow hb1 q0 q1 HST
  by_cases hN0 : N = 0
  · obtain rfl : D = false := by rw [hD, hN0]; rfl
    clear hD
    subst hN0
    go_wp2
    go_ret2
    exact ⟨_, rfl, fun h => absurd rfl h, (HBX.out _ HB1.out).2.alloc (HBX.out _ HB1.out).2.size _⟩
  · obtain rfl : D = true := by rw [hD, decide_eq_true hN0]
    clear hD
    have hNi : ((N : Int) == 0) = false := by simp; omega
    go_wp2_with fail
    refine (HZ.out N _ hN9).mono ?_
    rintro e w3 ⟨v, rfl, hgr, hb3⟩
    rw [← fill_zero N f] at hgr
    obtain ⟨gv, cv, rfl, hgv, _⟩ := grid_form hgr (fill_rect N f 0 0).len (by omega)
    have HG3 := hid hgr
    have HB3 := hid hb3
    clear hgr hb3 HZ
    go_wp2
    go_loopw [6] (fun i' wr => ∃ i : Nat, i ≤ N ∧ i' = .int .i64 i ∧ Hid (TGrid 39 3 wr w1.heap.size (.slice (some ⟨gv, 0, none⟩) N cv) (fillT N f i 0)) ∧ Hid (Below w1.heap.size w1 wr)) (fun i' _ => N - (intOf i').toNat)
    case atStart => exact ⟨0, by omega, rfl, HG3, HB3⟩
    case round =>
      clear HG3 HB3
      obtain ⟨i, hi, rfl, HG, HBL⟩ := hrel
      by_cases hlt : i < N
      · have hti : (i : Int) < (N : Int) := by omega
        obtain ⟨p, hp⟩ := get_some (l := L) (n := i) (by rw [← HNL.out]; exact hlt)
        have hpk := HLK.out i p hp
        have HFI := hid (fun (j q : Nat) (hq : L[j]? = some q) => HGF.out i j p q hp hq)
        have hus : (wdB k 2 p).size = 2 := wdB_size k 2 p
        have hu1 := HU1.out p hpk (by rw [hus]; omega)
        obtain ⟨b, off, rfl, hb, hc⟩ := HRA.out.at_ (by omega)
        have hci := hc i (.string (wdB k 2 p)) (by simp [strVals, hp])
        have HC := hid hc
        clear hc hp
        go_wp2
        go_loopw [7] (fun j' wr => ∃ j : Nat, j ≤ N ∧ j' = .int .i64 j ∧ Hid (TGrid 39 3 wr w1.heap.size (.slice (some ⟨gv, 0, none⟩) N cv) (fillT N f i j)) ∧ Hid (Below w1.heap.size w1 wr)) (fun j' _ => N - (intOf j').toNat)
        case atStart => exact ⟨0, by omega, rfl, HG, HBL⟩
        case round =>
          clear HG HBL
          obtain ⟨j, hj, rfl, HG, HBL⟩ := hrel
          by_cases hltj : j < N
          · have htj : (j : Int) < (N : Int) := by omega
            obtain ⟨q, hq⟩ := get_some (l := L) (n := j) (by rw [← HNL.out]; exact hltj)
            have hqk := HLK.out j q hq
            have hvs : (wdB k 2 q).size = 2 := wdB_size k 2 q
            have hv0 := HV0.out q hqk (by rw [hvs]; omega)
            have hcelli := (HBL.out.cell (p := ⟨b, off + i, none⟩) hb).trans hci
            have hcellj := (HBL.out.cell (p := ⟨b, off + j, none⟩) hb).trans (HC.out j (.string (wdB k 2 q)) (by simp [strVals, hq]))
            obtain ⟨⟨s0, s1⟩, hbw⟩ := HBX.out _ (HB1.out.trans (HBL.out.mono HB1.out.size))
            have HPJ := hid (HJ.out p q hqk)
            have HFV := hid (HFI.out j q hq)
            have HEP := hid (show eP ss k p q = (decide (p % k = q / k) && avB ss (pairW k p ++ [letB (q % k)])) from rfl)
            obtain ⟨x, hx⟩ : ∃ x, x = p % k := ⟨_, rfl⟩
            obtain ⟨y, hy⟩ : ∃ y, y = q / k := ⟨_, rfl⟩
            obtain ⟨E, hE⟩ : ∃ E, E = eP ss k p q := ⟨_, rfl⟩
            have hu1' := hu1
            rw [← hE] at HEP HFV
            rw [← hx] at hu1' HEP
            rw [← hy] at hv0 HEP
            clear hE hq hx hy hbw hu1
            by_cases hxy : x = y
            · subst hxy
              have hes : ((wdB k 2 q).extract 1 2).size = 1 := by rw [ByteArray.size_extract, hvs]; rfl
              have huz : ¬ (9223372036854775807 < (wdB k 2 p).size + 1) := by omega
              have huz2 : ¬ (9223372036854775807 < (wdB k 2 p).size + ((wdB k 2 q).extract 1 2).size) := by omega
              have HEV := hid (show E = avB ss (pairW k p ++ [letB (q % k)]) from by rw [HEP.out, decide_eq_true rfl]; rfl)
              have HCALL := hid (fun r : Nat => show Calls Tryz.prog 65 #[.slice a n c, .string (wdB k 2 p ++ (wdB k 2 q).extract 1 2)] (wr.drewN r) fun e w' => e = .returned (.bool E) ∧ wr.drewN r = w' from by
                have := HAV.out (wr.drewN r) (wdB k 2 p ++ (wdB k 2 q).extract 1 2) (by rw [ByteArray.size_append, ByteArray.size_extract]; omega) (below_drewN (HB1.out.trans (HBL.out.mono HB1.out.size)) _)
                rw [HPJ.out, ← HEV.out] at this
                exact this)
              clear HEP HEV
              go_wp2
              go_quiet ((go_at_call 65; exact Calls.quiet_of_same ((HCALL.out _).mono (fun e w' h => ⟨h.1, h.2.symm⟩))))
              have HBD := hid (below_drewN HBL.out nq)
              have HGD := hid (HG.out.below (below_drewN (Below.refl _ _) nq))
              clear HCALL hcelli hcellj s0 s1
              obtain ⟨wq, hwq⟩ : ∃ wq, wq = wr.drewN nq := ⟨_, rfl⟩
              rw [← hwq] at HBD HGD
              rw [← hwq]
              clear hwq
              cases E with
              | true =>
                obtain ⟨g, cg, k1, k2, k3, k4, k5⟩ := grid_cell HGD.out (by decide) (fill_rect N f i j) hlt hltj
                have HS := hid (k5 1)
                have HFP := hid (fill_put (f := f) hlt hltj (u := 1) (by rw [HFV.out]; rfl))
                clear k5
                go_wp2
                go_roundw
                case rel => exact ⟨j + 1, by omega, by go_num, hid (by rw [← HFP.out]; exact HS.out.1), hid (HBD.out.grown HS.out.2 (HBD.out.size) (fun k hk => by injection hk with hk; omega))⟩
                case measure => simp [intOf]; omega
              | false =>
                have HFS := hid (fill_skip (N := N) (f := f) (i := i) (j := j) (by rw [HFV.out]; rfl))
                go_wp2
                go_roundw
                case rel => exact ⟨j + 1, by omega, by go_num, hid (by rw [← HFS.out]; exact HGD.out), HBD⟩
                case measure => simp [intOf]; omega
            · have HEP := hid (show E = false from by rw [HEP.out, decide_eq_false hxy]; rfl)
              have HFS := hid (fill_skip (N := N) (f := f) (i := i) (j := j) (by rw [HFV.out, HEP.out]; rfl))
              have h1 : ((97 + (x : Int)) == (97 + (y : Int))) = false := by simp; omega
              have h3 : decide ((x : Int) = (y : Int)) = false := decide_eq_false (by omega)
              go_wp2
              go_quiet (fail)
              have HBD := hid (below_drewN HBL.out nq)
              have HGD := hid (HG.out.below (below_drewN (Below.refl _ _) nq))
              go_wp2
              go_roundw
              case rel => exact ⟨j + 1, by omega, by go_num, hid (by rw [← HFS.out]; exact HGD.out), HBD⟩
              case measure => simp [intOf]; omega
          · obtain rfl : j = N := by omega
            have HFN := hid (fill_next j f i)
            go_wp2
            go_roundw
            case rel => exact ⟨i + 1, by omega, by go_num, hid (by rw [← HFN.out]; exact HG.out), HBL⟩
            case measure => simp [intOf]; omega
      · obtain rfl : i = N := by omega
        have HBW := hid (HBX.out _ (HB1.out.trans (HBL.out.mono HB1.out.size))).2
        have HGB := hid (HG.out.base (HBX.out _ HB1.out).2.size)
        go_wp2
        go_ret2
        exact ⟨_, rfl, fun _ => HGB.out, HBW.out⟩
end Go.Proofs.YtpfeflhcbcgbfaaGreatDoor
