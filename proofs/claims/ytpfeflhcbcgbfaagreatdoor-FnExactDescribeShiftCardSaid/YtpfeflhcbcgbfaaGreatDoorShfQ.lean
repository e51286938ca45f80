/- Shifts: the pairs of the language, the reference's way. Conditions: a shift, its words in memory. -/
import Derived.Test.YtpfeflhcbcgbfaaGreatDoorShfG
namespace Go.Proofs.YtpfeflhcbcgbfaaGreatDoor
open Go.RowKit
/-- What one round of striking leaves. -/
def nxL (ss : List ByteArray) (k : Nat) (L : List Nat) : List Nat := L.filter fun i => L.any (eP ss k i) && L.any fun r => eP ss k r i
def ShL (ss : List ByteArray) (k : Nat) (L : List Nat) : Prop := ∃ K : Nat → Bool, L = (List.range (k ^ 2)).filter K ∧ (∀ i, i < k ^ 2 → livP ss k i → K i = true) ∧ ∀ i, i < k ^ 2 → K i = true → okP ss k i = true
theorem shL_0 (ss : List ByteArray) (k : Nat) : ShL ss k (pairL ss k) := ⟨okP ss k, rfl, fun _ _ h => (livP_ok h).2, fun _ _ h => h⟩
theorem shL_lt {ss : List ByteArray} {k : Nat} {L : List Nat} (h : ShL ss k L) : ∀ q ∈ L, q < k ^ 2 := by
  obtain ⟨K, rfl, _, _⟩ := h
  intro q hq
  exact List.mem_range.1 (List.mem_filter.1 hq).1
theorem goes_any (ss : List ByteArray) (k : Nat) (K : Nat → Bool) (i : Nat) : (((List.range (k ^ 2)).filter K).any (eP ss k i) && ((List.range (k ^ 2)).filter K).any fun r => eP ss k r i) = goesP ss k K i := by
  unfold goesP
  rw [List.any_filter, List.any_filter]
theorem shL_next {ss : List ByteArray} {k : Nat} {L : List Nat} (h : ShL ss k L) : ShL ss k (nxL ss k L) := by
  obtain ⟨K, rfl, h1, h2⟩ := h
  refine ⟨fun i => K i && goesP ss k K i, ?_, fun i hi hl => by rw [Bool.and_eq_true]; exact ⟨h1 i hi hl, goes_liv h1 hl⟩, fun i hi hk => h2 i hi (by rw [Bool.and_eq_true] at hk; exact hk.1)⟩
  unfold nxL
  rw [List.filter_filter]
  refine List.filter_congr fun i _ => ?_
  rw [goes_any, Bool.and_comm]
theorem shL_end {ss : List ByteArray} {k : Nat} {L : List Nat} (h : ShL ss k L) (he : (nxL ss k L).length = L.length) : L = stL ss k := by
  obtain ⟨K, rfl, h1, h2⟩ := h
  have h3 := List.length_filter_eq_length_iff.1 he
  refine List.filter_congr fun i hi => ?_
  have hik := List.mem_range.1 hi
  rw [Bool.eq_iff_iff, livB_iff]
  refine ⟨fun hK => goes_end h2 (fun j hj hkj => ?_) hik hK, h1 i hik⟩
  have := h3 j (List.mem_filter.2 ⟨List.mem_range.2 hj, hkj⟩)
  rwa [goes_any] at this
theorem nxL_le (ss : List ByteArray) (k : Nat) (L : List Nat) : (nxL ss k L).length ≤ L.length := List.length_filter_le _ _
theorem nx_yes {L : List Nat} {f : Nat → Bool} {t q : Nat} (hq : L[t]? = some q) (h : f q = true) : (L.take (t + 1)).filter f = (L.take t).filter f ++ [q] := by
  rw [List.take_add_one, hq, List.filter_append]
  simp [h]
theorem nx_no {L : List Nat} {f : Nat → Bool} {t q : Nat} (hq : L[t]? = some q) (h : f q = false) : (L.take (t + 1)).filter f = (L.take t).filter f := by
  rw [List.take_add_one, hq, List.filter_append]
  simp [h]
def PrPost (ss : List ByteArray) (k : Nat) (w : World) (e : Ending) (w' : World) : Prop := ∃ v, e = .returned v ∧ w'.ownsRow w.heap.size 9 1 v (stL ss k).length (strVals ((stL ss k).map (wdB k 2))) ∧ Below w.heap.size w w'
set_option maxHeartbeats 8000000 in
set_option maxRecDepth 100000 in
theorem l3Pairs_c (k : Nat) (a : Option Addr) (n c : Nat) (ss : List ByteArray) (w : World) (hr : RowAt w a n (strVals ss)) (hs : ∀ t ∈ ss, t.size ≤ 1048576) (hk : 1 ≤ k ∧ k ≤ 3) (hn : n ≤ 1048576) :
    Calls Tryz.prog 110 #[.agg #[.int .i64 k, .slice a n c]] w (PrPost ss k w) := by
  obtain ⟨W2, hW2⟩ : ∃ W2, W2 = w.alloc (.cells #[.int .i64 k, .slice a n c] 27) := ⟨_, rfl⟩
  have hB : Below w.heap.size w W2 := by rw [hW2]; exact (Below.refl _ _).alloc (Nat.le_refl _) _
  have hsz : W2.heap.size = w.heap.size + 1 := by rw [hW2]; simp
  have hbx : BoxC W2 w.heap.size #[.int .i64 k, .slice a n c] := by rw [hW2]; exact BoxC.new _ _ _
  have HBX := hid (fun (V : World) (hV : Below W2.heap.size W2 V) => show (V.cell? ⟨w.heap.size, 0, none⟩ = some (.int .i64 k) ∧ V.cell? ⟨w.heap.size, 1, none⟩ = some (.slice a n c)) ∧ Below w.heap.size w V from ⟨⟨(hbx.below hV).cell 0, (hbx.below hV).cell 1⟩, hB.trans (hV.mono (by omega))⟩)
  have HWD := hid (show Calls Tryz.prog 146 #[.agg #[.int .i64 k, .slice a n c], .int .i64 (2 : Nat)] W2 (KeptPost (okP ss k) k 2 W2) from l3Words_c k 2 a n c ss W2 (hr.below hB (Nat.le_refl _)) hs hk (by omega) hn)
  unfold KeptPost at HWD
  rw [stWords] at HWD
  have HGT := hid (fun (V : World) (L : List Nat) (M i : Nat) (gw : Option Addr) (cw : Nat) (hV : Below W2.heap.size W2 V) (hi : i < k ^ 2) (hL : ∀ q ∈ L, q < k ^ 2) (hM : M ≤ 1048576) (hw : RowAt V gw M (strVals (L.map (wdB k 2)))) => l3GoesT_c k i M a n c ss gw cw L V (hr.below (HBX.out V hV).2 (Nat.le_refl _)) hs hk hn hi hL hM hw)
  have HGF := hid (fun (V : World) (L : List Nat) (M i : Nat) (gw : Option Addr) (cw : Nat) (hV : Below W2.heap.size W2 V) (hi : i < k ^ 2) (hL : ∀ q ∈ L, q < k ^ 2) (hM : M ≤ 1048576) (hw : RowAt V gw M (strVals (L.map (wdB k 2)))) => l3GoesF_c k i M a n c ss gw cw L V (hr.below (HBX.out V hV).2 (Nat.le_refl _)) hs hk hn hi hL hM hw)
  have hM9 := pairL_len (ss := ss) hk.2
  have HS0 := hid (shL_0 ss k)
  have hpl : ((List.range (k ^ 2)).filter (okP ss k)).length = (pairL ss k).length := rfl
  rw [hpl] at HWD
  obtain ⟨PL, hPL⟩ : ∃ PL, PL = pairL ss k := ⟨_, rfl⟩
  rw [← hPL] at HWD hM9 HS0
  have hszW := hB.size
  have HBR := hid (Below.refl W2.heap.size W2)
  clear hr hs hB hbx hpl hPL
  go_enter Tryz.func110, Tryz.ntmps110
  obtain ⟨⟨p0, p1⟩, _⟩ := HBX.out W2 HBR.out
  go_wp2_with (rw [← hW2])
  first | rw [← hW2] | skip
  clear hW2
  refine (HWD.out).mono ?_
  rintro e w1 ⟨v, rfl, hown, hb1⟩
  obtain ⟨gw, cw, rfl⟩ := slice_form hown
  have HO1 := hid hown
  have HB1 := hid hb1
  clear hown hb1 p0 p1 HWD
  go_wp2
  go_loopg [3] 9 (fun kk out wr => ∃ (L : List Nat) (gL : Option Addr) (cL : Nat), out = .slice gL L.length cL ∧ Hid (wr.ownsRow W2.heap.size 9 1 (.slice gL L.length cL) L.length (strVals (L.map (wdB k 2)))) ∧ Hid (ShL ss k L) ∧ Hid (Below W2.heap.size W2 wr) ∧ L.length ≤ kk ∧ L.length ≤ 9)
  case atStart => exact ⟨PL, gw, cw, rfl, HO1, HS0, HB1, hM9, hM9⟩
  case round =>
    clear HO1 HS0 HB1
    obtain ⟨L, gL, cL, rfl, HOL, HSL, HBL, hLk, hL9⟩ := hrel
    obtain ⟨M, hM⟩ : ∃ M, M = L.length := ⟨_, rfl⟩
    have HML := hid hM.symm
    have hLlt := shL_lt HSL.out
    have HLK := hid (fun (t q : Nat) (h : L[t]? = some q) => hLlt q (List.mem_of_getElem? h))
    have HLL := hid hLlt
    have HNX := hid (shL_next HSL.out)
    have HEND := hid (fun h => shL_end HSL.out h)
    have hle := nxL_le ss k L
    obtain ⟨f, hf⟩ : ∃ f : Nat → Bool, f = (fun i => L.any (eP ss k i) && L.any fun r => eP ss k r i) := ⟨_, rfl⟩
    have HF := hid hf
    have hnx : nxL ss k L = (L.take M).filter f := by rw [List.take_of_length_le (by omega), hf]; rfl
    rw [hnx] at HNX HEND hle
    rw [← hM] at HOL HEND hle hLk hL9
    rw [← hM]
    have hszR := HBL.out.size
    have hgb : ∃ gb, (0 < M → gL = some ⟨gb, 0, none⟩ ∧ gb < wr.heap.size) ∧ gb ≠ wr.heap.size := by
      by_cases ht0 : 0 < M
      · obtain ⟨g5, c5, he5, hg5, hlt5⟩ := HOL.out.form ht0
        simp only [Value.slice.injEq, true_and] at he5
        exact ⟨g5, fun _ => ⟨he5.1, hlt5⟩, by omega⟩
      · exact ⟨wr.heap.size + 1, fun h => absurd h ht0, by omega⟩
    obtain ⟨gb, hgb, hgne⟩ := hgb
    have HGB := hid hgb
    have HO0 := hid (owns_lit3 (w := wr) (base := W2.heap.size) (e := 9) #[] [] rfl hszR (by unfold maxLen; simp))
    have hba := (Below.refl wr.heap.size wr).alloc (Nat.le_refl _) (.cells #[] 9)
    have HW0 := hid (owns_below HOL.out hba)
    have HE0 := hid (HBL.out.trans (hba.mono hszR))
    have HN0 := hid (show (Value.slice (some ⟨wr.heap.size, 0, none⟩) 0 0).ownBlock ≠ some gb by simp [Value.ownBlock]; omega)
    clear hM hLlt HSL hf hnx hgb hgne hba HOL HBL
    go_wp2
    go_loopw [4, 5] (fun v i wr => ∃ t : Nat, t ≤ M ∧ i = .int .i64 t ∧ Hid (wr.ownsRow W2.heap.size 9 1 v ((L.take t).filter f).length (strVals (((L.take t).filter f).map (wdB k 2)))) ∧ Hid (v.ownBlock ≠ some gb) ∧ Hid (wr.ownsRow W2.heap.size 9 1 (.slice gL M cL) M (strVals (L.map (wdB k 2)))) ∧ Hid (Below W2.heap.size W2 wr)) (fun _ i _ => M - (intOf i).toNat)
    case atStart => exact ⟨0, by omega, rfl, HO0, HN0, HW0, HE0⟩
    case round =>
      clear HO0 HN0 HW0 HE0
      obtain ⟨t, ht, rfl, HO, HNE, HW, HBQ⟩ := hrel
      have hszQ := HBQ.out.size
      by_cases hlt : t < M
      · have hti : (t : Int) < (M : Int) := by omega
        obtain ⟨q, hq⟩ := get_some (l := L) (n := t) (by rw [HML.out]; exact hlt)
        obtain ⟨hak, hgl⟩ := HGB.out (by omega)
        subst hak
        have hqk := HLK.out t q hq
        obtain ⟨a6, c6, he6, hr6⟩ := owns_rowAt HW.out (by omega)
        simp only [Value.slice.injEq, true_and] at he6
        obtain ⟨rfl, rfl⟩ := he6
        have HR6 := hid hr6
        obtain ⟨b5, o5, he5, hb5, hcl5⟩ := hr6.at_ (by omega)
        simp only [Option.some.injEq, Addr.mk.injEq, and_true] at he5
        obtain ⟨rfl, rfl⟩ := he5
        have hcell0 := hcl5 t (.string (wdB k 2 q)) (by simp [strVals, hq])
        rw [Nat.zero_add] at hcell0
        have hbZ : Below wr.heap.size wr wr.drew := (Below.refl _ _).drew
        have HKK := hid (fun (V : World) (hV : Below wr.heap.size wr V) => show V.cell? ⟨w.heap.size, 0, none⟩ = some (.int .i64 k) ∧ V.cell? ⟨w.heap.size, 1, none⟩ = some (.slice a n c) ∧ V.cell? ⟨gb, t, none⟩ = some (.string (wdB k 2 q)) ∧ Below wr.heap.size wr V from by
          obtain ⟨⟨z0, z1⟩, _⟩ := HBX.out V (HBQ.out.trans (hV.mono hszQ))
          exact ⟨z0, z1, (hV.cell (p := ⟨gb, t, none⟩) hb5).trans hcell0, hV⟩)
        obtain ⟨E1, hE1⟩ : ∃ E1, E1 = L.any (eP ss k q) := ⟨_, rfl⟩
        obtain ⟨E2, hE2⟩ : ∃ E2, E2 = L.any fun r => eP ss k r q := ⟨_, rfl⟩
        have HFQ := hid (show f q = (E1 && E2) from by rw [HF.out, hE1, hE2])
        have HCT := hid (fun (V : World) (hV : Below wr.heap.size wr V) => show Calls Tryz.prog 147 #[.agg #[.int .i64 k, .slice a n c], .slice (some ⟨gb, 0, none⟩) M cL, .string (wdB k 2 q), .bool true] V fun e w' => e = .returned (.bool E1) ∧ Below V.heap.size V w' from by
          have := HGT.out V L M q (some ⟨gb, 0, none⟩) cL (HBQ.out.trans (hV.mono hszQ)) hqk HLL.out (by omega) (HR6.out.below hV (Nat.le_refl _))
          rwa [← hE1] at this)
        have HCF := hid (fun (V : World) (hV : Below wr.heap.size wr V) => show Calls Tryz.prog 147 #[.agg #[.int .i64 k, .slice a n c], .slice (some ⟨gb, 0, none⟩) M cL, .string (wdB k 2 q), .bool false] V fun e w' => e = .returned (.bool E2) ∧ Below V.heap.size V w' from by
          have := HGF.out V L M q (some ⟨gb, 0, none⟩) cL (HBQ.out.trans (hV.mono hszQ)) hqk HLL.out (by omega) (HR6.out.below hV (Nat.le_refl _))
          rwa [← hE2] at this)
        have HYES := hid (fun h : f q = true => nx_yes (f := f) hq h)
        have HNO := hid (fun h : f q = false => nx_no (f := f) hq h)
        clear hr6 hcl5 hcell0 hE1 hE2 hq
        cases E1 with
        | false =>
          have HN2 := hid (HNO.out (HFQ.out.trans rfl))
          clear HYES HNO HFQ HCF
          go_wp2
          refine wp_region_held_drew (S := (fun V => V.cell? ⟨w.heap.size, 0, none⟩ = some (.int .i64 k) ∧ V.cell? ⟨w.heap.size, 1, none⟩ = some (.slice a n c) ∧ V.cell? ⟨gb, t, none⟩ = some (.string (wdB k 2 q)) ∧ Below wr.heap.size wr V)) (by kernel_rfl) (HKK.out _ hbZ) (fun hHeld => ?_)
          simp only [List.size_toArray, List.length_cons, List.length_nil, Nat.zero_add, Nat.reduceAdd]
          refine wpAnyH_take (i := 0) (v := .agg #[.int .i64 k, .slice a n c]) rfl (by kernel_rfl) (by kernel_rfl) (by kernel_rfl) (fun _ _ _ h => h) (Or.inl ⟨by rfl, by intro w' hSw; (try dsimp only at hSw); go_simp⟩) (by assumption) ?_
          try simp only [Act.put, Array.getInternal_eq_getElem, List.getElem_toArray, List.getElem_cons_succ, List.getElem_cons_zero, List.setIfInBounds_toArray, List.set_cons_zero, List.set_cons_succ]
          refine wpAnyH_take (i := 1) (v := .slice (some ⟨gb, 0, none⟩) M cL) rfl (by kernel_rfl) (by kernel_rfl) (by kernel_rfl) (fun _ _ _ h => h) (Or.inl ⟨by rfl, by intro w' hSw; (try dsimp only at hSw); go_simp⟩) (by assumption) ?_
          try simp only [Act.put, Array.getInternal_eq_getElem, List.getElem_toArray, List.getElem_cons_succ, List.getElem_cons_zero, List.setIfInBounds_toArray, List.set_cons_zero, List.set_cons_succ]
          refine wpAnyH_take (i := 2) (v := .slice (some ⟨gb, 0, none⟩) M cL) rfl (by kernel_rfl) (by kernel_rfl) (by kernel_rfl) (fun _ _ _ h => h) (Or.inl ⟨by rfl, by intro w' hSw; (try dsimp only at hSw); go_simp⟩) (by assumption) ?_
          try simp only [Act.put, Array.getInternal_eq_getElem, List.getElem_toArray, List.getElem_cons_succ, List.getElem_cons_zero, List.setIfInBounds_toArray, List.set_cons_zero, List.set_cons_succ]
          refine wpAnyH_take (i := 3) (v := .int .i64 t) rfl (by kernel_rfl) (by kernel_rfl) (by kernel_rfl) (fun _ _ _ h => h) (Or.inl ⟨by rfl, by intro w' hSw; (try dsimp only at hSw); go_simp⟩) (by assumption) ?_
          try simp only [Act.put, Array.getInternal_eq_getElem, List.getElem_toArray, List.getElem_cons_succ, List.getElem_cons_zero, List.setIfInBounds_toArray, List.set_cons_zero, List.set_cons_succ]
          refine wpAnyH_take (i := 4) (v := .pointer (some ⟨gb, t, none⟩)) rfl (by kernel_rfl) (by kernel_rfl) (by kernel_rfl) (fun _ _ _ h => h) (Or.inl ⟨by rfl, by intro w' hSw; (try dsimp only at hSw); go_simp⟩) (by assumption) ?_
          try simp only [Act.put, Array.getInternal_eq_getElem, List.getElem_toArray, List.getElem_cons_succ, List.getElem_cons_zero, List.setIfInBounds_toArray, List.set_cons_zero, List.set_cons_succ]
          refine wpAnyH_take (i := 5) (v := .string (wdB k 2 q)) rfl (by kernel_rfl) (by kernel_rfl) (by kernel_rfl) (fun _ _ _ h => h) (Or.inl ⟨by rfl, by intro w' hSw; (try dsimp only at hSw); go_simp⟩) (by assumption) ?_
          try simp only [Act.put, Array.getInternal_eq_getElem, List.getElem_toArray, List.getElem_cons_succ, List.getElem_cons_zero, List.setIfInBounds_toArray, List.set_cons_zero, List.set_cons_succ]
          refine wpAnyH_ready (rs := [6]) (by kernel_rfl) (by simp) ?_
          refine AllReadyH.cons rfl (fun K hK => ?_) AllReadyH.nil
          try simp only [Array.getInternal_eq_getElem, List.getElem_toArray, List.getElem_cons_succ, List.getElem_cons_zero]
          go_simp
          refine (HCT.out _ hbZ).mono ?_
          rintro e w3 ⟨rfl, hb3⟩
          have hbZ := hbZ.trans (hb3.mono hbZ.size)
          dsimp only
          refine hK.out _ _ (HKK.out _ hbZ) (fun hHeld2 => ?_)
          try simp only [Act.put, Array.getInternal_eq_getElem, List.getElem_toArray, List.getElem_cons_succ, List.getElem_cons_zero, List.setIfInBounds_toArray, List.set_cons_zero, List.set_cons_succ]
          refine wpAnyH_take (i := 7) (v := .bool false) rfl (by kernel_rfl) (by kernel_rfl) (by kernel_rfl) (fun _ _ _ h => h) (Or.inl ⟨by rfl, by intro w' hSw; (try dsimp only at hSw); go_simp⟩) (by assumption) ?_
          try simp only [Act.put, Array.getInternal_eq_getElem, List.getElem_toArray, List.getElem_cons_succ, List.getElem_cons_zero, List.setIfInBounds_toArray, List.set_cons_zero, List.set_cons_succ]
          refine wpAnyH_take (i := 8) (v := undef) rfl (by kernel_rfl) (by kernel_rfl) (by kernel_rfl) (fun _ _ _ h => h) (Or.inr ⟨by rfl, rfl⟩) (by assumption) ?_
          try simp only [Act.put, Array.getInternal_eq_getElem, List.getElem_toArray, List.getElem_cons_succ, List.getElem_cons_zero, List.setIfInBounds_toArray, List.set_cons_zero, List.set_cons_succ]
          refine wpAnyH_take (i := 9) (v := undef) rfl (by kernel_rfl) (by kernel_rfl) (by kernel_rfl) (fun _ _ _ h => h) (Or.inr ⟨by rfl, rfl⟩) (by assumption) ?_
          try simp only [Act.put, Array.getInternal_eq_getElem, List.getElem_toArray, List.getElem_cons_succ, List.getElem_cons_zero, List.setIfInBounds_toArray, List.set_cons_zero, List.set_cons_succ]
          refine wpAnyH_take (i := 10) (v := undef) rfl (by kernel_rfl) (by kernel_rfl) (by kernel_rfl) (fun _ _ _ h => h) (Or.inr ⟨by rfl, rfl⟩) (by assumption) ?_
          try simp only [Act.put, Array.getInternal_eq_getElem, List.getElem_toArray, List.getElem_cons_succ, List.getElem_cons_zero, List.setIfInBounds_toArray, List.set_cons_zero, List.set_cons_succ]
          refine wpAnyH_take (i := 11) (v := undef) rfl (by kernel_rfl) (by kernel_rfl) (by kernel_rfl) (fun _ _ _ h => h) (Or.inr ⟨by rfl, rfl⟩) (by assumption) ?_
          try simp only [Act.put, Array.getInternal_eq_getElem, List.getElem_toArray, List.getElem_cons_succ, List.getElem_cons_zero, List.setIfInBounds_toArray, List.set_cons_zero, List.set_cons_succ]
          refine wpAnyH_take (i := 12) (v := undef) rfl (by kernel_rfl) (by kernel_rfl) (by kernel_rfl) (fun _ _ _ h => h) (Or.inr ⟨by rfl, rfl⟩) (by assumption) ?_
          try simp only [Act.put, Array.getInternal_eq_getElem, List.getElem_toArray, List.getElem_cons_succ, List.getElem_cons_zero, List.setIfInBounds_toArray, List.set_cons_zero, List.set_cons_succ]
          refine wpAnyH_take (i := 13) (v := undef) rfl (by kernel_rfl) (by kernel_rfl) (by kernel_rfl) (fun _ _ _ h => h) (Or.inr ⟨by rfl, rfl⟩) (by assumption) ?_
          try simp only [Act.put, Array.getInternal_eq_getElem, List.getElem_toArray, List.getElem_cons_succ, List.getElem_cons_zero, List.setIfInBounds_toArray, List.set_cons_zero, List.set_cons_succ]
          refine wpAnyH_take (i := 14) (v := undef) rfl (by kernel_rfl) (by kernel_rfl) (by kernel_rfl) (fun _ _ _ h => h) (Or.inr ⟨by rfl, rfl⟩) (by assumption) ?_
          try simp only [Act.put, Array.getInternal_eq_getElem, List.getElem_toArray, List.getElem_cons_succ, List.getElem_cons_zero, List.setIfInBounds_toArray, List.set_cons_zero, List.set_cons_succ]
          refine wpAnyH_take (i := 15) (v := .bool false) rfl (by kernel_rfl) (by kernel_rfl) (by kernel_rfl) (fun _ _ _ h => h) (Or.inl ⟨by rfl, by intro w' hSw; (try dsimp only at hSw); go_simp⟩) (by assumption) ?_
          try simp only [Act.put, Array.getInternal_eq_getElem, List.getElem_toArray, List.getElem_cons_succ, List.getElem_cons_zero, List.setIfInBounds_toArray, List.set_cons_zero, List.set_cons_succ]
          refine wpAnyH_done (by kernel_rfl) ?_ _
          have HBz := hid (HBQ.out.trans (hbZ.mono hszQ))
          have HOz := hid (owns_below HO.out hbZ)
          have HWz := hid (owns_below HW.out hbZ)
          clear hbZ HCT HKK hHeld hHeld2
          go_wp2
          go_roundw
          case rel => exact ⟨t + 1, by omega, by go_num, hid (by rw [HN2.out]; exact HOz.out), HNE, HWz, HBz⟩
          case measure => simp [intOf]; omega
        | true =>
          go_wp2
          go_region_held3 (fun V => V.cell? ⟨w.heap.size, 0, none⟩ = some (.int .i64 k) ∧ V.cell? ⟨w.heap.size, 1, none⟩ = some (.slice a n c) ∧ V.cell? ⟨gb, t, none⟩ = some (.string (wdB k 2 q)) ∧ Below wr.heap.size wr V)
            (first | with_reducible exact HKK.out _ hbZ)
            (first | (go_at_call 147; (first | (with_reducible refine (HCT.out _ hbZ).mono ?_) | (with_reducible refine (HCF.out _ hbZ).mono ?_)); rintro e w3 ⟨rfl, hb3⟩; have hbZ := hbZ.trans (hb3.mono hbZ.size)))
          have HZ := hid hbZ
          have HBz := hid (HBQ.out.trans (hbZ.mono hszQ))
          have HOz := hid (owns_below HO.out hbZ)
          have HWz := hid (owns_below HW.out hbZ)
          have hszz := HBz.out.size
          have hb5z : gb < w3.heap.size := by have := hbZ.size; omega
          have hcz := (HKK.out _ hbZ).2.2.1
          have hd9 : ((L.take t).filter f).length ≤ 9 := by
            have h1 := List.length_filter_le f (L.take t)
            rw [List.length_take] at h1
            omega
          clear hbZ HCT HCF HKK
          cases E2 with
          | false =>
            have HN2 := hid (HNO.out (HFQ.out.trans rfl))
            clear HYES HNO HFQ
            go_wp2
            go_roundw
            case rel => exact ⟨t + 1, by omega, by go_num, hid (by rw [HN2.out]; exact HOz.out), HNE, HWz, HBz⟩
            case measure => simp [intOf]; omega
          | true =>
            have HY2 := hid (HYES.out (HFQ.out.trans rfl))
            clear HYES HNO HFQ
            have HO3 := HOz.out
            obtain ⟨d, hd⟩ : ∃ d, d = ((L.take t).filter f).length := ⟨_, rfl⟩
            rw [← hd] at HO3 hd9
            go_wp2_with (first | (at_builtin; go_must (refine wpList_app3 rfl _ _ 22 rfl W2.heap.size 9 (.string ByteArray.empty) 16 Tryz.underlying22 infoStr3 rfl _ d _ _ HO3 rfl rfl rfl (by omega) (by unfold maxLen; omega) hszz gb HNE.out hb5z ?_); intro v' w8 hown8 hgr8 hne8))
            have HO8 := hid hown8
            have HK8 := hid (HWz.out.kept hgr8 (Or.inr fun e => HNE.out (by rw [← e]; rfl)))
            have HB8 := hid (HBz.out.grown hgr8 hszz (fun k hk => (HO3.lt k hk).1))
            have HE8 := hid hne8
            clear hown8 hgr8 hne8 HO3
            go_roundw
            case rel => exact ⟨t + 1, by omega, by go_num, hid (by rw [HY2.out, List.length_append, List.map_append, ← hd]; simpa [strVals] using HO8.out), HE8, HK8, HB8⟩
            case measure => simp [intOf]; omega
      · obtain rfl : t = M := by omega
        obtain ⟨gN, cN, hnv⟩ := slice_form HO.out
        subst hnv
        obtain ⟨d, hd⟩ : ∃ d, d = ((L.take t).filter f).length := ⟨_, rfl⟩
        have HD := hid hd
        have HO2 := HO.out
        rw [← hd] at HO2 HEND hle
        rw [← hd]
        have HO3 := hid HO2
        clear HO HO2 hd
        by_cases hdt : d = t
        · have HST := hid (HEND.out hdt)
          subst hdt
          go_wp2
          go_ret
          have hfin := owns_base (base' := w.heap.size) HW.out hszW
          have hl2 := HML.out
          rw [HST.out] at hl2 hfin
          exact ⟨_, rfl, by rw [hl2]; exact hfin, (HBX.out _ HBQ.out).2⟩
        · have hdi : ((d : Int) == (t : Int)) = false := by simp; omega
          go_wp2
          go_roundg d
          case measure => omega
          case rel => exact ⟨(L.take t).filter f, gN, cN, by rw [← HD.out], by rw [← HD.out]; exact HO3, HNX, HBQ, by rw [← HD.out]; exact Nat.le_refl _, by rw [← HD.out]; omega⟩
end Go.Proofs.YtpfeflhcbcgbfaaGreatDoor
