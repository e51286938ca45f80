/- Rings that come of no ring: both functions. No condition but the sizes. -/
import Derived.Sort.OwnSorted
import Derived.Test.YtccknookhkahbaaGreatIns
import Derived.Test.YtccknookhkahbaaGreatShelf
import Derived.Test.YtccknookhkahbaaGreatHasInt
import Derived.Test.YtccknookhkahbaaGreatAppN
import Derived.Test.YtccknookhkahbaaGreatFixedR
namespace Go.Proofs.YtccknookhkahbaaGreat
open Go.RowKit Go.Sort Go.Lib

theorem sortS_c (B g cap n : Nat) (ss : List (List UInt8)) (w : World) (hn : ss.length = n) (hown : w.ownsRow B 9 1 (.slice (some ⟨g, 0, none⟩) n cap) n (ss.map encStr)) (hlen : n ≤ 1000000) :
    Calls Tryz.prog 71 #[.slice (some ⟨g, 0, none⟩) n cap] w fun e w' => e = .returned (.tuple #[]) ∧ w'.ownsRow B 9 1 (.slice (some ⟨g, 0, none⟩) n cap) n ((ss.mergeSort fun x y => decide (x ≤ y)).map encStr) ∧ w.grownBy w' (some g) := by
  subst hn
  obtain ⟨cur, hb, hg, h1, h2, h3, h4⟩ := owns_block hown
  refine (Tryz.slices_Sort_string g 0 cap ss w (holds_of_block hg h4) (Array.getElem?_eq_some_iff.1 hg).1 (by omega)).mono ?_
  rintro e w' ⟨rfl, q, os, rfl⟩
  exact ⟨rfl, ownsRow_sorted (by simp) hb hg h1 h2 h3, grownBy_sorted _⟩
theorem compactS_c (B g cap n : Nat) (ss : List (List UInt8)) (w : World) (hn : ss.length = n) (hown : w.ownsRow B 9 1 (.slice (some ⟨g, 0, none⟩) n cap) n (ss.map encStr)) (hlen : n ≤ 1000000) :
    Calls Tryz.prog 72 #[.slice (some ⟨g, 0, none⟩) n cap] w fun e w' => e = .returned (.slice (some ⟨g, 0, none⟩) (compact ss).length cap) ∧ w'.ownsRow B 9 1 (.slice (some ⟨g, 0, none⟩) (compact ss).length cap) (compact ss).length ((compact ss).map encStr) ∧ w.grownBy w' (some g) := by
  subst hn
  obtain ⟨cur, hb, hg, h1, h2, h3, h4⟩ := owns_block hown
  have hle := compact_length_le ss
  refine (Tryz.slices_Compact_string g 0 cap ss w (holds_of_block hg h4) (by omega) h1).mono ?_
  rintro e w' ⟨rfl, q, rfl⟩
  have ho := ownsRow_sorted (n := q) (os := #[]) (ss := ss) (ts := compact ss ++ List.replicate (ss.length - (compact ss).length) []) (by simp; omega) hb hg h1 h2 h3
  have hgr := grownBy_sorted (w := w) (g := g) (n := q) (os := #[]) (compact ss ++ List.replicate (ss.length - (compact ss).length) []).toArray
  rw [grow_empty] at ho hgr
  rw [List.map_append] at ho
  exact ⟨rfl, owns_cut ho (by simp), hgr⟩
def DiffPost (B g cap : Nat) (ss : List (List UInt8)) (w : World) (e : Ending) (w' : World) : Prop :=
  e = .returned (.slice (some ⟨g, 0, none⟩) (distinct ss).length cap) ∧ w'.ownsRow B 9 1 (.slice (some ⟨g, 0, none⟩) (distinct ss).length cap) (distinct ss).length ((distinct ss).map encStr) ∧ Below B w w'
set_option maxHeartbeats 1000000 in
theorem different_c (B g cap n : Nat) (ss : List (List UInt8)) (w : World) (hn : ss.length = n) (hown : w.ownsRow B 9 1 (.slice (some ⟨g, 0, none⟩) n cap) n (ss.map encStr)) (hB : B ≤ w.heap.size) (hlen : n ≤ 1000000) :
    Calls Tryz.prog 41 #[.slice (some ⟨g, 0, none⟩) n cap] w (DiffPost B g cap ss w) := by
  have HS := hid (sortS_c B g cap n ss w hn hown hlen)
  obtain ⟨ts, hts⟩ : ∃ ts, ts = ss.mergeSort fun x y => decide (x ≤ y) := ⟨_, rfl⟩
  have htl : ts.length = n := by rw [hts]; simpa using hn
  rw [← hts] at HS
  have hgb : B ≤ g := (owns_block hown).choose_spec.1
  obtain ⟨us, hus⟩ : ∃ us, us = compact ts := ⟨_, rfl⟩
  have HD := hid (show distinct ss = us by rw [hus, hts]; rfl)
  unfold DiffPost
  rw [HD.out]
  have HC := hid (fun w h => compactS_c B g cap n ts w htl h hlen)
  rw [← hus] at HC
  obtain ⟨c, hc⟩ : ∃ c, c = us.length := ⟨_, rfl⟩
  rw [← hc] at HC
  rw [← hc]
  clear hown hts htl hus hc hn
  go_enter Tryz.func41, Tryz.ntmps41
  go_wp2_with fail
  refine HS.out.mono ?_
  rintro e w1 ⟨rfl, ho1, hg1⟩
  go_wp2_with fail
  refine (HC.out _ ho1).mono ?_
  rintro e w2 ⟨rfl, ho2, hg2⟩
  have hb1 : Below B w w1 := (Below.refl _ _).grown hg1 hB (fun k hk => by cases hk; exact hgb)
  have hb2 := hb1.grown hg2 (Nat.le_trans hB hb1.size) (fun k hk => by cases hk; exact hgb)
  go_wp2
  go_ret
  exact ⟨rfl, ho2, hb2⟩
end Go.Proofs.YtccknookhkahbaaGreat
namespace Go.Proofs.YtccknookhkahbaaGreat
open Go.RowKit

def ims (o : ByteArray) (n m j : Nat) : List (List UInt8) := (List.range j).map (rnB o n m)
theorem ims_succ (o : ByteArray) (n m j : Nat) : (ims o n m (j + 1)).map Go.Proofs.encStr = (ims o n m j).map Go.Proofs.encStr ++ [.string (txt (rnB o n m j))] := by simp [ims, List.range_succ]; rfl
theorem ims_len (o : ByteArray) (n m j : Nat) : (ims o n m j).length = j := by simp [ims]
/-- Whether one of the first j rings goes to the ring number i. -/
def hits (o : ByteArray) (n m j i : Nat) : Bool := (List.range j).any fun q => decide (nextB o n m q = i)
theorem hits_succ (o : ByteArray) (n m j i : Nat) : hits o n m (j + 1) i = (hits o n m j i || decide (nextB o n m j = i)) := by simp [hits, List.range_succ]
theorem hits_iff {o : ByteArray} {n m j i : Nat} : hits o n m j i = true ↔ ∃ q, q < j ∧ nextB o n m q = i := by simp [hits]
def boolVals (l : List Bool) : List Value := l.map Value.bool
def hitL (o : ByteArray) (n m M j : Nat) : List Bool := (List.range M).map (hits o n m j)
theorem hitL_get {o : ByteArray} {n m M j i : Nat} (h : i < M) : (boolVals (hitL o n m M j))[i]? = some (.bool (hits o n m j i)) := by simp [boolVals, hitL, h]
theorem hitL_zero (o : ByteArray) (n m M : Nat) : boolVals (hitL o n m M 0) = (madeCells (Value.bool false).cells (M * 1)).toList := by
  rw [Nat.mul_one]
  show _ = (madeCells #[Value.bool false] M).toList
  rw [toList_madeCells_one]
  refine List.ext_getElem? fun i => ?_
  by_cases hi : i < M
  · rw [hitL_get hi, List.getElem?_replicate, if_pos hi]; rfl
  · rw [List.getElem?_eq_none (by simp [boolVals, hitL]; omega), List.getElem?_eq_none (by simp; omega)]
theorem hitL_set (o : ByteArray) (n m M j : Nat) : (boolVals (hitL o n m M j)).set (nextB o n m j) (.bool true) = boolVals (hitL o n m M (j + 1)) := by
  refine List.ext_getElem? fun i => ?_
  by_cases hi : i < M
  · rw [hitL_get hi, hits_succ]
    by_cases hx : nextB o n m j = i
    · subst hx
      rw [List.getElem?_set_self (by simp [boolVals, hitL]; exact hi)]
      simp
    · rw [List.getElem?_set_ne hx, hitL_get hi]
      simp [hx]
  · rw [List.getElem?_eq_none (by simp [boolVals, hitL]; omega), List.getElem?_eq_none (by simp [boolVals, hitL]; omega)]
theorem filt_compl (p : Nat → Bool) : ∀ M, ((List.range M).filter p).length + ((List.range M).filter fun i => !p i).length = M
  | 0 => rfl
  | M + 1 => by
    have := filt_compl p M
    cases h : p M
    · rw [cn_no h, cn_yes (p := fun i => !p i) (by simp [h])]; omega
    · rw [cn_yes h, cn_no (p := fun i => !p i) (by simp [h])]; omega
def orph (o : ByteArray) (n m : Nat) : Nat := ((List.range (2 ^ m)).filter fun i => !hits o n m (2 ^ m) i).length
theorem orph_law {o : ByteArray} {n m : Nat} (h : RFit o n m) : (distinct (ims o n m (2 ^ m))).length + orph o n m = 2 ^ m := by
  have h1 := filt_compl (hits o n m (2 ^ m)) (2 ^ m)
  have h2 : (distinct (ims o n m (2 ^ m))).length = ((List.range (2 ^ m)).filter (hits o n m (2 ^ m))).length := by
    obtain ⟨hd, hm⟩ := distinct_facts (ims o n m (2 ^ m))
    refine Eq.trans (nodup_eq (m := ((List.range (2 ^ m)).filter (hits o n m (2 ^ m))).map (wAt 2 m)) hd ?_ fun x => ?_) (List.length_map ..)
    · rw [List.nodup_iff_pairwise_ne, List.pairwise_map]
      refine List.Pairwise.imp_of_mem (R := (· < ·)) (fun {a b} ha hb hab e => ?_) (List.pairwise_lt_range.sublist List.filter_sublist)
      have ha2 := List.mem_range.1 (List.mem_filter.1 ha).1
      have hb2 := List.mem_range.1 (List.mem_filter.1 hb).1
      have := congrArg (idxOf 2) e
      rw [idx_wAt (by omega) m a ha2, idx_wAt (by omega) m b hb2] at this
      omega
    · rw [hm x]
      constructor
      · intro hx
        obtain ⟨q, hq, rfl⟩ := List.mem_map.1 hx
        refine List.mem_map.2 ⟨nextB o n m q, List.mem_filter.2 ⟨List.mem_range.2 (next_lt h q), hits_iff.2 ⟨q, List.mem_range.1 hq, rfl⟩⟩, ?_⟩
        exact wAt_idx (by omega) m _ (rn_facts h q).1 (rn_facts h q).2
      · intro hx
        obtain ⟨i, hi, rfl⟩ := List.mem_map.1 hx
        obtain ⟨q, hq, e⟩ := hits_iff.1 (List.mem_filter.1 hi).2
        refine List.mem_map.2 ⟨q, List.mem_range.2 hq, ?_⟩
        rw [← e]
        exact (wAt_idx (by omega) m _ (rn_facts h q).1 (rn_facts h q).2).symm
  unfold orph
  omega
theorem infoBool : (Tryz.prog.info? 4).map (fun i => (i.zero, i.size, i.bytes)) = some (some (.bool false), 1, 1) := by kernel_rfl
set_option maxHeartbeats 2000000 in
theorem spec_RingOrphans_no (k n : Int) (o : ByteArray) (m : Int) (w : World) (ho : o.size ≤ maxLen) (h : fitsB k n o m = false) :
    Calls Tryz.prog 18 #[.agg #[.int .i64 k, .int .i64 n, .string o], .int .i64 m] w fun e w' => e = .returned (.int .i64 (-1)) ∧ Below w.heap.size w w' := by
  have HN := hid (fun w => spec_l33Fits_c k n o m w ho)
  rw [h] at HN
  clear h
  go_enter Tryz.func18, Tryz.ntmps18
  go_wp2_with fail
  refine (HN.out _).mono ?_
  rintro e w1 ⟨rfl, hb1⟩
  go_wp2
  go_ret
  exact ⟨rfl, ((Below.refl _ _).alloc (Nat.le_refl _) _).trans (hb1.mono (by simp))⟩
set_option maxHeartbeats 2000000 in
theorem impl_RingOrphans_no (k n : Int) (o : ByteArray) (m : Int) (w : World) (ho : o.size ≤ maxLen) (h : fitsB k n o m = false) :
    Calls Tryz.prog 14 #[.agg #[.int .i64 k, .int .i64 n, .string o], .int .i64 m] w fun e w' => e = .returned (.int .i64 (-1)) ∧ Below w.heap.size w w' := by
  have HN := hid (fun w => impl_areRings_c k n o m w ho)
  rw [h] at HN
  clear h
  go_enter Tryz.func14, Tryz.ntmps14
  go_wp2_with fail
  refine (HN.out _).mono ?_
  rintro e w1 ⟨rfl, hb1⟩
  go_wp2
  go_ret
  exact ⟨rfl, ((Below.refl _ _).alloc (Nat.le_refl _) _).trans (hb1.mono (by simp))⟩
set_option maxHeartbeats 2000000 in
set_option maxRecDepth 100000 in
theorem spec_RingOrphans_yes (n m : Nat) (o : ByteArray) (w : World) (ho : o.size ≤ maxLen) (h : RFit o n m) (hf : fitsB 2 n o m = true) :
    Calls Tryz.prog 18 #[.agg #[.int .i64 2, .int .i64 n, .string o], .int .i64 m] w fun e w' => e = .returned (.int .i64 (orph o n m : Int)) ∧ Below w.heap.size w w' := by
  have hps := pow_small (k := 2) (by omega) h.m8
  have HN := hid (fun w => spec_l33Fits_c 2 n o m w ho)
  rw [hf] at HN
  have HX := hid (fun w => spec_l33Next_c n m o w ho h)
  have HLT := hid (fun i => next_lt h i)
  unfold orph
  unfold NextsPost at HX
  obtain ⟨M, hM⟩ : ∃ M, M = 2 ^ m := ⟨_, rfl⟩
  rw [← hM] at HX hps HLT
  rw [← hM]
  clear hM hf h
  obtain ⟨ti, hi, hz, hz1, hz2⟩ := info_parts infoBool
  go_enter Tryz.func18, Tryz.ntmps18
  go_wp2_with fail
  refine (HN.out _).mono ?_
  rintro e w1 ⟨rfl, hb1⟩
  obtain ⟨⟨hc0, hc1, hc2⟩, _, hzz⟩ := box3 hb1
  have hbw1 : Below w.heap.size w w1 := ((Below.refl _ _).alloc (Nat.le_refl _) _).trans (hb1.mono (by simp))
  go_wp2_with fail
  refine (HX.out _).mono ?_
  rintro e w2 ⟨v, rfl, hown, hb2⟩
  obtain ⟨a5, c5, rfl, hr5⟩ := owns_rowAt hown (by omega)
  have HR5 := hid hr5
  have hbw2 := bs hbw1 hb2
  clear hc0 hc1 hc2 hown hr5
  go_wp2_with (first | (at_make; refine wpList_make_full _ rfl _ _ 60 rfl w2.heap.size 4 ti (.bool false) 1 Tryz.underlying60 hi hz hz1 .i64 .i64 _ _ M rfl rfl rfl rfl (by rw [hz2]; omega) (by unfold maxLen; omega) (Nat.le_refl _) ?_; intro w3 hown3 hgr3))
  rw [← hitL_zero o n m M] at hown3
  have hb3 : Below w2.heap.size w2 w3 := (Below.refl _ _).grown hgr3 (Nat.le_refl _) (by intro k h; cases h)
  clear hgr3
  go_loopw [7] (fun i wr => ∃ j : Nat, j ≤ M ∧ i = .int .i64 j ∧ wr.ownsRow w2.heap.size 4 1 (.slice (some ⟨w2.heap.size, 0, none⟩) M M) M (boolVals (hitL o n m M j)) ∧ Below w2.heap.size w2 wr) (fun i _ => M - (intOf i).toNat)
  case atStart => exact ⟨0, by omega, rfl, hown3, hb3⟩
  case round =>
    obtain ⟨j, hj, rfl, hown, hbel⟩ := hrel
    by_cases hlt : j < M
    · obtain ⟨b5, o5, rfl, hb5, hcl5⟩ := HR5.out.at_ (by omega)
      have hcell0 := (hbel.cell (p := ⟨b5, o5 + j, none⟩) hb5).trans (hcl5 j _ (intVals_get (nexts_get hlt)))
      have hxM := HLT.out j
      have HSET := hid (hitL_set o n m M j)
      obtain ⟨x, hx⟩ : ∃ x, x = nextB o n m j := ⟨_, rfl⟩
      rw [← hx] at hcell0 hxM HSET
      have hx1 : (x : Int) < (M : Int) := by omega
      have hx0 : (0 : Int) ≤ (x : Int) := by omega
      have hcell : wr.cell? ⟨w2.heap.size, x, none⟩ = some (.bool (hits o n m j x)) := (hown.cellAt x (by omega)).trans (hitL_get hxM)
      have hfr := hown.frozenAt x
      have HO := hid hown
      clear hcl5 hx hown
      go_wp2
      go_roundw
      case rel =>
        have hst := HO.out.stored x (.bool true)
        rw [HSET.out] at hst
        exact ⟨j + 1, by omega, by go_num, hst.1, hbel.grown hst.2 hbel.size (by rintro k ⟨⟩; exact Nat.le_refl _)⟩
      case measure => simp [intOf]; omega
    · obtain rfl : j = M := by omega
      have HO := hid hown
      clear hown
      go_wp2
      go_loop [8, 9] (fun c i => ∃ q r : Nat, r ≤ j ∧ i = .int .i64 r ∧ c = .int .i64 q ∧ q ≤ r ∧ Hid (q = ((List.range r).filter fun i => !hits o n m j i).length)) (fun _ i => j - (intOf i).toNat)
      case atStart => exact ⟨0, 0, by omega, rfl, rfl, by omega, rfl⟩
      case round =>
        obtain ⟨q, r, hr, rfl, rfl, hqr, HQ⟩ := hrel
        by_cases hlt2 : r < j
        · have hcell : wr.cell? ⟨w2.heap.size, r, none⟩ = some (.bool (hits o n m j r)) := (HO.out.cellAt r (by omega)).trans (hitL_get hlt2)
          have hr1 : (r : Int) < (j : Int) := by omega
          have hr0 : (0 : Int) ≤ (r : Int) := by omega
          cases hb : hits o n m j r
          · rw [hb] at hcell
            have HB := hid (show (fun i => !hits o n m j i) r = true by simp [hb])
            clear hb
            go_wp2_with (go_at_call 46; refine (l1Bit_c _ _).mono ?_; rintro e w' ⟨rfl, rfl⟩)
            go_round
            case rel => exact ⟨q + 1, r + 1, by omega, by go_num, by go_num, by omega, by show _ = _; rw [cn_yes HB.out]; rw [HQ.out]⟩
            case measure => simp [intOf]; omega
          · rw [hb] at hcell
            have HB := hid (show (fun i => !hits o n m j i) r = false by simp [hb])
            clear hb
            go_wp2_with (go_at_call 46; refine (l1Bit_c _ _).mono ?_; rintro e w' ⟨rfl, rfl⟩)
            go_round
            case rel => exact ⟨q, r + 1, by omega, by go_num, by go_num, by omega, by show _ = _; rw [cn_no HB.out]; exact HQ.out⟩
            case measure => simp [intOf]; omega
        · obtain rfl : r = j := by omega
          go_wp2
          go_ret
          exact ⟨ret_int (by rw [HQ.out]), hbw2.trans (hbel.mono hbw2.size)⟩
set_option maxHeartbeats 2000000 in
set_option maxRecDepth 100000 in
theorem impl_RingOrphans_yes (n m : Nat) (o : ByteArray) (w : World) (ho : o.size ≤ maxLen) (h : RFit o n m) (hf : fitsB 2 n o m = true) :
    Calls Tryz.prog 14 #[.agg #[.int .i64 2, .int .i64 n, .string o], .int .i64 m] w fun e w' => e = .returned (.int .i64 (orph o n m : Int)) ∧ Below w.heap.size w w' := by
  have hps := pow_small (k := 2) (by omega) h.m8
  have HN := hid (fun w => impl_areRings_c 2 n o m w ho)
  rw [hf] at HN
  have HWO := hid (fun w : World => show Calls Tryz.prog 38 #[.int .i64 2, .int .i64 m] w (WordsPost 2 m w) from impl_wordsOf_c 2 m w (by omega) h.m8)
  have HR := hid (fun (i : Nat) (w : World) => show Calls Tryz.prog 34 #[.agg #[.int .i64 2, .int .i64 n, .string o], .string (wdB 2 m i)] w fun e w' => e = .returned (.string (txt (rnB o n m i))) ∧ Below w.heap.size w w' from impl_ring_wd h i w)
  have HL := hid (orph_law h)
  unfold WordsPost at HWO
  obtain ⟨M, hM⟩ : ∃ M, M = 2 ^ m := ⟨_, rfl⟩
  have hM1 : 1 ≤ M := by rw [hM]; exact Nat.one_le_pow _ _ (by omega)
  rw [← hM] at HWO hps HL
  obtain ⟨r, hr⟩ : ∃ r, r = orph o n m := ⟨_, rfl⟩
  rw [← hr] at HL
  rw [← hr]
  clear hM hf h hr
  go_enter Tryz.func14, Tryz.ntmps14
  go_wp2_with fail
  refine (HN.out _).mono ?_
  rintro e w1 ⟨rfl, hb1⟩
  obtain ⟨⟨hc0, hc1, hc2⟩, _, hzz⟩ := box3 hb1
  have hbw1 : Below w.heap.size w w1 := ((Below.refl _ _).alloc (Nat.le_refl _) _).trans (hb1.mono (by simp))
  have HK := hid (fun (V : World) (hV : Below w1.heap.size w1 V) => (⟨(hV.cell (p := ⟨w.heap.size, 0, none⟩) hzz).trans hc0, (hV.cell (p := ⟨w.heap.size, 1, none⟩) hzz).trans hc1, (hV.cell (p := ⟨w.heap.size, 2, none⟩) hzz).trans hc2⟩ : V.cell? ⟨w.heap.size, 0, none⟩ = some (.int .i64 2) ∧ V.cell? ⟨w.heap.size, 1, none⟩ = some (.int .i64 n) ∧ V.cell? ⟨w.heap.size, 2, none⟩ = some (.string o)))
  clear hc0 hc1 hc2 hb1
  go_wp2_with fail
  refine (HWO.out _).mono ?_
  rintro e w2 ⟨v, rfl, hown, hb2⟩
  have hown2 := owns_base (base' := w1.heap.size) hown (by simp)
  obtain ⟨g5, c5, rfl, hg5, hlt5⟩ := hown2.form (by omega)
  have hg6 : w1.heap.size + 1 ≤ g5 := by
    obtain ⟨g7, c7, he7, hg7, _⟩ := hown.form (by omega)
    simp at he7 hg7
    omega
  have HW2 := hid hown2
  have hbelB : Below w1.heap.size w1 w2 := ((Below.refl _ _).alloc (Nat.le_refl _) _).trans (hb2.mono (by simp))
  have hown8 : w2.ownsRow w1.heap.size 9 1 (.slice (some ⟨w1.heap.size, 0, none⟩) 0 0) 0 ((ims o n m 0).map Go.Proofs.encStr) := owns_below (show (w1.alloc (.cells #[] 9)).ownsRow w1.heap.size 9 1 (.slice (some ⟨w1.heap.size, 0, none⟩) 0 0) 0 ((ims o n m 0).map Go.Proofs.encStr) from owns_lit3 #[] _ rfl (Nat.le_refl _) (by unfold maxLen; simp)) hb2
  clear hown hown2
  go_wp2
  go_loopw [5, 18] (fun v i wr => ∃ j : Nat, j ≤ M ∧ i = .int .i64 j ∧ wr.ownsRow w1.heap.size 9 1 v j ((ims o n m j).map Go.Proofs.encStr) ∧ v.ownBlock ≠ some g5 ∧ wr.ownsRow w1.heap.size 9 1 (.slice (some ⟨g5, 0, none⟩) M c5) M (strVals (wds 2 m M)) ∧ Below w1.heap.size w1 wr) (fun _ i _ => M - (intOf i).toNat)
  case atStart => exact ⟨0, by omega, rfl, hown8, by simp [Value.ownBlock]; omega, HW2.out, hbelB⟩
  case round =>
    obtain ⟨j, hj, rfl, hown, hne, hwords, hbel⟩ := hrel
    by_cases hlt : j < M
    · obtain ⟨a6, c6, he6, hr6⟩ := owns_rowAt hwords (by omega)
      simp only [Value.slice.injEq, true_and] at he6
      obtain ⟨rfl, rfl⟩ := he6
      obtain ⟨b5, o5, he5, hb5, hcl5⟩ := hr6.at_ (by omega)
      simp only [Option.some.injEq, Addr.mk.injEq, and_true] at he5
      obtain ⟨rfl, rfl⟩ := he5
      have hcell := hcl5 j _ (strVals_get (wds_get hlt))
      rw [Nat.zero_add] at hcell
      have HO := hid hown
      have HWD := hid hwords
      have HRj := hid (HR.out j)
      obtain ⟨y, hy⟩ : ∃ y, y = txt (rnB o n m j) := ⟨_, rfl⟩
      rw [← hy] at HRj
      have HY := hid hy
      obtain ⟨h0, h1, h2⟩ := HK.out _ hbel
      clear hr6 hcl5 hown hwords hy
      go_wp2_with fail
      refine (HRj.out _).mono ?_
      rintro e w3 ⟨rfl, hb3⟩
      have hown3 := owns_below HO.out hb3
      have hw3 := owns_below HWD.out hb3
      have hbel3 := hbel.trans (hb3.mono hbel.size)
      have hb53 := Nat.lt_of_lt_of_le hb5 hb3.size
      go_wp2_with (first | (at_builtin; go_must (refine wpList_app3 rfl _ _ 44 rfl w1.heap.size 9 (.string ByteArray.empty) 16 Tryz.underlying44 infoStr3 rfl _ j ((ims o n m j).map Go.Proofs.encStr) _ hown3 rfl rfl rfl (by omega) (by unfold maxLen; omega) hbel3.size g5 hne hb53 ?_); intro v' w4 hown4 hgr4 hne4))
      go_roundw
      case rel => exact ⟨j + 1, by omega, by go_num, by rw [ims_succ, ← HY.out]; exact hown4, hne4, hw3.kept hgr4 (Or.inr fun e => hne (by rw [← e]; rfl)), hbel3.grown hgr4 hbel3.size (fun k hk => (hown3.lt k hk).1)⟩
      case measure => simp [intOf]; omega
    · obtain rfl : j = M := by omega
      obtain ⟨g8, c8, rfl, hg8, hlt8⟩ := hown.form (by omega)
      have HD := hid (different_c w1.heap.size g8 c8 j (ims o n m j) wr (ims_len ..) hown hbel.size (by omega))
      unfold DiffPost at HD
      obtain ⟨c, hc⟩ : ∃ c, c = (distinct (ims o n m j)).length := ⟨_, rfl⟩
      rw [← hc] at HD HL
      have hsum : c + r = j := HL.out
      clear hwords hown hc
      go_wp2_with fail
      refine HD.out.mono ?_
      rintro e w3 ⟨rfl, _, hb3⟩
      go_wp2
      go_ret
      exact ⟨ret_int (by omega), hbw1.trans ((hbel.trans (hb3.mono (Nat.le_refl _))).mono hbw1.size)⟩
set_option maxHeartbeats 1000000 in
theorem spec_IsRingOnto_c (k n : Int) (o : ByteArray) (m r : Int) (w : World) (H : Hid (∀ w, Calls Tryz.prog 18 #[.agg #[.int .i64 k, .int .i64 n, .string o], .int .i64 m] w fun e w' => e = .returned (.int .i64 r) ∧ Below w.heap.size w w')) :
    Calls Tryz.prog 20 #[.agg #[.int .i64 k, .int .i64 n, .string o], .int .i64 m] w fun e w' => e = .returned (.bool (r == 0)) ∧ Below w.heap.size w w' := by
  go_enter Tryz.func20, Tryz.ntmps20
  go_wp2_with fail
  refine (H.out _).mono ?_
  rintro e w1 ⟨rfl, hb1⟩
  go_wp2
  go_ret
  exact ⟨rfl, ((Below.refl _ _).alloc (Nat.le_refl _) _).trans (hb1.mono (by simp))⟩
set_option maxHeartbeats 1000000 in
theorem impl_IsRingOnto_c (k n : Int) (o : ByteArray) (m r : Int) (w : World) (H : Hid (∀ w, Calls Tryz.prog 14 #[.agg #[.int .i64 k, .int .i64 n, .string o], .int .i64 m] w fun e w' => e = .returned (.int .i64 r) ∧ Below w.heap.size w w')) :
    Calls Tryz.prog 19 #[.agg #[.int .i64 k, .int .i64 n, .string o], .int .i64 m] w fun e w' => e = .returned (.bool (r == 0)) ∧ Below w.heap.size w w' := by
  go_enter Tryz.func19, Tryz.ntmps19
  go_wp2_with fail
  refine (H.out _).mono ?_
  rintro e w1 ⟨rfl, hb1⟩
  go_wp2
  go_ret
  exact ⟨rfl, ((Below.refl _ _).alloc (Nat.le_refl _) _).trans (hb1.mono (by simp))⟩
end Go.Proofs.YtccknookhkahbaaGreat
