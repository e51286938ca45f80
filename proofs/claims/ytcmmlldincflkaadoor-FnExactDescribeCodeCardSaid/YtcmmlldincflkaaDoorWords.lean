/- Words of k letters: at an index, their index, all of them. Conditions: at most 3 letters, at most 16 places. -/
import Derived.Test.YtcmmlldincflkaaDoorBox
namespace Go.Proofs.YtcmmlldincflkaaDoor
open Go.RowKit

/-- The letter number x. -/
def letB (x : Nat) : UInt8 := UInt8.ofNat (97 + x)
theorem letB_nat {x : Nat} (h : x < 100) : ((letB x).toNat : Int) = 97 + (x : Int) := by unfold letB; simp [UInt8.toNat_ofNat']; omega
/-- The word of n letters with an index. -/
def wAt (k : Nat) : Nat → Nat → List UInt8 | 0, _ => [] | n + 1, x => wAt k n (x / k) ++ [letB (x % k)]
theorem wAt_len (k : Nat) : ∀ n x, (wAt k n x).length = n
  | 0, _ => rfl
  | n + 1, x => by simp [wAt, wAt_len k n]
theorem infoU8b : (Tryd.prog.info? 5).map (fun i => (i.zero, i.size, i.bytes)) = some (some (.int .u8 0), 1, 1) := by kernel_rfl
theorem infoStr3 : (Tryd.prog.info? 9).map (fun i => (i.zero, i.size, i.bytes)) = some (some (.string ByteArray.empty), 1, 16) := by kernel_rfl
theorem set_zero (d : Nat) (S : List Value) (z u : Value) : (List.replicate (d + 1) z ++ S).set d u = List.replicate d z ++ u :: S := by
  rw [List.replicate_succ', List.append_assoc, List.set_append_right _ _ (by simp)]
  simp
theorem byteVals_cons (c : UInt8) (l : List UInt8) : byteVals (c :: l) = .int .u8 (c.toNat : Int) :: byteVals l := rfl

set_option maxHeartbeats 1000000 in
theorem wordAt_c (k n x0 : Nat) (w : World) (hk : 1 ≤ k ∧ k ≤ 3) (hn : n ≤ 16) (hx : x0 ≤ 1048576) :
    Calls Tryd.prog 57 #[.int .i64 k, .int .i64 n, .int .i64 x0] w fun e w' => e = .returned (.string ⟨(wAt k n x0).toArray⟩) ∧ Below w.heap.size w w' := by
  obtain ⟨hk1, hk3⟩ := hk
  obtain ⟨i, hi, hz, hz1, hz2⟩ := info_parts infoU8b
  go_enter Tryd.func57, Tryd.ntmps57
  go_wp2_with (first | (at_make; refine wpList_make_full _ rfl _ _ 41 rfl w.heap.size 5 i (.int .u8 0) 1 Tryd.underlying41 hi hz hz1 .i64 .i64 _ _ n rfl rfl rfl rfl (by rw [hz2]; omega) (by unfold maxLen; omega) (Nat.le_refl _) ?_; intro w1 hown1 hgr1))
  have hb1 : Below w.heap.size w w1 := (Below.refl _ _).grown hgr1 (Nat.le_refl _) (by intro k h; cases h)
  rw [show (madeCells (Value.int .u8 0).cells (n * 1)).toList = List.replicate n (.int .u8 0) by rw [Nat.mul_one]; exact toList_madeCells_one _ _] at hown1
  clear hgr1
  go_loopw [2, 8] (fun x i wr => ∃ (d y : Nat) (suf : List UInt8), d ≤ n ∧ i = .int .i64 ((d : Int) - 1) ∧ x = .int .i64 y ∧ y ≤ x0 ∧ Hid (wAt k n x0 = wAt k d y ++ suf) ∧ wr.ownsRow w.heap.size 5 1 (.slice (some ⟨w.heap.size, 0, none⟩) n n) n (List.replicate d (.int .u8 0) ++ byteVals suf) ∧ Below w.heap.size w wr) (fun _ i _ => (intOf i + 1).toNat)
  case atStart => exact ⟨n, x0, [], by omega, by go_num, rfl, by omega, by show _ = _; simp, by simpa [byteVals] using hown1, hb1⟩
  case round =>
    obtain ⟨d, y, suf, hd, rfl, rfl, hy, HW, hown, hbel⟩ := hrel
    by_cases hlt : 0 < d
    · obtain ⟨d', rfl⟩ : ∃ d', d = d' + 1 := ⟨d - 1, by omega⟩
      have hdd : ((d' + 1 : Nat) : Int) - 1 = (d' : Int) := by omega
      have hym : y % k < k := Nat.mod_lt _ (by omega)
      have hyk : y / k ≤ y := Nat.div_le_self _ _
      obtain ⟨u, hu⟩ := get_some (l := List.replicate (d' + 1) (Value.int .u8 0) ++ byteVals suf) (n := d') (by simp; omega)
      have hcell : wr.cell? ⟨w.heap.size, d', none⟩ = some u := (hown.cellAt d' (by omega)).trans hu
      clear hu
      have hfr := hown.frozenAt d'
      obtain ⟨q, hq⟩ : ∃ q, q = y % k := ⟨_, rfl⟩
      have hqi : (y : Int) % (k : Int) = (q : Int) := by rw [hq]; omega
      have hq3 : q < 3 := by omega
      have HQ := hid hq
      clear hq hym
      obtain ⟨r, hr⟩ : ∃ r, r = y / k := ⟨_, rfl⟩
      have hri : (y : Int) / (k : Int) = (r : Int) := by rw [hr]; omega
      rw [← hr] at hyk
      have HWW := hid (show wAt k n x0 = wAt k d' r ++ (letB q :: suf) by rw [HW.out, wAt, HQ.out, hr, List.append_assoc]; rfl)
      clear hr
      go_wp2
      go_roundw
      case rel =>
        have hst := hown.stored d' (.int .u8 (97 + (q : Int)))
        rw [set_zero, ← letB_nat (show q < 100 by omega), ← byteVals_cons] at hst
        rw [← letB_nat (show q < 100 by omega)]
        exact ⟨d', r, letB q :: suf, by omega, by go_num, by go_num, by omega, HWW.out, hst.1, hbel.setCell (Nat.le_refl _) _⟩
      case measure => first | (simp [intOf]; done) | (simp [intOf]; omega)
    · obtain rfl : d = 0 := by omega
      have HF := hid (show wAt k n x0 = suf by rw [HW.out]; rfl)
      obtain ⟨ad, c, hv, hrow⟩ := owns_rowAt hown (by omega)
      simp only [Value.slice.injEq, true_and] at hv
      obtain ⟨rfl, rfl⟩ := hv
      simp only [List.replicate_zero, List.nil_append] at hrow
      go_wp2_with (with_reducible refine wpList_convs rfl _ 41 9 5 rfl Tryd.underlying41 Tryd.underlying5 Tryd.underlying9 _ n _ suf rfl hrow ?_)
      go_ret
      exact ⟨ret_str (by rw [HF.out]), hbel⟩

/-- The index of a word. -/
def idxOf (k : Nat) (l : List UInt8) : Nat := l.foldl (fun a c => a * k + (c.toNat - 97)) 0
theorem idxOf_take {k : Nat} {l : List UInt8} {j : Nat} {c : UInt8} (h : l[j]? = some c) : idxOf k (l.take (j + 1)) = idxOf k (l.take j) * k + (c.toNat - 97) := by
  rw [List.take_add_one, h]; simp [idxOf, List.foldl_append]
theorem idxOf_lt {k : Nat} {l : List UInt8} (hl : lets k l = true) (hk : k ≤ 3) : ∀ j, j ≤ l.length → idxOf k (l.take j) < k ^ j
  | 0, _ => by simp [idxOf]
  | j + 1, h => by
    obtain ⟨c, hc⟩ := get_some (l := l) (n := j) (by omega)
    have ih := idxOf_lt hl hk j (by omega)
    have h1 := List.all_eq_true.1 hl c (List.mem_of_getElem? hc)
    rw [inB_iff] at h1
    rw [idxOf_take hc, Nat.pow_succ]
    have h2 : (idxOf k (l.take j) + 1) * k ≤ k ^ j * k := Nat.mul_le_mul_right _ ih
    rw [Nat.add_mul] at h2
    omega

set_option maxHeartbeats 1000000 in
theorem indexOf_c (k : Nat) (s : ByteArray) (w : World) (hk : k ≤ 3) (hl : lets k s.data.toList = true) (hs : s.size ≤ 16) :
    Calls Tryd.prog 48 #[.int .i64 k, .string s] w fun e w' => e = .returned (.int .i64 (idxOf k s.data.toList : Int)) ∧ w = w' := by
  have HL := hid hl
  clear hl
  go_enter Tryd.func48, Tryd.ntmps48
  go_wp2
  go_loop [5, 6, 9] (fun o _ i => ∃ j q : Nat, j ≤ s.size ∧ i = .int .i64 j ∧ o = .int .i64 q ∧ Hid (q = idxOf k (s.data.toList.take j))) (fun _ _ i => s.size - (intOf i).toNat)
  case atStart => exact ⟨0, 0, by omega, rfl, rfl, by show _ = _; simp [idxOf]⟩
  case round =>
    obtain ⟨j, q, hj, rfl, rfl, HQ⟩ := hrel
    by_cases hlt : j < s.size
    · have hji : (j : Int) < (s.size : Int) := by omega
      have hlet := List.all_eq_true.1 HL.out _ (List.mem_of_getElem? (byte_at s j hlt))
      rw [inB_iff] at hlet
      obtain ⟨t, ht⟩ : ∃ t : Nat, s[j].toNat = 97 + t := ⟨s[j].toNat - 97, by omega⟩
      have ht3 : t < 3 := by omega
      have hq1 : q < k ^ j := by rw [HQ.out]; exact idxOf_lt HL.out hk j (by rw [size_list]; omega)
      have hq2 : k ^ j ≤ 3 ^ 16 := Nat.le_trans (Nat.pow_le_pow_left hk j) (Nat.pow_le_pow_right (by omega) (by omega))
      have hq3 : q ≤ 43046721 := by have : (3 : Nat) ^ 16 = 43046721 := by decide
                                    omega
      have hqk : q * k ≤ 43046721 * 3 := Nat.mul_le_mul hq3 hk
      obtain ⟨m, hm⟩ : ∃ m, m = q * k := ⟨_, rfl⟩
      have hmi : (q : Int) * (k : Int) = (m : Int) := by rw [hm]; simp
      rw [← hm] at hqk
      have HST := hid (show idxOf k (s.data.toList.take (j + 1)) = m + t by rw [idxOf_take (byte_at s j hlt), ← HQ.out, ht, hm]; omega)
      clear hq1 hq2 hlet hm
      go_wp2
      go_round
      case rel => exact ⟨j + 1, m + t, by omega, by go_num, by go_num, by show _ = _; rw [HST.out]⟩
      case measure => simp [intOf]; omega
    · have HT := hid (show s.data.toList.take j = s.data.toList from List.take_of_length_le (by rw [size_list]; omega))
      go_wp2
      go_ret
      exact ⟨ret_int (by rw [HQ.out, HT.out]), rfl⟩
end Go.Proofs.YtcmmlldincflkaaDoor
