/- The number of a code: both functions. Conditions: sizes within the reach. -/
import Derived.Deep.RegionHeld3
import Derived.Test.YtpfeflhcbcgbfaaGreatDoorBoxC
namespace Go.Proofs.YtpfeflhcbcgbfaaGreatDoor
open Go.RowKit

def digB (k : Nat) : UInt8 := UInt8.ofNat (48 + k % 10)
theorem digB_nat (k : Nat) : ((digB k).toNat : Int) = 48 + (k : Int) % 10 := by unfold digB; simp [UInt8.toNat_ofNat']; omega
def mtLoop (k : Nat) (out : ByteArray) : ByteArray := if h : k = 0 then out else mtLoop (k / 10) (⟨#[digB k]⟩ ++ out)
termination_by k
decreasing_by omega
def mText (k : Nat) : ByteArray := ⟨#[109]⟩ ++ mtLoop k ByteArray.empty

def smarks (k n : Nat) : List ByteArray := (List.range n).map fun i => mText (k + i)
theorem smarks_len (k n : Nat) : (strVals (smarks k n)).length = n := by simp [smarks, strVals]
theorem smarks_get {k n i : Nat} (h : i < n) : (strVals (smarks k n))[i]? = some (.string (mText (k + i))) := by simp [smarks, strVals, h]

theorem infoStr : (Tryz.prog.info? 9).map (fun i => (i.zero, i.size, i.bytes)) = some (some (.string ByteArray.empty), 1, 16) := by kernel_rfl

set_option maxHeartbeats 1000000 in
theorem toStringS_c (a : Option Addr) (n c : Nat) (ss : List ByteArray) (w : World) (hr : RowAt w a n (strVals ss)) (hlim : n * 16 ≤ 140737488355328) :
    Calls Tryz.prog 24 #[.slice a n c] w fun e w' => ∃ v, e = .returned v ∧ w'.ownsRow w.heap.size 9 1 v n (strVals ss) ∧ Below w.heap.size w w' := by
  obtain ⟨hl, _, hat⟩ := hr
  have HL := hid hl
  have HAT := hid hat
  clear hl hat
  obtain ⟨i, hi, hz, hz1, hz2⟩ := info_parts infoStr
  go_enter Tryz.func24, Tryz.ntmps24
  go_wp2_with (first | (at_make; refine wpList_make_full _ rfl _ _ 22 rfl w.heap.size 9 i (.string ByteArray.empty) 1 Tryz.underlying22 hi hz hz1 .i64 .i64 _ _ n rfl rfl rfl rfl (by rw [hz2]; omega) (by unfold maxLen; omega) (Nat.le_refl _) ?_; intro w1 hown1 hgr1))
  have hb1 : Below w.heap.size w w1 := (Below.refl _ _).grown hgr1 (Nat.le_refl _) (by intro k h; cases h)
  clear hgr1
  go_loopw [4] (fun i wr => ∃ j : Nat, j ≤ n ∧ i = .int .i64 j ∧ wr.ownsRow w.heap.size 9 1 (.slice (some ⟨w.heap.size, 0, none⟩) n n) n (marked (strVals ss) (madeCells (Value.string ByteArray.empty).cells (n * 1)).toList j) ∧ Below w.heap.size w wr) (fun i _ => n - (intOf i).toNat)
  case atStart => exact ⟨0, by omega, rfl, by rw [marked_zero]; exact hown1, hb1⟩
  case round =>
    obtain ⟨j, hj, rfl, hown, hbel⟩ := hrel
    by_cases hlt : j < n
    · obtain ⟨b1, off1, rfl, hbs, hc1⟩ := HAT.out (by omega)
      clear HAT
      obtain ⟨s, hs⟩ := get_some (l := ss) (n := j) (by have := HL.out; simp [strVals] at this; omega)
      have hcell1 := (hbel.cell (p := ⟨b1, off1 + j, none⟩) hbs).trans (hc1 j _ (strVals_get hs))
      have HS := hid hs
      clear hs hc1
      obtain ⟨u, hu⟩ := get_some (l := marked (strVals ss) (madeCells (Value.string ByteArray.empty).cells (n * 1)).toList j) (n := j) (by rw [hown.1]; omega)
      have hcell : wr.cell? ⟨w.heap.size, j, none⟩ = some u := (hown.cellAt j (by omega)).trans hu
      clear hu
      have hfr := hown.frozenAt j
      go_wp2
      go_roundw
      case rel =>
        have hst := hown.stored j (.string s)
        rw [marked_step (n := n) (u := .string s) (by simp [madeCells]) HL.out hlt (strVals_get HS.out)] at hst
        exact ⟨j + 1, by omega, by go_num, hst.1, hbel.grown hst.2 hbel.size (by rintro k ⟨⟩; exact Nat.le_refl _)⟩
      case measure => simp [intOf]; omega
    · obtain rfl : j = n := by omega
      go_wp2
      go_ret
      exact ⟨_, rfl, by rw [← marked_all (xs := (madeCells (Value.string ByteArray.empty).cells (j * 1)).toList) (ms := strVals ss) (by simp [madeCells]) HL.out]; exact hown, hbel⟩

def sizes (ss : List ByteArray) : Nat := (ss.map (·.size)).sum
theorem sizes_take {ss : List ByteArray} {j : Nat} {s : ByteArray} (h : ss[j]? = some s) : sizes (ss.take (j + 1)) = sizes (ss.take j) + s.size := by
  simp [sizes, List.take_add_one, h]
theorem sizes_le (ss : List ByteArray) (j : Nat) : sizes (ss.take j) ≤ sizes ss := by
  have : sizes ss = sizes (ss.take j) + sizes (ss.drop j) := by
    simp only [sizes]; rw [← List.sum_append, ← List.map_append, List.take_append_drop]
  omega
/-- What is left of a size behind a list of texts. -/
def SzPost (L : Nat) (ss : List ByteArray) (w : World) (e : Ending) (w' : World) : Prop :=
  w = w' ∧ ∃ r : Int, e = .returned (.int .i64 r) ∧ ((r = -1 ∧ L < ss.length + sizes ss) ∨ (0 ≤ r ∧ (ss.length + sizes ss : Nat) + r = L))

set_option maxHeartbeats 1000000 in
theorem szStringS_c (a : Option Addr) (n c L : Nat) (ss : List ByteArray) (w : World) (hr : RowAt w a n (strVals ss)) (hL : L ≤ 1048576) (hs : ∀ s ∈ ss, s.size ≤ maxLen) :
    Calls Tryz.prog 15 #[.slice a n c, .int .i64 L] w (SzPost L ss w) := by
  obtain ⟨hl, hlim, hat⟩ := hr
  have HL := hid (show ss.length = n by simpa [strVals] using hl)
  have HAT := hid hat
  clear hl hat
  by_cases hLn : n ≤ L
  · go_enter Tryz.func15, Tryz.ntmps15
    go_wp2
    go_loop [1, 5] (fun l i => ∃ (j r : Nat), j ≤ n ∧ i = .int .i64 j ∧ l = .int .i64 r ∧ r ≤ L ∧ Hid (n + sizes (ss.take j) + r = L)) (fun _ i => n - (intOf i).toNat)
    case atStart => exact ⟨0, L - n, by omega, rfl, by go_num, by omega, by show _ = _; simp [sizes]; omega⟩
    case round =>
      obtain ⟨j, r, hj, rfl, rfl, hrl, H⟩ := hrel
      by_cases hlt : j < n
      · obtain ⟨b1, off1, rfl, hbs, hc1⟩ := HAT.out (by omega)
        clear HAT
        obtain ⟨s, hsj⟩ := get_some (l := ss) (n := j) (by rw [HL.out]; omega)
        have hcell1 := hc1 j _ (strVals_get hsj)
        have hsz := hs s (List.mem_of_getElem? hsj)
        unfold maxLen at hsz
        have HS := hid hsj
        clear hsj hc1
        go_wp2
        · have ht := sizes_take HS.out
          have hle : sizes (ss.take (j + 1)) ≤ sizes ss := sizes_le ss (j + 1)
          have hh := H.out
          go_ret
          refine ⟨rfl, -1, rfl, .inl ⟨rfl, ?_⟩⟩
          rw [HL.out]; omega
        · have ht := sizes_take HS.out
          have hh := H.out
          go_round
          case rel => exact ⟨j + 1, r - s.size, by omega, by go_num, by go_num, by omega, by show _ = _; omega⟩
          case measure => simp [intOf]; omega
      · obtain rfl : j = n := by omega
        have hh := H.out
        rw [List.take_of_length_le (by rw [HL.out]; exact Nat.le_refl _)] at hh
        have HH := hid hh
        clear hh
        go_wp2
        go_ret
        refine ⟨rfl, r, rfl, .inr ⟨by omega, ?_⟩⟩
        rw [HL.out]; have := HH.out; omega
  · go_enter Tryz.func15, Tryz.ntmps15
    go_wp2
    go_ret
    refine ⟨rfl, -1, rfl, .inl ⟨rfl, ?_⟩⟩
    rw [HL.out]; omega
end Go.Proofs.YtpfeflhcbcgbfaaGreatDoor
namespace Go.Proofs.YtpfeflhcbcgbfaaGreatDoor
open Go.RowKit

theorem box2 {w wr : World} {A B : Array Value} {S T : TypeId} (h : Below ((w.alloc (.cells A S)).alloc (.cells B T)).heap.size ((w.alloc (.cells A S)).alloc (.cells B T)) wr) :
    ((∀ k, wr.cell? ⟨w.heap.size, k, none⟩ = A[k]?) ∧ (∀ k, wr.frozen? ⟨w.heap.size, k, none⟩ = false)) ∧ ((∀ k, wr.cell? ⟨w.heap.size + 1, k, none⟩ = B[k]?) ∧ (∀ k, wr.frozen? ⟨w.heap.size + 1, k, none⟩ = false)) ∧ w.heap.size + 1 < wr.heap.size ∧ Below w.heap.size w wr := by
  have hs := h.size
  simp at hs
  refine ⟨⟨fun k => ?_, fun k => ?_⟩, ⟨fun k => ?_, fun k => ?_⟩, by omega, (((Below.refl _ _).alloc (Nat.le_refl _) _).alloc (by simp) _).trans (h.mono (by simp; omega))⟩
  · refine (h.cell (p := ⟨w.heap.size, k, none⟩) (by simp; omega)).trans ?_
    rw [World.cell?_alloc_past _ _ _ (by simp), World.cell?_alloc_at _ _ _ _ rfl]
  · refine (h.frozen (p := ⟨w.heap.size, k, none⟩) (by simp; omega)).trans ?_
    rw [World.frozen?_alloc_past _ _ _ (by simp), World.frozen?_alloc_at _ _ _ _ rfl]
  · refine (h.cell (p := ⟨w.heap.size + 1, k, none⟩) (by simp)).trans ?_
    rw [World.cell?_alloc_at _ _ _ _ (by simp)]
  · refine (h.frozen (p := ⟨w.heap.size + 1, k, none⟩) (by simp)).trans ?_
    rw [World.frozen?_alloc_at _ _ _ _ (by simp)]
/-- The three cells of a block, as the walk reads them. -/
theorem three {wr : World} {b : Nat} {x y z : Value} (h : ∀ k, wr.cell? ⟨b, k, none⟩ = (#[x, y, z] : Array Value)[k]?) : wr.cell? ⟨b, 0, none⟩ = some x ∧ wr.cell? ⟨b, 1, none⟩ = some y ∧ wr.cell? ⟨b, 2, none⟩ = some z := ⟨h 0, h 1, h 2⟩
theorem cells_below {w wr : World} {b B : Nat} {A : Array Value} (h : ∀ k, w.cell? ⟨b, k, none⟩ = A[k]?) (hb : Below B w wr) (hB : b < B) : ∀ k, wr.cell? ⟨b, k, none⟩ = A[k]? := fun k => (hb.cell (p := ⟨b, k, none⟩) hB).trans (h k)
theorem frozen_below {w wr : World} {b B : Nat} (h : ∀ k, w.frozen? ⟨b, k, none⟩ = false) (hb : Below B w wr) (hB : b < B) : ∀ k, wr.frozen? ⟨b, k, none⟩ = false := fun k => (hb.frozen (p := ⟨b, k, none⟩) hB).trans (h k)
/-- The text that a cell holds. -/
def outAt (V : World) (a : Addr) : ByteArray := match V.cell? a with | some (.string z) => z | _ => ByteArray.empty
theorem outAt_of {V : World} {a : Addr} {z : ByteArray} (h : V.cell? a = some (.string z)) : outAt V a = z := by unfold outAt; rw [h]
theorem held_out {V : World} {a : Addr} {z : ByteArray} (h : V.cell? a = some (.string z)) : V.cell? a = some (.string (outAt V a)) := by rw [outAt_of h]; exact h
end Go.Proofs.YtpfeflhcbcgbfaaGreatDoor
namespace Go.Proofs.YtpfeflhcbcgbfaaGreatDoor
open Go.RowKit

set_option maxHeartbeats 400000 in
theorem l1Bit_c (b : Bool) (w : World) : Calls Tryz.prog 130 #[.bool b] w fun e w' => e = .returned (.int .i64 (if b then 1 else 0)) ∧ w = w' := by
  cases b <;> {
    go_enter Tryz.func130, Tryz.ntmps130
    go_wp2
    go_ret
    exact ⟨rfl, rfl⟩ }

set_option maxHeartbeats 400000 in
theorem l1Max_c (a b : Int) (w : World) : Calls Tryz.prog 131 #[.int .i64 a, .int .i64 b] w fun e w' => e = .returned (.int .i64 (max a b)) ∧ w = w' := by
  by_cases h : b < a <;> {
    go_enter Tryz.func131, Tryz.ntmps131
    go_wp2
    go_ret
    exact ⟨ret_int (by omega), rfl⟩ }
end Go.Proofs.YtpfeflhcbcgbfaaGreatDoor
namespace Go.Proofs.YtpfeflhcbcgbfaaGreatDoor
open Go.RowKit

def codeV (k n : Int) (o : ByteArray) : Value := .agg #[.int .i64 k, .int .i64 n, .string o]
theorem box3 {w wr : World} {a b c : Value} {T : TypeId} (h : Below (w.alloc (.cells #[a, b, c] T)).heap.size (w.alloc (.cells #[a, b, c] T)) wr) :
    (wr.cell? ⟨w.heap.size, 0, none⟩ = some a ∧ wr.cell? ⟨w.heap.size, 1, none⟩ = some b ∧ wr.cell? ⟨w.heap.size, 2, none⟩ = some c) ∧
    (wr.frozen? ⟨w.heap.size, 0, none⟩ = false ∧ wr.frozen? ⟨w.heap.size, 1, none⟩ = false ∧ wr.frozen? ⟨w.heap.size, 2, none⟩ = false) ∧ w.heap.size < wr.heap.size := by
  have h' : Below (w.heap.size + 1) (w.alloc (.cells #[a, b, c] T)) wr := by simpa using h
  have hb := box_kept h'
  have hs := h'.size
  simp at hs
  exact ⟨⟨(hb 0).1, (hb 1).1, (hb 2).1⟩, ⟨(hb 0).2, (hb 1).2, (hb 2).2⟩, by omega⟩

/-- The letter of bit i. -/
def bitB (n i : Nat) : UInt8 := if n / 2 ^ i % 2 = 1 then 98 else 97
def ruleOut (n : Nat) (i : Nat) : List UInt8 := (List.range i).map (bitB n)
theorem bit_and : ∀ n : Nat, n < 256 → ∀ i : Nat, i < 8 → bits BinOp.and IntKind.i64 ((n : Int) / 2 ^ i) 1 = ((n / 2 ^ i % 2 : Nat) : Int) := by decide +kernel

theorem infoU8 : (Tryz.prog.info? 5).map (fun i => (i.zero, i.size, i.bytes)) = some (some (.int .u8 0), 1, 1) := by kernel_rfl

theorem ruleOut_succ (n j : Nat) : byteVals (ruleOut n (j + 1)) = byteVals (ruleOut n j) ++ [Value.int .u8 (97 + (n : Int) / 2 ^ j % 2)] := by
  simp only [ruleOut, List.range_succ, List.map_append, byteVals, List.map_cons, List.map_nil]
  congr 3
  unfold bitB
  have h2 : ((n / 2 ^ j % 2 : Nat) : Int) = (n : Int) / 2 ^ j % 2 := by simp
  rw [← h2]
  rcases Nat.mod_two_eq_zero_or_one (n / 2 ^ j) with h | h <;> rw [h] <;> rfl

end Go.Proofs.YtpfeflhcbcgbfaaGreatDoor
namespace Go.Proofs.YtpfeflhcbcgbfaaGreatDoor
open Go.RowKit

def powN (k n : Nat) : Nat := k ^ n
theorem powN_succ (k n : Nat) : powN k (n + 1) = powN k n * k := rfl
theorem powN_le : ∀ k : Nat, k ≤ 3 → ∀ j : Nat, j ≤ 4 → powN k j ≤ 81 := by decide

set_option maxHeartbeats 1000000 in
theorem impl_power_c (k n : Nat) (hk : k ≤ 3) (hn : n ≤ 4) (w : World) :
    Calls Tryz.prog 150 #[.int .i64 k, .int .i64 n] w fun e w' => e = .returned (.int .i64 (powN k n : Int)) ∧ w = w' := by
  go_enter Tryz.func150, Tryz.ntmps150
  go_wp2
  go_loop [5, 7] (fun o i => ∃ j q : Nat, j ≤ n ∧ i = .int .i64 j ∧ o = .int .i64 q ∧ Hid (q = powN k j)) (fun _ i => n - (intOf i).toNat)
  case atStart => exact ⟨0, 1, by omega, rfl, rfl, rfl⟩
  case round =>
    obtain ⟨j, q, hj, rfl, rfl, H⟩ := hrel
    by_cases hlt : j < n
    · have hq1 := powN_le k hk j (by omega)
      have hq2 := powN_le k hk (j + 1) (by omega)
      rw [powN_succ, ← H.out] at hq2
      rw [← H.out] at hq1
      have hmul : (0 : Int) ≤ (q : Int) * k ∧ (q : Int) * k ≤ 81 := by
        have : ((q * k : Nat) : Int) ≤ 81 := by omega
        rw [Int.natCast_mul] at this
        exact ⟨by rw [← Int.natCast_mul]; omega, this⟩
      go_wp2
      go_round
      case rel => exact ⟨j + 1, q * k, by omega, by go_num, by go_num, by show _ = _; rw [H.out, powN_succ]⟩
      case measure => simp [intOf]; omega
    · obtain rfl : j = n := by omega
      go_wp2
      go_ret
      exact ⟨ret_int (by rw [H.out]), rfl⟩

/-- What a code is. -/
def isCode (k n : Int) (o : ByteArray) : Bool :=
  decide ((k = 2 ∨ k = 3) ∧ (1 ≤ n ∧ n ≤ 4) ∧ powN k.toNat n.toNat ≤ 27 ∧ o.size = powN k.toNat n.toNat) && lets k o.data.toList

end Go.Proofs.YtpfeflhcbcgbfaaGreatDoor
namespace Go.Proofs.YtpfeflhcbcgbfaaGreatDoor
open Go.RowKit

/-- The number of a code, of its first i letters. -/
def numOf (o : List UInt8) (i : Nat) : Nat := ((List.range i).map fun j => if o.getD j 0 = 98 then 2 ^ j else 0).sum
theorem numOf_succ (o : List UInt8) (i : Nat) : numOf o (i + 1) = numOf o i + (if o.getD i 0 = 98 then 2 ^ i else 0) := by simp [numOf, List.range_succ]
theorem numOf_lt (o : List UInt8) (i : Nat) : numOf o i < 2 ^ i := by
  induction i with
  | zero => simp [numOf]
  | succ i ih => rw [numOf_succ, Nat.pow_succ]; split <;> omega

theorem or_bit : ∀ j : Nat, j < 8 → ∀ m : Nat, m < 128 → m < 2 ^ j →
    bits BinOp.or IntKind.i64 (m : Int) (wrap64 (((98 : Int) - 97) % 256 * 2 ^ j)) = ((m + 2 ^ j : Nat) : Int) ∧ bits BinOp.or IntKind.i64 (m : Int) (wrap64 (((97 : Int) - 97) % 256 * 2 ^ j)) = (m : Int) := by decide +kernel
theorem lets2 {o : ByteArray} (hl : lets 2 o.data.toList = true) {j : Nat} (h : j < o.size) : o[j].toNat = 97 ∨ o[j].toNat = 98 := by
  have := List.all_eq_true.1 hl _ (List.mem_of_getElem? (byte_at o j h))
  rw [inB_iff] at this
  omega
theorem num_step {o : ByteArray} (hl : lets 2 o.data.toList = true) {j m : Nat} (h : j < o.size) (h8 : j < 8) (hm : m = numOf o.data.toList j) :
    bits BinOp.or IntKind.i64 (m : Int) (wrap64 (((o[j].toNat : Int) - 97) % 256 * 2 ^ j)) = ((numOf o.data.toList (j + 1) : Nat) : Int) := by
  have h2 := numOf_lt o.data.toList j
  rw [← hm] at h2
  have h3 : (2 : Nat) ^ j ≤ 2 ^ 7 := Nat.pow_le_pow_right (by omega) (by omega)
  have hb := or_bit j h8 m (by omega) h2
  have hg : o.data.toList.getD j 0 = o[j] := by rw [List.getD_eq_getElem?_getD, byte_at o j h]; rfl
  rw [numOf_succ, ← hm, hg]
  rcases lets2 hl h with h4 | h4
  · have h5 : ¬ o[j] = 98 := fun h => by rw [h] at h4; simp at h4
    rw [h4, if_neg h5]; exact hb.2
  · have h5 : o[j] = 98 := UInt8.toNat_inj.1 h4
    rw [h4, if_pos h5]; exact hb.1
/-- The number of a code of two letters and the width 3; -1 of another one. -/
def numB (k n : Int) (o : ByteArray) : Int := if isCode k n o = true ∧ k = 2 ∧ n = 3 then (numOf o.data.toList 8 : Int) else -1
theorem numB_no {k n : Int} {o : ByteArray} (h : ¬ (isCode k n o = true ∧ k = 2 ∧ n = 3)) : numB k n o = -1 := if_neg h
theorem numB_yes {o : ByteArray} (h : isCode 2 3 o = true) : numB 2 3 o = (numOf o.data.toList 8 : Int) := if_pos ⟨h, rfl, rfl⟩
theorem code8 {o : ByteArray} (h : isCode 2 3 o = true) : o.size = 8 ∧ lets 2 o.data.toList = true := by
  simp only [isCode, Bool.and_eq_true, decide_eq_true_eq] at h
  exact ⟨h.1.2.2.2, h.2⟩
end Go.Proofs.YtpfeflhcbcgbfaaGreatDoor
