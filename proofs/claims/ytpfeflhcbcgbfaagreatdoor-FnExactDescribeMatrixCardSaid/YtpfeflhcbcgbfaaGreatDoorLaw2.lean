import Derived.Test.YtpfeflhcbcgbfaaGreatDoorLaw
import Derived.Deep.RegionHeld3
namespace Go.Proofs.YtpfeflhcbcgbfaaGreatDoor
open Go.RowKit

def digB (k : Nat) : UInt8 := UInt8.ofNat (48 + k % 10)
theorem digB_nat (k : Nat) : ((digB k).toNat : Int) = 48 + (k : Int) % 10 := by unfold digB; simp [UInt8.toNat_ofNat']; omega
def mtLoop (k : Nat) (out : ByteArray) : ByteArray := if h : k = 0 then out else mtLoop (k / 10) (⟨#[digB k]⟩ ++ out)
termination_by k
decreasing_by omega
def mText (k : Nat) : ByteArray := ⟨#[109]⟩ ++ mtLoop k ByteArray.empty

def smarks (k n : Nat) : List ByteArray := (List.range n).map fun i => mText (k + i)
theorem smarks_len (k n : Nat) : (strVals (smarks k n)).length = n := by simp [smarks, strVals]
theorem smarks_get {k n i : Nat} (h : i < n) : (strVals (smarks k n))[i]? = some (.string (mText (k + i))) := by simp [smarks, strVals, h]

theorem infoStr : (Tryz.prog.info? 9).map (fun i => (i.zero, i.size, i.bytes)) = some (some (.string ByteArray.empty), 1, 16) := by kernel_rfl

set_option maxHeartbeats 1000000 in
theorem toStringS_c (a : Option Addr) (n c : Nat) (ss : List ByteArray) (w : World) (hr : RowAt w a n (strVals ss)) (hlim : n * 16 ≤ 140737488355328) :
    Calls Tryz.prog 24 #[.slice a n c] w fun e w' => ∃ v, e = .returned v ∧ w'.ownsRow w.heap.size 9 1 v n (strVals ss) ∧ Below w.heap.size w w' := by
  obtain ⟨hl, _, hat⟩ := hr
  have HL := hid hl
  have HAT := hid hat
  clear hl hat
  obtain ⟨i, hi, hz, hz1, hz2⟩ := info_parts infoStr
  go_enter Tryz.func24, Tryz.ntmps24
  go_wp2_with (first | (at_make; refine wpList_make_full _ rfl _ _ 22 rfl w.heap.size 9 i (.string ByteArray.empty) 1 Tryz.underlying22 hi hz hz1 .i64 .i64 _ _ n rfl rfl rfl rfl (by rw [hz2]; omega) (by unfold maxLen; omega) (Nat.le_refl _) ?_; intro w1 hown1 hgr1))
  have hb1 : Below w.heap.size w w1 := (Below.refl _ _).grown hgr1 (Nat.le_refl _) (by intro k h; cases h)
  clear hgr1
  go_loopw [4] (fun i wr => ∃ j : Nat, j ≤ n ∧ i = .int .i64 j ∧ wr.ownsRow w.heap.size 9 1 (.slice (some ⟨w.heap.size, 0, none⟩) n n) n (marked (strVals ss) (madeCells (Value.string ByteArray.empty).cells (n * 1)).toList j) ∧ Below w.heap.size w wr) (fun i _ => n - (intOf i).toNat)
  case atStart => exact ⟨0, by omega, rfl, by rw [marked_zero]; exact hown1, hb1⟩
  case round =>
    obtain ⟨j, hj, rfl, hown, hbel⟩ := hrel
    by_cases hlt : j < n
    · obtain ⟨b1, off1, rfl, hbs, hc1⟩ := HAT.out (by omega)
      clear HAT
      obtain ⟨s, hs⟩ := get_some (l := ss) (n := j) (by have := HL.out; simp [strVals] at this; omega)
      have hcell1 := (hbel.cell (p := ⟨b1, off1 + j, none⟩) hbs).trans (hc1 j _ (strVals_get hs))
      have HS := hid hs
      clear hs hc1
      obtain ⟨u, hu⟩ := get_some (l := marked (strVals ss) (madeCells (Value.string ByteArray.empty).cells (n * 1)).toList j) (n := j) (by rw [hown.1]; omega)
      have hcell : wr.cell? ⟨w.heap.size, j, none⟩ = some u := (hown.cellAt j (by omega)).trans hu
      clear hu
      have hfr := hown.frozenAt j
      go_wp2
      go_roundw
      case rel =>
        have hst := hown.stored j (.string s)
        rw [marked_step (n := n) (u := .string s) (by simp [madeCells]) HL.out hlt (strVals_get HS.out)] at hst
        exact ⟨j + 1, by omega, by go_num, hst.1, hbel.grown hst.2 hbel.size (by rintro k ⟨⟩; exact Nat.le_refl _)⟩
      case measure => simp [intOf]; omega
    · obtain rfl : j = n := by omega
      go_wp2
      go_ret
      exact ⟨_, rfl, by rw [← marked_all (xs := (madeCells (Value.string ByteArray.empty).cells (j * 1)).toList) (ms := strVals ss) (by simp [madeCells]) HL.out]; exact hown, hbel⟩

def sizes (ss : List ByteArray) : Nat := (ss.map (·.size)).sum
theorem sizes_take {ss : List ByteArray} {j : Nat} {s : ByteArray} (h : ss[j]? = some s) : sizes (ss.take (j + 1)) = sizes (ss.take j) + s.size := by
  simp [sizes, List.take_add_one, h]
theorem sizes_le (ss : List ByteArray) (j : Nat) : sizes (ss.take j) ≤ sizes ss := by
  have : sizes ss = sizes (ss.take j) + sizes (ss.drop j) := by
    simp only [sizes]; rw [← List.sum_append, ← List.map_append, List.take_append_drop]
  omega
/-- What is left of a size behind a list of texts. -/
def SzPost (L : Nat) (ss : List ByteArray) (w : World) (e : Ending) (w' : World) : Prop :=
  w = w' ∧ ∃ r : Int, e = .returned (.int .i64 r) ∧ ((r = -1 ∧ L < ss.length + sizes ss) ∨ (0 ≤ r ∧ (ss.length + sizes ss : Nat) + r = L))

set_option maxHeartbeats 1000000 in
theorem szStringS_c (a : Option Addr) (n c L : Nat) (ss : List ByteArray) (w : World) (hr : RowAt w a n (strVals ss)) (hL : L ≤ 1048576) (hs : ∀ s ∈ ss, s.size ≤ maxLen) :
    Calls Tryz.prog 15 #[.slice a n c, .int .i64 L] w (SzPost L ss w) := by
  obtain ⟨hl, hlim, hat⟩ := hr
  have HL := hid (show ss.length = n by simpa [strVals] using hl)
  have HAT := hid hat
  clear hl hat
  by_cases hLn : n ≤ L
  · go_enter Tryz.func15, Tryz.ntmps15
    go_wp2
    go_loop [1, 5] (fun l i => ∃ (j r : Nat), j ≤ n ∧ i = .int .i64 j ∧ l = .int .i64 r ∧ r ≤ L ∧ Hid (n + sizes (ss.take j) + r = L)) (fun _ i => n - (intOf i).toNat)
    case atStart => exact ⟨0, L - n, by omega, rfl, by go_num, by omega, by show _ = _; simp [sizes]; omega⟩
    case round =>
      obtain ⟨j, r, hj, rfl, rfl, hrl, H⟩ := hrel
      by_cases hlt : j < n
      · obtain ⟨b1, off1, rfl, hbs, hc1⟩ := HAT.out (by omega)
        clear HAT
        obtain ⟨s, hsj⟩ := get_some (l := ss) (n := j) (by rw [HL.out]; omega)
        have hcell1 := hc1 j _ (strVals_get hsj)
        have hsz := hs s (List.mem_of_getElem? hsj)
        unfold maxLen at hsz
        have HS := hid hsj
        clear hsj hc1
        go_wp2
        · have ht := sizes_take HS.out
          have hle : sizes (ss.take (j + 1)) ≤ sizes ss := sizes_le ss (j + 1)
          have hh := H.out
          go_ret
          refine ⟨rfl, -1, rfl, .inl ⟨rfl, ?_⟩⟩
          rw [HL.out]; omega
        · have ht := sizes_take HS.out
          have hh := H.out
          go_round
          case rel => exact ⟨j + 1, r - s.size, by omega, by go_num, by go_num, by omega, by show _ = _; omega⟩
          case measure => simp [intOf]; omega
      · obtain rfl : j = n := by omega
        have hh := H.out
        rw [List.take_of_length_le (by rw [HL.out]; exact Nat.le_refl _)] at hh
        have HH := hid hh
        clear hh
        go_wp2
        go_ret
        refine ⟨rfl, r, rfl, .inr ⟨by omega, ?_⟩⟩
        rw [HL.out]; have := HH.out; omega
  · go_enter Tryz.func15, Tryz.ntmps15
    go_wp2
    go_ret
    refine ⟨rfl, -1, rfl, .inl ⟨rfl, ?_⟩⟩
    rw [HL.out]; omega
end Go.Proofs.YtpfeflhcbcgbfaaGreatDoor
