/- The table of a substitution. Conditions: sizes within the reach. -/
import Derived.Test.YtpncmmdjkcdemaaGreatDoorZero
import Derived.Test.YtpncmmdjkcdemaaGreatDoorCounts
namespace Go.Proofs.YtpncmmdjkcdemaaGreatDoor
open Go.RowKit

def wl (ss : List ByteArray) (c : Nat) : List UInt8 := (ss.getD c ByteArray.empty).data.toList
def ctCell (ss : List ByteArray) (j k i c : Nat) : Int := if c < j then cnt (wl ss c) (UInt8.ofNat (97 + i)) else if c = j then cnt ((wl ss c).take k) (UInt8.ofNat (97 + i)) else 0
def ctRow (n : Nat) (ss : List ByteArray) (j k i : Nat) : List Int := (List.range n).map (ctCell ss j k i)
def ctAt (n : Nat) (ss : List ByteArray) (j k : Nat) : List (List Int) := (List.range n).map (ctRow n ss j k)
def ctOf (ss : List ByteArray) : List (List Int) := if isSubst ss = true then ctAt ss.length ss ss.length 0 else []
theorem cnt_nil (c : UInt8) : cnt [] c = 0 := rfl
theorem ct_zero (n : Nat) (ss : List ByteArray) : ctAt n ss 0 0 = zeroTab n n := by
  unfold ctAt zeroTab
  have : ∀ i, ctRow n ss 0 0 i = List.replicate n 0 := by
    intro i
    unfold ctRow
    refine List.ext_getElem (by simp) fun c h1 h2 => ?_
    simp [ctCell]
    intro _; rfl
  rw [List.map_congr_left (fun i _ => this i)]
  refine List.ext_getElem (by simp) fun c h1 h2 => by simp
theorem ct_next (n : Nat) (ss : List ByteArray) (j : Nat) : ctAt n ss j (wl ss j).length = ctAt n ss (j + 1) 0 := by
  unfold ctAt
  refine List.map_congr_left fun i _ => ?_
  unfold ctRow
  refine List.map_congr_left fun c _ => ?_
  unfold ctCell
  by_cases h1 : c < j
  · rw [if_pos h1, if_pos (by omega)]
  · rw [if_neg h1]
    by_cases h2 : c = j
    · subst h2
      rw [if_pos rfl, if_pos (by omega), List.take_length]
    · rw [if_neg h2, if_neg (by omega)]
      by_cases h3 : c = j + 1
      · rw [if_pos h3, List.take_zero, cnt_nil]
      · rw [if_neg h3]
theorem ct_len (n : Nat) (ss : List ByteArray) (j k : Nat) : (ctAt n ss j k).length = n := by simp [ctAt]
theorem ctRow_len (n : Nat) (ss : List ByteArray) (j k i : Nat) : (ctRow n ss j k i).length = n := by simp [ctRow]
theorem ct_row {n : Nat} {ss : List ByteArray} {j k i : Nat} (h : i < n) : (ctAt n ss j k)[i]? = some (ctRow n ss j k i) := by simp [ctAt, h]
theorem ct_cell {n : Nat} {ss : List ByteArray} {j k i c : Nat} (h : c < n) : (ctRow n ss j k i)[c]? = some (ctCell ss j k i c) := by simp [ctRow, h]
theorem ct_step {n : Nat} (hn : n ≤ 3) {ss : List ByteArray} {j k i : Nat} {ch : UInt8} (hch : (wl ss j)[k]? = some ch) (hi : ch.toNat = 97 + i) (hin : i < n) :
    (ctAt n ss j k).set i ((ctRow n ss j k i).set j (ctCell ss j k i j + 1)) = ctAt n ss j (k + 1) := by
  have htk : (wl ss j).take (k + 1) = (wl ss j).take k ++ [ch] := by rw [List.take_add_one, hch]; rfl
  have hother : ∀ p c, (c ≠ j ∨ p ≠ i) → p < 100 → ctCell ss j (k + 1) p c = ctCell ss j k p c := by
    intro p c hpc hp
    unfold ctCell
    by_cases h1 : c < j
    · rw [if_pos h1, if_pos h1]
    · rw [if_neg h1, if_neg h1]
      by_cases h2 : c = j
      · subst h2
        rw [if_pos rfl, if_pos rfl, htk, cnt_snoc, if_neg, Int.add_zero]
        intro e
        have := congrArg UInt8.toNat e
        rw [hi, UInt8.toNat_ofNat'] at this
        have hpi : p ≠ i := by rcases hpc with h | h; exact absurd rfl h; exact h
        have := ch.toNat_lt
        omega
      · rw [if_neg h2, if_neg h2]
  refine List.ext_getElem (by simp [ct_len]) fun p h1 h2 => ?_
  rw [ct_len] at h2
  have e2 : (ctAt n ss j (k + 1))[p] = ctRow n ss j (k + 1) p := by simp [ctAt]
  rw [List.getElem_set, e2]
  by_cases hp : i = p
  · subst hp
    rw [if_pos rfl]
    refine List.ext_getElem (by simp [ctRow_len]) fun c h3 h4 => ?_
    rw [ctRow_len] at h4
    have e4 : (ctRow n ss j (k + 1) i)[c] = ctCell ss j (k + 1) i c := by simp [ctRow]
    rw [List.getElem_set, e4]
    by_cases hc : j = c
    · subst hc
      rw [if_pos rfl]
      unfold ctCell
      have hce : ch = UInt8.ofNat (97 + i) := by rw [← hi]; simp
      rw [if_neg (Nat.lt_irrefl _), if_pos rfl, if_neg (Nat.lt_irrefl _), if_pos rfl, htk, cnt_snoc, if_pos hce]
    · rw [if_neg hc, hother i c (Or.inl (Ne.symm hc)) (by omega)]
      simp [ctRow]
  · rw [if_neg hp]
    have e5 : (ctAt n ss j k)[p]'(by rw [ct_len]; exact h2) = ctRow n ss j k p := by simp [ctAt]
    rw [e5]
    unfold ctRow
    exact List.map_congr_left fun c _ => (hother p c (Or.inr (Ne.symm hp)) (by omega)).symm
theorem ct_bd {n : Nat} {ss : List ByteArray} {j k i : Nat} : 0 ≤ ctCell ss j k i j ∧ ctCell ss j k i j ≤ (wl ss j).length := by
  unfold ctCell
  rw [if_neg (Nat.lt_irrefl _), if_pos rfl]
  have h := cnt_bd ((wl ss j).take k) (UInt8.ofNat (97 + i))
  have h2 : ((wl ss j).take k).length ≤ (wl ss j).length := by rw [List.length_take]; omega
  omega

theorem own_form {w : World} {base e n : Nat} {v : Value} {xs : List Value} (h : w.ownsRow base e 1 v n xs) (hn : 0 < n) : ∃ g cap, v = .slice (some ⟨g, 0, none⟩) n cap ∧ base ≤ g ∧ g < w.heap.size := by
  rcases h.2 with ⟨rfl, h0⟩ | ⟨g, cap, cur, rfl, hb, hg, _⟩
  · omega
  · exact ⟨g, cap, rfl, hb, (Array.getElem?_eq_some_iff.1 hg).1⟩

