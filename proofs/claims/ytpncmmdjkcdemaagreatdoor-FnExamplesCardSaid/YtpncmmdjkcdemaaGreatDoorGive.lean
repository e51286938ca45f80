/- The letter that a code gives to a word: both functions. Conditions: a word of the code's letters, at most 4 places, the code's letters for each. -/
import Derived.Test.YtpncmmdjkcdemaaGreatDoorWords
import Derived.Test.YtpncmmdjkcdemaaGreatDoorCode
import Derived.Test.YtpncmmdjkcdemaaGreatDoorZero
import Derived.Test.YtpncmmdjkcdemaaGreatDoorRule
import Derived.Test.YtpncmmdjkcdemaaGreatDoorOpen
namespace Go.Proofs.YtpncmmdjkcdemaaGreatDoor
open Go.RowKit

def giveB (o : ByteArray) (q : Nat) : UInt8 := o.data.toList.getD q 0
theorem giveB_at {o : ByteArray} {q : Nat} (h : q < o.size) : giveB o q = o[q] := by
  unfold giveB; rw [List.getD_eq_getElem?_getD, byte_at o q h]; rfl
theorem one_ext {o : ByteArray} {q : Nat} (h : q < o.size) : o.extract q (q + 1) = ⟨#[giveB o q]⟩ := by
  rw [giveB_at h]
  have h' : q < o.data.size := h
  apply ByteArray.ext
  rw [ByteArray.data_extract]
  apply Array.ext
  · simp; omega
  · intro i h1 h2
    have hi : i = 0 := by simp at h2; omega
    subst hi
    simp
    rfl
theorem idx_bd {k : Nat} {l : List UInt8} (hl : lets k l = true) (hk : k ≤ 3) : idxOf k l < k ^ l.length := by
  have := idxOf_lt hl hk l.length (Nat.le_refl _)
  rwa [List.take_length] at this

/-- What a code is, as facts. -/
theorem code_facts {k n : Int} {o : ByteArray} (h : isCode k n o = true) : ∃ kk nn : Nat, k = kk ∧ n = nn ∧ (kk = 2 ∨ kk = 3) ∧ (1 ≤ nn ∧ nn ≤ 4) ∧ kk ^ nn ≤ 27 ∧ o.size = kk ^ nn ∧ lets kk o.data.toList = true := by
  simp only [isCode, Bool.and_eq_true, decide_eq_true_eq] at h
  obtain ⟨⟨h1, h2, h3, h4⟩, h5⟩ := h
  obtain ⟨kk, rfl⟩ : ∃ kk : Nat, k = kk := ⟨k.toNat, by omega⟩
  obtain ⟨nn, rfl⟩ : ∃ nn : Nat, n = nn := ⟨n.toNat, by omega⟩
  rw [Int.toNat_natCast, Int.toNat_natCast] at h3 h4
  exact ⟨kk, nn, rfl, rfl, by omega, by omega, h3, h4, h5⟩

