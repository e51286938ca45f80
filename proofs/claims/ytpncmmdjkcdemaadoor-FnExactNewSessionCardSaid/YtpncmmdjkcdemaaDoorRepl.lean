/- Replacing letters by words. Conditions: sizes of at most 1048576 bytes. -/
import Derived.Test.YtpncmmdjkcdemaaDoorLong
namespace Go.Proofs.YtpncmmdjkcdemaaDoor
open Go.RowKit

def wordOf (ss : List ByteArray) (c : UInt8) : List UInt8 := (ss.getD (c.toNat - 97) ByteArray.empty).data.toList
/-- All letters replaced. -/
def repl (ss : List ByteArray) (l : List UInt8) : List UInt8 := l.flatMap (wordOf ss)
theorem repl_snoc (ss : List ByteArray) (l : List UInt8) (c : UInt8) : repl ss (l ++ [c]) = repl ss l ++ wordOf ss c := by simp [repl]
theorem repl_take {ss : List ByteArray} {l : List UInt8} {j : Nat} {c : UInt8} (h : l[j]? = some c) : repl ss (l.take (j + 1)) = repl ss (l.take j) ++ wordOf ss c := by
  rw [List.take_add_one, h]; exact repl_snoc _ _ _
/-- The letters replaced, where the text is a long word, and so is what comes out. -/
def replO (ss : List ByteArray) (l : List UInt8) : Option (List UInt8) :=
  if isSubst ss = true ∧ (lets ss.length l && decide (l.length ≤ 300)) = true ∧ (repl ss l).length ≤ 300 then some (repl ss l) else none
def okO (r : Option (List UInt8)) : Bool := r.isSome
def strO (r : Option (List UInt8)) : ByteArray := ⟨(r.getD []).toArray⟩
theorem subst_word {ss : List ByteArray} (h : isSubst ss = true) {s : ByteArray} (hs : s ∈ ss) : 1 ≤ s.size ∧ s.size ≤ 4 ∧ lets ss.length s.data.toList = true := by
  rw [isSubst, Bool.and_eq_true, List.all_eq_true] at h
  have := h.2 s hs
  rw [Bool.and_eq_true, inB_iff] at this
  exact ⟨by omega, by omega, this.2⟩
theorem subst_len {ss : List ByteArray} (h : isSubst ss = true) : ss.length = 2 ∨ ss.length = 3 := by
  rw [isSubst, Bool.and_eq_true, decide_eq_true_eq] at h; exact h.1
theorem subst_get {ss : List ByteArray} (h : isSubst ss = true) {l : List UInt8} (hl : lets ss.length l = true) {j : Nat} {c : UInt8} (hc : l[j]? = some c) :
    ∃ k s, c.toNat = 97 + k ∧ k < ss.length ∧ ss[k]? = some s ∧ wordOf ss c = s.data.toList ∧ s.size ≤ 4 := by
  have h1 := List.all_eq_true.1 hl c (List.mem_of_getElem? hc)
  rw [inB_iff] at h1
  have hk : c.toNat - 97 < ss.length := by omega
  obtain ⟨s, hs⟩ := get_some hk
  exact ⟨c.toNat - 97, s, by omega, hk, hs, by rw [wordOf, List.getD_eq_getElem?_getD, hs]; rfl, (subst_word h (List.mem_of_getElem? hs)).2.1⟩
theorem repl_len {ss : List ByteArray} (h : isSubst ss = true) {l : List UInt8} (hl : lets ss.length l = true) (j : Nat) : (repl ss (l.take j)).length ≤ 4 * j := by
  induction j with
  | zero => simp [repl]
  | succ j ih =>
    cases hc : l[j]? with
    | none => rw [List.take_add_one, hc]; simp; omega
    | some c =>
      obtain ⟨k, s, _, _, _, hw, h4⟩ := subst_get h hl hc
      rw [repl_take hc, List.length_append, hw, size_list]; omega
theorem mk_app (x : List UInt8) (s : ByteArray) : (ByteArray.mk x.toArray ++ s) = ⟨(x ++ s.data.toList).toArray⟩ := by
  have : s = ⟨s.data.toList.toArray⟩ := by simp
  conv => lhs; rw [this]
  rw [ByteArray.mk_append_mk]

