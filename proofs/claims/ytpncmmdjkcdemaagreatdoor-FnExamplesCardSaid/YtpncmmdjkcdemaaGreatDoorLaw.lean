/- What the laws themselves use: equality, marks and copies of lists. Conditions: sizes within the reach. -/
import Derived.Test.YtpncmmdjkcdemaaGreatDoorStr
namespace Go.Proofs.YtpncmmdjkcdemaaGreatDoor
open Go.RowKit

def intVals (xs : List Int) : List Value := xs.map (Value.int .i64)
theorem intVals_get {ss : List Int} {k : Nat} {s : Int} (h : ss[k]? = some s) : (intVals ss)[k]? = some (.int .i64 s) := by simp [intVals, h]

theorem owns_below {w w' : World} {base e size : Nat} {v : Value} {n : Nat} {xs : List Value} (h : w.ownsRow base e size v n xs) (hb : Below w.heap.size w w') : w'.ownsRow base e size v n xs := by
  obtain ⟨h1, h2⟩ := h
  refine ⟨h1, ?_⟩
  rcases h2 with h2 | ⟨g, cap, cur, hv, hg, hh, r⟩
  · exact Or.inl h2
  · exact Or.inr ⟨g, cap, cur, hv, hg, by rw [hb.block g (Array.getElem?_eq_some_iff.1 hh).1]; exact hh, r⟩
theorem owns_base {w : World} {base base' e size : Nat} {v : Value} {n : Nat} {xs : List Value} (h : w.ownsRow base e size v n xs) (hb : base' ≤ base) : w.ownsRow base' e size v n xs := by
  obtain ⟨h1, h2⟩ := h
  refine ⟨h1, ?_⟩
  rcases h2 with h2 | ⟨g, cap, cur, hv, hg, hh, r⟩
  · exact Or.inl h2
  · exact Or.inr ⟨g, cap, cur, hv, Nat.le_trans hb hg, hh, r⟩

theorem grown_trans {a b c : World} {row : Option Nat} (h : a.grownBy b row) (k : b.grownBy c row) : a.grownBy c row :=
  ⟨k.os.trans h.os, k.tape.trans h.tape, k.output.trans h.output, Nat.le_trans h.size k.size, fun i hi hr => (k.block i (Nat.lt_of_lt_of_le hi h.size) hr).trans (h.block i hi hr)⟩

theorem below_grown {a b : World} (h : Below a.heap.size a b) (row : Option Nat) : a.grownBy b row := ⟨h.os, h.tape, h.output, h.size, fun k hk _ => h.block k hk⟩

def marks (k n : Nat) : List Value := (List.range n).map fun i => .int .i64 ((k + i : Nat) : Int)
theorem marks_len (k n : Nat) : (marks k n).length = n := by simp [marks]
theorem marks_get {k n i : Nat} (h : i < n) : (marks k n)[i]? = some (.int .i64 ((k + i : Nat) : Int)) := by simp [marks, h]

/-- The first j cells bear marks, the others are as they were. -/
def marked (ms xs : List Value) (j : Nat) : List Value := ms.take j ++ xs.drop j
theorem marked_zero (ms xs : List Value) : marked ms xs 0 = xs := by simp [marked]
theorem marked_all {ms xs : List Value} {n : Nat} (h : xs.length = n) (h2 : ms.length = n) : marked ms xs n = ms := by
  simp [marked, List.drop_of_length_le (Nat.le_of_eq h), List.take_of_length_le (Nat.le_of_eq h2)]
theorem marked_step {ms xs : List Value} {j n : Nat} {u : Value} (hn : xs.length = n) (h2 : ms.length = n) (h : j < n) (hu : ms[j]? = some u) : (marked ms xs j).set j u = marked ms xs (j + 1) := by
  have h3 : (ms.take j).length = j := by simp; omega
  unfold marked
  rw [List.set_append_right _ _ (by omega), h3, Nat.sub_self, List.take_add_one, hu]
  have hd : xs.drop j = xs[j]'(by omega) :: xs.drop (j + 1) := List.drop_eq_getElem_cons (by omega)
  rw [hd, List.set_cons_zero]; simp

