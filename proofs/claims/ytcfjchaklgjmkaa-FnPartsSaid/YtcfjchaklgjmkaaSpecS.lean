/- Parts that are followed by different letters: the plain law. No condition. -/
import Derived.Test.YtcfjchaklgjmkaaPartC
import Derived.Test.YtcfjchaklgjmkaaReturns
namespace Go.Proofs.Ytcfjchaklgjmkaa
open Go.RowKit

def pf (n : Nat) (x : ByteArray) : ByteArray := x.extract 0 n
theorem pf_dl (n : Nat) (x : ByteArray) : dl (pf n x) = (dl x).take n := by
  unfold dl pf
  rw [ByteArray.data_extract, Array.toList_extract]
  simp
theorem take_mono : ∀ (n : Nat) (x y : List UInt8), ltL x y = true → ltL (y.take n) (x.take n) = false
  | 0, _, _, _ => by simp [ltL]
  | n + 1, [], [], h => by simp [ltL] at h
  | n + 1, [], b :: y, _ => by simp [ltL]
  | n + 1, a :: x, [], h => by simp [ltL] at h
  | n + 1, a :: x, b :: y, h => by
    simp only [ltL, decide_eq_true_eq, List.cons_lt_cons_iff] at h
    simp only [ltL, decide_eq_false_iff_not, List.take_succ_cons, List.cons_lt_cons_iff]
    rintro (h1 | ⟨h1, h2⟩)
    · rcases h with h | ⟨h, _⟩
      · exact absurd (UInt8.lt_trans h h1) (UInt8.lt_irrefl _)
      · rw [h] at h1; exact absurd h1 (UInt8.lt_irrefl _)
    · rcases h with h | ⟨_, h⟩
      · rw [h1] at h; exact absurd h (UInt8.lt_irrefl _)
      · have := take_mono n x y (by simp [ltL, h])
        simp only [ltL, decide_eq_false_iff_not] at this
        exact this h2
theorem pf_mono {n : Nat} {x y : ByteArray} (h : ltB x y = true) : ltB (pf n y) (pf n x) = false := by
  rw [ltB_eq] at *
  show ltL (dl (pf n y)) (dl (pf n x)) = false
  rw [pf_dl, pf_dl]
  exact take_mono n _ _ h
theorem ins_last {acc : List ByteArray} {u : ByteArray} (h : Asc ltB acc) (hu : ∀ a ∈ acc, ltB u a = false) : ins ltB acc u = addB acc u := by
  refine asc_eq ordB (ins_asc ordB h) ?_ fun x => ?_
  · unfold addB
    split
    · exact h
    · rename_i hn
      unfold Asc
      rw [List.pairwise_append]
      refine ⟨h, by simp, fun a ha b hb => ?_⟩
      simp at hb
      subst hb
      cases hc : ltB a b
      · refine absurd ?_ hn
        have := ordB.tot a b hc (hu a ha)
        unfold hasB
        rw [List.any_eq_true]
        exact ⟨a, ha, by rw [this]; simp⟩
      · rfl
  · rw [ins_mem]
    unfold addB
    split
    · rename_i hy
      unfold hasB at hy
      rw [List.any_eq_true] at hy
      obtain ⟨y, hy1, hy2⟩ := hy
      have : y = u := by rw [beq_iff_eq, Lib.toList_data, Lib.toList_data] at hy2; exact bytes_eq hy2
      rw [this] at hy1
      exact ⟨fun h => h.elim (fun e => by rw [e]; exact hy1) id, Or.inr⟩
    · rw [List.mem_append, List.mem_singleton, or_comm]
/-- What was kept of the first j + 1 parts. -/
def sq (L : List ByteArray) (n : Nat) : Nat → List ByteArray
  | 0 => []
  | j + 1 => if pf n (L.getD (j + 1) ByteArray.empty) = pf n (L.getD j ByteArray.empty) then ins ltB (sq L n j) (pf n (L.getD (j + 1) ByteArray.empty)) else sq L n j
theorem sq_facts (L : List ByteArray) (n : Nat) : ∀ j, Asc ltB (sq L n j) ∧ ∀ a ∈ sq L n j, ∃ i, i ≤ j ∧ a = pf n (L.getD i ByteArray.empty)
  | 0 => ⟨List.Pairwise.nil, fun a h => by cases h⟩
  | j + 1 => by
    obtain ⟨h1, h2⟩ := sq_facts L n j
    unfold sq
    split
    · refine ⟨ins_asc ordB h1, fun a ha => ?_⟩
      rcases ins_mem.1 ha with e | ha
      · exact ⟨j + 1, Nat.le_refl _, e⟩
      · obtain ⟨i, hi, e⟩ := h2 a ha; exact ⟨i, by omega, e⟩
    · refine ⟨h1, fun a ha => ?_⟩
      obtain ⟨i, hi, e⟩ := h2 a ha; exact ⟨i, by omega, e⟩
theorem sq_len (L : List ByteArray) (n : Nat) : ∀ j, (sq L n j).length ≤ j
  | 0 => by simp [sq]
  | j + 1 => by
    have h := sq_len L n j
    unfold sq
    split
    · have := ins_len (lt := ltB) (sq L n j) (pf n (L.getD (j + 1) ByteArray.empty)); omega
    · omega
theorem sq_add {L : List ByteArray} {n j : Nat} (hL : Asc ltB L) (hj : j + 1 < L.length) : ins ltB (sq L n j) (pf n (L.getD (j + 1) ByteArray.empty)) = addB (sq L n j) (pf n (L.getD (j + 1) ByteArray.empty)) := by
  obtain ⟨h1, h2⟩ := sq_facts L n j
  refine ins_last h1 fun a ha => ?_
  obtain ⟨i, hi, rfl⟩ := h2 a ha
  refine pf_mono ?_
  have := List.pairwise_iff_getElem.1 hL i (j + 1) (by omega) hj (by omega)
  rw [List.getD_eq_getElem?_getD, List.getD_eq_getElem?_getD, List.getElem?_eq_getElem (by omega), List.getElem?_eq_getElem hj]
  exact this
theorem pts_asc (s : ByteArray) (n : Nat) : Asc ltB (pts s n) := (insAll_facts ordB _).1
theorem pts_size {s : ByteArray} {n : Nat} {x : ByteArray} (h : x ∈ pts s n) : x.size = n := by
  have := ((insAll_facts ordB _).2 x).1 h
  obtain ⟨i, hi, rfl⟩ := List.mem_map.1 this
  have := List.mem_range.1 hi
  rw [ByteArray.size_extract]
  omega
/-- The parts of the length n that are followed by different letters. -/
def specials (s : ByteArray) (n : Nat) : List ByteArray := sq (pts s (n + 1)) n ((pts s (n + 1)).length - 1)
def specOf (s : ByteArray) (n : Int) : List ByteArray := if (fitW s && inB n 0 20) = true then specials s n.toNat else []
theorem specOf_le (s : ByteArray) (n : Int) (hs : s.size ≤ 1048576) : (specOf s n).length ≤ 1048577 := by
  unfold specOf
  split
  · have h1 := sq_len (pts s (n.toNat + 1)) n.toNat ((pts s (n.toNat + 1)).length - 1)
    have h2 := pts_le s (n.toNat + 1)
    unfold specials
    omega
  · simp
def SpecPost (s : ByteArray) (n : Int) (w : World) (e : Ending) (w' : World) : Prop := ∃ v, e = .returned v ∧ w'.ownsRow w.heap.size 9 1 v (specOf s n).length (strVals (specOf s n)) ∧ Below w.heap.size w w'
end Go.Proofs.Ytcfjchaklgjmkaa
