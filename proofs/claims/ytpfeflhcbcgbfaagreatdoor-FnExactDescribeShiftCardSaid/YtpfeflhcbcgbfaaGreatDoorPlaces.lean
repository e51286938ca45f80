/- Places of a part in a text. Conditions: sizes of at most 1048576 bytes. -/
import Derived.Test.YtpfeflhcbcgbfaaGreatDoorNumber
import Derived.Lib.IndexBytes
namespace Go.Proofs.YtpfeflhcbcgbfaaGreatDoor
open Go.RowKit

/-- Does p begin in s at the place j? -/
def occ (s p : List UInt8) (j : Nat) : Bool := p.isPrefixOf (s.drop j)
theorem prefix_beq (p l : List UInt8) : (l.take p.length == p) = p.isPrefixOf l := by
  rw [Bool.eq_iff_iff, beq_iff_eq, List.isPrefixOf_iff_prefix, List.prefix_iff_eq_take]
  exact ⟨fun h => h.symm, fun h => h.symm⟩
theorem occ_ext (s p : ByteArray) (j : Nat) : ((s.extract j (j + p.size)).toList == p.toList) = occ s.data.toList p.data.toList j := by
  rw [ByteArray.toList_eq, ByteArray.toList_eq, Lib.extract_data, Nat.add_sub_cancel_left, occ, ← size_list p, prefix_beq]
def hasPre (s p : ByteArray) : Bool := p.data.toList.isPrefixOf s.data.toList
theorem pre_ext (s p : ByteArray) : ((s.extract 0 p.size).toList == p.toList) = hasPre s p := by
  have := occ_ext s p 0
  rw [Nat.zero_add] at this
  rw [this, occ, List.drop_zero]; rfl
def pl (s p : List UInt8) (n : Nat) : List Int := ((List.range n).filter (occ s p)).map fun j : Nat => (j : Int)
theorem pl_hit {s p : List UInt8} {n : Nat} (h : occ s p n = true) : pl s p (n + 1) = pl s p n ++ [(n : Int)] := by simp [pl, List.range_succ, List.filter_append, h]
theorem pl_miss {s p : List UInt8} {n : Nat} (h : occ s p n = false) : pl s p (n + 1) = pl s p n := by simp [pl, List.range_succ, List.filter_append, h]
theorem pl_le (s p : List UInt8) (n : Nat) : (pl s p n).length ≤ n := by
  simp only [pl, List.length_map]
  exact Nat.le_trans (List.length_filter_le _ _) (by simp)
theorem pl_ext {s p : List UInt8} {n : Nat} (h : ∀ j, n ≤ j → occ s p j = false) : ∀ m, n ≤ m → pl s p m = pl s p n := by
  intro m hm
  induction m with
  | zero => obtain rfl : n = 0 := by omega
            rfl
  | succ m ih =>
    by_cases he : n = m + 1
    · rw [he]
    · rw [pl_miss (h m (by omega)), ih (by omega)]
theorem occ_len {s p : List UInt8} {j : Nat} (h : occ s p j = true) : p = [] ∨ j + p.length ≤ s.length := by
  have h2 := (List.isPrefixOf_iff_prefix.1 h).length_le
  rw [List.length_drop] at h2
  by_cases hp : p = []
  · exact .inl hp
  · have : 0 < p.length := List.length_pos_iff.2 hp
    exact .inr (by omega)
theorem occ_past {s p : List UInt8} {j : Nat} (hp : p ≠ []) (h : s.length < j + p.length) : occ s p j = false := by
  cases he : occ s p j with
  | false => rfl
  | true => rcases occ_len he with h1 | h1
            · exact absurd h1 hp
            · omega
/-- A part of a text has its letters. -/
theorem occ_lets {k : Int} {s p : List UInt8} {j : Nat} (h : occ s p j = true) (hl : lets k s = true) : lets k p = true := by
  have h2 := List.isPrefixOf_iff_prefix.1 h
  unfold lets at *
  rw [List.all_eq_true] at *
  exact fun x hx => hl x (List.mem_of_mem_drop (h2.subset hx))
/-- The places of a part in a long text. -/
def plOf (s p : List UInt8) : List Int := if p ≠ [] ∧ (lets 3 s && decide (s.length ≤ 300)) = true then pl s p s.length else []
theorem plOf_none {s p : List UInt8} (hp : p ≠ []) (h : (lets 3 p && decide (p.length ≤ 300)) = false) : plOf s p = [] := by
  unfold plOf
  split
  · rename_i hc
    have hs := hc.2
    simp only [Bool.and_eq_true, decide_eq_true_eq] at hs
    have : ∀ j, 0 ≤ j → occ s p j = false := fun j _ => by
      cases he : occ s p j with
      | false => rfl
      | true =>
        have h1 := occ_lets he hs.1
        rcases occ_len he with h2 | h2
        · exact absurd h2 hp
        · rw [h1] at h; simp at h; omega
    rw [pl_ext this _ (Nat.zero_le _)]; simp [pl]
  · rfl

theorem infoInt : (Tryz.prog.info? 3).map (fun i => (i.zero, i.size, i.bytes)) = some (some (.int .i64 0), 1, 8) := by kernel_rfl

set_option maxHeartbeats 1000000 in
theorem slHasPrefix_c (s p : ByteArray) (w : World) (hs : s.size ≤ maxLen) (hp : p.size ≤ maxLen) :
    Calls Tryz.prog 171 #[.string s, .string p] w fun e w' => e = .returned (.bool (hasPre s p)) ∧ w = w' := by
  unfold maxLen at hs hp
  by_cases h : p.size ≤ s.size
  · go_enter Tryz.func171, Tryz.ntmps171
    go_wp2
    go_ret
    exact ⟨ret_bool (pre_ext s p), rfl⟩
  · go_enter Tryz.func171, Tryz.ntmps171
    go_wp2
    go_ret
    refine ⟨ret_bool ?_, rfl⟩
    cases he : hasPre s p with
    | false => rfl
    | true => have := (List.isPrefixOf_iff_prefix.1 he).length_le; rw [size_list, size_list] at this; omega

set_option maxHeartbeats 1000000 in
theorem hasPrefix_c (s p : ByteArray) (w : World) (hs : s.size ≤ maxLen) (hp : p.size ≤ maxLen) :
    Calls Tryz.prog 153 #[.string s, .string p] w fun e w' => e = .returned (.bool (hasPre s p)) ∧ w = w' := by
  go_enter Tryz.func153, Tryz.ntmps153
  go_wp2_with fail
  refine (slHasPrefix_c s p _ hs hp).mono ?_
  rintro e w' ⟨rfl, rfl⟩
  go_wp2
  go_ret
  exact ⟨rfl, rfl⟩

/-- What both functions return: the places, in new memory. -/
def PlPost (s p : ByteArray) (w : World) (e : Ending) (w' : World) : Prop :=
  ∃ v, e = .returned v ∧ w'.ownsRow w.heap.size 3 1 v (plOf s.data.toList p.data.toList).length (intVals (plOf s.data.toList p.data.toList)) ∧ Below w.heap.size w w'
theorem intVals_snoc (xs : List Int) (x : Int) : intVals (xs ++ [x]) = intVals xs ++ [.int .i64 x] := by simp [intVals]
theorem plPost_mk {s p : ByteArray} {w w' : World} {v : Value} {xs : List Int} (hx : plOf s.data.toList p.data.toList = xs) (ho : w'.ownsRow w.heap.size 3 1 v xs.length (intVals xs)) (hb : Below w.heap.size w w') : PlPost s p w (.returned v) w' :=
  ⟨v, rfl, by rw [hx]; exact ho, hb⟩

end Go.Proofs.YtpfeflhcbcgbfaaGreatDoor
