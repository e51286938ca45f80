/- What the laws themselves use: equality, marks and copies of lists. Conditions: sizes within the reach. -/
import Derived.Test.YtpfeflhcbcgbfaaGreatDoorSmall
namespace Go.Proofs.YtpfeflhcbcgbfaaGreatDoor
open Go.RowKit

/-- All letters of a text lie from a on, below a + k. -/
def lets (k : Int) (l : List UInt8) : Bool := l.all fun c => inB ((c.toNat : Int) - 97) 0 (k - 1)
def strVals (ss : List ByteArray) : List Value := ss.map Value.string

theorem strVals_get {ss : List ByteArray} {k : Nat} {s : ByteArray} (h : ss[k]? = some s) : (strVals ss)[k]? = some (.string s) := by simp [strVals, h]

/-- A substitution. -/
def isSubst (ss : List ByteArray) : Bool := decide (ss.length = 2 ∨ ss.length = 3) && ss.all (fun s => inB s.size 1 4 && lets ss.length s.data.toList)
set_option maxHeartbeats 400000 in
theorem l1In_c (x lo hi : Int) (w : World) :
    Calls Tryz.prog 58 #[.int .i64 x, .int .i64 lo, .int .i64 hi] w fun e w' => e = .returned (.bool (inB x lo hi)) ∧ w = w' := by
  by_cases h1 : lo ≤ x <;> by_cases h2 : x ≤ hi <;> {
      go_enter Tryz.func58, Tryz.ntmps58
      go_wp2
      go_ret
      exact ⟨by simp [inB, h1, h2], rfl⟩ }

set_option maxHeartbeats 400000 in
theorem areLetters_c (k : Int) (s : ByteArray) (w : World) (hs : s.size ≤ maxLen) (hk : -100 ≤ k ∧ k ≤ 140737488355328) :
    Calls Tryz.prog 70 #[.int .i64 k, .string s] w fun e w' => e = .returned (.bool (lets k s.data.toList)) ∧ w = w' := by
  unfold maxLen at hs
  go_enter Tryz.func70, Tryz.ntmps70
  go_wp2
  go_loop [8] (fun i => ∃ n : Nat, n ≤ s.size ∧ i = .int .i64 n ∧ Hid (lets k (s.data.toList.take n) = true)) (fun i => s.size - (intOf i).toNat)
  case atStart => exact ⟨0, Nat.zero_le _, rfl, rfl⟩
  case round =>
    obtain ⟨n, hn, rfl, H⟩ := hrel
    by_cases hlt : n < s.size
    · have hb : s[n].toNat < 256 := s[n].toNat_lt
      go_wp2
      · have hc : k ≤ (s[n].toNat : Int) - 97 := by omega
        go_ret
        exact ⟨ret_bool (by rw [show lets k s.data.toList = false from all_stop (byte_at s n hlt) (inB_f (by omega))]), rfl⟩
      · have hc : (s[n].toNat : Int) - 97 < k := by omega
        go_round
        case rel => exact ⟨n + 1, by omega, by go_num, all_step (byte_at s n hlt) H.out (inB_t (by omega))⟩
        case measure => simp [intOf]; omega
      · go_ret
        exact ⟨ret_bool (by rw [show lets k s.data.toList = false from all_stop (byte_at s n hlt) (inB_f (by omega))]), rfl⟩
    · go_wp2
      go_ret
      exact ⟨ret_bool (all_end H.out (by rw [size_list]; omega)).symm, rfl⟩


theorem isSubst_no {ss : List ByteArray} {k n : Nat} {s : ByteArray} (h : ss[k]? = some s) (hn : ss.length = n) (hb : ((s.size : Int) < 1 ∨ 4 < (s.size : Int)) ∨ (!lets n s.data.toList) = true) : isSubst ss = false := by
  rw [isSubst, all_stop h ?_, Bool.and_false]
  rw [hn]
  rcases hb with hb | hb
  · rw [inB_f hb]; rfl
  · simp at hb; rw [hb, Bool.and_false]

end Go.Proofs.YtpfeflhcbcgbfaaGreatDoor
namespace Go.Proofs.YtpfeflhcbcgbfaaGreatDoor
open Go.RowKit

def intVals (xs : List Int) : List Value := xs.map (Value.int .i64)
theorem intVals_get {ss : List Int} {k : Nat} {s : Int} (h : ss[k]? = some s) : (intVals ss)[k]? = some (.int .i64 s) := by simp [intVals, h]

theorem owns_below {w w' : World} {base e size : Nat} {v : Value} {n : Nat} {xs : List Value} (h : w.ownsRow base e size v n xs) (hb : Below w.heap.size w w') : w'.ownsRow base e size v n xs := by
  obtain ⟨h1, h2⟩ := h
  refine ⟨h1, ?_⟩
  rcases h2 with h2 | ⟨g, cap, cur, hv, hg, hh, r⟩
  · exact Or.inl h2
  · exact Or.inr ⟨g, cap, cur, hv, hg, by rw [hb.block g (Array.getElem?_eq_some_iff.1 hh).1]; exact hh, r⟩
theorem owns_base {w : World} {base base' e size : Nat} {v : Value} {n : Nat} {xs : List Value} (h : w.ownsRow base e size v n xs) (hb : base' ≤ base) : w.ownsRow base' e size v n xs := by
  obtain ⟨h1, h2⟩ := h
  refine ⟨h1, ?_⟩
  rcases h2 with h2 | ⟨g, cap, cur, hv, hg, hh, r⟩
  · exact Or.inl h2
  · exact Or.inr ⟨g, cap, cur, hv, Nat.le_trans hb hg, hh, r⟩

theorem grown_trans {a b c : World} {row : Option Nat} (h : a.grownBy b row) (k : b.grownBy c row) : a.grownBy c row :=
  ⟨k.os.trans h.os, k.tape.trans h.tape, k.output.trans h.output, Nat.le_trans h.size k.size, fun i hi hr => (k.block i (Nat.lt_of_lt_of_le hi h.size) hr).trans (h.block i hi hr)⟩

theorem below_grown {a b : World} (h : Below a.heap.size a b) (row : Option Nat) : a.grownBy b row := ⟨h.os, h.tape, h.output, h.size, fun k hk _ => h.block k hk⟩

def marks (k n : Nat) : List Value := (List.range n).map fun i => .int .i64 ((k + i : Nat) : Int)
theorem marks_len (k n : Nat) : (marks k n).length = n := by simp [marks]
theorem marks_get {k n i : Nat} (h : i < n) : (marks k n)[i]? = some (.int .i64 ((k + i : Nat) : Int)) := by simp [marks, h]

/-- The first j cells bear marks, the others are as they were. -/
def marked (ms xs : List Value) (j : Nat) : List Value := ms.take j ++ xs.drop j
theorem marked_zero (ms xs : List Value) : marked ms xs 0 = xs := by simp [marked]
theorem marked_all {ms xs : List Value} {n : Nat} (h : xs.length = n) (h2 : ms.length = n) : marked ms xs n = ms := by
  simp [marked, List.drop_of_length_le (Nat.le_of_eq h), List.take_of_length_le (Nat.le_of_eq h2)]
theorem marked_step {ms xs : List Value} {j n : Nat} {u : Value} (hn : xs.length = n) (h2 : ms.length = n) (h : j < n) (hu : ms[j]? = some u) : (marked ms xs j).set j u = marked ms xs (j + 1) := by
  have h3 : (ms.take j).length = j := by simp; omega
  unfold marked
  rw [List.set_append_right _ _ (by omega), h3, Nat.sub_self, List.take_add_one, hu]
  have hd : xs.drop j = xs[j]'(by omega) :: xs.drop (j + 1) := List.drop_eq_getElem_cons (by omega)
  rw [hd, List.set_cons_zero]; simp

set_option maxHeartbeats 1000000 in
theorem eqIntS_c (a b : Option Addr) (n c d : Nat) (xs : List Int) (w : World) (ha : RowAt w a n (intVals xs)) (hb : RowAt w b n (intVals xs)) :
    Calls Tryz.prog 56 #[.slice a n c, .slice b n d] w fun e w' => e = .returned (.bool true) ∧ Below w.heap.size w w' := by
  obtain ⟨hl, hlim, hat⟩ := ha
  obtain ⟨_, _, hbt⟩ := hb
  have hlen := hid (show xs.length = n by simpa [intVals] using hl)
  clear hl
  by_cases hn : n = 0
  · subst hn
    clear hat hbt
    go_enter Tryz.func56, Tryz.ntmps56
    go_wp2
    refine wp_loop_rounds 1 ?_
    rw [rounds_succ]
    go_wp2
    go_ret
    exact ⟨rfl, Below.refl _ _⟩
  · obtain ⟨b1, off1, rfl, hb1, hc1⟩ := hat (by omega)
    obtain ⟨b2, off2, rfl, hb2, hc2⟩ := hbt (by omega)
    clear hat hbt
    have HC1 := hid hc1
    have HC2 := hid hc2
    clear hc1 hc2
    go_enter Tryz.func56, Tryz.ntmps56
    go_wp2
    go_loopw [5] (fun i wr => ∃ k : Nat, k ≤ n ∧ i = .int .i64 k ∧ Below w.heap.size w wr) (fun i _ => n - (intOf i).toNat)
    case atStart => exact ⟨0, by omega, rfl, Below.refl _ _⟩
    case round =>
      obtain ⟨k, hk, rfl, hbel⟩ := hrel
      by_cases hlt : k < n
      · obtain ⟨s, hsk⟩ := get_some (l := xs) (n := k) (by rw [hlen.out]; exact hlt)
        have hcell1 := (hbel.cell (p := ⟨b1, off1 + k, none⟩) hb1).trans (HC1.out k _ (intVals_get hsk))
        have hcell2 := (hbel.cell (p := ⟨b2, off2 + k, none⟩) hb2).trans (HC2.out k _ (intVals_get hsk))
        clear hsk
        go_wp2
        go_quiet (fail)
        go_wp2
        go_roundw
        case rel => exact ⟨k + 1, by omega, by go_num, below_drewN hbel _⟩
        case measure => simp [intOf]; omega
      · go_wp2
        go_ret
        exact ⟨rfl, hbel⟩

set_option maxHeartbeats 1000000 in
theorem eqStringS_c (a b : Option Addr) (n c d : Nat) (xs : List ByteArray) (w : World) (ha : RowAt w a n (strVals xs)) (hb : RowAt w b n (strVals xs)) :
    Calls Tryz.prog 36 #[.slice a n c, .slice b n d] w fun e w' => e = .returned (.bool true) ∧ Below w.heap.size w w' := by
  obtain ⟨hl, hlim, hat⟩ := ha
  obtain ⟨_, _, hbt⟩ := hb
  have hlen := hid (show xs.length = n by simpa [strVals] using hl)
  clear hl
  by_cases hn : n = 0
  · subst hn
    clear hat hbt
    go_enter Tryz.func36, Tryz.ntmps36
    go_wp2
    refine wp_loop_rounds 1 ?_
    rw [rounds_succ]
    go_wp2
    go_ret
    exact ⟨rfl, Below.refl _ _⟩
  · obtain ⟨b1, off1, rfl, hb1, hc1⟩ := hat (by omega)
    obtain ⟨b2, off2, rfl, hb2, hc2⟩ := hbt (by omega)
    clear hat hbt
    have HC1 := hid hc1
    have HC2 := hid hc2
    clear hc1 hc2
    go_enter Tryz.func36, Tryz.ntmps36
    go_wp2
    go_loopw [5] (fun i wr => ∃ k : Nat, k ≤ n ∧ i = .int .i64 k ∧ Below w.heap.size w wr) (fun i _ => n - (intOf i).toNat)
    case atStart => exact ⟨0, by omega, rfl, Below.refl _ _⟩
    case round =>
      obtain ⟨k, hk, rfl, hbel⟩ := hrel
      by_cases hlt : k < n
      · obtain ⟨s, hsk⟩ := get_some (l := xs) (n := k) (by rw [hlen.out]; exact hlt)
        have hcell1 := (hbel.cell (p := ⟨b1, off1 + k, none⟩) hb1).trans (HC1.out k _ (strVals_get hsk))
        have hcell2 := (hbel.cell (p := ⟨b2, off2 + k, none⟩) hb2).trans (HC2.out k _ (strVals_get hsk))
        clear hsk
        go_wp2
        go_quiet (fail)
        go_wp2
        go_roundw
        case rel => exact ⟨k + 1, by omega, by go_num, below_drewN hbel _⟩
        case measure => simp [intOf]; omega
      · go_wp2
        go_ret
        exact ⟨rfl, hbel⟩

end Go.Proofs.YtpfeflhcbcgbfaaGreatDoor
