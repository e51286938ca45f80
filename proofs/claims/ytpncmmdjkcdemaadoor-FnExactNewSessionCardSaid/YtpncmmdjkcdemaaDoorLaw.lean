/- What the laws themselves use: equality, marks and copies of lists. Conditions: sizes within the reach. -/
import Derived.Test.YtpncmmdjkcdemaaDoorStr
namespace Go.Proofs.YtpncmmdjkcdemaaDoor
open Go.RowKit

def intVals (xs : List Int) : List Value := xs.map (Value.int .i64)
theorem intVals_get {ss : List Int} {k : Nat} {s : Int} (h : ss[k]? = some s) : (intVals ss)[k]? = some (.int .i64 s) := by simp [intVals, h]

theorem owns_below {w w' : World} {base e size : Nat} {v : Value} {n : Nat} {xs : List Value} (h : w.ownsRow base e size v n xs) (hb : Below w.heap.size w w') : w'.ownsRow base e size v n xs := by
  obtain ⟨h1, h2⟩ := h
  refine ⟨h1, ?_⟩
  rcases h2 with h2 | ⟨g, cap, cur, hv, hg, hh, r⟩
  · exact Or.inl h2
  · exact Or.inr ⟨g, cap, cur, hv, hg, by rw [hb.block g (Array.getElem?_eq_some_iff.1 hh).1]; exact hh, r⟩
theorem owns_base {w : World} {base base' e size : Nat} {v : Value} {n : Nat} {xs : List Value} (h : w.ownsRow base e size v n xs) (hb : base' ≤ base) : w.ownsRow base' e size v n xs := by
  obtain ⟨h1, h2⟩ := h
  refine ⟨h1, ?_⟩
  rcases h2 with h2 | ⟨g, cap, cur, hv, hg, hh, r⟩
  · exact Or.inl h2
  · exact Or.inr ⟨g, cap, cur, hv, Nat.le_trans hb hg, hh, r⟩

theorem grown_trans {a b c : World} {row : Option Nat} (h : a.grownBy b row) (k : b.grownBy c row) : a.grownBy c row :=
  ⟨k.os.trans h.os, k.tape.trans h.tape, k.output.trans h.output, Nat.le_trans h.size k.size, fun i hi hr => (k.block i (Nat.lt_of_lt_of_le hi h.size) hr).trans (h.block i hi hr)⟩

theorem below_grown {a b : World} (h : Below a.heap.size a b) (row : Option Nat) : a.grownBy b row := ⟨h.os, h.tape, h.output, h.size, fun k hk _ => h.block k hk⟩

def marks (k n : Nat) : List Value := (List.range n).map fun i => .int .i64 ((k + i : Nat) : Int)
theorem marks_len (k n : Nat) : (marks k n).length = n := by simp [marks]
theorem marks_get {k n i : Nat} (h : i < n) : (marks k n)[i]? = some (.int .i64 ((k + i : Nat) : Int)) := by simp [marks, h]

/-- The first j cells bear marks, the others are as they were. -/
def marked (ms xs : List Value) (j : Nat) : List Value := ms.take j ++ xs.drop j
theorem marked_zero (ms xs : List Value) : marked ms xs 0 = xs := by simp [marked]
theorem marked_all {ms xs : List Value} {n : Nat} (h : xs.length = n) (h2 : ms.length = n) : marked ms xs n = ms := by
  simp [marked, List.drop_of_length_le (Nat.le_of_eq h), List.take_of_length_le (Nat.le_of_eq h2)]
theorem marked_step {ms xs : List Value} {j n : Nat} {u : Value} (hn : xs.length = n) (h2 : ms.length = n) (h : j < n) (hu : ms[j]? = some u) : (marked ms xs j).set j u = marked ms xs (j + 1) := by
  have h3 : (ms.take j).length = j := by simp; omega
  unfold marked
  rw [List.set_append_right _ _ (by omega), h3, Nat.sub_self, List.take_add_one, hu]
  have hd : xs.drop j = xs[j]'(by omega) :: xs.drop (j + 1) := List.drop_eq_getElem_cons (by omega)
  rw [hd, List.set_cons_zero]; simp

set_option maxHeartbeats 1000000 in
theorem eqIntS_c (a b : Option Addr) (n c d : Nat) (xs : List Int) (w : World) (ha : RowAt w a n (intVals xs)) (hb : RowAt w b n (intVals xs)) :
    Calls Tryd.prog 28 #[.slice a n c, .slice b n d] w fun e w' => e = .returned (.bool true) ∧ Below w.heap.size w w' := by
  obtain ⟨hl, hlim, hat⟩ := ha
  obtain ⟨_, _, hbt⟩ := hb
  have hlen := hid (show xs.length = n by simpa [intVals] using hl)
  clear hl
  by_cases hn : n = 0
  · subst hn
    clear hat hbt
    go_enter Tryd.func28, Tryd.ntmps28
    go_wp2
    refine wp_loop_rounds 1 ?_
    rw [rounds_succ]
    go_wp2
    go_ret
    exact ⟨rfl, Below.refl _ _⟩
  · obtain ⟨b1, off1, rfl, hb1, hc1⟩ := hat (by omega)
    obtain ⟨b2, off2, rfl, hb2, hc2⟩ := hbt (by omega)
    clear hat hbt
    have HC1 := hid hc1
    have HC2 := hid hc2
    clear hc1 hc2
    go_enter Tryd.func28, Tryd.ntmps28
    go_wp2
    go_loopw [5] (fun i wr => ∃ k : Nat, k ≤ n ∧ i = .int .i64 k ∧ Below w.heap.size w wr) (fun i _ => n - (intOf i).toNat)
    case atStart => exact ⟨0, by omega, rfl, Below.refl _ _⟩
    case round =>
      obtain ⟨k, hk, rfl, hbel⟩ := hrel
      by_cases hlt : k < n
      · obtain ⟨s, hsk⟩ := get_some (l := xs) (n := k) (by rw [hlen.out]; exact hlt)
        have hcell1 := (hbel.cell (p := ⟨b1, off1 + k, none⟩) hb1).trans (HC1.out k _ (intVals_get hsk))
        have hcell2 := (hbel.cell (p := ⟨b2, off2 + k, none⟩) hb2).trans (HC2.out k _ (intVals_get hsk))
        clear hsk
        go_wp2
        go_quiet (fail)
        go_wp2
        go_roundw
        case rel => exact ⟨k + 1, by omega, by go_num, below_drewN hbel _⟩
        case measure => simp [intOf]; omega
      · go_wp2
        go_ret
        exact ⟨rfl, hbel⟩

set_option maxHeartbeats 1000000 in
theorem eqStringS_c (a b : Option Addr) (n c d : Nat) (xs : List ByteArray) (w : World) (ha : RowAt w a n (strVals xs)) (hb : RowAt w b n (strVals xs)) :
    Calls Tryd.prog 23 #[.slice a n c, .slice b n d] w fun e w' => e = .returned (.bool true) ∧ Below w.heap.size w w' := by
  obtain ⟨hl, hlim, hat⟩ := ha
  obtain ⟨_, _, hbt⟩ := hb
  have hlen := hid (show xs.length = n by simpa [strVals] using hl)
  clear hl
  by_cases hn : n = 0
  · subst hn
    clear hat hbt
    go_enter Tryd.func23, Tryd.ntmps23
    go_wp2
    refine wp_loop_rounds 1 ?_
    rw [rounds_succ]
    go_wp2
    go_ret
    exact ⟨rfl, Below.refl _ _⟩
  · obtain ⟨b1, off1, rfl, hb1, hc1⟩ := hat (by omega)
    obtain ⟨b2, off2, rfl, hb2, hc2⟩ := hbt (by omega)
    clear hat hbt
    have HC1 := hid hc1
    have HC2 := hid hc2
    clear hc1 hc2
    go_enter Tryd.func23, Tryd.ntmps23
    go_wp2
    go_loopw [5] (fun i wr => ∃ k : Nat, k ≤ n ∧ i = .int .i64 k ∧ Below w.heap.size w wr) (fun i _ => n - (intOf i).toNat)
    case atStart => exact ⟨0, by omega, rfl, Below.refl _ _⟩
    case round =>
      obtain ⟨k, hk, rfl, hbel⟩ := hrel
      by_cases hlt : k < n
      · obtain ⟨s, hsk⟩ := get_some (l := xs) (n := k) (by rw [hlen.out]; exact hlt)
        have hcell1 := (hbel.cell (p := ⟨b1, off1 + k, none⟩) hb1).trans (HC1.out k _ (strVals_get hsk))
        have hcell2 := (hbel.cell (p := ⟨b2, off2 + k, none⟩) hb2).trans (HC2.out k _ (strVals_get hsk))
        clear hsk
        go_wp2
        go_quiet (fail)
        go_wp2
        go_roundw
        case rel => exact ⟨k + 1, by omega, by go_num, below_drewN hbel _⟩
        case measure => simp [intOf]; omega
      · go_wp2
        go_ret
        exact ⟨rfl, hbel⟩

set_option maxHeartbeats 1000000 in
theorem markIntS_c (base : Nat) (v : Value) (n k : Nat) (xs : List Value) (w : World) (ho : w.ownsRow base 3 1 v n xs) (hk : k ≤ 140737488355328) (hlim : n ≤ 140737488355328) :
    Calls Tryd.prog 29 #[v, .int .i64 k] w fun e w' => e = .returned (.int .i64 ((k + n : Nat) : Int)) ∧ w'.ownsRow base 3 1 v n (marks k n) ∧ w.grownBy w' v.ownBlock := by
  have hxl := hid ho.1
  rcases hid ho.2 with ⟨rfl, rfl⟩ | ⟨g, cap, cur, rfl, hbg, hg, hnc, hcm, hcs, htake⟩
  · go_enter Tryd.func29, Tryd.ntmps29
    go_wp2
    refine wp_loop_rounds 1 ?_
    rw [rounds_succ]
    go_wp2
    go_ret
    exact ⟨rfl, World.ownsRow_nil _ _ _ _, World.grownBy.refl _ _⟩
  · clear hg hcs htake hcm
    go_enter Tryd.func29, Tryd.ntmps29
    go_wp2
    go_loopw [1, 5] (fun m i wr => ∃ j : Nat, j ≤ n ∧ i = .int .i64 j ∧ m = .int .i64 ((k + j : Nat) : Int) ∧ wr.ownsRow base 3 1 (.slice (some ⟨g, 0, none⟩) n cap) n (marked (marks k n) xs j) ∧ w.grownBy wr (some g)) (fun _ i _ => n - (intOf i).toNat)
    case atStart => exact ⟨0, by omega, rfl, rfl, by rw [marked_zero]; exact ho, World.grownBy.refl _ _⟩
    case round =>
      obtain ⟨j, hj, rfl, rfl, hown, hgr⟩ := hrel
      by_cases hlt : j < n
      · obtain ⟨u, hu⟩ := get_some (l := marked (marks k n) xs j) (n := j) (by rw [hown.1]; omega)
        have hcell : wr.cell? ⟨g, j, none⟩ = some u := (hown.cellAt j (by omega)).trans hu
        have hfr := hown.frozenAt j
        clear hu
        go_wp2
        go_roundw
        case rel =>
          have hst := hown.stored j (.int .i64 ((k : Int) + j))
          rw [marked_step (xs := xs) (ms := marks k n) (n := n) (u := .int .i64 ((k : Int) + j)) (by have := hxl.out; omega) (marks_len k n) hlt (by rw [marks_get hlt]; simp)] at hst
          exact ⟨j + 1, by omega, by go_num, by go_num, hst.1, grown_trans hgr hst.2⟩
        case measure => simp [intOf]; omega
      · obtain rfl : j = n := by omega
        go_wp2
        go_ret
        exact ⟨rfl, by rw [← marked_all (xs := xs) (ms := marks k j) (by have := hxl.out; omega) (marks_len k j)]; exact hown, hgr⟩

set_option maxHeartbeats 1000000 in
theorem heldIntS_c (a : Option Addr) (n c k : Nat) (w : World) (hr : RowAt w a n (marks k n)) (hk : k ≤ 140737488355328) :
    Calls Tryd.prog 30 #[.slice a n c, .int .i64 k] w fun e w' => e = .returned (.int .i64 ((k + n : Nat) : Int)) ∧ w = w' := by
  obtain ⟨_, hlim, hat⟩ := hr
  by_cases hn : n = 0
  · subst hn
    clear hat
    go_enter Tryd.func30, Tryd.ntmps30
    go_wp2
    refine wp_loop_rounds 1 ?_
    rw [rounds_succ]
    go_wp2
    go_ret
    exact ⟨rfl, rfl⟩
  · obtain ⟨b1, off1, rfl, hb1, hc1⟩ := hat (by omega)
    clear hat
    have HC1 := hid hc1
    clear hc1
    go_enter Tryd.func30, Tryd.ntmps30
    go_wp2
    go_loop [1, 5] (fun m i => ∃ j : Nat, j ≤ n ∧ i = .int .i64 j ∧ m = .int .i64 ((k + j : Nat) : Int)) (fun _ i => n - (intOf i).toNat)
    case atStart => exact ⟨0, by omega, rfl, rfl⟩
    case round =>
      obtain ⟨j, hk, rfl, rfl⟩ := hrel
      by_cases hlt : j < n
      · have hcell1 := HC1.out j _ (marks_get hlt)
        go_wp2
        go_round
        case rel => exact ⟨j + 1, by omega, by go_num, by go_num⟩
        case measure => simp [intOf]; omega
      · obtain rfl : j = n := by omega
        go_wp2
        go_ret
        exact ⟨rfl, rfl⟩
end Go.Proofs.YtpncmmdjkcdemaaDoor
