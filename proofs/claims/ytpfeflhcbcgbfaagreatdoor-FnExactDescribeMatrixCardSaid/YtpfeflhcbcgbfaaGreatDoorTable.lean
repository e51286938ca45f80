/- The table of a substitution. Conditions: sizes within the reach. -/
import Derived.Lib.Strings
import Derived.Lib.Slices
import Derived.Lib.Walk
import Derived.Lib.Bytealg
import Derived.Test.YtpfeflhcbcgbfaaGreatDoorLaw2
import Derived.Test.YtpfeflhcbcgbfaaGreatDoorZero
namespace Go.Proofs.YtpfeflhcbcgbfaaGreatDoor
open Go.RowKit

/-- A long word of k letters. -/
def longB (k : Int) (s : ByteArray) : Bool := lets k s.data.toList && decide (s.size ≤ 300)
theorem longB_iff {k : Int} {s : ByteArray} : longB k s = true ↔ lets k s.data.toList = true ∧ s.size ≤ 300 := by simp [longB]

end Go.Proofs.YtpfeflhcbcgbfaaGreatDoor
namespace Go.Proofs.YtpfeflhcbcgbfaaGreatDoor
open Go.RowKit

def wordOf (ss : List ByteArray) (c : UInt8) : List UInt8 := (ss.getD (c.toNat - 97) ByteArray.empty).data.toList
/-- All letters replaced. -/
def repl (ss : List ByteArray) (l : List UInt8) : List UInt8 := l.flatMap (wordOf ss)
theorem repl_snoc (ss : List ByteArray) (l : List UInt8) (c : UInt8) : repl ss (l ++ [c]) = repl ss l ++ wordOf ss c := by simp [repl]
theorem repl_take {ss : List ByteArray} {l : List UInt8} {j : Nat} {c : UInt8} (h : l[j]? = some c) : repl ss (l.take (j + 1)) = repl ss (l.take j) ++ wordOf ss c := by
  rw [List.take_add_one, h]; exact repl_snoc _ _ _
/-- The letters replaced, where the text is a long word, and so is what comes out. -/
def replO (ss : List ByteArray) (l : List UInt8) : Option (List UInt8) :=
  if isSubst ss = true ∧ (lets ss.length l && decide (l.length ≤ 300)) = true ∧ (repl ss l).length ≤ 300 then some (repl ss l) else none
def okO (r : Option (List UInt8)) : Bool := r.isSome
def strO (r : Option (List UInt8)) : ByteArray := ⟨(r.getD []).toArray⟩
theorem subst_word {ss : List ByteArray} (h : isSubst ss = true) {s : ByteArray} (hs : s ∈ ss) : 1 ≤ s.size ∧ s.size ≤ 4 ∧ lets ss.length s.data.toList = true := by
  rw [isSubst, Bool.and_eq_true, List.all_eq_true] at h
  have := h.2 s hs
  rw [Bool.and_eq_true, inB_iff] at this
  exact ⟨by omega, by omega, this.2⟩
theorem subst_len {ss : List ByteArray} (h : isSubst ss = true) : ss.length = 2 ∨ ss.length = 3 := by
  rw [isSubst, Bool.and_eq_true, decide_eq_true_eq] at h; exact h.1
theorem subst_get {ss : List ByteArray} (h : isSubst ss = true) {l : List UInt8} (hl : lets ss.length l = true) {j : Nat} {c : UInt8} (hc : l[j]? = some c) :
    ∃ k s, c.toNat = 97 + k ∧ k < ss.length ∧ ss[k]? = some s ∧ wordOf ss c = s.data.toList ∧ s.size ≤ 4 := by
  have h1 := List.all_eq_true.1 hl c (List.mem_of_getElem? hc)
  rw [inB_iff] at h1
  have hk : c.toNat - 97 < ss.length := by omega
  obtain ⟨s, hs⟩ := get_some hk
  exact ⟨c.toNat - 97, s, by omega, hk, hs, by rw [wordOf, List.getD_eq_getElem?_getD, hs]; rfl, (subst_word h (List.mem_of_getElem? hs)).2.1⟩
theorem repl_len {ss : List ByteArray} (h : isSubst ss = true) {l : List UInt8} (hl : lets ss.length l = true) (j : Nat) : (repl ss (l.take j)).length ≤ 4 * j := by
  induction j with
  | zero => simp [repl]
  | succ j ih =>
    cases hc : l[j]? with
    | none => rw [List.take_add_one, hc]; simp; omega
    | some c =>
      obtain ⟨k, s, _, _, _, hw, h4⟩ := subst_get h hl hc
      rw [repl_take hc, List.length_append, hw, size_list]; omega
theorem mk_app (x : List UInt8) (s : ByteArray) : (ByteArray.mk x.toArray ++ s) = ⟨(x ++ s.data.toList).toArray⟩ := by
  have : s = ⟨s.data.toList.toArray⟩ := by simp
  conv => lhs; rw [this]
  rw [ByteArray.mk_append_mk]

end Go.Proofs.YtpfeflhcbcgbfaaGreatDoor
namespace Go.Proofs.YtpfeflhcbcgbfaaGreatDoor
open Go.RowKit

theorem infoInt2 : (Tryz.prog.info? 3).map (fun i => (i.zero, i.size, i.bytes)) = some (some (.int .i64 0), 1, 8) := by kernel_rfl
def cnt (l : List UInt8) (c : UInt8) : Int := (Lib.countByte l c : Nat)
theorem cnt_snoc (l : List UInt8) (c x : UInt8) : cnt (l ++ [x]) c = cnt l c + (if x = c then 1 else 0) := by
  unfold cnt Lib.countByte
  rw [List.count_append, List.count_singleton]
  by_cases h : x = c
  · simp [h]
  · simp [h]
theorem cnt_bd (l : List UInt8) (c : UInt8) : 0 ≤ cnt l c ∧ cnt l c ≤ l.length := by
  unfold cnt Lib.countByte
  have := List.count_le_length (a := c) (l := l)
  omega

def lc3 (l : List UInt8) : List Int := [cnt l 97, cnt l 98, cnt l 99]
/-- The numbers of the letters of a long word. -/
def lcOf (s : ByteArray) : List Int := if longB 3 s = true then lc3 s.data.toList else []
theorem lcOf_len (s : ByteArray) : (lcOf s).length ≤ 3 := by unfold lcOf lc3; split <;> simp
def LcPost (s : ByteArray) (w : World) (e : Ending) (w' : World) : Prop :=
  ∃ v, e = .returned v ∧ w'.ownsRow w.heap.size 3 1 v (lcOf s).length (intVals (lcOf s)) ∧ Below w.heap.size w w'
theorem owns_lit2 {w : World} {base e : Nat} (cs : Array Value) (xs : List Value) (h : cs.toList = xs) (hb : base ≤ w.heap.size) (hm : cs.size ≤ maxLen) :
    (w.alloc (.cells cs e)).ownsRow base e 1 (.slice (some ⟨w.heap.size, 0, none⟩) cs.size cs.size) xs.length xs := by
  subst h
  have := World.ownsRow_lit (base := base) (e := e) (size := 1) w cs cs.size hb hm (by simp)
  simpa using this

theorem lc3_step {l : List UInt8} {j : Nat} {c : UInt8} (h : l[j]? = some c) (k : Nat) (hk : c.toNat = 97 + k) (hk3 : k < 3) :
    (intVals (lc3 (l.take j)))[k]? = some (.int .i64 (cnt (l.take j) c)) ∧ (intVals (lc3 (l.take j))).set k (.int .i64 (cnt (l.take j) c + 1)) = intVals (lc3 (l.take (j + 1))) := by
  have e : l.take (j + 1) = l.take j ++ [c] := by rw [List.take_add_one, h]; rfl
  have hc : c = UInt8.ofNat (97 + k) := by rw [← hk]; simp
  have h3 : k = 0 ∨ k = 1 ∨ k = 2 := by omega
  rw [e]
  unfold lc3
  simp only [cnt_snoc]
  rcases h3 with rfl | rfl | rfl <;> subst hc <;> exact ⟨rfl, rfl⟩
end Go.Proofs.YtpfeflhcbcgbfaaGreatDoor
namespace Go.Proofs.YtpfeflhcbcgbfaaGreatDoor
open Go.RowKit

def wl (ss : List ByteArray) (c : Nat) : List UInt8 := (ss.getD c ByteArray.empty).data.toList
def ctCell (ss : List ByteArray) (j k i c : Nat) : Int := if c < j then cnt (wl ss c) (UInt8.ofNat (97 + i)) else if c = j then cnt ((wl ss c).take k) (UInt8.ofNat (97 + i)) else 0
def ctRow (n : Nat) (ss : List ByteArray) (j k i : Nat) : List Int := (List.range n).map (ctCell ss j k i)
def ctAt (n : Nat) (ss : List ByteArray) (j k : Nat) : List (List Int) := (List.range n).map (ctRow n ss j k)
def ctOf (ss : List ByteArray) : List (List Int) := if isSubst ss = true then ctAt ss.length ss ss.length 0 else []
theorem cnt_nil (c : UInt8) : cnt [] c = 0 := rfl
theorem ct_zero (n : Nat) (ss : List ByteArray) : ctAt n ss 0 0 = zeroTab n n := by
  unfold ctAt zeroTab
  have : ∀ i, ctRow n ss 0 0 i = List.replicate n 0 := by
    intro i
    unfold ctRow
    refine List.ext_getElem (by simp) fun c h1 h2 => ?_
    simp [ctCell]
    intro _; rfl
  rw [List.map_congr_left (fun i _ => this i)]
  refine List.ext_getElem (by simp) fun c h1 h2 => by simp
theorem ct_next (n : Nat) (ss : List ByteArray) (j : Nat) : ctAt n ss j (wl ss j).length = ctAt n ss (j + 1) 0 := by
  unfold ctAt
  refine List.map_congr_left fun i _ => ?_
  unfold ctRow
  refine List.map_congr_left fun c _ => ?_
  unfold ctCell
  by_cases h1 : c < j
  · rw [if_pos h1, if_pos (by omega)]
  · rw [if_neg h1]
    by_cases h2 : c = j
    · subst h2
      rw [if_pos rfl, if_pos (by omega), List.take_length]
    · rw [if_neg h2, if_neg (by omega)]
      by_cases h3 : c = j + 1
      · rw [if_pos h3, List.take_zero, cnt_nil]
      · rw [if_neg h3]
theorem ct_len (n : Nat) (ss : List ByteArray) (j k : Nat) : (ctAt n ss j k).length = n := by simp [ctAt]
theorem ctRow_len (n : Nat) (ss : List ByteArray) (j k i : Nat) : (ctRow n ss j k i).length = n := by simp [ctRow]
theorem ct_row {n : Nat} {ss : List ByteArray} {j k i : Nat} (h : i < n) : (ctAt n ss j k)[i]? = some (ctRow n ss j k i) := by simp [ctAt, h]
theorem ct_cell {n : Nat} {ss : List ByteArray} {j k i c : Nat} (h : c < n) : (ctRow n ss j k i)[c]? = some (ctCell ss j k i c) := by simp [ctRow, h]
theorem ct_step {n : Nat} (hn : n ≤ 3) {ss : List ByteArray} {j k i : Nat} {ch : UInt8} (hch : (wl ss j)[k]? = some ch) (hi : ch.toNat = 97 + i) (hin : i < n) :
    (ctAt n ss j k).set i ((ctRow n ss j k i).set j (ctCell ss j k i j + 1)) = ctAt n ss j (k + 1) := by
  have htk : (wl ss j).take (k + 1) = (wl ss j).take k ++ [ch] := by rw [List.take_add_one, hch]; rfl
  have hother : ∀ p c, (c ≠ j ∨ p ≠ i) → p < 100 → ctCell ss j (k + 1) p c = ctCell ss j k p c := by
    intro p c hpc hp
    unfold ctCell
    by_cases h1 : c < j
    · rw [if_pos h1, if_pos h1]
    · rw [if_neg h1, if_neg h1]
      by_cases h2 : c = j
      · subst h2
        rw [if_pos rfl, if_pos rfl, htk, cnt_snoc, if_neg, Int.add_zero]
        intro e
        have := congrArg UInt8.toNat e
        rw [hi, UInt8.toNat_ofNat'] at this
        have hpi : p ≠ i := by rcases hpc with h | h; exact absurd rfl h; exact h
        have := ch.toNat_lt
        omega
      · rw [if_neg h2, if_neg h2]
  refine List.ext_getElem (by simp [ct_len]) fun p h1 h2 => ?_
  rw [ct_len] at h2
  have e2 : (ctAt n ss j (k + 1))[p] = ctRow n ss j (k + 1) p := by simp [ctAt]
  rw [List.getElem_set, e2]
  by_cases hp : i = p
  · subst hp
    rw [if_pos rfl]
    refine List.ext_getElem (by simp [ctRow_len]) fun c h3 h4 => ?_
    rw [ctRow_len] at h4
    have e4 : (ctRow n ss j (k + 1) i)[c] = ctCell ss j (k + 1) i c := by simp [ctRow]
    rw [List.getElem_set, e4]
    by_cases hc : j = c
    · subst hc
      rw [if_pos rfl]
      unfold ctCell
      have hce : ch = UInt8.ofNat (97 + i) := by rw [← hi]; simp
      rw [if_neg (Nat.lt_irrefl _), if_pos rfl, if_neg (Nat.lt_irrefl _), if_pos rfl, htk, cnt_snoc, if_pos hce]
    · rw [if_neg hc, hother i c (Or.inl (Ne.symm hc)) (by omega)]
      simp [ctRow]
  · rw [if_neg hp]
    have e5 : (ctAt n ss j k)[p]'(by rw [ct_len]; exact h2) = ctRow n ss j k p := by simp [ctAt]
    rw [e5]
    unfold ctRow
    exact List.map_congr_left fun c _ => (hother p c (Or.inr (Ne.symm hp)) (by omega)).symm
theorem ct_bd {n : Nat} {ss : List ByteArray} {j k i : Nat} : 0 ≤ ctCell ss j k i j ∧ ctCell ss j k i j ≤ (wl ss j).length := by
  unfold ctCell
  rw [if_neg (Nat.lt_irrefl _), if_pos rfl]
  have h := cnt_bd ((wl ss j).take k) (UInt8.ofNat (97 + i))
  have h2 : ((wl ss j).take k).length ≤ (wl ss j).length := by rw [List.length_take]; omega
  omega

theorem own_form {w : World} {base e n : Nat} {v : Value} {xs : List Value} (h : w.ownsRow base e 1 v n xs) (hn : 0 < n) : ∃ g cap, v = .slice (some ⟨g, 0, none⟩) n cap ∧ base ≤ g ∧ g < w.heap.size := by
  rcases h.2 with ⟨rfl, h0⟩ | ⟨g, cap, cur, rfl, hb, hg, _⟩
  · omega
  · exact ⟨g, cap, rfl, hb, (Array.getElem?_eq_some_iff.1 hg).1⟩

end Go.Proofs.YtpfeflhcbcgbfaaGreatDoor
