/- Replacing letters by words. Conditions: sizes of at most 1048576 bytes. -/
import Derived.Test.YtcfjchaklgjmkaaLong
namespace Go.Proofs.Ytcfjchaklgjmkaa
open Go.RowKit

def wordOf (ss : List ByteArray) (c : UInt8) : List UInt8 := (ss.getD (c.toNat - 97) ByteArray.empty).data.toList
/-- All letters replaced. -/
def repl (ss : List ByteArray) (l : List UInt8) : List UInt8 := l.flatMap (wordOf ss)
theorem repl_snoc (ss : List ByteArray) (l : List UInt8) (c : UInt8) : repl ss (l ++ [c]) = repl ss l ++ wordOf ss c := by simp [repl]
theorem repl_take {ss : List ByteArray} {l : List UInt8} {j : Nat} {c : UInt8} (h : l[j]? = some c) : repl ss (l.take (j + 1)) = repl ss (l.take j) ++ wordOf ss c := by
  rw [List.take_add_one, h]; exact repl_snoc _ _ _
/-- The letters replaced, where the text is a long word, and so is what comes out. -/
def replO (ss : List ByteArray) (l : List UInt8) : Option (List UInt8) :=
  if isSubst ss = true ∧ (lets ss.length l && decide (l.length ≤ 300)) = true ∧ (repl ss l).length ≤ 300 then some (repl ss l) else none
def okO (r : Option (List UInt8)) : Bool := r.isSome
def strO (r : Option (List UInt8)) : ByteArray := ⟨(r.getD []).toArray⟩
theorem subst_word {ss : List ByteArray} (h : isSubst ss = true) {s : ByteArray} (hs : s ∈ ss) : 1 ≤ s.size ∧ s.size ≤ 4 ∧ lets ss.length s.data.toList = true := by
  rw [isSubst, Bool.and_eq_true, List.all_eq_true] at h
  have := h.2 s hs
  rw [Bool.and_eq_true, inB_iff] at this
  exact ⟨by omega, by omega, this.2⟩
theorem subst_len {ss : List ByteArray} (h : isSubst ss = true) : ss.length = 2 ∨ ss.length = 3 := by
  rw [isSubst, Bool.and_eq_true, decide_eq_true_eq] at h; exact h.1
theorem subst_get {ss : List ByteArray} (h : isSubst ss = true) {l : List UInt8} (hl : lets ss.length l = true) {j : Nat} {c : UInt8} (hc : l[j]? = some c) :
    ∃ k s, c.toNat = 97 + k ∧ k < ss.length ∧ ss[k]? = some s ∧ wordOf ss c = s.data.toList ∧ s.size ≤ 4 := by
  have h1 := List.all_eq_true.1 hl c (List.mem_of_getElem? hc)
  rw [inB_iff] at h1
  have hk : c.toNat - 97 < ss.length := by omega
  obtain ⟨s, hs⟩ := get_some hk
  exact ⟨c.toNat - 97, s, by omega, hk, hs, by rw [wordOf, List.getD_eq_getElem?_getD, hs]; rfl, (subst_word h (List.mem_of_getElem? hs)).2.1⟩
theorem repl_len {ss : List ByteArray} (h : isSubst ss = true) {l : List UInt8} (hl : lets ss.length l = true) (j : Nat) : (repl ss (l.take j)).length ≤ 4 * j := by
  induction j with
  | zero => simp [repl]
  | succ j ih =>
    cases hc : l[j]? with
    | none => rw [List.take_add_one, hc]; simp; omega
    | some c =>
      obtain ⟨k, s, _, _, _, hw, h4⟩ := subst_get h hl hc
      rw [repl_take hc, List.length_append, hw, size_list]; omega
theorem mk_app (x : List UInt8) (s : ByteArray) : (ByteArray.mk x.toArray ++ s) = ⟨(x ++ s.data.toList).toArray⟩ := by
  have : s = ⟨s.data.toList.toArray⟩ := by simp
  conv => lhs; rw [this]
  rw [ByteArray.mk_append_mk]

set_option maxHeartbeats 1000000 in
theorem spec_Replace_c (a : Option Addr) (n cap : Nat) (ss : List ByteArray) (s : ByteArray) (w : World) (hr : RowAt w a n (strVals ss)) (hs : ∀ t ∈ ss, t.size ≤ maxLen) (hsz : s.size ≤ 1048576) :
    Calls Try.prog 11 #[.slice a n cap, .string s] w fun e w' => e = .returned (.tuple #[.string (strO (replO ss s.data.toList)), .bool (okO (replO ss s.data.toList))]) ∧ w = w' := by
  have hl0 := hr.len
  have hlen := hid (show ss.length = n by simpa [strVals] using hl0)
  clear hl0
  by_cases hsub : isSubst ss = true
  · have h23 := subst_len hsub
    have hn2 : 2 ≤ n := by have := hlen.out; omega
    have hn3 : n ≤ 3 := by have := hlen.out; omega
    clear h23
    by_cases hl : longB n s = true
    · have hs300 : s.size ≤ 300 := (longB_iff.1 hl).2
      have hlets : lets ss.length s.data.toList = true := by rw [hlen.out]; exact (longB_iff.1 hl).1
      have HLT := hid hlets
      have hgt := repl_len hsub hlets s.size
      rw [List.take_of_length_le (by rw [size_list]; exact Nat.le_refl _)] at hgt
      obtain ⟨b, off, rfl, hb, hc⟩ := hr.at_ (by omega)
      have HC := hid hc
      clear hc hlets
      go_enter Try.func11, Try.ntmps11
      go_wp2_with (first | (go_at_call 25; refine (spec_IsSubst_c _ _ _ ss _ hr hs).mono ?_; rintro e w' ⟨rfl, rfl⟩) | (go_at_call 56; refine (l30LongB_c _ _ _ (by unfold maxLen; omega) (by omega)).mono ?_; rintro e w' ⟨rfl, rfl⟩))
      go_loop [6, 7] (fun o i => ∃ (j : Nat) (x : List UInt8), j ≤ s.size ∧ i = .int .i64 j ∧ o = .string ⟨x.toArray⟩ ∧ x.length ≤ 4 * j ∧ Hid (x = repl ss (s.data.toList.take j))) (fun _ i => s.size - (intOf i).toNat)
      case atStart => exact ⟨0, [], by omega, rfl, rfl, by simp, by show _ = _; simp [repl]⟩
      case round =>
        obtain ⟨j, x, hj, rfl, rfl, hx4, HX⟩ := hrel
        by_cases hlt : j < s.size
        · obtain ⟨k, s2, hk, hkn, hs2, hw2, h4⟩ := subst_get hsub HLT.out (byte_at s j hlt)
          have hcell := HC.out k _ (strVals_get hs2)
          have hji : (j : Int) < (s.size : Int) := by omega
          have hkn2 : (k : Int) < (n : Int) := by have := hlen.out; omega
          have HW := hid hw2
          have HT := hid (repl_take (ss := ss) (byte_at s j hlt))
          clear hw2 hs2 hkn
          go_wp2
          go_round
          case rel => exact ⟨j + 1, x ++ s2.data.toList, by omega, by go_num, by rw [mk_app], by rw [List.length_append, size_list]; omega, by show _ = _; rw [HT.out, HW.out, HX.out]⟩
          case measure => simp [intOf]; omega
        · obtain rfl : j = s.size := by omega
          have hxx := HX.out
          rw [List.take_of_length_le (by rw [size_list]; exact Nat.le_refl _)] at hxx
          have HXX := hid hxx
          clear hxx
          by_cases h300 : x.length ≤ 300
          · have HY := hid (show replO ss s.data.toList = some x by rw [replO, if_pos ⟨hsub, by rw [hlen.out, size_list]; exact hl, by rw [← HXX.out]; exact h300⟩, HXX.out])
            go_wp2
            go_ret2
            exact ⟨by rw [HY.out]; rfl, rfl⟩
          · have HY := hid (show replO ss s.data.toList = none by rw [replO, if_neg]; rw [← HXX.out]; exact fun h => h300 h.2.2)
            go_wp2
            go_ret2
            exact ⟨by rw [HY.out]; rfl, rfl⟩
    · have HX := hid (show replO ss s.data.toList = none by rw [replO, if_neg]; rw [hlen.out, size_list]; exact fun h => hl h.2.1)
      have hl2 : longB n s = false := by simpa using hl
      clear hl
      go_enter Try.func11, Try.ntmps11
      go_wp2_with (first | (go_at_call 25; refine (spec_IsSubst_c _ _ _ ss _ hr hs).mono ?_; rintro e w' ⟨rfl, rfl⟩) | (go_at_call 56; refine (l30LongB_c _ _ _ (by unfold maxLen; omega) (by omega)).mono ?_; rintro e w' ⟨rfl, rfl⟩))
      go_ret2
      exact ⟨by rw [HX.out]; rfl, rfl⟩
  · have HX := hid (show replO ss s.data.toList = none by rw [replO, if_neg]; exact fun h => hsub h.1)
    have hsub2 : isSubst ss = false := by simpa using hsub
    clear hsub
    go_enter Try.func11, Try.ntmps11
    go_wp2_with (first | (go_at_call 25; refine (spec_IsSubst_c _ _ _ ss _ hr hs).mono ?_; rintro e w' ⟨rfl, rfl⟩) | (go_at_call 56; refine (l30LongB_c _ _ _ (by unfold maxLen; omega) (by omega)).mono ?_; rintro e w' ⟨rfl, rfl⟩))
    go_ret2
    exact ⟨by rw [HX.out]; rfl, rfl⟩

set_option maxHeartbeats 1000000 in
theorem impl_Replace_c (a : Option Addr) (n cap : Nat) (ss : List ByteArray) (s : ByteArray) (w : World) (hr : RowAt w a n (strVals ss)) (hs : ∀ t ∈ ss, t.size ≤ maxLen) (hsz : s.size ≤ 1048576) :
    Calls Try.prog 10 #[.slice a n cap, .string s] w fun e w' => e = .returned (.tuple #[.string (strO (replO ss s.data.toList)), .bool (okO (replO ss s.data.toList))]) ∧ w = w' := by
  have hl0 := hr.len
  have hlen := hid (show ss.length = n by simpa [strVals] using hl0)
  clear hl0
  by_cases hsub : isSubst ss = true
  · have h23 := subst_len hsub
    have hn2 : 2 ≤ n := by have := hlen.out; omega
    have hn3 : n ≤ 3 := by have := hlen.out; omega
    clear h23
    by_cases hl : longB n s = true
    · have hs300 : s.size ≤ 300 := (longB_iff.1 hl).2
      have hlets : lets ss.length s.data.toList = true := by rw [hlen.out]; exact (longB_iff.1 hl).1
      have HLT := hid hlets
      have hgt := repl_len hsub hlets s.size
      rw [List.take_of_length_le (by rw [size_list]; exact Nat.le_refl _)] at hgt
      obtain ⟨b, off, rfl, hb, hc⟩ := hr.at_ (by omega)
      have HC := hid hc
      clear hc hlets
      go_enter Try.func10, Try.ntmps10
      go_wp2_with (first | (go_at_call 24; refine (impl_IsSubst_c _ _ _ ss _ hr hs).mono ?_; rintro e w' ⟨rfl, rfl⟩) | (go_at_call 55; refine (isLongB_c _ _ _ (by unfold maxLen; omega) (by omega)).mono ?_; rintro e w' ⟨rfl, rfl⟩))
      go_loop [6, 7, 20] (fun o _ i => ∃ (j : Nat) (x : List UInt8), j ≤ s.size ∧ i = .int .i64 j ∧ o = .string ⟨x.toArray⟩ ∧ x.length ≤ 4 * j ∧ Hid (x = repl ss (s.data.toList.take j))) (fun _ _ i => s.size - (intOf i).toNat)
      case atStart => exact ⟨0, [], by omega, rfl, rfl, by simp, by show _ = _; simp [repl]⟩
      case round =>
        obtain ⟨j, x, hj, rfl, rfl, hx4, HX⟩ := hrel
        by_cases hlt : j < s.size
        · obtain ⟨k, s2, hk, hkn, hs2, hw2, h4⟩ := subst_get hsub HLT.out (byte_at s j hlt)
          have hcell := HC.out k _ (strVals_get hs2)
          have hji : (j : Int) < (s.size : Int) := by omega
          have hkn2 : (k : Int) < (n : Int) := by have := hlen.out; omega
          have HW := hid hw2
          have HT := hid (repl_take (ss := ss) (byte_at s j hlt))
          clear hw2 hs2 hkn
          go_wp2
          go_round
          case rel => exact ⟨j + 1, x ++ s2.data.toList, by omega, by go_num, by rw [mk_app], by rw [List.length_append, size_list]; omega, by show _ = _; rw [HT.out, HW.out, HX.out]⟩
          case measure => simp [intOf]; omega
        · obtain rfl : j = s.size := by omega
          have hxx := HX.out
          rw [List.take_of_length_le (by rw [size_list]; exact Nat.le_refl _)] at hxx
          have HXX := hid hxx
          clear hxx
          by_cases h300 : x.length ≤ 300
          · have HY := hid (show replO ss s.data.toList = some x by rw [replO, if_pos ⟨hsub, by rw [hlen.out, size_list]; exact hl, by rw [← HXX.out]; exact h300⟩, HXX.out])
            go_wp2
            go_ret2
            exact ⟨by rw [HY.out]; rfl, rfl⟩
          · have HY := hid (show replO ss s.data.toList = none by rw [replO, if_neg]; rw [← HXX.out]; exact fun h => h300 h.2.2)
            go_wp2
            go_ret2
            exact ⟨by rw [HY.out]; rfl, rfl⟩
    · have HX := hid (show replO ss s.data.toList = none by rw [replO, if_neg]; rw [hlen.out, size_list]; exact fun h => hl h.2.1)
      have hl2 : longB n s = false := by simpa using hl
      clear hl
      go_enter Try.func10, Try.ntmps10
      go_wp2_with (first | (go_at_call 24; refine (impl_IsSubst_c _ _ _ ss _ hr hs).mono ?_; rintro e w' ⟨rfl, rfl⟩) | (go_at_call 55; refine (isLongB_c _ _ _ (by unfold maxLen; omega) (by omega)).mono ?_; rintro e w' ⟨rfl, rfl⟩))
      go_ret2
      exact ⟨by rw [HX.out]; rfl, rfl⟩
  · have HX := hid (show replO ss s.data.toList = none by rw [replO, if_neg]; exact fun h => hsub h.1)
    have hsub2 : isSubst ss = false := by simpa using hsub
    clear hsub
    go_enter Try.func10, Try.ntmps10
    go_wp2_with (first | (go_at_call 24; refine (impl_IsSubst_c _ _ _ ss _ hr hs).mono ?_; rintro e w' ⟨rfl, rfl⟩) | (go_at_call 55; refine (isLongB_c _ _ _ (by unfold maxLen; omega) (by omega)).mono ?_; rintro e w' ⟨rfl, rfl⟩))
    go_ret2
    exact ⟨by rw [HX.out]; rfl, rfl⟩

end Go.Proofs.Ytcfjchaklgjmkaa
