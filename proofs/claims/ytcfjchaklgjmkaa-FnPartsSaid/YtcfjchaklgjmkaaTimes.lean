/- Replacing letters several times. Conditions: sizes of at most 1048576 bytes. -/
import Derived.Test.YtcfjchaklgjmkaaRepl
namespace Go.Proofs.Ytcfjchaklgjmkaa
open Go.RowKit

/-- The letters replaced j times. -/
def itL (ss : List ByteArray) (l : List UInt8) : Nat → Option (List UInt8) | 0 => some l | j + 1 => (itL ss l j).bind (replO ss)
def timesO (ss : List ByteArray) (s : ByteArray) (m : Int) : Option (List UInt8) :=
  if isSubst ss = true ∧ longB ss.length s = true ∧ inB m 0 20 = true then itL ss s.data.toList m.toNat else none
theorem strO_some {r : Option (List UInt8)} (h : okO r = true) : r = some (strO r).data.toList := by
  cases r with
  | none => cases h
  | some x => simp [strO]
theorem itL_succ {ss : List ByteArray} {l : List UInt8} {j : Nat} {y : ByteArray} (h : itL ss l j = some y.data.toList) : itL ss l (j + 1) = replO ss y.data.toList := by
  simp [itL, h]
theorem itL_none {ss : List ByteArray} {l : List UInt8} {j : Nat} (h : itL ss l j = none) : ∀ m, j ≤ m → itL ss l m = none := by
  intro m hm
  induction m with
  | zero => obtain rfl : j = 0 := by omega
            exact h
  | succ m ih =>
    by_cases he : j = m + 1
    · rw [← he]; exact h
    · simp [itL, ih (by omega)]
theorem okO_none {r : Option (List UInt8)} (h : okO r = false) : r = none := by cases r with | none => rfl | some x => cases h
theorem replO_len {ss : List ByteArray} {l x : List UInt8} (h : replO ss l = some x) : x.length ≤ 300 := by
  unfold replO at h
  split at h
  · rename_i hc
    simp only [Option.some.injEq] at h
    rw [← h]; exact hc.2.2
  · cases h

set_option maxHeartbeats 1000000 in
theorem spec_ReplaceTimes_c (a : Option Addr) (n cap : Nat) (ss : List ByteArray) (s : ByteArray) (m : Int) (w : World) (hr : RowAt w a n (strVals ss)) (hs : ∀ t ∈ ss, t.size ≤ maxLen) (hsz : s.size ≤ 1048576) :
    Calls Try.prog 8 #[.slice a n cap, .string s, .int .i64 m] w fun e w' => e = .returned (.tuple #[.string (strO (timesO ss s m)), .bool (okO (timesO ss s m))]) ∧ w = w' := by
  have hl0 := hr.len
  have hlim := hr.lim
  have hlen := hid (show ss.length = n by simpa [strVals] using hl0)
  clear hl0
  by_cases hall : isSubst ss = true ∧ longB n s = true ∧ (0 ≤ m ∧ m ≤ 20)
  · obtain ⟨hsub, hl, hm0, hm20⟩ := hall
    have HIN := inB_t (x := m) (lo := 0) (hi := 20) ⟨hm0, hm20⟩
    obtain ⟨mm, rfl⟩ : ∃ mm : Nat, m = mm := ⟨m.toNat, by omega⟩
    have HTO := hid (show timesO ss s mm = itL ss s.data.toList mm by rw [timesO, if_pos ⟨hsub, by rw [hlen.out]; exact hl, HIN⟩, Int.toNat_natCast])
    have h300 : s.size ≤ 300 := (longB_iff.1 hl).2
    go_enter Try.func8, Try.ntmps8
    go_wp2_with (first | (go_at_call 25; refine (spec_IsSubst_c _ _ _ ss _ hr hs).mono ?_; rintro e w' ⟨rfl, rfl⟩) | (go_at_call 56; refine (l30LongB_c _ _ _ (by unfold maxLen; omega) (by omega)).mono ?_; rintro e w' ⟨rfl, rfl⟩) | (go_at_call 57; refine (l1In_c _ _ _ _).mono ?_; rintro e w' ⟨rfl, rfl⟩))
    go_loop [1, 8] (fun o i => ∃ (j : Nat) (y : ByteArray), j ≤ mm ∧ i = .int .i64 j ∧ o = .string y ∧ y.size ≤ 300 ∧ Hid (itL ss s.data.toList j = some y.data.toList)) (fun _ i => mm - (intOf i).toNat)
    case atStart => exact ⟨0, s, by omega, rfl, rfl, h300, rfl⟩
    case round =>
      obtain ⟨j, y, hj, rfl, rfl, hy, HI⟩ := hrel
      by_cases hlt : j < mm
      · have HSU := hid (itL_succ HI.out)
        by_cases hok : okO (replO ss y.data.toList) = true
        · have hsome := strO_some hok
          have hsl := replO_len hsome
          have HSO := hid hsome
          clear hsome
          rw [size_list] at hsl
          go_wp2_with (first | (go_at_call 11; refine (spec_Replace_c _ _ _ ss y _ hr hs (by omega)).mono ?_; rintro e w' ⟨rfl, rfl⟩))
          go_round
          case rel => exact ⟨j + 1, _, by omega, by go_num, rfl, hsl, by show _ = _; rw [HSU.out]; exact HSO.out⟩
          case measure => simp [intOf]; omega
        · have hok2 : okO (replO ss y.data.toList) = false := by simpa using hok
          have HN := hid (itL_none (HSU.out.trans (okO_none hok2)) mm (by omega))
          clear hok
          go_wp2_with (first | (go_at_call 11; refine (spec_Replace_c _ _ _ ss y _ hr hs (by omega)).mono ?_; rintro e w' ⟨rfl, rfl⟩))
          go_ret2
          exact ⟨by rw [HTO.out, HN.out]; rfl, rfl⟩
      · obtain rfl : j = mm := by omega
        go_wp2
        go_ret2
        exact ⟨by rw [HTO.out, HI.out]; simp [strO, okO], rfl⟩
  · have HX := hid (show timesO ss s m = none by rw [timesO, if_neg]; rw [hlen.out, inB_iff]; exact hall)
    have hor : isSubst ss = false ∨ (isSubst ss = true ∧ longB n s = false) ∨ (isSubst ss = true ∧ longB n s = true ∧ (m < 0 ∨ 20 < m)) := by
      by_cases h1 : isSubst ss = true <;> by_cases h2 : longB n s = true <;> simp_all <;> omega
    clear hall
    rcases hor with h1 | ⟨h1, h2⟩ | ⟨h1, h2, h3⟩
    · go_enter Try.func8, Try.ntmps8
      go_wp2_with (first | (go_at_call 25; refine (spec_IsSubst_c _ _ _ ss _ hr hs).mono ?_; rintro e w' ⟨rfl, rfl⟩) | (go_at_call 56; refine (l30LongB_c _ _ _ (by unfold maxLen; omega) (by omega)).mono ?_; rintro e w' ⟨rfl, rfl⟩) | (go_at_call 57; refine (l1In_c _ _ _ _).mono ?_; rintro e w' ⟨rfl, rfl⟩))
      all_goals
        go_ret2
        exact ⟨by rw [HX.out]; rfl, rfl⟩
    · have hn23 : n ≤ 3 := by have := subst_len h1; rw [hlen.out] at this; omega
      go_enter Try.func8, Try.ntmps8
      go_wp2_with (first | (go_at_call 25; refine (spec_IsSubst_c _ _ _ ss _ hr hs).mono ?_; rintro e w' ⟨rfl, rfl⟩) | (go_at_call 56; refine (l30LongB_c _ _ _ (by unfold maxLen; omega) (by omega)).mono ?_; rintro e w' ⟨rfl, rfl⟩) | (go_at_call 57; refine (l1In_c _ _ _ _).mono ?_; rintro e w' ⟨rfl, rfl⟩))
      all_goals
        go_ret2
        exact ⟨by rw [HX.out]; rfl, rfl⟩
    · have hin := inB_f (x := m) (lo := 0) (hi := 20) h3
      have hn23 : n ≤ 3 := by have := subst_len h1; rw [hlen.out] at this; omega
      rcases h3 with h3 | h3
      all_goals
        go_enter Try.func8, Try.ntmps8
        go_wp2_with (first | (go_at_call 25; refine (spec_IsSubst_c _ _ _ ss _ hr hs).mono ?_; rintro e w' ⟨rfl, rfl⟩) | (go_at_call 56; refine (l30LongB_c _ _ _ (by unfold maxLen; omega) (by omega)).mono ?_; rintro e w' ⟨rfl, rfl⟩) | (go_at_call 57; refine (l1In_c _ _ _ _).mono ?_; rintro e w' ⟨rfl, rfl⟩))
        all_goals
          go_ret2
          exact ⟨by rw [HX.out]; rfl, rfl⟩
set_option maxHeartbeats 1000000 in
theorem impl_ReplaceTimes_c (a : Option Addr) (n cap : Nat) (ss : List ByteArray) (s : ByteArray) (m : Int) (w : World) (hr : RowAt w a n (strVals ss)) (hs : ∀ t ∈ ss, t.size ≤ maxLen) (hsz : s.size ≤ 1048576) :
    Calls Try.prog 7 #[.slice a n cap, .string s, .int .i64 m] w fun e w' => e = .returned (.tuple #[.string (strO (timesO ss s m)), .bool (okO (timesO ss s m))]) ∧ w = w' := by
  have hl0 := hr.len
  have hlim := hr.lim
  have hlen := hid (show ss.length = n by simpa [strVals] using hl0)
  clear hl0
  by_cases hall : isSubst ss = true ∧ longB n s = true ∧ (0 ≤ m ∧ m ≤ 20)
  · obtain ⟨hsub, hl, hm0, hm20⟩ := hall
    have HIN := inB_t (x := m) (lo := 0) (hi := 20) ⟨hm0, hm20⟩
    obtain ⟨mm, rfl⟩ : ∃ mm : Nat, m = mm := ⟨m.toNat, by omega⟩
    have HTO := hid (show timesO ss s mm = itL ss s.data.toList mm by rw [timesO, if_pos ⟨hsub, by rw [hlen.out]; exact hl, HIN⟩, Int.toNat_natCast])
    have h300 : s.size ≤ 300 := (longB_iff.1 hl).2
    go_enter Try.func7, Try.ntmps7
    go_wp2_with (first | (go_at_call 24; refine (impl_IsSubst_c _ _ _ ss _ hr hs).mono ?_; rintro e w' ⟨rfl, rfl⟩) | (go_at_call 55; refine (isLongB_c _ _ _ (by unfold maxLen; omega) (by omega)).mono ?_; rintro e w' ⟨rfl, rfl⟩))
    go_loop [1, 8, 28] (fun o _ i => ∃ (j : Nat) (y : ByteArray), j ≤ mm ∧ i = .int .i64 j ∧ o = .string y ∧ y.size ≤ 300 ∧ Hid (itL ss s.data.toList j = some y.data.toList)) (fun _ _ i => mm - (intOf i).toNat)
    case atStart => exact ⟨0, s, by omega, rfl, rfl, h300, rfl⟩
    case round =>
      obtain ⟨j, y, hj, rfl, rfl, hy, HI⟩ := hrel
      by_cases hlt : j < mm
      · have HSU := hid (itL_succ HI.out)
        by_cases hok : okO (replO ss y.data.toList) = true
        · have hsome := strO_some hok
          have hsl := replO_len hsome
          have HSO := hid hsome
          clear hsome
          rw [size_list] at hsl
          go_wp2_with (first | (go_at_call 10; refine (impl_Replace_c _ _ _ ss y _ hr hs (by omega)).mono ?_; rintro e w' ⟨rfl, rfl⟩))
          go_round
          case rel => exact ⟨j + 1, _, by omega, by go_num, rfl, hsl, by show _ = _; rw [HSU.out]; exact HSO.out⟩
          case measure => simp [intOf]; omega
        · have hok2 : okO (replO ss y.data.toList) = false := by simpa using hok
          have HN := hid (itL_none (HSU.out.trans (okO_none hok2)) mm (by omega))
          clear hok
          go_wp2_with (first | (go_at_call 10; refine (impl_Replace_c _ _ _ ss y _ hr hs (by omega)).mono ?_; rintro e w' ⟨rfl, rfl⟩))
          go_ret2
          exact ⟨by rw [HTO.out, HN.out]; rfl, rfl⟩
      · obtain rfl : j = mm := by omega
        go_wp2
        go_ret2
        exact ⟨by rw [HTO.out, HI.out]; simp [strO, okO], rfl⟩
  · have HX := hid (show timesO ss s m = none by rw [timesO, if_neg]; rw [hlen.out, inB_iff]; exact hall)
    have hor : isSubst ss = false ∨ (isSubst ss = true ∧ longB n s = false) ∨ (isSubst ss = true ∧ longB n s = true ∧ (m < 0 ∨ 20 < m)) := by
      by_cases h1 : isSubst ss = true <;> by_cases h2 : longB n s = true <;> simp_all <;> omega
    clear hall
    rcases hor with h1 | ⟨h1, h2⟩ | ⟨h1, h2, h3⟩
    · go_enter Try.func7, Try.ntmps7
      go_wp2_with (first | (go_at_call 24; refine (impl_IsSubst_c _ _ _ ss _ hr hs).mono ?_; rintro e w' ⟨rfl, rfl⟩) | (go_at_call 55; refine (isLongB_c _ _ _ (by unfold maxLen; omega) (by omega)).mono ?_; rintro e w' ⟨rfl, rfl⟩))
      all_goals
        go_ret2
        exact ⟨by rw [HX.out]; rfl, rfl⟩
    · have hn23 : n ≤ 3 := by have := subst_len h1; rw [hlen.out] at this; omega
      go_enter Try.func7, Try.ntmps7
      go_wp2_with (first | (go_at_call 24; refine (impl_IsSubst_c _ _ _ ss _ hr hs).mono ?_; rintro e w' ⟨rfl, rfl⟩) | (go_at_call 55; refine (isLongB_c _ _ _ (by unfold maxLen; omega) (by omega)).mono ?_; rintro e w' ⟨rfl, rfl⟩))
      all_goals
        go_ret2
        exact ⟨by rw [HX.out]; rfl, rfl⟩
    · have hin := inB_f (x := m) (lo := 0) (hi := 20) h3
      have hn23 : n ≤ 3 := by have := subst_len h1; rw [hlen.out] at this; omega
      rcases h3 with h3 | h3
      all_goals
        go_enter Try.func7, Try.ntmps7
        go_wp2_with (first | (go_at_call 24; refine (impl_IsSubst_c _ _ _ ss _ hr hs).mono ?_; rintro e w' ⟨rfl, rfl⟩) | (go_at_call 55; refine (isLongB_c _ _ _ (by unfold maxLen; omega) (by omega)).mono ?_; rintro e w' ⟨rfl, rfl⟩))
        all_goals
          go_ret2
          exact ⟨by rw [HX.out]; rfl, rfl⟩
end Go.Proofs.Ytcfjchaklgjmkaa
