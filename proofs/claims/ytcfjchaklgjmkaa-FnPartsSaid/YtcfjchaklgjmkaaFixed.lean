/- Fixed starts of substitutions. Conditions: sizes within the reach. -/
import Derived.Test.YtcfjchaklgjmkaaRepl
import Derived.Lib.IndexBytes
namespace Go.Proofs.Ytcfjchaklgjmkaa
open Go.RowKit

def strLen : Value → Nat | .string s => s.size | _ => 0
/-- What the loop has made after k rounds. -/
def fsN (ss : List ByteArray) (w0 : List UInt8) : Nat → List UInt8 | 0 => w0 | k + 1 => fsN ss w0 k ++ wordOf ss ((fsN ss w0 k).getD (k + 1) 0)
theorem fsN_inv {ss : List ByteArray} (h : isSubst ss = true) {w0 : List UInt8} (hw : lets ss.length w0 = true) (h2 : 2 ≤ w0.length) (h4 : w0.length ≤ 4) :
    ∀ k, lets ss.length (fsN ss w0 k) = true ∧ k + 2 ≤ (fsN ss w0 k).length ∧ (fsN ss w0 k).length ≤ 4 * (k + 1)
  | 0 => ⟨hw, by simpa [fsN] using h2, by simpa [fsN] using h4⟩
  | k + 1 => by
    obtain ⟨i1, i2, i3⟩ := fsN_inv h hw h2 h4 k
    obtain ⟨c, hc⟩ := get_some (l := fsN ss w0 k) (n := k + 1) (by omega)
    obtain ⟨q, s, _, hq, hs, hwd, hs4⟩ := subst_get h i1 hc
    have hsw := subst_word h (List.mem_of_getElem? hs)
    have e : fsN ss w0 (k + 1) = fsN ss w0 k ++ s.data.toList := by
      show fsN ss w0 k ++ wordOf ss ((fsN ss w0 k).getD (k + 1) 0) = _
      rw [List.getD_eq_getElem?_getD, hc, Option.getD_some, hwd]
    rw [e]
    refine ⟨?_, by rw [List.length_append, size_list]; omega, by rw [List.length_append, size_list]; omega⟩
    unfold lets at *
    rw [List.all_append, i1, hsw.2.2]; rfl
theorem fsN_pre (ss : List ByteArray) (w0 : List UInt8) : ∀ d k, fsN ss w0 k <+: fsN ss w0 (k + d)
  | 0, k => List.prefix_rfl
  | d + 1, k => (fsN_pre ss w0 d k).trans ⟨_, rfl⟩
theorem fsN_take {ss : List ByteArray} {w0 : List UInt8} {k m : Nat} (hk : k ≤ m) (h : m ≤ (fsN ss w0 k).length) : (fsN ss w0 k).take m = (fsN ss w0 m).take m := by
  obtain ⟨d, rfl⟩ : ∃ d, m = k + d := ⟨m - k, by omega⟩
  obtain ⟨t, ht⟩ := fsN_pre ss w0 d k
  rw [← ht, List.take_append_of_le_length h]
/-- The start of the fixed sequence of a letter, where there is one. -/
def fixO (ss : List ByteArray) (x m : Int) : Option (List UInt8) :=
  if isSubst ss = true ∧ (0 ≤ x ∧ x < ss.length) ∧ (0 ≤ m ∧ m ≤ 300) ∧ (ss.getD x.toNat ByteArray.empty).size ≠ 1 ∧ (((ss.getD x.toNat ByteArray.empty).data.toList.getD 0 0).toNat : Int) - 97 = x
  then some ((fsN ss (ss.getD x.toNat ByteArray.empty).data.toList m.toNat).take m.toNat) else none
theorem ext_take (s : ByteArray) (m : Nat) : s.extract 0 m = ⟨(s.data.toList.take m).toArray⟩ := by
  have : (s.extract 0 m).data.toList = s.data.toList.take m := by rw [Lib.extract_data]; simp
  rw [← this]

set_option maxHeartbeats 2000000 in
theorem spec_FixedStart_c (a : Option Addr) (n cap : Nat) (ss : List ByteArray) (x m : Int) (w : World) (hr : RowAt w a n (strVals ss)) (hs : ∀ t ∈ ss, t.size ≤ maxLen) :
    Calls Try.prog 14 #[.slice a n cap, .int .i64 x, .int .i64 m] w fun e w' => e = .returned (.tuple #[.string (strO (fixO ss x m)), .bool (okO (fixO ss x m))]) ∧ w = w' := by
  have hl0 := hr.len
  have hlim := hr.lim
  have hlen := hid (show ss.length = n by simpa [strVals] using hl0)
  clear hl0
  by_cases hsub : isSubst ss = true
  · have h23 := subst_len hsub
    have hn2 : 2 ≤ n := by have := hlen.out; omega
    have hn3 : n ≤ 3 := by have := hlen.out; omega
    clear h23
    by_cases hx : 0 ≤ x ∧ x < n
    · obtain ⟨hx0, hxn⟩ := hx
      obtain ⟨xx, rfl⟩ : ∃ xx : Nat, x = xx := ⟨x.toNat, by omega⟩
      have hxi := inB_t (x := (xx : Int)) (lo := 0) (hi := (n : Int) - 1) (by omega)
      obtain ⟨s0, hs0⟩ := get_some (l := ss) (n := xx) (by rw [hlen.out]; omega)
      obtain ⟨b, off, rfl, hb, hc⟩ := hr.at_ (by omega)
      have hcell0 := hc xx _ (strVals_get hs0)
      have HC := hid hc
      have hsw := subst_word hsub (List.mem_of_getElem? hs0)
      have hsz1 := hsw.1
      have hsz4 := hsw.2.1
      have HSL := hid hsw.2.2
      have hgd : ss.getD xx ByteArray.empty = s0 := by rw [List.getD_eq_getElem?_getD, hs0]; rfl
      have h00 : (0 : Int) < (s0.size : Int) := by omega
      have hp0 : 0 < s0.size := by omega
      have hg0 : s0.data.toList.getD 0 0 = s0[0] := by rw [List.getD_eq_getElem?_getD, byte_at s0 0 hp0]; rfl
      have hb0 : s0[0].toNat < 256 := s0[0].toNat_lt
      have hlet := List.all_eq_true.1 hsw.2.2 _ (List.mem_of_getElem? (byte_at s0 0 hp0))
      rw [inB_iff] at hlet
      have hlet1 : (97 : Int) ≤ (s0[0].toNat : Int) := by omega
      clear hc hsw hs0 hlet
      by_cases hm : 0 ≤ m ∧ m ≤ 300
      · obtain ⟨hm0, hm300⟩ := hm
        obtain ⟨mm, rfl⟩ : ∃ mm : Nat, m = mm := ⟨m.toNat, by omega⟩
        have hmi := inB_t (x := (mm : Int)) (lo := 0) (hi := 300) ⟨hm0, hm300⟩
        by_cases h1 : s0.size = 1
        · have HX := hid (show fixO ss xx mm = none by rw [fixO, if_neg]; rw [Int.toNat_natCast, hgd]; exact fun h => h.2.2.2.1 h1)
          have h1b : ((s0.size : Int) == 1) = true := by simp; omega
          clear h1 hgd hg0
          go_enter Try.func14, Try.ntmps14
          go_wp2_with (first | (go_at_call 25; refine (spec_IsSubst_c _ _ _ ss _ hr hs).mono ?_; rintro e w' ⟨rfl, rfl⟩) | (go_at_call 57; refine (l1In_c _ _ _ _).mono ?_; rintro e w' ⟨rfl, rfl⟩))
          all_goals
            go_ret2
            exact ⟨by rw [HX.out]; rfl, rfl⟩
        · have h1b : ((s0.size : Int) == 1) = false := by simp; omega
          have h2s : 2 ≤ s0.size := by omega
          by_cases h2 : (s0[0].toNat : Int) - 97 = xx
          · have h2b : ((s0[0].toNat : Int) - 97 != (xx : Int)) = false := by simp; omega
            have HX := hid (show fixO ss xx mm = some ((fsN ss s0.data.toList mm).take mm) by rw [fixO, if_pos]; rw [Int.toNat_natCast, Int.toNat_natCast, hgd]; rw [Int.toNat_natCast, hgd, hlen.out, hg0]; exact ⟨hsub, by omega, by omega, h1, h2⟩)
            have HINV := hid (fsN_inv hsub HSL.out (by rw [size_list]; exact h2s) (by rw [size_list]; exact hsz4))
            have H2 := hid h2
            clear h1 h2 hgd hg0
            go_enter Try.func14, Try.ntmps14
            go_wp2_with (first | (go_at_call 25; refine (spec_IsSubst_c _ _ _ ss _ hr hs).mono ?_; rintro e w' ⟨rfl, rfl⟩) | (go_at_call 57; refine (l1In_c _ _ _ _).mono ?_; rintro e w' ⟨rfl, rfl⟩))
            go_loop [8, 9] (fun o i => ∃ (k : Nat) (y : ByteArray), k ≤ mm ∧ i = .int .i64 ((k + 1 : Nat) : Int) ∧ o = .string y ∧ Hid (y.data.toList = fsN ss s0.data.toList k)) (fun o _ => mm - strLen o)
            case atStart => exact ⟨0, s0, by omega, by go_num, rfl, rfl⟩
            case round =>
              obtain ⟨k, y, hk, rfl, rfl, HY⟩ := hrel
              obtain ⟨i1, i2, i3⟩ := HINV.out k
              rw [← HY.out] at i1 i2 i3
              rw [size_list] at i2 i3
              have hLY := hid i1
              clear i1
              by_cases hlt : y.size < mm
              · have hky : k + 1 < y.size := by omega
                have hkyi : ((k + 1 : Nat) : Int) < (y.size : Int) := by omega
                obtain ⟨q, s2, hq, hqn, hs2, hw2, h4⟩ := subst_get hsub hLY.out (byte_at y (k + 1) hky)
                have hcell := HC.out q _ (strVals_get hs2)
                have hqn2 : (q : Int) < (n : Int) := by have := hlen.out; omega
                have hs21 := (subst_word hsub (List.mem_of_getElem? hs2)).1
                have HST := hid (show (y ++ s2).data.toList = fsN ss s0.data.toList (k + 1) by
                  show _ = fsN ss s0.data.toList k ++ wordOf ss ((fsN ss s0.data.toList k).getD (k + 1) 0)
                  rw [← HY.out, List.getD_eq_getElem?_getD, byte_at y (k + 1) hky, Option.getD_some, hw2]
                  simp)
                clear hw2 hs2 hqn
                go_wp2
                go_round
                case rel => exact ⟨k + 1, y ++ s2, by omega, by go_num, rfl, HST.out⟩
                case measure => simp [strLen]; omega
              · go_wp2
                go_ret2
                refine ⟨?_, rfl⟩
                rw [HX.out, ← fsN_take hk (by rw [← HY.out, size_list]; omega), ← HY.out]
                rw [ext_take]; rfl
          · have h2b : ((s0[0].toNat : Int) - 97 != (xx : Int)) = true := by simp; omega
            have HX := hid (show fixO ss xx mm = none by rw [fixO, if_neg]; rw [Int.toNat_natCast, hgd, hg0]; exact fun h => h2 h.2.2.2.2)
            clear h2 h1 hgd hg0
            go_enter Try.func14, Try.ntmps14
            go_wp2_with (first | (go_at_call 25; refine (spec_IsSubst_c _ _ _ ss _ hr hs).mono ?_; rintro e w' ⟨rfl, rfl⟩) | (go_at_call 57; refine (l1In_c _ _ _ _).mono ?_; rintro e w' ⟨rfl, rfl⟩))
            all_goals
              go_ret2
              exact ⟨by rw [HX.out]; rfl, rfl⟩
      · have hmi := inB_f (x := m) (lo := 0) (hi := 300) (by omega)
        have HX := hid (show fixO ss xx m = none by rw [fixO, if_neg]; exact fun h => hm h.2.2.1)
        have hmo : m < 0 ∨ 300 < m := by omega
        clear hm hgd hg0
        rcases hmo with hmo | hmo
        all_goals
          go_enter Try.func14, Try.ntmps14
          go_wp2_with (first | (go_at_call 25; refine (spec_IsSubst_c _ _ _ ss _ hr hs).mono ?_; rintro e w' ⟨rfl, rfl⟩) | (go_at_call 57; refine (l1In_c _ _ _ _).mono ?_; rintro e w' ⟨rfl, rfl⟩))
          all_goals
            go_ret2
            exact ⟨by rw [HX.out]; rfl, rfl⟩
    · have HX := hid (show fixO ss x m = none by rw [fixO, if_neg]; rw [hlen.out]; exact fun h => hx h.2.1)
      have hxi := inB_f (x := x) (lo := 0) (hi := (n : Int) - 1) (by omega)
      have hxo : x < 0 ∨ (n : Int) ≤ x := by omega
      clear hx
      rcases hxo with hxo | hxo
      all_goals
        go_enter Try.func14, Try.ntmps14
        go_wp2_with (first | (go_at_call 25; refine (spec_IsSubst_c _ _ _ ss _ hr hs).mono ?_; rintro e w' ⟨rfl, rfl⟩) | (go_at_call 57; refine (l1In_c _ _ _ _).mono ?_; rintro e w' ⟨rfl, rfl⟩))
        all_goals
          go_ret2
          exact ⟨by rw [HX.out]; rfl, rfl⟩
  · have HX := hid (show fixO ss x m = none by rw [fixO, if_neg]; exact fun h => hsub h.1)
    have hsub2 : isSubst ss = false := by simpa using hsub
    clear hsub
    go_enter Try.func14, Try.ntmps14
    go_wp2_with (first | (go_at_call 25; refine (spec_IsSubst_c _ _ _ ss _ hr hs).mono ?_; rintro e w' ⟨rfl, rfl⟩) | (go_at_call 57; refine (l1In_c _ _ _ _).mono ?_; rintro e w' ⟨rfl, rfl⟩))
    all_goals
      go_ret2
      exact ⟨by rw [HX.out]; rfl, rfl⟩
end Go.Proofs.Ytcfjchaklgjmkaa
