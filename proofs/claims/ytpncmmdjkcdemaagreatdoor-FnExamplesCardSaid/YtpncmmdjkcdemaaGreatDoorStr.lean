/- Letters, slices of strings: the walks of the functions that only read, and of the copies. Conditions: sizes within the reach. -/
import Derived.Test.YtpncmmdjkcdemaaGreatDoorBase
namespace Go.Proofs.YtpncmmdjkcdemaaGreatDoor
open Go.RowKit

/-- All letters of a text lie from a on, below a + k. -/
def lets (k : Int) (l : List UInt8) : Bool := l.all fun c => inB ((c.toNat : Int) - 97) 0 (k - 1)
def strVals (ss : List ByteArray) : List Value := ss.map Value.string

theorem strVals_get {ss : List ByteArray} {k : Nat} {s : ByteArray} (h : ss[k]? = some s) : (strVals ss)[k]? = some (.string s) := by simp [strVals, h]

/-- A substitution. -/
def isSubst (ss : List ByteArray) : Bool := decide (ss.length = 2 ∨ ss.length = 3) && ss.all (fun s => inB s.size 1 4 && lets ss.length s.data.toList)
set_option maxHeartbeats 400000 in
theorem l1In_c (x lo hi : Int) (w : World) :
    Calls Tryz.prog 34 #[.int .i64 x, .int .i64 lo, .int .i64 hi] w fun e w' => e = .returned (.bool (inB x lo hi)) ∧ w = w' := by
  by_cases h1 : lo ≤ x <;> by_cases h2 : x ≤ hi <;> {
      go_enter Tryz.func34, Tryz.ntmps34
      go_wp2
      go_ret
      exact ⟨by simp [inB, h1, h2], rfl⟩ }

set_option maxHeartbeats 400000 in
theorem areLetters_c (k : Int) (s : ByteArray) (w : World) (hs : s.size ≤ maxLen) (hk : -100 ≤ k ∧ k ≤ 140737488355328) :
    Calls Tryz.prog 55 #[.int .i64 k, .string s] w fun e w' => e = .returned (.bool (lets k s.data.toList)) ∧ w = w' := by
  unfold maxLen at hs
  go_enter Tryz.func55, Tryz.ntmps55
  go_wp2
  go_loop [8] (fun i => ∃ n : Nat, n ≤ s.size ∧ i = .int .i64 n ∧ Hid (lets k (s.data.toList.take n) = true)) (fun i => s.size - (intOf i).toNat)
  case atStart => exact ⟨0, Nat.zero_le _, rfl, rfl⟩
  case round =>
    obtain ⟨n, hn, rfl, H⟩ := hrel
    by_cases hlt : n < s.size
    · have hb : s[n].toNat < 256 := s[n].toNat_lt
      go_wp2
      · have hc : k ≤ (s[n].toNat : Int) - 97 := by omega
        go_ret
        exact ⟨ret_bool (by rw [show lets k s.data.toList = false from all_stop (byte_at s n hlt) (inB_f (by omega))]), rfl⟩
      · have hc : (s[n].toNat : Int) - 97 < k := by omega
        go_round
        case rel => exact ⟨n + 1, by omega, by go_num, all_step (byte_at s n hlt) H.out (inB_t (by omega))⟩
        case measure => simp [intOf]; omega
      · go_ret
        exact ⟨ret_bool (by rw [show lets k s.data.toList = false from all_stop (byte_at s n hlt) (inB_f (by omega))]), rfl⟩
    · go_wp2
      go_ret
      exact ⟨ret_bool (all_end H.out (by rw [size_list]; omega)).symm, rfl⟩

set_option maxHeartbeats 400000 in
theorem l30Long_c (k : Int) (s : ByteArray) (w : World) (hs : s.size ≤ maxLen) (hk : -100 ≤ k ∧ k ≤ 140737488355328) :
    Calls Tryz.prog 38 #[.int .i64 k, .string s] w fun e w' => e = .returned (.bool (lets k s.data.toList && decide (s.size ≤ 300))) ∧ w = w' := by
  unfold maxLen at hs
  go_enter Tryz.func38, Tryz.ntmps38
  go_wp2
  go_loop [5] (fun i => ∃ n : Nat, n ≤ s.size ∧ i = .int .i64 n ∧ Hid (lets k (s.data.toList.take n) = true)) (fun i => s.size - (intOf i).toNat)
  case atStart => exact ⟨0, Nat.zero_le _, rfl, rfl⟩
  case round =>
    obtain ⟨n, hn, rfl, H⟩ := hrel
    by_cases hlt : n < s.size
    · have hb : s[n].toNat < 256 := s[n].toNat_lt
      go_wp2_with (go_at_call 34; refine (l1In_c _ _ _ _).mono ?_; rintro e w' ⟨rfl, rfl⟩)
      · have hc : inB ((s[n].toNat : Int) - 97) 0 (k - 1) = false := by simp_all
        go_ret
        exact ⟨ret_bool (by rw [show lets k s.data.toList = false from all_stop (byte_at s n hlt) hc]; rfl), rfl⟩
      · have hc : inB ((s[n].toNat : Int) - 97) 0 (k - 1) = true := by simp_all
        go_round
        case rel => exact ⟨n + 1, by omega, by go_num, all_step (byte_at s n hlt) H.out hc⟩
        case measure => simp [intOf]; omega
    · go_wp2
      go_ret
      exact ⟨ret_bool (by rw [show lets k s.data.toList = true from all_end H.out (by rw [size_list]; omega)]; simp; omega), rfl⟩


set_option maxHeartbeats 1000000 in
theorem spec_IsSubst_c (a : Option Addr) (n cap : Nat) (ss : List ByteArray) (w : World) (hr : RowAt w a n (strVals ss)) (hs : ∀ s ∈ ss, s.size ≤ maxLen) :
    Calls Tryz.prog 24 #[.slice a n cap] w fun e w' => e = .returned (.bool (isSubst ss)) ∧ w = w' := by
  obtain ⟨hl, hlim, hat⟩ := hr
  have hlen := hid (show ss.length = n by simpa [strVals] using hl)
  clear hl
  by_cases hn : n = 0
  · subst hn
    go_enter Tryz.func24, Tryz.ntmps24
    go_wp2
    go_loop [3] (fun i => i = .int .i64 0) (fun i => 0)
    case atStart => rfl
    case round =>
      obtain rfl := hrel
      go_wp2_with (go_at_call 34; refine (l1In_c _ _ _ _).mono ?_; rintro e w' ⟨rfl, rfl⟩)
      go_ret
      exact ⟨ret_bool (by simp [isSubst, hlen.out, inB]), rfl⟩
  · obtain ⟨b, off, rfl, hb, hc⟩ := hat (by omega)
    clear hat
    have HC := hid hc
    clear hc
    go_enter Tryz.func24, Tryz.ntmps24
    go_wp2
    go_loop [3] (fun i => ∃ k : Nat, k ≤ n ∧ i = .int .i64 k ∧ Hid ((ss.take k).all (fun s => inB s.size 1 4 && lets ss.length s.data.toList) = true)) (fun i => n - (intOf i).toNat)
    case atStart => exact ⟨0, by omega, rfl, rfl⟩
    case round =>
      obtain ⟨k, hk, rfl, H⟩ := hrel
      by_cases hlt : k < n
      · obtain ⟨s, hsk⟩ := get_some (l := ss) (n := k) (by rw [hlen.out]; exact hlt)
        have hcell := HC.out k _ (strVals_get hsk)
        have hsz := hs s (List.mem_of_getElem? hsk)
        unfold maxLen at hsz
        have HS := hid hsk
        clear hsk
        go_wp2_with (first | (go_at_call 34; refine (l1In_c _ _ _ _).mono ?_; rintro e w' ⟨rfl, rfl⟩) | (go_at_call 38; refine (l30Long_c _ _ _ hsz (by omega)).mono ?_; rintro e w' ⟨rfl, rfl⟩))
        · go_ret
          have h1 : inB s.size 1 4 = true := by assumption
          have h2 : (!lets n s.data.toList) = true ∨ (!decide (s.size ≤ 300)) = true := by assumption
          have h3 : lets n s.data.toList = false := by rw [inB_iff] at h1; simp at h2; rcases h2 with h2 | h2; exact h2; omega
          exact ⟨ret_bool (by rw [isSubst, all_stop HS.out (by rw [hlen.out, h1, h3]; rfl), Bool.and_false]), rfl⟩
        · have h1 : inB s.size 1 4 = true := by assumption
          have h2 : (!lets n s.data.toList) = false ∧ (!decide (s.size ≤ 300)) = false := by assumption
          go_round
          case rel => exact ⟨k + 1, by omega, by go_num, all_step HS.out H.out (by rw [hlen.out, h1]; simpa using h2.1)⟩
          case measure => simp [intOf]; omega
        · have h1 : inB s.size 1 4 = false := by simp_all
          go_ret
          exact ⟨ret_bool (by rw [isSubst, all_stop HS.out (by rw [h1]; rfl), Bool.and_false]), rfl⟩
      · go_wp2_with (go_at_call 34; refine (l1In_c _ _ _ _).mono ?_; rintro e w' ⟨rfl, rfl⟩)
        go_ret
        exact ⟨ret_bool (by rw [isSubst, all_end H.out (by rw [hlen.out]; omega), hlen.out, Bool.and_true, inB]; congr 1; rw [eq_iff_iff]; omega), rfl⟩
theorem isSubst_no {ss : List ByteArray} {k n : Nat} {s : ByteArray} (h : ss[k]? = some s) (hn : ss.length = n) (hb : ((s.size : Int) < 1 ∨ 4 < (s.size : Int)) ∨ (!lets n s.data.toList) = true) : isSubst ss = false := by
  rw [isSubst, all_stop h ?_, Bool.and_false]
  rw [hn]
  rcases hb with hb | hb
  · rw [inB_f hb]; rfl
  · simp at hb; rw [hb, Bool.and_false]

