/- Letters, slices of strings: the walks of the functions that only read, and of the copies. Conditions: sizes within the reach. -/
import Derived.Test.YtpncmmdjkcdemaaDoorBase
namespace Go.Proofs.YtpncmmdjkcdemaaDoor
open Go.RowKit

/-- All letters of a text lie from a on, below a + k. -/
def lets (k : Int) (l : List UInt8) : Bool := l.all fun c => inB ((c.toNat : Int) - 97) 0 (k - 1)
def strVals (ss : List ByteArray) : List Value := ss.map Value.string

theorem strVals_get {ss : List ByteArray} {k : Nat} {s : ByteArray} (h : ss[k]? = some s) : (strVals ss)[k]? = some (.string s) := by simp [strVals, h]

def isSubst (ss : List ByteArray) : Bool := decide (ss.length = 2 ∨ ss.length = 3) && ss.all (fun s => inB s.size 1 4 && lets ss.length s.data.toList)
set_option maxHeartbeats 400000 in
theorem l1In_c (x lo hi : Int) (w : World) :
    Calls Tryd.prog 46 #[.int .i64 x, .int .i64 lo, .int .i64 hi] w fun e w' => e = .returned (.bool (inB x lo hi)) ∧ w = w' := by
  by_cases h1 : lo ≤ x <;> by_cases h2 : x ≤ hi <;> {
      go_enter Tryd.func46, Tryd.ntmps46
      go_wp2
      go_ret
      exact ⟨by simp [inB, h1, h2], rfl⟩ }

set_option maxHeartbeats 400000 in
theorem areLetters_c (k : Int) (s : ByteArray) (w : World) (hs : s.size ≤ maxLen) (hk : -100 ≤ k ∧ k ≤ 140737488355328) :
    Calls Tryd.prog 50 #[.int .i64 k, .string s] w fun e w' => e = .returned (.bool (lets k s.data.toList)) ∧ w = w' := by
  unfold maxLen at hs
  go_enter Tryd.func50, Tryd.ntmps50
  go_wp2
  go_loop [8] (fun i => ∃ n : Nat, n ≤ s.size ∧ i = .int .i64 n ∧ Hid (lets k (s.data.toList.take n) = true)) (fun i => s.size - (intOf i).toNat)
  case atStart => exact ⟨0, Nat.zero_le _, rfl, rfl⟩
  case round =>
    obtain ⟨n, hn, rfl, H⟩ := hrel
    by_cases hlt : n < s.size
    · have hb : s[n].toNat < 256 := s[n].toNat_lt
      go_wp2
      · have hc : k ≤ (s[n].toNat : Int) - 97 := by omega
        go_ret
        exact ⟨ret_bool (by rw [show lets k s.data.toList = false from all_stop (byte_at s n hlt) (inB_f (by omega))]), rfl⟩
      · have hc : (s[n].toNat : Int) - 97 < k := by omega
        go_round
        case rel => exact ⟨n + 1, by omega, by go_num, all_step (byte_at s n hlt) H.out (inB_t (by omega))⟩
        case measure => simp [intOf]; omega
      · go_ret
        exact ⟨ret_bool (by rw [show lets k s.data.toList = false from all_stop (byte_at s n hlt) (inB_f (by omega))]), rfl⟩
    · go_wp2
      go_ret
      exact ⟨ret_bool (all_end H.out (by rw [size_list]; omega)).symm, rfl⟩

