/- spec.OccursIn at a part that occurs. Conditions: sizes of at most 1048576 bytes. -/
import Derived.Test.YtcfjchaklgjmkaaPlaces
namespace Go.Proofs.Ytcfjchaklgjmkaa
open Go.RowKit

theorem bytes_eqO {a b : ByteArray} (h : a.data.toList = b.data.toList) : a = b := by
  cases a; cases b; simp at h; rw [h]
set_option maxHeartbeats 1000000 in
theorem OccursIn_yes (s p : ByteArray) (w : World) (hs : s.size ≤ 1048576) (h : ∃ i, i + p.size ≤ s.size ∧ s.extract i (i + p.size) = p) :
    Calls Try.prog 48 #[.string s, .string p] w fun e w' => e = .returned (.bool true) ∧ w = w' := by
  obtain ⟨i, hi, he⟩ := h
  have HE := hid he
  clear he
  go_enter Try.func48, Try.ntmps48
  go_wp2
  go_loop [5] (fun v => ∃ k : Nat, k ≤ i ∧ v = .int .i64 k) (fun v => i - (intOf v).toNat)
  case atStart => exact ⟨0, by omega, rfl⟩
  case round =>
    obtain ⟨k, hk, rfl⟩ := hrel
    have hle : (k : Int) + (p.size : Int) ≤ (s.size : Int) := by omega
    have hext : ((s.extract k (k + p.size)).toList == p.toList) = decide (s.extract k (k + p.size) = p) := by
      by_cases hx : s.extract k (k + p.size) = p
      · rw [hx]; simp
      · rw [decide_eq_false hx]
        simp only [beq_eq_false_iff_ne, ne_eq]
        intro e
        rw [Lib.toList_data, Lib.toList_data] at e
        exact hx (bytes_eqO e)
    by_cases hx : s.extract k (k + p.size) = p
    · rw [decide_eq_true hx] at hext
      clear hx
      go_wp2
      go_ret
      exact ⟨rfl, rfl⟩
    · have hki : k ≠ i := by rintro rfl; exact hx HE.out
      rw [decide_eq_false hx] at hext
      clear hx
      go_wp2
      go_round
      case rel => exact ⟨k + 1, by omega, by go_num⟩
      case measure => simp [intOf]; omega
end Go.Proofs.Ytcfjchaklgjmkaa
