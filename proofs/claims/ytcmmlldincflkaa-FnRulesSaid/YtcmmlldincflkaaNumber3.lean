/- The number of a code: the reference's function. Conditions: sizes within the reach. -/
import Derived.Test.YtcmmlldincflkaaNumber
namespace Go.Proofs.Ytcmmlldincflkaa
open Go.RowKit

set_option maxHeartbeats 1000000 in
theorem spec_RuleNumber_no (k n : Int) (o : ByteArray) (w : World) (ho : o.size ≤ maxLen) (h : ¬ (isCode k n o = true ∧ k = 2 ∧ n = 3)) :
    Calls Try.prog 23 #[.agg #[.int .i64 k, .int .i64 n, .string o]] w fun e w' => e = .returned (.int .i64 (numB k n o)) ∧ Below w.heap.size w w' := by
  have HN := hid (numB_no h)
  by_cases hc : isCode k n o = true
  · by_cases h2 : k = 2
    · have g2 : (k != 2) = false := by simpa using h2
      have g3 : (n != 3) = true := by simp; intro h3; exact h ⟨hc, h2, h3⟩
      clear h h2
      go_enter Try.func23, Try.ntmps23
      go_wp2_with fail
      refine (spec_IsCode_c k n o _ ho).mono ?_
      rintro e w1 ⟨rfl, hb⟩
      obtain ⟨⟨hc0, hc1, hc2⟩, ⟨hf0, hf1, hf2⟩, hz⟩ := box3 hb
      go_wp2
      go_ret
      exact ⟨ret_int HN.out.symm, ((Below.refl _ _).alloc (Nat.le_refl _) _).trans (hb.mono (by simp))⟩
    · have g2 : (k != 2) = true := by simpa using h2
      clear h h2
      go_enter Try.func23, Try.ntmps23
      go_wp2_with fail
      refine (spec_IsCode_c k n o _ ho).mono ?_
      rintro e w1 ⟨rfl, hb⟩
      obtain ⟨⟨hc0, hc1, hc2⟩, ⟨hf0, hf1, hf2⟩, hz⟩ := box3 hb
      go_wp2
      go_ret
      exact ⟨ret_int HN.out.symm, ((Below.refl _ _).alloc (Nat.le_refl _) _).trans (hb.mono (by simp))⟩
  · have g : isCode k n o = false := by simpa using hc
    clear h hc
    go_enter Try.func23, Try.ntmps23
    go_wp2_with fail
    refine (spec_IsCode_c k n o _ ho).mono ?_
    rintro e w1 ⟨rfl, hb⟩
    obtain ⟨⟨hc0, hc1, hc2⟩, ⟨hf0, hf1, hf2⟩, hz⟩ := box3 hb
    go_wp2
    go_ret
    exact ⟨ret_int HN.out.symm, ((Below.refl _ _).alloc (Nat.le_refl _) _).trans (hb.mono (by simp))⟩

theorem add_bit : ∀ j : Nat, j < 8 → ∀ m : Nat, m < 128 →
    wrap64 ((m : Int) + wrap64 (1 * 2 ^ j)) = ((m + 2 ^ j : Nat) : Int) ∧ wrap64 ((m : Int) + wrap64 (0 * 2 ^ j)) = (m : Int) := by decide +kernel
theorem num_step2 {o : ByteArray} (hl : lets 2 o.data.toList = true) {j m : Nat} (h : j < o.size) (h8 : j < 8) (hm : m = numOf o.data.toList j) :
    wrap64 ((m : Int) + wrap64 ((if (o[j].toNat : Int) = 98 then 1 else 0) * 2 ^ j)) = ((numOf o.data.toList (j + 1) : Nat) : Int) := by
  have h2 := numOf_lt o.data.toList j
  rw [← hm] at h2
  have h3 : (2 : Nat) ^ j ≤ 2 ^ 7 := Nat.pow_le_pow_right (by omega) (by omega)
  have hb := add_bit j h8 m (by omega)
  have hg : o.data.toList.getD j 0 = o[j] := by rw [List.getD_eq_getElem?_getD, byte_at o j h]; rfl
  rw [numOf_succ, ← hm, hg]
  rcases lets2 hl h with h4 | h4
  · have h5 : ¬ o[j] = 98 := fun h => by rw [h] at h4; simp at h4
    rw [h4, if_neg h5, if_neg (by decide)]; exact hb.2
  · have h5 : o[j] = 98 := UInt8.toNat_inj.1 h4
    rw [h4, if_pos h5, if_pos (by decide)]; exact hb.1

set_option maxHeartbeats 1000000 in
theorem spec_RuleNumber_yes (o : ByteArray) (w : World) (ho : o.size ≤ maxLen) (hc : isCode 2 3 o = true) :
    Calls Try.prog 23 #[.agg #[.int .i64 2, .int .i64 3, .string o]] w fun e w' => e = .returned (.int .i64 (numB 2 3 o)) ∧ Below w.heap.size w w' := by
  have HN := hid (numB_yes hc)
  have h8 : 8 ≤ o.size := by rw [(code8 hc).1]; omega
  have HLL := hid (code8 hc).2
  go_enter Try.func23, Try.ntmps23
  go_wp2_with fail
  refine (spec_IsCode_c 2 3 o _ ho).mono ?_
  rintro e w1 ⟨rfl, hb⟩
  obtain ⟨⟨hc0, hc1, hc2⟩, ⟨hf0, hf1, hf2⟩, hz⟩ := box3 hb
  go_wp2
  go_loop [3, 4] (fun q i => ∃ j m : Nat, j ≤ 8 ∧ i = .int .i64 j ∧ q = .int .i64 m ∧ Hid (m = numOf o.data.toList j)) (fun _ i => 8 - (intOf i).toNat)
  case atStart => exact ⟨0, 0, by omega, rfl, rfl, by show _ = _; simp [numOf]⟩
  case round =>
    obtain ⟨j, m, hj, rfl, rfl, H⟩ := hrel
    by_cases hlt : j < 8
    · have hos : j < o.size := by omega
      have hji : (j : Int) < (o.size : Int) := by omega
      have hb : o[j].toNat < 256 := o[j].toNat_lt
      go_wp2_with (go_at_call 43; refine (l1Bit_c _ _).mono ?_; rintro e w' ⟨rfl, rfl⟩)
      have HST := hid (num_step2 HLL.out hos hlt H.out)
      go_round
      case rel => exact ⟨j + 1, _, by omega, by go_num, by rw [HST.out], rfl⟩
      case measure => simp [intOf]; omega
    · obtain rfl : j = 8 := by omega
      go_wp2
      go_ret
      exact ⟨ret_int (by rw [HN.out, H.out]), ((Below.refl _ _).alloc (Nat.le_refl _) _).trans (hb.mono (by simp))⟩
end Go.Proofs.Ytcmmlldincflkaa
