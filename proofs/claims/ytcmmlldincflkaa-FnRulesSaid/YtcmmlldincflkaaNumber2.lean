/- The number of a code: both exported functions. Conditions: sizes within the reach. -/
import Derived.Test.YtcmmlldincflkaaNumber
namespace Go.Proofs.Ytcmmlldincflkaa
open Go.RowKit

set_option maxHeartbeats 1000000 in
theorem impl_RuleNumber_no (k n : Int) (o : ByteArray) (w : World) (ho : o.size ≤ maxLen) (h : ¬ (isCode k n o = true ∧ k = 2 ∧ n = 3)) :
    Calls Try.prog 22 #[.agg #[.int .i64 k, .int .i64 n, .string o]] w fun e w' => e = .returned (.int .i64 (numB k n o)) ∧ Below w.heap.size w w' := by
  have HN := hid (numB_no h)
  by_cases hc : isCode k n o = true
  · by_cases h2 : k = 2
    · have g2 : (k != 2) = false := by simpa using h2
      have g3 : (n != 3) = true := by simp; intro h3; exact h ⟨hc, h2, h3⟩
      clear h h2
      go_enter Try.func22, Try.ntmps22
      go_wp2_with fail
      refine (impl_IsCode_c k n o _ ho).mono ?_
      rintro e w1 ⟨rfl, hb⟩
      obtain ⟨⟨hc0, hc1, hc2⟩, ⟨hf0, hf1, hf2⟩, hz⟩ := box3 hb
      go_wp2
      go_ret
      exact ⟨ret_int HN.out.symm, ((Below.refl _ _).alloc (Nat.le_refl _) _).trans (hb.mono (by simp))⟩
    · have g2 : (k != 2) = true := by simpa using h2
      clear h h2
      go_enter Try.func22, Try.ntmps22
      go_wp2_with fail
      refine (impl_IsCode_c k n o _ ho).mono ?_
      rintro e w1 ⟨rfl, hb⟩
      obtain ⟨⟨hc0, hc1, hc2⟩, ⟨hf0, hf1, hf2⟩, hz⟩ := box3 hb
      go_wp2
      go_ret
      exact ⟨ret_int HN.out.symm, ((Below.refl _ _).alloc (Nat.le_refl _) _).trans (hb.mono (by simp))⟩
  · have g : isCode k n o = false := by simpa using hc
    clear h hc
    go_enter Try.func22, Try.ntmps22
    go_wp2_with fail
    refine (impl_IsCode_c k n o _ ho).mono ?_
    rintro e w1 ⟨rfl, hb⟩
    obtain ⟨⟨hc0, hc1, hc2⟩, ⟨hf0, hf1, hf2⟩, hz⟩ := box3 hb
    go_wp2
    go_ret
    exact ⟨ret_int HN.out.symm, ((Below.refl _ _).alloc (Nat.le_refl _) _).trans (hb.mono (by simp))⟩

set_option maxHeartbeats 1000000 in
theorem impl_RuleNumber_yes (o : ByteArray) (w : World) (ho : o.size ≤ maxLen) (hc : isCode 2 3 o = true) :
    Calls Try.prog 22 #[.agg #[.int .i64 2, .int .i64 3, .string o]] w fun e w' => e = .returned (.int .i64 (numB 2 3 o)) ∧ Below w.heap.size w w' := by
  have HN := hid (numB_yes hc)
  go_enter Try.func22, Try.ntmps22
  go_wp2_with fail
  refine (impl_IsCode_c 2 3 o _ ho).mono ?_
  rintro e w1 ⟨rfl, hb⟩
  obtain ⟨⟨hc0, hc1, hc2⟩, ⟨hf0, hf1, hf2⟩, hz⟩ := box3 hb
  go_wp2_with fail
  refine (impl_ruleNumber_c o _ (code8 hc).1 (code8 hc).2).mono ?_
  rintro e w2 ⟨rfl, hb2⟩
  go_wp2
  go_ret
  exact ⟨ret_int HN.out.symm, (((Below.refl _ _).alloc (Nat.le_refl _) _).trans (hb.mono (by simp))).trans (hb2.mono (by omega))⟩
end Go.Proofs.Ytcmmlldincflkaa
