/- Linear rules: what both functions ask of the bits of a number. Conditions: the number is below 256, or it lies outside 0 to 255. -/
import Derived.Test.YtnpgjpplhlbphaaStr
namespace Go.Proofs.Ytnpgjpplhlbphaa
open Go.RowKit

def sBad (n a b : Nat) : Bool := (bits BinOp.and IntKind.i64 ((n : Int) / 2 ^ (a ^^^ b)) 1 !=
      bits BinOp.xor IntKind.i64 (bits BinOp.and IntKind.i64 ((n : Int) / 2 ^ a) 1)
        (bits BinOp.and IntKind.i64 ((n : Int) / 2 ^ b) 1))
def iBad (n a b : Nat) : Bool := (bits BinOp.and IntKind.i64
      (bits BinOp.xor IntKind.i64 (bits BinOp.xor IntKind.i64 ((n : Int) / 2 ^ a) ((n : Int) / 2 ^ b)) ((n : Int) / 2 ^ (a ^^^ b))) 1 !=
    0)
theorem bad_eq : ∀ n : Nat, n < 256 → ∀ a : Nat, a < 8 → ∀ b : Nat, b < 8 → sBad n a b = iBad n a b := by decide +kernel
theorem xor8 : ∀ a : Nat, a < 8 → ∀ b : Nat, b < 8 → bits BinOp.xor IntKind.i64 (a : Int) (b : Int) = ((a ^^^ b : Nat) : Int) ∧ a ^^^ b < 8 := by decide +kernel
def rowOk (f : Nat → Nat → Bool) (a : Nat) : Nat → Bool | 0 => true | b + 1 => rowOk f a b && !f a b
def allOk (f : Nat → Nat → Bool) : Nat → Bool | 0 => true | a + 1 => allOk f a && rowOk f a 8
theorem rowOk_le {f : Nat → Nat → Bool} {a b : Nat} : ∀ {c : Nat}, b < c → f a b = true → rowOk f a c = false
  | c + 1, h, e => by
    by_cases hb : b = c
    · subst hb; simp [rowOk, e]
    · simp [rowOk, rowOk_le (show b < c by omega) e]
theorem allOk_le {f : Nat → Nat → Bool} {a : Nat} : ∀ {c : Nat}, a < c → rowOk f a 8 = false → allOk f c = false
  | c + 1, h, e => by
    by_cases hb : a = c
    · subst hb; simp [allOk, e]
    · simp [allOk, allOk_le (show a < c by omega) e]

set_option maxHeartbeats 400000 in
theorem spec_IsLinearRule_out (n : Int) (hn : n < 0 ∨ 255 < n) (w : World) :
    Calls Try.prog 9 #[.int .i64 n] w fun e w' => e = .returned (.bool false) ∧ w = w' := by
  have hin := inB_f (x := n) (lo := 0) (hi := 255) hn
  clear hn
  go_enter Try.func9, Try.ntmps9
  go_wp2_with (go_at_call 32; refine (l1In_c _ _ _ _).mono ?_; rintro e w' ⟨rfl, rfl⟩)
  go_ret
  exact ⟨rfl, rfl⟩

set_option maxHeartbeats 400000 in
theorem spec_IsLinearRule_c (n : Nat) (hn : n < 256) (w : World) :
    Calls Try.prog 9 #[.int .i64 n] w fun e w' => e = .returned (.bool (allOk (sBad n) 8)) ∧ w = w' := by
  have hin := inB_t (x := (n : Int)) (lo := 0) (hi := 255) (by omega)
  have h1 : (0 : Int) ≤ n := by omega
  have h2 : (n : Int) ≤ 255 := by omega
  go_enter Try.func9, Try.ntmps9
  go_wp2_with (go_at_call 32; refine (l1In_c _ _ _ _).mono ?_; rintro e w' ⟨rfl, rfl⟩)
  go_loop [3] (fun i => ∃ a : Nat, a ≤ 8 ∧ i = .int .i64 a ∧ Hid (allOk (sBad n) a = true)) (fun i => 8 - (intOf i).toNat)
  case atStart => exact ⟨0, by omega, rfl, rfl⟩
  case round =>
    obtain ⟨a, ha, rfl, hs⟩ := hrel
    by_cases hlt : a < 8
    · go_wp2
      go_loop [4] (fun i => ∃ b : Nat, b ≤ 8 ∧ i = .int .i64 b ∧ Hid (rowOk (sBad n) a b = true)) (fun i => 8 - (intOf i).toNat)
      case atStart => exact ⟨0, by omega, rfl, rfl⟩
      case round =>
        obtain ⟨b, hb, rfl, hr⟩ := hrel
        by_cases hlt2 : b < 8
        · obtain ⟨hx, hx8⟩ := xor8 a hlt b hlt2
          go_wp2
          · go_ret
            have hbad : sBad n a b = true := by assumption
            exact ⟨ret_bool (by rw [allOk_le hlt (rowOk_le hlt2 hbad)]), rfl⟩
          · go_round
            have hbad : sBad n a b = false := by assumption
            case rel => exact ⟨b + 1, by omega, by go_num, by show rowOk (sBad n) a (b + 1) = true; simp [rowOk, hbad, hr.out]⟩
            case measure => simp [intOf]; omega
        · obtain rfl : b = 8 := by omega
          go_wp2
          go_round
          case rel => exact ⟨a + 1, by omega, by go_num, by show allOk (sBad n) (a + 1) = true; simp [allOk, hs.out, hr.out]⟩
          case measure => simp [intOf]; omega
    · obtain rfl : a = 8 := by omega
      go_wp2
      go_ret
      exact ⟨ret_bool hs.out.symm, rfl⟩

set_option maxHeartbeats 400000 in
theorem impl_IsLinearRule_out (n : Int) (hn : n < 0 ∨ 255 < n) (w : World) :
    Calls Try.prog 10 #[.int .i64 n] w fun e w' => e = .returned (.bool false) ∧ w = w' := by
  rcases hn with hn | hn
  all_goals
    go_enter Try.func10, Try.ntmps10
    go_wp2
    go_ret
    exact ⟨rfl, rfl⟩

set_option maxHeartbeats 400000 in
theorem impl_IsLinearRule_c (n : Nat) (hn : n < 256) (w : World) :
    Calls Try.prog 10 #[.int .i64 n] w fun e w' => e = .returned (.bool (allOk (sBad n) 8)) ∧ Below w.heap.size w w' := by
  have h1 : (0 : Int) ≤ n := by omega
  have h2 : (n : Int) ≤ 255 := by omega
  go_enter Try.func10, Try.ntmps10
  go_wp2
  go_loopw [3, 11] (fun _ i wr => ∃ a : Nat, a ≤ 8 ∧ i = .int .i64 a ∧ Below w.heap.size w wr ∧ Hid (allOk (sBad n) a = true)) (fun _ i _ => 8 - (intOf i).toNat)
  case atStart => exact ⟨0, by omega, rfl, Below.refl _ _, rfl⟩
  case round =>
    obtain ⟨a, ha, rfl, hbel, hs⟩ := hrel
    by_cases hlt : a < 8
    · go_wp2
      obtain ⟨wo, rfl⟩ : ∃ wo : World, wo = wr := ⟨_, rfl⟩
      go_loopw [4, 14] (fun _ i wr => ∃ b : Nat, b ≤ 8 ∧ i = .int .i64 b ∧ Below w.heap.size w wr ∧ Hid (rowOk (sBad n) a b = true)) (fun _ i _ => 8 - (intOf i).toNat)
      case atStart => exact ⟨0, by omega, rfl, hbel, rfl⟩
      case round =>
        obtain ⟨b, hb, rfl, hbel2, hr⟩ := hrel
        by_cases hlt2 : b < 8
        · obtain ⟨hx, hx8⟩ := xor8 a hlt b hlt2
          go_wp2
          go_quiet (fail)
          go_wp2
          · go_ret
            have hbad : iBad n a b = true := by assumption
            rw [← bad_eq n hn a hlt b hlt2] at hbad
            exact ⟨ret_bool (by rw [allOk_le hlt (rowOk_le hlt2 hbad)]), below_drewN hbel2 _⟩
          · go_roundw
            have hbad : iBad n a b = false := by assumption
            rw [← bad_eq n hn a hlt b hlt2] at hbad
            case rel => exact ⟨b + 1, by omega, by go_num, below_drewN hbel2 _, by show rowOk (sBad n) a (b + 1) = true; simp [rowOk, hbad, hr.out]⟩
            case measure => simp [intOf]; omega
        · obtain rfl : b = 8 := by omega
          go_wp2
          go_roundw
          case rel => exact ⟨a + 1, by omega, by go_num, hbel2, by show allOk (sBad n) (a + 1) = true; simp [allOk, hs.out, hr.out]⟩
          case measure => simp [intOf]; omega
    · obtain rfl : a = 8 := by omega
      go_wp2
      go_ret
      exact ⟨ret_bool hs.out.symm, hbel⟩
end Go.Proofs.Ytnpgjpplhlbphaa
