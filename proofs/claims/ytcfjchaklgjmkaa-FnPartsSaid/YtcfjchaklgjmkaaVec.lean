/- Sums and weighed sums of rows of numbers. Conditions: sizes within the reach, numbers not below zero and bounded. -/
import Derived.Test.YtcfjchaklgjmkaaZero
namespace Go.Proofs.Ytcfjchaklgjmkaa
open Go.RowKit

def sumTo (f : Nat → Int) : Nat → Int | 0 => 0 | k + 1 => sumTo f k + f k
theorem sumTo_bd {f : Nat → Int} {n : Nat} {B : Int} (h : ∀ k, k < n → 0 ≤ f k ∧ f k ≤ B) : ∀ k, k ≤ n → 0 ≤ sumTo f k ∧ sumTo f k ≤ k * B
  | 0, _ => by simp [sumTo]
  | k + 1, hk => by
    have h1 := sumTo_bd h k (by omega)
    have h2 := h k (by omega)
    have e : ((k + 1 : Nat) : Int) * B = k * B + B := by rw [Int.natCast_add, Int.add_mul]; simp
    rw [e]
    unfold sumTo
    omega
def at0 (xs : List Int) (k : Nat) : Int := xs.getD k 0
theorem at0_get {xs : List Int} {k : Nat} {x : Int} (h : xs[k]? = some x) : at0 xs k = x := by rw [at0, List.getD_eq_getElem?_getD, h]; rfl
theorem at0_some {xs : List Int} {k : Nat} (h : k < xs.length) : xs[k]? = some (at0 xs k) := by obtain ⟨x, hx⟩ := get_some h; rw [hx, at0_get hx]
theorem prod_bd {x y X Y : Int} (hx : 0 ≤ x ∧ x ≤ X) (hy : 0 ≤ y ∧ y ≤ Y) : 0 ≤ x * y ∧ x * y ≤ X * Y :=
  ⟨Int.mul_nonneg hx.1 hy.1, Int.mul_le_mul hx.2 hy.2 hy.1 (Int.le_trans hx.1 hx.2)⟩

set_option maxHeartbeats 1000000 in
theorem impl_total_c (a : Option Addr) (n c : Nat) (xs : List Int) (B : Int) (w : World) (ha : RowAt w a n (intVals xs)) (hb : ∀ k, k < n → 0 ≤ at0 xs k ∧ at0 xs k ≤ B) (hB : (n : Int) * B ≤ 4611686018427387904) :
    Calls Try.prog 61 #[.slice a n c] w fun e w' => e = .returned (.int .i64 (sumTo (at0 xs) n)) ∧ w = w' := by
  obtain ⟨hl, hlim, hat⟩ := ha
  have hlen := hid (show xs.length = n by simpa [intVals] using hl)
  have HAT := hid hat
  have HS := hid (sumTo_bd hb)
  have HBD := hid hb
  have hnB : ∀ k : Nat, k ≤ n → 0 ≤ B → (k : Int) * B ≤ (n : Int) * B := fun k hk h0 => Int.mul_le_mul_of_nonneg_right (by omega) h0
  have HNB := hid hnB
  clear hl hat hb hnB
  go_enter Try.func61, Try.ntmps61
  go_wp2
  go_loop [3, 8] (fun q i => ∃ k : Nat, k ≤ n ∧ i = .int .i64 k ∧ q = .int .i64 (sumTo (at0 xs) k)) (fun _ i => n - (intOf i).toNat)
  case atStart => exact ⟨0, by omega, rfl, rfl⟩
  case round =>
    obtain ⟨k, hk, rfl, rfl⟩ := hrel
    by_cases hlt : k < n
    · obtain ⟨b, off, rfl, hb1, hc⟩ := HAT.out (by omega)
      have hcell := hc k _ (intVals_get (at0_some (xs := xs) (k := k) (by rw [hlen.out]; exact hlt)))
      have h1 := HS.out (k + 1) hlt
      have h2 := HS.out k hk
      have h3 := HBD.out k hlt
      have h4 := HNB.out (k + 1) hlt (by omega)
      have HE := hid (show sumTo (at0 xs) (k + 1) = sumTo (at0 xs) k + at0 xs k from rfl)
      rw [HE.out] at h1
      obtain ⟨x, hx⟩ : ∃ x, x = at0 xs k := ⟨_, rfl⟩
      obtain ⟨y, hy⟩ : ∃ y, y = sumTo (at0 xs) k := ⟨_, rfl⟩
      rw [← hx] at hcell h1 h3
      rw [← hy] at h1 h2
      rw [← hy]
      have hu : x + y ≤ 4611686018427387904 := by omega
      have hu0 := h2.1
      have hu1 := h3.1
      have HX := hid hx
      have HY := hid hy
      clear hx hy h1 h2 h3 h4 hc
      go_wp2
      go_round
      case rel => exact ⟨k + 1, by omega, by go_num, by rw [HE.out, ← HX.out, ← HY.out]⟩
      case measure => simp [intOf]; omega
    · obtain rfl : k = n := by omega
      go_wp2
      go_ret
      exact ⟨rfl, rfl⟩

set_option maxHeartbeats 1000000 in
theorem impl_weighed_c (a b : Option Addr) (n m c d : Nat) (xs ys : List Int) (X Y : Int) (w : World) (ha : RowAt w a n (intVals xs)) (hb : RowAt w b m (intVals ys)) (hnm : n ≤ m)
    (hx : ∀ k, k < n → 0 ≤ at0 xs k ∧ at0 xs k ≤ X) (hy : ∀ k, k < n → 0 ≤ at0 ys k ∧ at0 ys k ≤ Y) (hB : (n : Int) * (X * Y) ≤ 4611686018427387904) :
    Calls Try.prog 60 #[.slice a n c, .slice b m d] w fun e w' => e = .returned (.int .i64 (sumTo (fun k => at0 xs k * at0 ys k) n)) ∧ w = w' := by
  obtain ⟨hl, hlim, hat⟩ := ha
  obtain ⟨hl2, hlim2, hbt⟩ := hb
  have hlen := hid (show xs.length = n by simpa [intVals] using hl)
  have hlen2 := hid (show ys.length = m by simpa [intVals] using hl2)
  have HAT := hid hat
  have HBT := hid hbt
  have HP := hid (fun k hk => prod_bd (hx k hk) (hy k hk))
  have HS := hid (sumTo_bd (f := fun k => at0 xs k * at0 ys k) HP.out)
  have HNB := hid (fun (k : Nat) (hk : k ≤ n) (h0 : 0 ≤ X * Y) => (Int.mul_le_mul_of_nonneg_right (by omega) h0 : (k : Int) * (X * Y) ≤ (n : Int) * (X * Y)))
  obtain ⟨P, hP⟩ : ∃ P, P = X * Y := ⟨_, rfl⟩
  rw [← hP] at HP HS HNB hB
  clear hl hat hl2 hbt hx hy hP
  go_enter Try.func60, Try.ntmps60
  go_wp2
  go_loop [5, 10] (fun q i => ∃ k : Nat, k ≤ n ∧ i = .int .i64 k ∧ q = .int .i64 (sumTo (fun k => at0 xs k * at0 ys k) k)) (fun _ i => n - (intOf i).toNat)
  case atStart => exact ⟨0, by omega, rfl, rfl⟩
  case round =>
    obtain ⟨k, hk, rfl, rfl⟩ := hrel
    by_cases hlt : k < n
    · obtain ⟨b1, off1, rfl, hb1, hc1⟩ := HAT.out (by omega)
      obtain ⟨b2, off2, rfl, hb2, hc2⟩ := HBT.out (by omega)
      have hcell1 := hc1 k _ (intVals_get (at0_some (xs := xs) (k := k) (by rw [hlen.out]; exact hlt)))
      have hcell2 := hc2 k _ (intVals_get (at0_some (xs := ys) (k := k) (by rw [hlen2.out]; omega)))
      have h1 := HS.out (k + 1) hlt
      have h2 := HS.out k hk
      have h3 := HP.out k hlt
      have h4 := HNB.out (k + 1) hlt (by omega)
      have HE := hid (show sumTo (fun k => at0 xs k * at0 ys k) (k + 1) = sumTo (fun k => at0 xs k * at0 ys k) k + at0 xs k * at0 ys k from rfl)
      rw [HE.out] at h1
      obtain ⟨x, hx⟩ : ∃ x, x = at0 xs k := ⟨_, rfl⟩
      obtain ⟨z, hz⟩ : ∃ z, z = at0 ys k := ⟨_, rfl⟩
      obtain ⟨y, hy⟩ : ∃ y, y = sumTo (fun k => at0 xs k * at0 ys k) k := ⟨_, rfl⟩
      rw [← hx] at hcell1 h1 h3
      rw [← hz] at hcell2 h1 h3
      rw [← hy] at h1 h2
      rw [← hy]
      have hu : x * z + y ≤ 4611686018427387904 := by omega
      have hu0 := h2.1
      have hu1 := h3.1
      have HX := hid hx
      have HY := hid hy
      have HZ := hid hz
      have hkm : (k : Int) < (m : Int) := by omega
      clear hx hy hz h1 h2 h3 h4 hc1 hc2
      go_wp2
      go_round
      case rel => exact ⟨k + 1, by omega, by go_num, by rw [HE.out, ← HX.out, ← HY.out, ← HZ.out]⟩
      case measure => simp [intOf]; omega
    · obtain rfl : k = n := by omega
      go_wp2
      go_ret
      exact ⟨rfl, rfl⟩
end Go.Proofs.Ytcfjchaklgjmkaa
