/- Sums and weighed sums of rows of numbers. Conditions: sizes within the reach, numbers not below zero and bounded. -/
import Derived.Test.YtpncmmdjkcdemaaDoorZero
namespace Go.Proofs.YtpncmmdjkcdemaaDoor
open Go.RowKit

def sumTo (f : Nat → Int) : Nat → Int | 0 => 0 | k + 1 => sumTo f k + f k
theorem sumTo_bd {f : Nat → Int} {n : Nat} {B : Int} (h : ∀ k, k < n → 0 ≤ f k ∧ f k ≤ B) : ∀ k, k ≤ n → 0 ≤ sumTo f k ∧ sumTo f k ≤ k * B
  | 0, _ => by simp [sumTo]
  | k + 1, hk => by
    have h1 := sumTo_bd h k (by omega)
    have h2 := h k (by omega)
    have e : ((k + 1 : Nat) : Int) * B = k * B + B := by rw [Int.natCast_add, Int.add_mul]; simp
    rw [e]
    unfold sumTo
    omega
def at0 (xs : List Int) (k : Nat) : Int := xs.getD k 0
theorem at0_get {xs : List Int} {k : Nat} {x : Int} (h : xs[k]? = some x) : at0 xs k = x := by rw [at0, List.getD_eq_getElem?_getD, h]; rfl
theorem at0_some {xs : List Int} {k : Nat} (h : k < xs.length) : xs[k]? = some (at0 xs k) := by obtain ⟨x, hx⟩ := get_some h; rw [hx, at0_get hx]
theorem prod_bd {x y X Y : Int} (hx : 0 ≤ x ∧ x ≤ X) (hy : 0 ≤ y ∧ y ≤ Y) : 0 ≤ x * y ∧ x * y ≤ X * Y :=
  ⟨Int.mul_nonneg hx.1 hy.1, Int.mul_le_mul hx.2 hy.2 hy.1 (Int.le_trans hx.1 hx.2)⟩

