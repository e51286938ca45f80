/- All words of a length: both functions. Conditions: at most 3 letters, at most 8 places. -/
import Derived.Test.YtpncmmdjkcdemaaDoorWords
import Derived.Test.YtpncmmdjkcdemaaDoorCode
import Derived.Test.YtpncmmdjkcdemaaDoorZero
import Derived.Test.YtpncmmdjkcdemaaDoorStep
namespace Go.Proofs.YtpncmmdjkcdemaaDoor
open Go.RowKit

/-- The first m words of n letters. -/
def wdB (k n i : Nat) : ByteArray := ⟨(wAt k n i).toArray⟩
def wds (k n m : Nat) : List ByteArray := (List.range m).map (wdB k n)
theorem wds_len (k n m : Nat) : (wds k n m).length = m := by simp [wds]
theorem wds_succ (k n m : Nat) : strVals (wds k n (m + 1)) = strVals (wds k n m) ++ [.string (wdB k n m)] := by simp [wds, strVals, List.range_succ]
theorem wds_get {k n m i : Nat} (h : i < m) : (wds k n m)[i]? = some (wdB k n i) := by simp [wds, h]
theorem wdB_list (k n i : Nat) : (wdB k n i).data.toList = wAt k n i := rfl
theorem wdB_size (k n i : Nat) : (wdB k n i).size = n := by
  simp [wdB, ByteArray.size, wAt_len]
theorem wAt_next {k n j x : Nat} (hx : x < k) : wAt k (n + 1) (j * k + x) = wAt k n j ++ [letB x] := by
  have h1 : (j * k + x) / k = j := by rw [Nat.add_comm, Nat.add_mul_div_right _ _ (by omega), Nat.div_eq_of_lt hx, Nat.zero_add]
  have h2 : (j * k + x) % k = x := by rw [Nat.add_comm, Nat.add_mul_mod_self_right, Nat.mod_eq_of_lt hx]
  rw [wAt, h1, h2]
theorem wdB_next {k n j x : Nat} (hx : x < k) : wdB k (n + 1) (j * k + x) = wdB k n j ++ ⟨#[letB x]⟩ := by
  unfold wdB
  rw [wAt_next hx, show (ByteArray.mk #[letB x]) = ⟨[letB x].toArray⟩ from rfl, ByteArray.mk_append_mk]
  first | done | simp
theorem wAt_lets {k : Nat} (hk : 1 ≤ k ∧ k ≤ 3) : ∀ n x, lets k (wAt k n x) = true
  | 0, _ => rfl
  | n + 1, x => by
    unfold wAt lets
    rw [List.all_append, show (wAt k n (x / k)).all (fun c => inB ((c.toNat : Int) - 97) 0 ((k : Int) - 1)) = true from wAt_lets hk n (x / k)]
    have h : x % k < k := Nat.mod_lt _ (by omega)
    have h2 := letB_nat (show x % k < 100 by omega)
    simp only [List.all_cons, List.all_nil, Bool.and_true, Bool.true_and]
    rw [inB_iff, h2]; omega
theorem pow_small {k n : Nat} (hk : k ≤ 3) (hn : n ≤ 8) : k ^ n ≤ 6561 := by
  have h1 := Nat.pow_le_pow_left hk n
  have h2 := Nat.pow_le_pow_right (n := 3) (by decide) hn
  have e : 3 ^ 8 = 6561 := by decide
  omega
/-- A slice of all words. -/
def WordsPost (k n : Nat) (w : World) (e : Ending) (w' : World) : Prop := ∃ v, e = .returned v ∧ w'.ownsRow w.heap.size 9 1 v (k ^ n) (strVals (wds k n (k ^ n))) ∧ Below w.heap.size w w'

