/- The polynomial's numbers: plain laws. -/
import Derived.Test.YtpfeflhcbcgbfaaGreatDoorPartI
import Derived.Test.YtpfeflhcbcgbfaaGreatDoorSmall
namespace Go.Proofs.YtpfeflhcbcgbfaaGreatDoor
open Go.RowKit
def bitL (s j : Nat) : List Nat := (List.range j).filter fun i => decide (s / 2 ^ i % 2 = 1)
theorem bitL_yes {s j : Nat} (h : s / 2 ^ j % 2 = 1) : bitL s (j + 1) = bitL s j ++ [j] := by simp [bitL, List.range_succ, List.filter_append, h]
theorem bitL_no {s j : Nat} (h : ¬ s / 2 ^ j % 2 = 1) : bitL s (j + 1) = bitL s j := by simp [bitL, List.range_succ, List.filter_append, h]
theorem bitL_le (s j : Nat) : (bitL s j).length ≤ j := by
  have := List.length_filter_le (fun i => decide (s / 2 ^ i % 2 = 1)) (List.range j)
  rw [List.length_range] at this
  exact this
theorem bitL_lt {s n i : Nat} (h : i ∈ bitL s n) : i < n := List.mem_range.1 (List.mem_filter.1 h).1
/-- The lists of a length among the first masks. -/
def setsL (n k m : Nat) : List (List Nat) := ((List.range m).map fun s => bitL s n).filter fun L => decide (L.length = k)
theorem setsL_yes {n k m : Nat} (h : (bitL m n).length = k) : setsL n k (m + 1) = setsL n k m ++ [bitL m n] := by simp [setsL, List.range_succ, List.filter_append, h]
theorem setsL_no {n k m : Nat} (h : ¬ (bitL m n).length = k) : setsL n k (m + 1) = setsL n k m := by simp [setsL, List.range_succ, List.filter_append, h]
theorem setsL_le (n k m : Nat) : (setsL n k m).length ≤ m := by
  have := List.length_filter_le (fun L : List Nat => decide (L.length = k)) ((List.range m).map fun s => bitL s n)
  simp only [List.length_map, List.length_range] at this
  exact this
theorem setsL_mem {n k m : Nat} {L : List Nat} (h : L ∈ setsL n k m) : L.length = k ∧ ∀ i ∈ L, i < n := by
  obtain ⟨h1, h2⟩ := List.mem_filter.1 h
  obtain ⟨s, _, rfl⟩ := List.mem_map.1 h1
  exact ⟨of_decide_eq_true h2, fun i hi => bitL_lt hi⟩
def intL (L : List Nat) : List Int := L.map fun (i : Nat) => ((i : Nat) : Int)
theorem intL_vals (L : List Nat) : intVals (intL L) = natV L := rfl
theorem intL_len (L : List Nat) : (intL L).length = L.length := by simp [intL]
def setsI (n k m : Nat) : List (List Int) := (setsL n k m).map intL
theorem setsI_yes {n k m : Nat} (h : (bitL m n).length = k) : setsI n k (m + 1) = setsI n k m ++ [intL (bitL m n)] := by
  unfold setsI
  rw [setsL_yes h]
  simp
theorem setsI_no {n k m : Nat} (h : ¬ (bitL m n).length = k) : setsI n k (m + 1) = setsI n k m := by
  unfold setsI
  rw [setsL_no h]
theorem setsI_le (n k m : Nat) : (setsI n k m).length ≤ m := by
  unfold setsI
  rw [List.length_map]
  exact setsL_le n k m
theorem bit_and4 : ∀ i : Nat, i < 4 → ∀ n : Nat, n < 16 → bits BinOp.and IntKind.i64 ((n : Int) / 2 ^ i) 1 = ((n / 2 ^ i % 2 : Nat) : Int) := by decide +kernel
theorem pow4 : ∀ n : Nat, n ≤ 4 → 2 ^ n ≤ 16 := by decide
end Go.Proofs.YtpfeflhcbcgbfaaGreatDoor
namespace Go.Proofs.YtpfeflhcbcgbfaaGreatDoor
open Go.RowKit
def detL (M : List (List Int)) (L : List Nat) : Int := detN L.length (partRC M L L)
/-- A sum over lists. -/
def sumL (f : List Nat → Int) (A : List (List Nat)) : Int := A.foldl (fun s L => s + f L) 0
theorem sumL_nil (f : List Nat → Int) : sumL f [] = 0 := rfl
theorem sumL_snoc (f : List Nat → Int) (A : List (List Nat)) (L : List Nat) : sumL f (A ++ [L]) = sumL f A + f L := by simp [sumL, List.foldl_append]
theorem fold_bd {f : List Nat → Int} {B : Int} : ∀ (A : List (List Nat)) (s : Int), (∀ L ∈ A, -B ≤ f L ∧ f L ≤ B) → s - (A.length : Int) * B ≤ A.foldl (fun s L => s + f L) s ∧ A.foldl (fun s L => s + f L) s ≤ s + (A.length : Int) * B
  | [], s, _ => by simp
  | L :: A, s, h => by
    have ih := fold_bd A (s + f L) fun x hx => h x (List.mem_cons_of_mem _ hx)
    have h1 := h L (List.mem_cons_self ..)
    have e : (((L :: A).length : Nat) : Int) * B = (A.length : Int) * B + B := by rw [List.length_cons, Int.natCast_add, Int.add_mul]; omega
    rw [e, List.foldl_cons]
    omega
theorem sumL_bd {f : List Nat → Int} {B : Int} {m : Nat} (hB : 0 ≤ B) {A : List (List Nat)} (h : ∀ L ∈ A, -B ≤ f L ∧ f L ≤ B) (hm : A.length ≤ m) : -((m : Nat) * B) ≤ sumL f A ∧ sumL f A ≤ (m : Nat) * B := by
  have := fold_bd A 0 h
  have h2 : ((A.length : Nat) : Int) * B ≤ (m : Int) * B := Int.mul_le_mul_of_nonneg_right (by omega) hB
  unfold sumL
  omega
theorem bd9 {M : List (List Int)} {n : Nat} (hR : Rect M n n) (hM : ∀ i j, i < n → j < n → 0 ≤ at2 M i j ∧ at2 M i j ≤ 9) : Bd 9 M := by
  intro r hr x hx
  obtain ⟨i, hi⟩ := List.mem_iff_getElem?.1 hr
  obtain ⟨j, hj⟩ := List.mem_iff_getElem?.1 hx
  have hil : i < n := by have := (List.getElem?_eq_some_iff.1 hi).1; rw [hR.len] at this; exact this
  have hjl : j < n := by have := (List.getElem?_eq_some_iff.1 hj).1; rw [hR.row r hr] at this; exact this
  have := hM i j hil hjl
  rw [at2_row hi] at this
  have h2 := at0_some (xs := r) (k := j) (by rw [hR.row r hr]; exact hjl)
  rw [hj] at h2
  simp only [Option.some.injEq] at h2
  omega
theorem bd9_four : ∀ n : Nat, n ≤ 4 → bdN 9 n ≤ 200000
  | 0, _ => by decide
  | 1, _ => by decide
  | 2, _ => by decide
  | 3, _ => by decide
  | 4, _ => by decide
theorem detL_bd {M : List (List Int)} {n : Nat} {L : List Nat} (hn : n ≤ 4) (hR : Rect M n n) (hb : Bd 9 M) (hl : L.length ≤ n) (hL : ∀ i ∈ L, i < n) : -200000 ≤ detL M L ∧ detL M L ≤ 200000 := by
  have h1 := det_bd (B := 9) (by omega) L.length (partRC M L L) (partRC_rect M L L) (partRC_bd hR hb hL hL)
  have h2 := bd9_four L.length (by omega)
  unfold detL
  omega
/-- The sum of the principal minors of a size, over the first masks. -/
def minS (M : List (List Int)) (n k m : Nat) : Int := sumL (detL M) (setsL n k m)
theorem minS_zero (M : List (List Int)) (n k : Nat) : minS M n k 0 = 0 := rfl
theorem minS_yes {M : List (List Int)} {n k m : Nat} (h : (bitL m n).length = k) : minS M n k (m + 1) = minS M n k m + detL M (bitL m n) := by
  unfold minS
  rw [setsL_yes h, sumL_snoc]
theorem minS_no {M : List (List Int)} {n k m : Nat} (h : ¬ (bitL m n).length = k) : minS M n k (m + 1) = minS M n k m := by
  unfold minS
  rw [setsL_no h]
theorem part_bd9 {M : List (List Int)} {n k m i : Nat} (hn : n ≤ 4) (hR : Rect M n n) (hb : Bd 9 M) (hk : k ≤ n) (hm : m ≤ 16) : -3200000 ≤ sumL (detL M) ((setsL n k m).take i) ∧ sumL (detL M) ((setsL n k m).take i) ≤ 3200000 := by
  have h := sumL_bd (f := detL M) (B := 200000) (m := 16) (by omega) (A := (setsL n k m).take i) (fun L hL => by
    obtain ⟨h1, h2⟩ := setsL_mem (List.mem_of_mem_take hL)
    exact detL_bd hn hR hb (by omega) h2) (by rw [List.length_take]; have := setsL_le n k m; omega)
  omega
theorem minS_bd {M : List (List Int)} {n k m : Nat} (hn : n ≤ 4) (hR : Rect M n n) (hb : Bd 9 M) (hk : k ≤ n) (hm : m ≤ 16) : -3200000 ≤ minS M n k m ∧ minS M n k m ≤ 3200000 := by
  have := part_bd9 (i := (setsL n k m).length) hn hR hb hk hm
  rw [List.take_length] at this
  exact this
/-- The polynomial's first numbers, turned. -/
def polN (M : List (List Int)) (n k : Nat) : Int := sgn k * minS M n k (2 ^ n)
def polL (M : List (List Int)) (n K : Nat) : List Int := (List.range K).map (polN M n)
theorem polL_succ (M : List (List Int)) (n K : Nat) : polL M n (K + 1) = polL M n K ++ [polN M n K] := by simp [polL, List.range_succ]
theorem polL_len (M : List (List Int)) (n K : Nat) : (polL M n K).length = K := by simp [polL]
theorem polL_get {M : List (List Int)} {n K k : Nat} (h : k < K) : (polL M n K)[k]? = some (polN M n k) := by simp [polL, h]
theorem sets_zero : ∀ n : Nat, n ≤ 4 → setsL n 0 (2 ^ n) = [[]]
  | 0, _ => by decide
  | 1, _ => by decide
  | 2, _ => by decide
  | 3, _ => by decide
  | 4, _ => by decide
theorem polN_zero (M : List (List Int)) {n : Nat} (hn : n ≤ 4) : polN M n 0 = 1 := by
  unfold polN minS
  rw [sets_zero n hn]
  rfl
theorem polN_bd {M : List (List Int)} {n k : Nat} (hn : n ≤ 4) (hR : Rect M n n) (hb : Bd 9 M) (hk : k ≤ n) : -3200000 ≤ polN M n k ∧ polN M n k ≤ 3200000 := by
  have := minS_bd (m := 2 ^ n) hn hR hb hk (pow4 n hn)
  unfold polN
  rcases sgn_abs k with h | h <;> rw [h] <;> omega
/-- How many numbers stay, with no zeros at the end. -/
def cutN (p : List Int) : Nat → Nat | 0 => 0 | n + 1 => if at0 p n = 0 then cutN p n else n + 1
theorem cutN_le (p : List Int) : ∀ n, cutN p n ≤ n
  | 0 => Nat.le_refl _
  | n + 1 => by
    have := cutN_le p n
    unfold cutN
    split <;> omega
theorem cutN_yes {p : List Int} {n : Nat} (h : at0 p n = 0) : cutN p (n + 1) = cutN p n := by rw [cutN, if_pos h]
theorem cutN_no {p : List Int} {n : Nat} (h : ¬ at0 p n = 0) : cutN p (n + 1) = n + 1 := by rw [cutN, if_neg h]
theorem cutN_pos {p : List Int} (h : at0 p 0 ≠ 0) : ∀ n, 1 ≤ cutN p (n + 1)
  | 0 => by rw [cutN_no h]; omega
  | n + 1 => by
    by_cases h1 : at0 p (n + 1) = 0
    · rw [cutN_yes h1]; exact cutN_pos h n
    · rw [cutN_no h1]; omega
/-- The turned polynomial. -/
def turnP (M : List (List Int)) (n : Nat) : List Int := (polL M n (n + 1)).take (cutN (polL M n (n + 1)) (n + 1))
theorem turnP_pos (M : List (List Int)) {n : Nat} (hn : n ≤ 4) : 1 ≤ (turnP M n).length := by
  have h0 : at0 (polL M n (n + 1)) 0 ≠ 0 := by
    have := at0_get (polL_get (M := M) (n := n) (K := n + 1) (k := 0) (by omega))
    rw [this, polN_zero M hn]
    decide
  have := cutN_pos h0 n
  have h2 := cutN_le (polL M n (n + 1)) (n + 1)
  unfold turnP
  rw [List.length_take, polL_len]
  omega
theorem turnP_len (M : List (List Int)) (n : Nat) : (turnP M n).length = cutN (polL M n (n + 1)) (n + 1) := by
  have h2 := cutN_le (polL M n (n + 1)) (n + 1)
  unfold turnP
  rw [List.length_take, polL_len]
  omega
theorem turnP_bd {M : List (List Int)} {n : Nat} (hn : n ≤ 4) (hR : Rect M n n) (hb : Bd 9 M) : ∀ x ∈ turnP M n, -3200000 ≤ x ∧ x ≤ 3200000 := by
  intro x hx
  have := List.mem_of_mem_take hx
  unfold polL at this
  obtain ⟨k, hk, rfl⟩ := List.mem_map.1 this
  exact polN_bd hn hR hb (by have := List.mem_range.1 hk; omega)
end Go.Proofs.YtpfeflhcbcgbfaaGreatDoor
