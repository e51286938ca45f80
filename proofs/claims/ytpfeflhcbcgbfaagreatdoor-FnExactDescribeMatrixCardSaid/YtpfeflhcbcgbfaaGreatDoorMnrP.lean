/- Greatest common divisors of minors, the diagonal form: plain laws. -/
import Derived.Test.YtpfeflhcbcgbfaaGreatDoorPolP
import Derived.Test.YtpfeflhcbcgbfaaGreatDoorSessC
import Derived.Test.YtpfeflhcbcgbfaaGreatDoorNums
import Derived.Test.YtpfeflhcbcgbfaaGreatDoorPrim
namespace Go.Proofs.YtpfeflhcbcgbfaaGreatDoor
open Go.RowKit
def mkB (n : Nat) (g : Nat → Int) (k : Nat) (u : Int) : List Int := (List.range (n + 1)).map fun p => if n - p < k then g (n - p) else if n - p = k then u else 0
theorem mkB_len (n : Nat) (g : Nat → Int) (k : Nat) (u : Int) : (mkB n g k u).length = n + 1 := by simp [mkB]
theorem mkB_get {n : Nat} (g : Nat → Int) (k : Nat) (u : Int) {p : Nat} (hp : p < n + 1) : (mkB n g k u)[p]? = some (if n - p < k then g (n - p) else if n - p = k then u else 0) := by simp [mkB, hp]
theorem mkB_at {n k : Nat} (g : Nat → Int) (u : Int) (h : k ≤ n) : (mkB n g k u)[n - k]? = some u := by
  rw [mkB_get g k u (by omega), if_neg (by omega), if_pos (by omega)]
theorem mkB_set {n k : Nat} (g : Nat → Int) (u u' : Int) (h : k ≤ n) : (mkB n g k u).set (n - k) u' = mkB n g k u' := by
  refine List.ext_getElem? fun p => ?_
  rw [List.getElem?_set, mkB_len]
  by_cases hp : p < n + 1
  · rw [mkB_get g k u hp, mkB_get g k u' hp]
    by_cases h1 : n - k = p
    · rw [if_pos h1, if_pos (by omega), if_neg (by omega), if_pos (by omega)]
    · rw [if_neg h1]
      by_cases h2 : n - p < k
      · rw [if_pos h2, if_pos h2]
      · rw [if_neg h2, if_neg h2, if_neg (by omega), if_neg (by omega)]
  · rw [if_neg (by omega), List.getElem?_eq_none (by rw [mkB_len]; omega), List.getElem?_eq_none (by rw [mkB_len]; omega)]
theorem mkB_next {n k : Nat} (g : Nat → Int) (h : k ≤ n) : mkB n g k (g k) = mkB n g (k + 1) 0 := by
  refine List.map_congr_left fun p hp => ?_
  have := List.mem_range.1 hp
  by_cases h2 : n - p < k
  · rw [if_pos h2, if_pos (by omega)]
  · rw [if_neg h2]
    by_cases h3 : n - p = k
    · rw [if_pos h3, if_pos (by omega), h3]
    · rw [if_neg h3, if_neg (by omega)]
      split <;> rfl
theorem mkB_zero (n : Nat) (g : Nat → Int) : mkB n g 0 0 = List.replicate (n + 1) 0 := by
  refine List.ext_getElem (by simp [mkB]) fun p h1 h2 => ?_
  simp [mkB]
theorem mkB_end {n j : Nat} (g : Nat → Int) (h : j ≤ n) : (mkB n g (n + 1) 0)[n - j]? = some (g j) := by
  rw [mkB_get g (n + 1) 0 (by omega), if_pos (by omega), show n - (n - j) = j by omega]
theorem TRows.setC {T0 : TypeId} {w : World} {B b q : Nat} {vs : List Value} {rows : List (List Int)} (h : TRows T0 w B vs rows) (hb : b < B) (y : Value) : TRows T0 (w.setCell ⟨b, q, none⟩ y) B vs rows :=
  ⟨h.len, fun i x r hx hr => own_setB (h.own i x r hx hr) hb _ _, h.apart⟩
/-- A partial sum of the k-th number. -/
def parS (M : List (List Int)) (n k i : Nat) : Int := sgn k * sumL (detL M) ((setsL n k (2 ^ n)).take i)
theorem parS_zero (M : List (List Int)) (n k : Nat) : parS M n k 0 = 0 := by simp [parS, sumL_nil]
theorem parS_succ {M : List (List Int)} {n k i : Nat} {L : List Nat} (h : (setsL n k (2 ^ n))[i]? = some L) : parS M n k (i + 1) = parS M n k i + sgn k * detL M L := by
  unfold parS
  rw [List.take_add_one, h]
  show sgn k * sumL (detL M) ((setsL n k (2 ^ n)).take i ++ [L]) = _
  rw [sumL_snoc, Int.mul_add]
theorem parS_end (M : List (List Int)) (n k : Nat) : parS M n k (setsL n k (2 ^ n)).length = polN M n k := by
  unfold parS polN minS
  rw [List.take_length]
theorem parS_bd {M : List (List Int)} {n k i : Nat} (hn : n ≤ 4) (hR : Rect M n n) (hb : Bd 9 M) (hk : k ≤ n) : -3200000 ≤ parS M n k i ∧ parS M n k i ≤ 3200000 := by
  have := part_bd9 (m := 2 ^ n) (i := i) hn hR hb hk (pow4 n hn)
  unfold parS
  rcases sgn_abs k with h | h <;> rw [h] <;> omega
theorem intVals_put (xs : List Int) (j : Nat) (u : Int) : (intVals xs).set j (.int .i64 u) = intVals (xs.set j u) := by simp [intVals, List.map_set]
theorem setsI_get {n k m i : Nat} {L : List Nat} (h : (setsL n k m)[i]? = some L) : (setsI n k m)[i]? = some (intL L) := by simp [setsI, h]
theorem sets_pos : ∀ n : Nat, n < 5 → ∀ k : Nat, k < 5 → k ≤ n → 0 < (setsL n k (2 ^ n)).length := by decide +kernel
theorem setsI_len (n k m : Nat) : (setsI n k m).length = (setsL n k m).length := by simp [setsI]
end Go.Proofs.YtpfeflhcbcgbfaaGreatDoor
namespace Go.Proofs.YtpfeflhcbcgbfaaGreatDoor
open Go.RowKit
def Sml (x : Int) : Prop := -1000000000000 ≤ x ∧ x ≤ 1000000000000
theorem gcd_next (x y : Int) : Int.gcd y (x.tmod y) = Int.gcd x y := by
  unfold Int.gcd
  rw [Int.natAbs_tmod, Nat.gcd_comm x.natAbs y.natAbs, Nat.gcd_rec y.natAbs x.natAbs, Nat.gcd_comm]
theorem tmod_lt {x y : Int} (hy : y ≠ 0) : (x.tmod y).natAbs < y.natAbs := by
  rw [Int.natAbs_tmod]
  exact Nat.mod_lt _ (by omega)
theorem gcd_zero (x : Int) : Int.gcd x 0 = x.natAbs := by simp [Int.gcd]
theorem gcd_sml {x y : Int} (hx : Sml x) (hy : Sml y) : Int.gcd x y ≤ 1000000000000 := by
  obtain ⟨h1, h2⟩ := hx
  obtain ⟨h3, h4⟩ := hy
  by_cases h : x.natAbs = 0
  · have : x = 0 := by omega
    subst this
    unfold Int.gcd
    rw [Int.natAbs_zero, Nat.gcd_zero_left]
    omega
  · have := Nat.gcd_le_left y.natAbs (show 0 < x.natAbs by omega)
    unfold Int.gcd
    omega
set_option maxHeartbeats 1000000 in
theorem impl_gcdZ_c (a b : Int) (w : World) (ha : Sml a) (hb : Sml b) :
    Calls Tryz.prog 102 #[.int .i64 a, .int .i64 b] w fun e w' => e = .returned (.int .i64 (Int.gcd a b : Nat)) ∧ Below w.heap.size w w' := by
  go_enter Tryz.func102, Tryz.ntmps102
  go_wp2
  go_loopw [0, 1] (fun p q wr => ∃ x y : Int, p = .int .i64 x ∧ q = .int .i64 y ∧ Sml x ∧ Sml y ∧ Hid (Int.gcd x y = Int.gcd a b) ∧ Below w.heap.size w wr) (fun _ q _ => (intOf q).natAbs)
  case atStart => exact ⟨a, b, rfl, rfl, ha, hb, rfl, Below.refl _ _⟩
  case round =>
    obtain ⟨x, y, rfl, rfl, ⟨hx1, hx2⟩, ⟨hy1, hy2⟩, HG, hbel⟩ := hrel
    by_cases hy0 : y ≠ 0
    · have hne : (y != 0) = true := by simp; omega
      have hne2 : (y == 0) = false := by simp; omega
      have hlt := tmod_lt (x := x) hy0
      have HST := hid (show Int.gcd y (x.tmod y) = Int.gcd a b by rw [← HG.out]; exact gcd_next x y)
      obtain ⟨r, hr⟩ : ∃ r, r = x.tmod y := ⟨_, rfl⟩
      rw [← hr] at hlt HST
      have hr2 : x.tmod y = r := hr.symm
      have hwr : IntKind.i64.wrap r = r := IntWalk.i64_in _ (by omega)
      clear hr
      go_wp2
      go_quiet (fail)
      go_wp2
      go_roundw
      case rel => exact ⟨y, r, rfl, rfl, ⟨hy1, hy2⟩, ⟨by omega, by omega⟩, HST.out, below_drewN hbel _⟩
      case measure => simp [intOf]; omega
    · obtain rfl : y = 0 := by omega
      have hwx : IntKind.i64.wrap (-x) = -x := IntWalk.i64_in _ (by omega)
      go_wp2
      go_ret
      exact ⟨ret_int (by rw [← HG.out, gcd_zero]; omega), hbel⟩
set_option maxHeartbeats 1000000 in
theorem spec_gcdZ_c (a b : Int) (w : World) (ha : Sml a) (hb : Sml b) :
    Calls Tryz.prog 89 #[.int .i64 a, .int .i64 b] w fun e w' => e = .returned (.int .i64 (Int.gcd a b : Nat)) ∧ w = w' := by
  go_enter Tryz.func89, Tryz.ntmps89
  go_wp2
  go_loop [0, 1] (fun p q => ∃ x y : Int, p = .int .i64 x ∧ q = .int .i64 y ∧ Sml x ∧ Sml y ∧ Hid (Int.gcd x y = Int.gcd a b)) (fun _ q => (intOf q).natAbs)
  case atStart => exact ⟨a, b, rfl, rfl, ha, hb, rfl⟩
  case round =>
    obtain ⟨x, y, rfl, rfl, ⟨hx1, hx2⟩, ⟨hy1, hy2⟩, HG⟩ := hrel
    by_cases hy0 : y ≠ 0
    · have hne : (y != 0) = true := by simp; omega
      have hne2 : (y == 0) = false := by simp; omega
      have hlt := tmod_lt (x := x) hy0
      have HST := hid (show Int.gcd y (x.tmod y) = Int.gcd a b by rw [← HG.out]; exact gcd_next x y)
      obtain ⟨r, hr⟩ : ∃ r, r = x.tmod y := ⟨_, rfl⟩
      rw [← hr] at hlt HST
      have hr2 : x.tmod y = r := hr.symm
      have hwr : IntKind.i64.wrap r = r := IntWalk.i64_in _ (by omega)
      clear hr
      go_wp2
      go_round
      case rel => exact ⟨y, r, rfl, by first | rfl | go_num, ⟨hy1, hy2⟩, ⟨by omega, by omega⟩, HST.out⟩
      case measure => simp [intOf]; omega
    · obtain rfl : y = 0 := by omega
      have hwx : IntKind.i64.wrap (-x) = -x := IntWalk.i64_in _ (by omega)
      go_wp2_with (go_at_call 131; refine (l1Max_c _ _ _).mono ?_; rintro e w' ⟨rfl, rfl⟩)
      go_ret
      exact ⟨ret_int (by rw [← HG.out, gcd_zero]; omega), rfl⟩
end Go.Proofs.YtpfeflhcbcgbfaaGreatDoor
namespace Go.Proofs.YtpfeflhcbcgbfaaGreatDoor
open Go.RowKit
def gFold (f : Nat → Int) (g : Nat) : Nat → Nat | 0 => g | j + 1 => Int.gcd ((gFold f g j : Nat) : Int) (f j)
def mnF (t : List (List Int)) (n k i j : Nat) : Int := detN k (partRC t ((setsL n k (2 ^ n)).getD i []) ((setsL n k (2 ^ n)).getD j []))
def gAll (t : List (List Int)) (n k : Nat) : Nat → Nat | 0 => 0 | i + 1 => gFold (mnF t n k i) (gAll t n k i) (setsL n k (2 ^ n)).length
def mnrV (t : List (List Int)) (n k : Nat) : Nat := gAll t n k (setsL n k (2 ^ n)).length
theorem bd100_four : ∀ n : Nat, n ≤ 4 → bdN 100 n ≤ 1000000000000
  | 0, _ => by decide
  | 1, _ => by decide
  | 2, _ => by decide
  | 3, _ => by decide
  | 4, _ => by decide
theorem getD_of {L : List (List Nat)} {i : Nat} {x : List Nat} (h : L[i]? = some x) : L.getD i [] = x := by rw [List.getD_eq_getElem?_getD, h]; rfl
theorem mnF_of {t : List (List Int)} {n k i j : Nat} {R C : List Nat} (hi : (setsL n k (2 ^ n))[i]? = some R) (hj : (setsL n k (2 ^ n))[j]? = some C) : mnF t n k i j = detN k (partRC t R C) := by
  unfold mnF
  rw [getD_of hi, getD_of hj]
theorem mnF_sml {t : List (List Int)} {n k i j : Nat} (hn : n ≤ 4) (hk : k ≤ n) (hR : Rect t n n) (hb : Bd 100 t) (hi : i < (setsL n k (2 ^ n)).length) (hj : j < (setsL n k (2 ^ n)).length) : Sml (mnF t n k i j) := by
  obtain ⟨R, hr⟩ := get_some hi
  obtain ⟨C, hc⟩ := get_some hj
  rw [mnF_of hr hc]
  obtain ⟨h1, h2⟩ := setsL_mem (List.mem_of_getElem? hr)
  obtain ⟨h3, h4⟩ := setsL_mem (List.mem_of_getElem? hc)
  have hrect : Rect (partRC t R C) k k := by have := partRC_rect t R C; rw [h1, h3] at this; exact this
  have h5 := det_bd (B := 100) (by omega) k (partRC t R C) hrect (partRC_bd hR hb h2 h4)
  have h6 := bd100_four k (by omega)
  unfold Sml
  omega
theorem sml_nat {g : Nat} (h : g ≤ 1000000000000) : Sml (g : Int) := ⟨by omega, by omega⟩
theorem gFold_sml {f : Nat → Int} {g n : Nat} (hg : g ≤ 1000000000000) (hf : ∀ j, j < n → Sml (f j)) : ∀ j, j ≤ n → gFold f g j ≤ 1000000000000
  | 0, _ => hg
  | j + 1, h => gcd_sml (sml_nat (gFold_sml hg hf j (by omega))) (hf j (by omega))
theorem gAll_sml {t : List (List Int)} {n k : Nat} (hn : n ≤ 4) (hk : k ≤ n) (hR : Rect t n n) (hb : Bd 100 t) : ∀ i, i ≤ (setsL n k (2 ^ n)).length → gAll t n k i ≤ 1000000000000
  | 0, _ => by show (0 : Nat) ≤ _; omega
  | i + 1, h => gFold_sml (gAll_sml hn hk hR hb i (by omega)) (fun j hj => mnF_sml hn hk hR hb (by omega) hj) _ (Nat.le_refl _)
/-- The diagonal form: what was found before, the numbers. -/
def dgB (t : List (List Int)) (n : Nat) : Nat → Nat | 0 => 1 | k + 1 => if mnrV t n (k + 1) = 0 then dgB t n k else mnrV t n (k + 1)
def dgV (t : List (List Int)) (n k : Nat) : Nat := if mnrV t n (k + 1) = 0 then 0 else mnrV t n (k + 1) / dgB t n k
def dgL (t : List (List Int)) (n K : Nat) : List Int := (List.range K).map fun k => ((dgV t n k : Nat) : Int)
theorem dgL_succ (t : List (List Int)) (n K : Nat) : intVals (dgL t n (K + 1)) = intVals (dgL t n K) ++ [.int .i64 ((dgV t n K : Nat) : Int)] := by simp [dgL, List.range_succ, intVals]
theorem dgL_len (t : List (List Int)) (n K : Nat) : (dgL t n K).length = K := by simp [dgL]
theorem mnrV_sml {t : List (List Int)} {n k : Nat} (hn : n ≤ 4) (hk : k ≤ n) (hR : Rect t n n) (hb : Bd 100 t) : mnrV t n k ≤ 1000000000000 := gAll_sml hn hk hR hb _ (Nat.le_refl _)
theorem dgB_pos (t : List (List Int)) (n : Nat) : ∀ k, 1 ≤ dgB t n k
  | 0 => Nat.le_refl _
  | k + 1 => by
    have := dgB_pos t n k
    rw [dgB]
    split <;> omega
theorem dgB_sml {t : List (List Int)} {n : Nat} (hn : n ≤ 4) (hR : Rect t n n) (hb : Bd 100 t) : ∀ k, k ≤ n → dgB t n k ≤ 1000000000000
  | 0, _ => by show (1 : Nat) ≤ _; omega
  | k + 1, h => by
    have := dgB_sml hn hR hb k (by omega)
    have h2 := mnrV_sml hn h hR hb
    rw [dgB]
    split <;> omega
theorem dgV_sml {t : List (List Int)} {n k : Nat} (hn : n ≤ 4) (hR : Rect t n n) (hb : Bd 100 t) (hk : k < n) : dgV t n k ≤ 1000000000000 := by
  have h2 := mnrV_sml hn (show k + 1 ≤ n from hk) hR hb
  have h3 := Nat.div_le_self (mnrV t n (k + 1)) (dgB t n k)
  unfold dgV
  split <;> omega
theorem dg_zero {t : List (List Int)} {n k : Nat} (h : mnrV t n (k + 1) = 0) : dgB t n (k + 1) = dgB t n k ∧ dgV t n k = 0 := ⟨by rw [dgB, if_pos h], by unfold dgV; rw [if_pos h]⟩
theorem dg_some {t : List (List Int)} {n k : Nat} (h : ¬ mnrV t n (k + 1) = 0) : dgB t n (k + 1) = mnrV t n (k + 1) ∧ dgV t n k = mnrV t n (k + 1) / dgB t n k := ⟨by rw [dgB, if_neg h], by unfold dgV; rw [if_neg h]⟩
theorem tdiv_nat (x y : Nat) : (x : Int).tdiv (y : Int) = ((x / y : Nat) : Int) := rfl
end Go.Proofs.YtpfeflhcbcgbfaaGreatDoor
