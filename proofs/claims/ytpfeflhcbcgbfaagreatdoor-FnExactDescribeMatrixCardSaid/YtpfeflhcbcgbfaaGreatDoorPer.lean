/- Periods of matrices: both functions. Conditions: sizes within the reach. -/
import Derived.Test.YtpfeflhcbcgbfaaGreatDoorIrr
namespace Go.Proofs.YtpfeflhcbcgbfaaGreatDoor
open Go.RowKit

/-- The table of a function. -/
def tabF (n m : Nat) (f : Nat → Nat → Int) : List (List Int) := (List.range n).map fun p => (List.range m).map (f p)
theorem tabF_rect (n m : Nat) (f : Nat → Nat → Int) : Rect (tabF n m f) n m := ⟨by simp [tabF], fun r hr => by
  simp only [tabF, List.mem_map, List.mem_range] at hr
  obtain ⟨p, _, rfl⟩ := hr
  simp⟩
theorem tabF_at {n m : Nat} (f : Nat → Nat → Int) {i j : Nat} (hi : i < n) (hj : j < m) : at2 (tabF n m f) i j = f i j := by
  rw [at2_row (r := (List.range m).map (f i)) (by simp [tabF, hi])]
  exact at0_get (by simp [hj])
theorem tabF_ext {n m : Nat} {f g : Nat → Nat → Int} (h : ∀ p q, p < n → q < m → f p q = g p q) : tabF n m f = tabF n m g :=
  List.map_congr_left fun p hp => List.map_congr_left fun q hq => h p q (List.mem_range.1 hp) (List.mem_range.1 hq)
theorem tabF_zero (n m : Nat) : tabF n m (fun _ _ => 0) = zeroTab n m :=
  rect_ext (tabF_rect n m _) (zero_rect n m) fun i j hi hj => by rw [tabF_at _ hi hj, zero_at]
theorem tabF_of {R : List (List Int)} {n m : Nat} (h : Rect R n m) : R = tabF n m (at2 R) :=
  rect_ext h (tabF_rect n m _) fun i j hi hj => (tabF_at _ hi hj).symm
theorem tabF_put {n m i j : Nat} {f g : Nat → Nat → Int} {u : Int} (hi : i < n) (hj : j < m) (hu : g i j = u) (h : ∀ p q, p < n → q < m → (p ≠ i ∨ q ≠ j) → g p q = f p q) : put2 (tabF n m f) i j u = tabF n m g := by
  have hR := tabF_rect n m f
  have hS := tabF_rect n m g
  refine rect_ext (n := n) (m := m) (hR.put2 i j u) hS fun p q hp hq => ?_
  rw [tabF_at g hp hq]
  by_cases e : i = p ∧ j = q
  · obtain ⟨rfl, rfl⟩ := e
    rw [put2_same hR hi hj, hu]
  · have e2 : i ≠ p ∨ j ≠ q := by omega
    rw [put2_other u e2, tabF_at f hp hq, h p q hp hq (by omega)]

/-- Ones on the diagonal. -/
def unitF (t : Nat) (p q : Nat) : Int := if p = q ∧ p < t then 1 else 0
def unitTab (n : Nat) : List (List Int) := tabF n n (unitF n)
theorem unit_zero (n : Nat) : tabF n n (unitF 0) = zeroTab n n := by
  rw [← tabF_zero]; exact tabF_ext fun p q _ _ => by unfold unitF; rw [if_neg (by omega)]
theorem unit_step {n k : Nat} (h : k < n) : put2 (tabF n n (unitF k)) k k 1 = tabF n n (unitF (k + 1)) :=
  tabF_put h h (by unfold unitF; rw [if_pos (by omega)]) fun p q _ _ hne => by
    unfold unitF
    by_cases e : p = q ∧ p < k
    · rw [if_pos e, if_pos (by omega)]
    · rw [if_neg e, if_neg (by omega)]

set_option maxHeartbeats 1000000 in
set_option maxRecDepth 100000 in
theorem impl_unit_c (n : Nat) (w : World) (h1 : 1 ≤ n) (h9 : n ≤ 9) : Calls Tryz.prog 100 #[.int .i64 n] w (GridPost (unitTab n) w) := by
  go_enter Tryz.func100, Tryz.ntmps100
  go_wp2_with fail
  refine (impl_zeros_c n _ (by omega)).mono ?_
  rintro e w1 ⟨v, rfl, hgrid, hbel0⟩
  obtain ⟨gv, cv, rfl, hbv, hvl⟩ := grid_form hgrid (zeroTab_len n n) (by omega)
  have HG := hid hgrid
  clear hgrid
  go_wp2
  go_loopw [9] (fun i wr => ∃ k : Nat, k ≤ n ∧ i = .int .i64 k ∧ TGrid 39 3 wr w.heap.size (.slice (some ⟨gv, 0, none⟩) n cv) (tabF n n (unitF k)) ∧ Below w.heap.size w wr) (fun i _ => n - (intOf i).toNat)
  case atStart => exact ⟨0, by omega, rfl, by rw [unit_zero]; exact HG.out, hbel0⟩
  case round =>
    obtain ⟨k, hk, rfl, hgr, hbel⟩ := hrel
    by_cases hlt : k < n
    · obtain ⟨g, c3, hO1, hO2, hfr, hbg, hst⟩ := grid_cell hgr (by decide) (tabF_rect n n _) hlt hlt
      have HST := hid (hst 1)
      obtain ⟨x, hx⟩ : ∃ x, x = at2 (tabF n n (unitF k)) k k := ⟨_, rfl⟩
      rw [← hx] at hO2
      clear hgr hst hx
      go_wp2
      go_roundw
      case rel =>
        have h1 := HST.out
        rw [unit_step hlt] at h1
        exact ⟨k + 1, by omega, by go_num, h1.1, hbel.grown h1.2 hbel.size (fun k hk => by cases hk; exact hbg)⟩
      case measure => simp [intOf]; omega
    · obtain rfl : k = n := by omega
      have HGQ := hid hgr
      clear hgr
      go_wp2
      go_ret
      exact ⟨_, rfl, HGQ.out, hbel⟩
set_option maxHeartbeats 1000000 in
theorem spec_l4One_c (n : Nat) (w : World) (h1 : 1 ≤ n) (h9 : n ≤ 9) : Calls Tryz.prog 87 #[.int .i64 n] w (GridPost (unitTab n) w) := by
  go_enter Tryz.func87, Tryz.ntmps87
  go_wp2_with (first | (go_at_call 109; refine (spec_l4Zero_c n n _ (by omega) (by omega)).mono ?_; rintro e w1 ⟨v, rfl, hgrid, hbel0⟩))
  obtain ⟨gv, cv, rfl, hbv, hvl⟩ := grid_form hgrid (zeroTab_len n n) (by omega)
  have HG := hid hgrid
  clear hgrid
  go_loopw [4] (fun i wr => ∃ k : Nat, k ≤ n ∧ i = .int .i64 k ∧ TGrid 39 3 wr w.heap.size (.slice (some ⟨gv, 0, none⟩) n cv) (tabF n n (unitF k)) ∧ Below w.heap.size w wr) (fun i _ => n - (intOf i).toNat)
  case atStart => exact ⟨0, by omega, rfl, by rw [unit_zero]; exact HG.out, hbel0⟩
  case round =>
    obtain ⟨k, hk, rfl, hgr, hbel⟩ := hrel
    by_cases hlt : k < n
    · obtain ⟨g, c3, hO1, hO2, hfr, hbg, hst⟩ := grid_cell hgr (by decide) (tabF_rect n n _) hlt hlt
      have HST := hid (hst 1)
      obtain ⟨x, hx⟩ : ∃ x, x = at2 (tabF n n (unitF k)) k k := ⟨_, rfl⟩
      rw [← hx] at hO2
      clear hgr hst hx
      go_wp2
      go_roundw
      case rel =>
        have h1 := HST.out
        rw [unit_step hlt] at h1
        exact ⟨k + 1, by omega, by go_num, h1.1, hbel.grown h1.2 hbel.size (fun k hk => by cases hk; exact hbg)⟩
      case measure => simp [intOf]; omega
    · obtain rfl : k = n := by omega
      have HGQ := hid hgr
      clear hgr
      go_wp2
      go_ret
      exact ⟨_, rfl, HGQ.out, hbel⟩

/-- The greatest of the first k numbers of bits. -/
def orTo (f : Nat → Int) : Nat → Int | 0 => 0 | k + 1 => max (orTo f k) (f k)
theorem orTo_bit {f : Nat → Int} {n : Nat} (h : ∀ k, k < n → f k = 0 ∨ f k = 1) : ∀ k, k ≤ n → orTo f k = 0 ∨ orTo f k = 1
  | 0, _ => .inl rfl
  | k + 1, hk => by have h1 := orTo_bit h k (by omega); have h2 := h k (by omega); unfold orTo; omega
/-- One member: an arc more at k. -/
def stM (H M : List (List Int)) (p q k : Nat) : Int := min (at2 H p k) (min (at2 M k q) 1)
def stepF (H M : List (List Int)) (n p q : Nat) : Int := orTo (stM H M p q) n
def stepTab (H M : List (List Int)) (n : Nat) : List (List Int) := tabF n n (stepF H M n)
theorem stM_bit {H M : List (List Int)} {n : Nat} (hH : Bits H n) (hM : ∀ i j, i < n → j < n → 0 ≤ at2 M i j) {p q k : Nat} (hp : p < n) (hq : q < n) (hk : k < n) : stM H M p q k = 0 ∨ stM H M p q k = 1 := by
  have h1 := hH.bit p k hp hk
  have h2 := hM k q hk hq
  unfold stM; omega
theorem step_bits {H M : List (List Int)} {n : Nat} (hH : Bits H n) (hM : ∀ i j, i < n → j < n → 0 ≤ at2 M i j) : Bits (stepTab H M n) n :=
  ⟨tabF_rect n n _, fun i j hi hj => by rw [stepTab, tabF_at _ hi hj]; exact orTo_bit (fun k hk => stM_bit hH hM hi hj hk) n (Nat.le_refl _)⟩
/-- The program's order: rows, members, columns. -/
def stI (H M : List (List Int)) (n i k j p q : Nat) : Int := if p < i then stepF H M n p q else if p = i then (if q < j then orTo (stM H M p q) (k + 1) else orTo (stM H M p q) k) else 0
/-- The reference's: rows, columns, members. -/
def stS (H M : List (List Int)) (n i j k p q : Nat) : Int := if p < i then stepF H M n p q else if p = i then (if q < j then stepF H M n p q else if q = j then orTo (stM H M p q) k else 0) else 0
theorem stI_zero (H M : List (List Int)) (n : Nat) : tabF n n (stI H M n 0 0 0) = zeroTab n n := by
  rw [← tabF_zero]; exact tabF_ext fun p q _ _ => by
    unfold stI
    rw [if_neg (Nat.not_lt_zero _)]
    by_cases e : p = 0
    · rw [if_pos e, if_neg (Nat.not_lt_zero _)]; rfl
    · rw [if_neg e]
theorem stI_step {H M : List (List Int)} {n i k j : Nat} (hi : i < n) (hj : j < n) : put2 (tabF n n (stI H M n i k j)) i j (max (stI H M n i k j i j) (stM H M i j k)) = tabF n n (stI H M n i k (j + 1)) :=
  tabF_put hi hj (by
    unfold stI
    rw [if_neg (Nat.lt_irrefl _), if_pos rfl, if_pos (by omega), if_neg (Nat.lt_irrefl _), if_pos rfl, if_neg (Nat.lt_irrefl _)]; rfl) fun p q _ _ hne => by
    unfold stI
    by_cases h1 : p < i
    · rw [if_pos h1, if_pos h1]
    · rw [if_neg h1, if_neg h1]
      by_cases h2 : p = i
      · rw [if_pos h2, if_pos h2]
        by_cases h3 : q < j
        · rw [if_pos h3, if_pos (by omega)]
        · rw [if_neg h3, if_neg (by omega)]
      · rw [if_neg h2, if_neg h2]
theorem stI_nextk (H M : List (List Int)) (n i k : Nat) : tabF n n (stI H M n i k n) = tabF n n (stI H M n i (k + 1) 0) := tabF_ext fun p q _ hq => by
  unfold stI
  by_cases h1 : p < i
  · rw [if_pos h1, if_pos h1]
  · rw [if_neg h1, if_neg h1]
    by_cases h2 : p = i
    · rw [if_pos h2, if_pos h2, if_pos hq, if_neg (Nat.not_lt_zero _)]
    · rw [if_neg h2, if_neg h2]
theorem stI_nexti (H M : List (List Int)) (n i : Nat) : tabF n n (stI H M n i n 0) = tabF n n (stI H M n (i + 1) 0 0) := tabF_ext fun p q _ hq => by
  unfold stI
  by_cases h1 : p < i
  · rw [if_pos h1, if_pos (by omega)]
  · rw [if_neg h1]
    by_cases h2 : p = i
    · rw [if_pos h2, if_neg (Nat.not_lt_zero _), if_pos (by omega)]; rfl
    · rw [if_neg h2, if_neg (by omega)]
      by_cases h3 : p = i + 1
      · rw [if_pos h3, if_neg (Nat.not_lt_zero _)]; rfl
      · rw [if_neg h3]
theorem stI_end (H M : List (List Int)) (n : Nat) : tabF n n (stI H M n n 0 0) = stepTab H M n := tabF_ext fun p q hp _ => by
  unfold stI; rw [if_pos hp]
theorem stS_zero (H M : List (List Int)) (n : Nat) : tabF n n (stS H M n 0 0 0) = zeroTab n n := by
  rw [← tabF_zero]; exact tabF_ext fun p q _ _ => by
    unfold stS
    rw [if_neg (Nat.not_lt_zero _)]
    by_cases e : p = 0
    · rw [if_pos e, if_neg (Nat.not_lt_zero _)]
      by_cases e2 : q = 0
      · rw [if_pos e2]; rfl
      · rw [if_neg e2]
    · rw [if_neg e]
theorem stS_here (H M : List (List Int)) (n i j k : Nat) : stS H M n i j k i j = orTo (stM H M i j) k := by
  unfold stS; rw [if_neg (Nat.lt_irrefl _), if_pos rfl, if_neg (Nat.lt_irrefl _), if_pos rfl]
theorem stS_step {H M : List (List Int)} {n i k j : Nat} (hi : i < n) (hj : j < n) : put2 (tabF n n (stS H M n i j k)) i j (max (stS H M n i j k i j) (stM H M i j k)) = tabF n n (stS H M n i j (k + 1)) :=
  tabF_put hi hj (by rw [stS_here, stS_here]; rfl) fun p q _ _ hne => by
    unfold stS
    by_cases h1 : p < i
    · rw [if_pos h1, if_pos h1]
    · rw [if_neg h1, if_neg h1]
      by_cases h2 : p = i
      · rw [if_pos h2, if_pos h2]
        by_cases h3 : q < j
        · rw [if_pos h3, if_pos h3]
        · rw [if_neg h3, if_neg h3, if_neg (by omega), if_neg (by omega)]
      · rw [if_neg h2, if_neg h2]
theorem stS_nextj (H M : List (List Int)) (n i j : Nat) : tabF n n (stS H M n i j n) = tabF n n (stS H M n i (j + 1) 0) := tabF_ext fun p q _ _ => by
  unfold stS
  by_cases h1 : p < i
  · rw [if_pos h1, if_pos h1]
  · rw [if_neg h1, if_neg h1]
    by_cases h2 : p = i
    · rw [if_pos h2, if_pos h2]
      by_cases h3 : q < j
      · rw [if_pos h3, if_pos (by omega)]
      · rw [if_neg h3]
        by_cases h4 : q = j
        · rw [if_pos h4, if_pos (by omega)]; rfl
        · rw [if_neg h4, if_neg (by omega)]
          by_cases h5 : q = j + 1
          · rw [if_pos h5]; rfl
          · rw [if_neg h5]
    · rw [if_neg h2, if_neg h2]
theorem stS_nexti (H M : List (List Int)) (n i : Nat) : tabF n n (stS H M n i n 0) = tabF n n (stS H M n (i + 1) 0 0) := tabF_ext fun p q _ hq => by
  unfold stS
  by_cases h1 : p < i
  · rw [if_pos h1, if_pos (by omega)]
  · rw [if_neg h1]
    by_cases h2 : p = i
    · rw [if_pos h2, if_pos hq, if_pos (by omega)]
    · rw [if_neg h2, if_neg (by omega)]
      by_cases h3 : p = i + 1
      · rw [if_pos h3, if_neg (Nat.not_lt_zero _)]
        by_cases h6 : q = 0
        · rw [if_pos h6]; rfl
        · rw [if_neg h6]
      · rw [if_neg h3]
theorem stS_end (H M : List (List Int)) (n : Nat) : tabF n n (stS H M n n 0 0) = stepTab H M n := tabF_ext fun p q hp _ => by
  unfold stS; rw [if_pos hp]
theorem min3if (x y : Int) : min x (min y 1) = (if 1 < if y < x then y else x then 1 else if y < x then y else x) := by
  by_cases h : y < x
  · simp only [h, if_true]; split <;> omega
  · simp only [h, if_false]; split <;> omega

set_option maxHeartbeats 4000000 in
set_option maxRecDepth 100000 in
theorem impl_oneStep_c (a b : Option Addr) (n c d : Nat) (H M : List (List Int)) (w : World) (ha : TabAt w a n H) (hb : TabAt w b n M) (hH : Rect H n n) (hM : Rect M n n) (h1 : 1 ≤ n) (h9 : n ≤ 9) :
    Calls Tryz.prog 101 #[.slice a n c, .slice b n d] w (GridPost (stepTab H M n) w) := by
  have HA := hid ha
  have HB := hid hb
  have RH := hid hH
  have RM := hid hM
  clear ha hb hH hM
  go_enter Tryz.func101, Tryz.ntmps101
  go_wp2_with (first | (go_at_call 117; refine (impl_zeros_c n _ (by omega)).mono ?_; rintro e w1 ⟨v, rfl, hgrid, hbel0⟩))
  obtain ⟨gv, cv, rfl, hbv, hvl⟩ := grid_form hgrid (zeroTab_len n n) (by omega)
  rw [← stI_zero H M n] at hgrid
  have HG := hid hgrid
  clear hgrid
  go_loopw [17] (fun i wr => ∃ ii : Nat, ii ≤ n ∧ i = .int .i64 ii ∧ TGrid 39 3 wr w.heap.size (.slice (some ⟨gv, 0, none⟩) n cv) (tabF n n (stI H M n ii 0 0)) ∧ Below w.heap.size w wr) (fun i _ => n - (intOf i).toNat)
  case atStart => exact ⟨0, by omega, rfl, HG.out, hbel0⟩
  case round =>
    obtain ⟨ii, hi, rfl, hgr, hbel⟩ := hrel
    have HGR := hid hgr
    clear hgr
    by_cases hlt : ii < n
    · obtain ⟨b1, o1, a1, c1, r1, rfl, hb1, hcl1, hrow1, hr1, hat1⟩ := rect_row HA.out RH.out hlt
      have hcell1 := (hbel.cell (p := ⟨b1, o1 + ii, none⟩) hb1).trans hcl1
      have HROW := hid hrow1
      have HAT := hid hat1
      have HRL := hid (show r1.length = n by simpa [intVals] using hrow1.len)
      clear hcl1 hrow1 hr1 hat1
      go_wp2
      go_loopw [24] (fun k wr => ∃ kk : Nat, kk ≤ n ∧ k = .int .i64 kk ∧ TGrid 39 3 wr w.heap.size (.slice (some ⟨gv, 0, none⟩) n cv) (tabF n n (stI H M n ii kk 0)) ∧ Below w.heap.size w wr) (fun k _ => n - (intOf k).toNat)
      case atStart => exact ⟨0, by omega, rfl, HGR.out, hbel⟩
      case round =>
        obtain ⟨kk, hk, rfl, hgr, hbel⟩ := hrel
        have HGR2 := hid hgr
        clear hgr
        by_cases hltk : kk < n
        · obtain ⟨b2, o2, rfl, hb2, hc2⟩ := HROW.out.at_ (by omega)
          have hx0 : w.cell? ⟨b2, o2 + kk, none⟩ = some (.int .i64 (at2 H ii kk)) := hc2 kk _ (intVals_get (by rw [HAT.out]; exact at0_some (by rw [HRL.out]; exact hltk)))
          have hcell2 := (hbel.cell (p := ⟨b2, o2 + kk, none⟩) hb2).trans hx0
          obtain ⟨b3, o3, a3, c3, r3, rfl, hb3, hcl3, hrow3, hr3, hat3⟩ := rect_row HB.out RM.out hltk
          have hcell3 := (hbel.cell (p := ⟨b3, o3 + kk, none⟩) hb3).trans hcl3
          have HROW3 := hid hrow3
          have HAT3 := hid hat3
          have HRL3 := hid (show r3.length = n by simpa [intVals] using hrow3.len)
          obtain ⟨x, hx⟩ : ∃ x, x = at2 H ii kk := ⟨_, rfl⟩
          rw [← hx] at hcell2
          have HX := hid hx
          clear hc2 hx0 hcl3 hrow3 hr3 hat3 hx
          go_wp2
          go_loopw [34] (fun j wr => ∃ jj : Nat, jj ≤ n ∧ j = .int .i64 jj ∧ TGrid 39 3 wr w.heap.size (.slice (some ⟨gv, 0, none⟩) n cv) (tabF n n (stI H M n ii kk jj)) ∧ Below w.heap.size w wr) (fun j _ => n - (intOf j).toNat)
          case atStart => exact ⟨0, by omega, rfl, HGR2.out, hbel⟩
          case round =>
            obtain ⟨jj, hj, rfl, hgr, hbel⟩ := hrel
            by_cases hltj : jj < n
            · obtain ⟨b4, o4, rfl, hb4, hc4⟩ := HROW3.out.at_ (by omega)
              have hy0 : w.cell? ⟨b4, o4 + jj, none⟩ = some (.int .i64 (at2 M kk jj)) := hc4 jj _ (intVals_get (by rw [HAT3.out]; exact at0_some (by rw [HRL3.out]; exact hltj)))
              have hcell4 := (hbel.cell (p := ⟨b4, o4 + jj, none⟩) hb4).trans hy0
              obtain ⟨g, c5, hO1, hO2, hfr, hbg, hst⟩ := grid_cell hgr (by decide) (tabF_rect n n _) hlt hltj
              rw [tabF_at _ hlt hltj] at hO2
              have HST := hid (hst (max (stI H M n ii kk jj ii jj) (stM H M ii jj kk)))
              rw [stI_step hlt hltj] at HST
              obtain ⟨y, hy⟩ : ∃ y, y = at2 M kk jj := ⟨_, rfl⟩
              obtain ⟨u, hu⟩ : ∃ u, u = stI H M n ii kk jj ii jj := ⟨_, rfl⟩
              rw [← hy] at hcell4
              rw [← hu] at hO2 HST
              have HV := hid (show stM H M ii jj kk = (if 1 < if y < x then y else x then 1 else if y < x then y else x) by rw [← min3if, HX.out, hy]; rfl)
              rw [HV.out] at HST
              clear hc4 hy0 hgr hst hy hu
              go_wp2
              (refine wp_region_still_tail 17 (by kernel_rfl) (by kernel_rfl) ?_; change wpStill _ _ (World.drew _) (fun a' => wpList _ _ _ _ a' (World.drew _)) _ _; simp only [List.take_succ_cons, List.take_zero, List.drop_succ_cons, List.drop_zero]; repeat still_step)
              refine wpStill_nil ?_
              go_wp2
              go_roundw
              case rel => exact ⟨jj + 1, by omega, by go_num, HST.out.1.below (Below.refl _ _).drew, (hbel.grown HST.out.2 hbel.size (fun k hk => by cases hk; exact hbg)).drew⟩
              case measure => simp [intOf]; omega
            · obtain rfl : jj = n := by omega
              have HGQ := hid hgr
              clear hgr
              go_wp2
              go_roundw
              case rel => exact ⟨kk + 1, by omega, by go_num, by rw [← stI_nextk]; exact HGQ.out, hbel⟩
              case measure => simp [intOf]; omega
        · obtain rfl : kk = n := by omega
          go_wp2
          go_roundw
          case rel => exact ⟨ii + 1, by omega, by go_num, by rw [← stI_nexti]; exact HGR2.out, hbel⟩
          case measure => simp [intOf]; omega
    · obtain rfl : ii = n := by omega
      go_wp2
      go_ret
      exact ⟨_, rfl, by rw [← stI_end]; exact HGR.out, hbel⟩

set_option maxHeartbeats 4000000 in
set_option maxRecDepth 100000 in
theorem spec_l6Step_c (a b : Option Addr) (n c d : Nat) (H M : List (List Int)) (w : World) (ha : TabAt w a n H) (hb : TabAt w b n M) (hH : Bits H n) (hM : Rect M n n) (h1 : 1 ≤ n) (h9 : n ≤ 9) (hM0 : ∀ i j, i < n → j < n → 0 ≤ at2 M i j) :
    Calls Tryz.prog 88 #[.slice a n c, .slice b n d] w (GridPost (stepTab H M n) w) := by
  have HA := hid ha
  have HB := hid hb
  have RH := hid hH
  have RM := hid hM
  have HM0 := hid hM0
  clear ha hb hH hM hM0
  go_enter Tryz.func88, Tryz.ntmps88
  go_wp2_with (first | (go_at_call 109; refine (spec_l4Zero_c n n _ (by omega) (by omega)).mono ?_; rintro e w1 ⟨v, rfl, hgrid, hbel0⟩))
  obtain ⟨gv, cv, rfl, hbv, hvl⟩ := grid_form hgrid (zeroTab_len n n) (by omega)
  rw [← stS_zero H M n] at hgrid
  have HG := hid hgrid
  clear hgrid
  go_loopw [6] (fun i wr => ∃ ii : Nat, ii ≤ n ∧ i = .int .i64 ii ∧ TGrid 39 3 wr w.heap.size (.slice (some ⟨gv, 0, none⟩) n cv) (tabF n n (stS H M n ii 0 0)) ∧ Below w.heap.size w wr) (fun i _ => n - (intOf i).toNat)
  case atStart => exact ⟨0, by omega, rfl, HG.out, hbel0⟩
  case round =>
    obtain ⟨ii, hi, rfl, hgr, hbel⟩ := hrel
    have HGR := hid hgr
    clear hgr
    by_cases hlt : ii < n
    · go_wp2
      go_loopw [7] (fun k wr => ∃ jj : Nat, jj ≤ n ∧ k = .int .i64 jj ∧ TGrid 39 3 wr w.heap.size (.slice (some ⟨gv, 0, none⟩) n cv) (tabF n n (stS H M n ii jj 0)) ∧ Below w.heap.size w wr) (fun k _ => n - (intOf k).toNat)
      case atStart => exact ⟨0, by omega, rfl, HGR.out, hbel⟩
      case round =>
        obtain ⟨jj, hj, rfl, hgr, hbel⟩ := hrel
        have HGR2 := hid hgr
        clear hgr
        by_cases hltj : jj < n
        · go_wp2
          go_loopw [8] (fun j wr => ∃ kk : Nat, kk ≤ n ∧ j = .int .i64 kk ∧ TGrid 39 3 wr w.heap.size (.slice (some ⟨gv, 0, none⟩) n cv) (tabF n n (stS H M n ii jj kk)) ∧ Below w.heap.size w wr) (fun j _ => n - (intOf j).toNat)
          case atStart => exact ⟨0, by omega, rfl, HGR2.out, hbel⟩
          case round =>
            obtain ⟨kk, hk, rfl, hgr, hbel⟩ := hrel
            by_cases hltk : kk < n
            · obtain ⟨b1, o1, b2, o2, c1, rfl, hb1, hcl1, hb2, hcl2⟩ := rect_cell HA.out RH.out.rect hlt hltk
              obtain ⟨b3, o3, b4, o4, c3, rfl, hb3, hcl3, hb4, hcl4⟩ := rect_cell HB.out RM.out hltk hltj
              have hcell1 := (hbel.cell (p := ⟨b1, o1 + ii, none⟩) hb1).trans hcl1
              have hcell2 := (hbel.cell (p := ⟨b2, o2 + kk, none⟩) hb2).trans hcl2
              have hcell3 := (hbel.cell (p := ⟨b3, o3 + kk, none⟩) hb3).trans hcl3
              have hcell4 := (hbel.cell (p := ⟨b4, o4 + jj, none⟩) hb4).trans hcl4
              obtain ⟨g, c5, hO1, hO2, hfr, hbg, hst⟩ := grid_cell hgr (by decide) (tabF_rect n n _) hlt hltj
              rw [tabF_at _ hlt hltj] at hO2
              have HST := hid (hst (max (stS H M n ii jj kk ii jj) (stM H M ii jj kk)))
              rw [stS_step hlt hltj] at HST
              have hy0 := HM0.out kk jj hltk hltj
              obtain ⟨x, hx⟩ : ∃ x, x = at2 H ii kk := ⟨_, rfl⟩
              obtain ⟨y, hy⟩ : ∃ y, y = at2 M kk jj := ⟨_, rfl⟩
              obtain ⟨u, hu⟩ : ∃ u, u = stS H M n ii jj kk ii jj := ⟨_, rfl⟩
              have HO := hid (show bits BinOp.or IntKind.i64 u (bits BinOp.and IntKind.i64 x (min y 1)) = max u (stM H M ii jj kk) by
                rw [show stM H M ii jj kk = min x (min y 1) by rw [hx, hy]; rfl]
                refine bit_ops ?_ (by rw [hx]; exact RH.out.bit ii kk hlt hltk) (by rw [hy]; have := HM0.out kk jj hltk hltj; omega)
                rw [hu, stS_here]
                exact orTo_bit (n := n) (fun t ht => stM_bit RH.out HM0.out hlt hltj ht) kk hk)
              rw [← hx] at hcell2
              rw [← hy] at hcell4 hy0
              rw [← hu] at hO2 HST
              rw [← HO.out] at HST
              clear hcl1 hcl2 hcl3 hcl4 hgr hst hx hy hu
              go_wp2
              (refine wp_region_still_tail 31 (by kernel_rfl) (by kernel_rfl) ?_; change wpStill _ _ (World.drew _) (fun a' => wpList _ _ _ _ a' (World.drew _)) _ _; simp only [List.take_succ_cons, List.take_zero, List.drop_succ_cons, List.drop_zero]; repeat still_step)
              still_call (l1Bit_pos y hy0 _)
              repeat still_step
              refine wpStill_nil ?_
              go_wp2
              go_roundw
              case rel => exact ⟨kk + 1, by omega, by go_num, HST.out.1.below (Below.refl _ _).drew, (hbel.grown HST.out.2 hbel.size (fun k hk => by cases hk; exact hbg)).drew⟩
              case measure => simp [intOf]; omega
            · obtain rfl : kk = n := by omega
              have HGQ := hid hgr
              clear hgr
              go_wp2
              go_roundw
              case rel => exact ⟨jj + 1, by omega, by go_num, by rw [← stS_nextj]; exact HGQ.out, hbel⟩
              case measure => simp [intOf]; omega
        · obtain rfl : jj = n := by omega
          go_wp2
          go_roundw
          case rel => exact ⟨ii + 1, by omega, by go_num, by rw [← stS_nexti]; exact HGR2.out, hbel⟩
          case measure => simp [intOf]; omega
    · obtain rfl : ii = n := by omega
      go_wp2
      go_ret
      exact ⟨_, rfl, by rw [← stS_end]; exact HGR.out, hbel⟩
end Go.Proofs.YtpfeflhcbcgbfaaGreatDoor
