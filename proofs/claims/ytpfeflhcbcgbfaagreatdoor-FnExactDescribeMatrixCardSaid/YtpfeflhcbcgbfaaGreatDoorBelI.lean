/- Whether the growth is below a fraction, the program's way. Conditions: a small matrix in memory, small numbers. -/
import Derived.Test.YtpfeflhcbcgbfaaGreatDoorPer
import Derived.Test.YtpfeflhcbcgbfaaGreatDoorMinI
import Derived.Test.YtpfeflhcbcgbfaaGreatDoorZero
import Derived.Test.YtpfeflhcbcgbfaaGreatDoorSmal
import Derived.Test.YtpfeflhcbcgbfaaGreatDoorMul
import Derived.Test.YtpfeflhcbcgbfaaGreatDoorPartI
import Derived.Test.YtpfeflhcbcgbfaaGreatDoorDet
namespace Go.Proofs.YtpfeflhcbcgbfaaGreatDoor
open Go.RowKit
def lessF (M : List (List Int)) (q d : Int) (p r : Nat) : Int := (if p = r then q else 0) - d * at2 M p r
def lessT (M : List (List Int)) (n : Nat) (q d : Int) : List (List Int) := tabF n n (lessF M q d)
def lessH (M : List (List Int)) (q d : Int) (i j p r : Nat) : Int := if p < i then lessF M q d p r else if p = i ∧ r < j then -d * at2 M p r else 0
theorem lessH_zero (M : List (List Int)) (n : Nat) (q d : Int) : tabF n n (lessH M q d 0 0) = zeroTab n n := by
  rw [← tabF_zero]
  exact tabF_ext fun p r _ _ => by unfold lessH; rw [if_neg (by omega), if_neg (by omega)]
theorem lessH_put {M : List (List Int)} {n i j : Nat} {q d : Int} (hi : i < n) (hj : j < n) : put2 (tabF n n (lessH M q d i j)) i j (-d * at2 M i j) = tabF n n (lessH M q d i (j + 1)) := by
  refine tabF_put hi hj (by unfold lessH; rw [if_neg (by omega), if_pos ⟨rfl, by omega⟩]) fun p r _ _ h => ?_
  unfold lessH
  by_cases h1 : p < i
  · rw [if_pos h1, if_pos h1]
  · rw [if_neg h1, if_neg h1]
    by_cases h2 : p = i ∧ r < j
    · rw [if_pos h2, if_pos (by omega)]
    · rw [if_neg h2, if_neg (by omega)]
theorem lessH_row {M : List (List Int)} {n i : Nat} {q d : Int} (hi : i < n) : put2 (tabF n n (lessH M q d i n)) i i (-d * at2 M i i + q) = tabF n n (lessH M q d (i + 1) 0) := by
  refine tabF_put hi hi (by unfold lessH lessF; rw [if_pos (by omega), if_pos rfl, Int.neg_mul]; omega) fun p r _ hr h => ?_
  unfold lessH
  by_cases h1 : p < i
  · rw [if_pos h1, if_pos (by omega)]
  · rw [if_neg h1]
    by_cases h2 : p = i
    · rw [if_pos (by omega), if_pos (by omega)]
      unfold lessF
      rw [if_neg (by omega), Int.neg_mul]
      omega
    · rw [if_neg (by omega), if_neg (by omega), if_neg (by omega)]
theorem lessH_at {M : List (List Int)} {n i : Nat} {q d : Int} (hi : i < n) : at2 (tabF n n (lessH M q d i n)) i i = -d * at2 M i i := by
  rw [tabF_at _ hi hi]
  unfold lessH
  rw [if_neg (by omega), if_pos ⟨rfl, hi⟩]
theorem lessH_end (M : List (List Int)) (n : Nat) (q d : Int) : tabF n n (lessH M q d n 0) = lessT M n q d := tabF_ext fun p r hp _ => by
  unfold lessH
  rw [if_pos hp]
theorem mul_small {d x : Int} (hd : 0 ≤ d ∧ d ≤ 100) (hx : 0 ≤ x ∧ x ≤ 9) : 0 ≤ d * x ∧ d * x ≤ 900 := by
  have h1 := Int.mul_nonneg hd.1 hx.1
  have h2 : d * x ≤ 100 * 9 := Int.mul_le_mul hd.2 hx.2 hx.1 (by omega)
  omega
theorem lessT_bd {M : List (List Int)} {n : Nat} {q d : Int} (hM : ∀ i j, i < n → j < n → 0 ≤ at2 M i j ∧ at2 M i j ≤ 9) (hq : 0 ≤ q ∧ q ≤ 3601) (hd : 0 ≤ d ∧ d ≤ 100) : Bd 10000 (lessT M n q d) := by
  intro r hr x hx
  unfold lessT tabF at hr
  obtain ⟨p, hp, rfl⟩ := List.mem_map.1 hr
  obtain ⟨s, hs, rfl⟩ := List.mem_map.1 hx
  have h1 := mul_small hd (hM p s (List.mem_range.1 hp) (List.mem_range.1 hs))
  unfold lessF
  split <;> omega
set_option maxHeartbeats 4000000 in
set_option maxRecDepth 100000 in
theorem impl_less_c (a : Option Addr) (n c : Nat) (M : List (List Int)) (q d : Int) (w : World) (h : TabAt w a n M) (hR : Rect M n n) (hn : 1 ≤ n ∧ n ≤ 4) (hM : ∀ i j, i < n → j < n → 0 ≤ at2 M i j ∧ at2 M i j ≤ 9) (hq : 0 ≤ q ∧ q ≤ 3601) (hd : 0 ≤ d ∧ d ≤ 100) :
    Calls Tryz.prog 144 #[.slice a n c, .int .i64 q, .int .i64 d] w (GridPost (lessT M n q d) w) := by
  have HZ := hid (fun w => impl_zeros_c n w (by omega))
  have HRR := hid (fun (i : Nat) (hi : i < n) => rect_row h hR hi)
  have HMB := hid hM
  have HPUT := hid (fun (i j : Nat) (hi : i < n) (hj : j < n) => lessH_put (M := M) (q := q) (d := d) hi hj)
  have HROW := hid (fun (i : Nat) (hi : i < n) => lessH_row (M := M) (q := q) (d := d) hi)
  have HAT := hid (fun (i : Nat) (hi : i < n) => lessH_at (M := M) (q := q) (d := d) hi)
  have HEND := hid (lessH_end M n q d)
  have HZT := hid (lessH_zero M n q d)
  have HRECT := hid (fun i j => tabF_rect n n (lessH M q d i j))
  have hwd : IntKind.i64.wrap (-d) = -d := IntWalk.i64_in _ (by omega)
  unfold GridPost at HZ
  obtain ⟨R, hRR⟩ : ∃ R, R = lessT M n q d := ⟨_, rfl⟩
  rw [← hRR] at HEND
  rw [← hRR]
  obtain ⟨T, hT⟩ : ∃ T, T = fun i j => tabF n n (lessH M q d i j) := ⟨_, rfl⟩
  have HTE := hid (fun i j => show tabF n n (lessH M q d i j) = T i j by rw [hT])
  simp only [HTE.out] at HPUT HROW HAT HEND HZT HRECT
  clear h hR hRR hT hM HTE
  go_enter Tryz.func144, Tryz.ntmps144
  go_wp2_with fail
  refine (HZ.out _).mono ?_
  rintro e w1 ⟨v, rfl, hg, hb1⟩
  rw [← HZT.out] at hg
  obtain ⟨gv, cv, rfl, _, _⟩ := grid_form hg (HRECT.out 0 0).len (by omega)
  have HG1 := hid hg
  have HB1 := hid hb1
  clear hg hb1 HZ
  go_wp2
  go_loopw [17] (fun i wr => ∃ p : Nat, p ≤ n ∧ i = .int .i64 p ∧ Hid (TGrid 39 3 wr w.heap.size (.slice (some ⟨gv, 0, none⟩) n cv) (T p 0)) ∧ Hid (Below w.heap.size w wr)) (fun i _ => n - (intOf i).toNat)
  case atStart => exact ⟨0, by omega, rfl, HG1, HB1⟩
  case round =>
    clear HG1 HB1
    obtain ⟨p, hp, rfl, HG, HBL⟩ := hrel
    by_cases hltp : p < n
    · have hpi : (p : Int) < (n : Int) := by omega
      obtain ⟨b, off, a', c', r, rfl, hb, hc, hrow, hr, hat⟩ := HRR.out p hltp
      have hcp := (HBL.out.cell (p := ⟨b, off + p, none⟩) hb).trans hc
      have HRW := hid hrow
      have HATR := hid hat
      clear hc hrow hat hr
      go_wp2
      go_loopw [24] (fun i wr => ∃ s : Nat, s ≤ n ∧ i = .int .i64 s ∧ Hid (TGrid 39 3 wr w.heap.size (.slice (some ⟨gv, 0, none⟩) n cv) (T p s)) ∧ Hid (Below w.heap.size w wr)) (fun i _ => n - (intOf i).toNat)
      case atStart => exact ⟨0, by omega, rfl, HG, HBL⟩
      case round =>
        clear HG HBL hcp
        obtain ⟨s, hs, rfl, HG, HBL⟩ := hrel
        by_cases hlts : s < n
        · have hsi : (s : Int) < (n : Int) := by omega
          obtain ⟨b2, off2, rfl, hb2, hc2⟩ := HRW.out.at_ (by omega)
          have hrl : r.length = n := by simpa [intVals] using HRW.out.len
          have hcs := (HBL.out.cell (p := ⟨b2, off2 + s, none⟩) hb2).trans (hc2 s (.int .i64 (at0 r s)) (intVals_get (at0_some (by omega))))
          rw [← HATR.out s] at hcs
          obtain ⟨g, cg, k1, k2, k3, k4, k5⟩ := grid_cell HG.out (by decide) (HRECT.out p s) hltp hlts
          have hx := HMB.out p s hltp hlts
          have hm := mul_small hd hx
          have HPS := hid (HPUT.out p s hltp hlts)
          obtain ⟨x, hxe⟩ : ∃ x, x = at2 M p s := ⟨_, rfl⟩
          rw [← hxe] at hcs HPS hm
          have hwx : IntKind.i64.wrap (-d * x) = -d * x := IntWalk.i64_in _ (by rw [Int.neg_mul]; omega)
          have HK := hid (k5 (-d * x))
          clear k5 hxe hc2 hrl hx
          go_wp2
          go_roundw
          case rel => exact ⟨s + 1, by omega, by go_num, hid (by rw [← HPS.out]; exact HK.out.1), hid (HBL.out.grown HK.out.2 HBL.out.size (fun k hk => by injection hk with hk; omega))⟩
          case measure => simp [intOf]; omega
        · obtain rfl : s = n := by omega
          obtain ⟨g, cg, k1, k2, k3, k4, k5⟩ := grid_cell HG.out (by decide) (HRECT.out p s) hltp hltp
          rw [HAT.out p hltp] at k2
          have hx := HMB.out p p hltp hltp
          have hm := mul_small hd hx
          have HPR := hid (HROW.out p hltp)
          obtain ⟨x, hxe⟩ : ∃ x, x = at2 M p p := ⟨_, rfl⟩
          rw [← hxe] at k2 HPR hm
          have hwx : IntKind.i64.wrap (-d * x + q) = -d * x + q := IntWalk.i64_in _ (by rw [Int.neg_mul]; omega)
          have HK := hid (k5 (-d * x + q))
          clear k5 hxe hx
          go_wp2
          go_roundw
          case rel => exact ⟨p + 1, by omega, by go_num, hid (by rw [← HPR.out]; exact HK.out.1), hid (HBL.out.grown HK.out.2 HBL.out.size (fun k hk => by injection hk with hk; omega))⟩
          case measure => simp [intOf]; omega
    · obtain rfl : p = n := by omega
      have HF := hid (show TGrid 39 3 wr w.heap.size (.slice (some ⟨gv, 0, none⟩) p cv) R from by rw [← HEND.out]; exact HG.out)
      go_wp2
      go_ret
      exact ⟨_, rfl, HF.out, HBL.out⟩
end Go.Proofs.YtpfeflhcbcgbfaaGreatDoor
namespace Go.Proofs.YtpfeflhcbcgbfaaGreatDoor
open Go.RowKit
def fillT (N : Nat) (f : Nat → Nat → Int) (i j : Nat) : List (List Int) := (List.range N).map fun p => (List.range N).map fun q => if p < i ∨ (p = i ∧ q < j) then f p q else 0
theorem fill_rect (N : Nat) (f : Nat → Nat → Int) (i j : Nat) : Rect (fillT N f i j) N N := by
  refine ⟨by simp [fillT], fun r hr => ?_⟩
  unfold fillT at hr
  obtain ⟨p, _, rfl⟩ := List.mem_map.1 hr
  simp
theorem at2_fill {N : Nat} {f : Nat → Nat → Int} {i j p q : Nat} (hp : p < N) (hq : q < N) : at2 (fillT N f i j) p q = if p < i ∨ (p = i ∧ q < j) then f p q else 0 := by
  have h1 : (fillT N f i j)[p]? = some ((List.range N).map fun q => if p < i ∨ (p = i ∧ q < j) then f p q else 0) := by simp [fillT, hp]
  rw [at2_row h1]
  exact at0_get (by simp [hq])
theorem fill_zero (N : Nat) (f : Nat → Nat → Int) : fillT N f 0 0 = zeroTab N N := by
  have hz : Rect (zeroTab N N) N N := ⟨by simp [zeroTab], fun r hr => by unfold zeroTab at hr; rw [(List.mem_replicate.1 hr).2]; simp⟩
  refine rect_ext (fill_rect N f 0 0) hz fun p q hp hq => ?_
  rw [at2_fill hp hq, if_neg (by omega)]
  have h1 : (zeroTab N N)[p]? = some (List.replicate N 0) := by simp [zeroTab, hp]
  rw [at2_row h1]
  exact (at0_get (by simp [hq])).symm
theorem fill_put {N : Nat} {f : Nat → Nat → Int} {i j : Nat} (hi : i < N) (hj : j < N) {u : Int} (hu : f i j = u) : put2 (fillT N f i j) i j u = fillT N f i (j + 1) := by
  refine rect_ext ((fill_rect N f i j).put2 i j u) (fill_rect N f i (j + 1)) fun p q hp hq => ?_
  rw [at2_fill hp hq]
  by_cases h : i = p ∧ j = q
  · obtain ⟨rfl, rfl⟩ := h
    rw [put2_same (fill_rect N f i j) hi hj, if_pos (by omega), hu]
  · rw [put2_other _ (by omega), at2_fill hp hq]
    by_cases h2 : p < i ∨ (p = i ∧ q < j)
    · rw [if_pos h2, if_pos (by omega)]
    · rw [if_neg h2, if_neg (by omega)]
theorem fill_skip {N : Nat} {f : Nat → Nat → Int} {i j : Nat} (hu : f i j = 0) : fillT N f i j = fillT N f i (j + 1) := by
  refine rect_ext (fill_rect N f i j) (fill_rect N f i (j + 1)) fun p q hp hq => ?_
  rw [at2_fill hp hq, at2_fill hp hq]
  by_cases h : p = i ∧ q = j
  · obtain ⟨rfl, rfl⟩ := h
    rw [if_neg (by omega), if_pos (by omega), hu]
  · by_cases h2 : p < i ∨ (p = i ∧ q < j)
    · rw [if_pos h2, if_pos (by omega)]
    · rw [if_neg h2, if_neg (by omega)]
theorem fill_next (N : Nat) (f : Nat → Nat → Int) (i : Nat) : fillT N f i N = fillT N f (i + 1) 0 := by
  refine rect_ext (fill_rect N f i N) (fill_rect N f (i + 1) 0) fun p q hp hq => ?_
  rw [at2_fill hp hq, at2_fill hp hq]
  by_cases h2 : p < i ∨ (p = i ∧ q < N)
  · rw [if_pos h2, if_pos (by omega)]
  · rw [if_neg h2, if_neg (by omega)]
end Go.Proofs.YtpfeflhcbcgbfaaGreatDoor
namespace Go.Proofs.YtpfeflhcbcgbfaaGreatDoor
open Go.RowKit
def headT (M : List (List Int)) (n : Nat) (q d : Int) (k : Nat) : List (List Int) := partRC (lessT M n q d) (List.range k) (List.range k)
def posB (M : List (List Int)) (n : Nat) (q d : Int) (k : Nat) : Bool := decide (0 < detN (k + 1) (headT M n q d (k + 1)))
/-- All determinants of the first rows and columns are positive. -/
def belowV (M : List (List Int)) (n : Nat) (q d : Int) : Bool := (List.range n).all (posB M n q d)
theorem below_stop {M : List (List Int)} {n k : Nat} {q d : Int} (hk : k < n) (h : posB M n q d k = false) : belowV M n q d = false := by
  unfold belowV
  rw [Bool.eq_false_iff]
  intro hc
  rw [List.all_eq_true] at hc
  have := hc k (List.mem_range.2 hk)
  rw [h] at this
  cases this
theorem below_step {M : List (List Int)} {n k : Nat} {q d : Int} (hz : (List.range k).all (posB M n q d) = true) (h : posB M n q d k = true) : (List.range (k + 1)).all (posB M n q d) = true := by
  rw [List.range_succ, List.all_append, hz]
  simp [h]
theorem headT_rect (M : List (List Int)) (n : Nat) (q d : Int) (k : Nat) : Rect (headT M n q d k) k k := by
  have := partRC_rect (lessT M n q d) (List.range k) (List.range k)
  rw [List.length_range] at this
  exact this
theorem lessT_rect (M : List (List Int)) (n : Nat) (q d : Int) : Rect (lessT M n q d) n n := tabF_rect n n _
theorem headT_bd {M : List (List Int)} {n k : Nat} {q d : Int} (hM : ∀ i j, i < n → j < n → 0 ≤ at2 M i j ∧ at2 M i j ≤ 9) (hq : 0 ≤ q ∧ q ≤ 3601) (hd : 0 ≤ d ∧ d ≤ 100) (hk : k ≤ n) : Bd 10000 (headT M n q d k) :=
  partRC_bd (lessT_rect M n q d) (lessT_bd hM hq hd) (fun i hi => by have := List.mem_range.1 hi; omega) (fun i hi => by have := List.mem_range.1 hi; omega)
theorem fill_less (M : List (List Int)) (n : Nat) (q d : Int) : fillT n (lessF M q d) n 0 = lessT M n q d := by
  refine rect_ext (fill_rect n _ n 0) (lessT_rect M n q d) fun i j hi hj => ?_
  unfold lessT
  rw [at2_fill hi hj, tabF_at _ hi hj, if_pos (by omega)]
theorem l1Bit_w (b : Bool) (w : World) : True := trivial
theorem natV_range_succ (k : Nat) : natV (List.range (k + 1)) = natV (List.range k) ++ [.int .i64 (k : Int)] := by
  rw [List.range_succ]
  simp [natV, intVals]
end Go.Proofs.YtpfeflhcbcgbfaaGreatDoor
namespace Go.Proofs.YtpfeflhcbcgbfaaGreatDoor
open Go.RowKit
/-- The first rows, cut. -/
def firstL (t : List (List Int)) (k j : Nat) : List (List Int) := (t.take j).map fun r => r.take k
theorem first_part {t : List (List Int)} {n k : Nat} (hR : Rect t n n) (hk : k ≤ n) : firstL t k k = partRC t (List.range k) (List.range k) := by
  have hp := partRC_rect t (List.range k) (List.range k)
  rw [List.length_range] at hp
  have hf : Rect (firstL t k k) k k := ⟨by simp [firstL, hR.len]; omega, fun r hr => by
    unfold firstL at hr
    obtain ⟨r0, h0, rfl⟩ := List.mem_map.1 hr
    have := hR.row r0 (List.mem_of_mem_take h0)
    simp
    omega⟩
  refine rect_ext hf hp fun i j hi hj => ?_
  obtain ⟨r, hr, hl, he⟩ := hR.get (i := i) (by omega)
  have h1 : (firstL t k k)[i]? = some (r.take k) := by simp [firstL, hi, hr]
  have h2 : (partRC t (List.range k) (List.range k))[i]? = some ((List.range k).map fun j => at2 t i j) := by simp [partRC, hi]
  rw [at2_row h1, at2_row h2]
  have h3 : (r.take k)[j]? = some (at0 r j) := by rw [List.getElem?_take, if_pos hj]; exact at0_some (by omega)
  rw [at0_get h3]
  have h4 : ((List.range k).map fun j => at2 t i j)[j]? = some (at2 t i j) := by simp [hj]
  rw [at0_get h4, at2_row hr]
theorem firstL_succ {t : List (List Int)} {k j : Nat} {r : List Int} (h : t[j]? = some r) : firstL t k (j + 1) = firstL t k j ++ [r.take k] := by
  unfold firstL
  rw [List.take_add_one, h]
  simp
/-- Rows that read, each with room. -/
def RowsC (w : World) (vs : List Value) (rows : List (List Int)) : Prop := vs.length = rows.length ∧ ∀ (i : Nat) (x : Value) (r : List Int), vs[i]? = some x → rows[i]? = some r → ∃ a' c', x = .slice a' r.length c' ∧ r.length ≤ c' ∧ RowAt w a' r.length (intVals r)
theorem RowsC.snoc {w : World} {vs : List Value} {rows : List (List Int)} {r : List Int} {a' : Option Addr} {c' : Nat} (h : RowsC w vs rows) (hc : r.length ≤ c') (hr : RowAt w a' r.length (intVals r)) : RowsC w (vs ++ [.slice a' r.length c']) (rows ++ [r]) := by
  obtain ⟨h1, h2⟩ := h
  refine ⟨by simp [h1], fun i x r' hx hr' => ?_⟩
  by_cases hi : i < vs.length
  · rw [List.getElem?_append_left hi] at hx
    rw [List.getElem?_append_left (by omega)] at hr'
    exact h2 i x r' hx hr'
  · rw [List.getElem?_append_right (by omega)] at hx
    rw [List.getElem?_append_right (by omega)] at hr'
    have hi0 : i - vs.length = 0 := by
      rcases Nat.eq_zero_or_pos (i - vs.length) with h0 | h0
      · exact h0
      · rw [List.getElem?_eq_none (by simp; omega)] at hx; cases hx
    rw [hi0] at hx
    rw [← h1, hi0] at hr'
    simp only [List.getElem?_cons_zero, Option.some.injEq] at hx hr'
    subst hx hr'
    exact ⟨a', c', rfl, hc, hr⟩
theorem row_take {w : World} {b off n k : Nat} {r : List Int} (h : RowAt w (some ⟨b, off, none⟩) n (intVals r)) (hk : k ≤ n) (h0 : 0 < n) : RowAt w (some ⟨b, off, none⟩) k (intVals (r.take k)) := by
  obtain ⟨h1, h2, h3⟩ := h
  have hl : r.length = n := by simpa [intVals] using h1
  refine ⟨by simp [intVals]; omega, by omega, fun _ => ?_⟩
  obtain ⟨b', off', he, hb, hc⟩ := h3 h0
  refine ⟨b', off', he, hb, fun i x hx => hc i x ?_⟩
  rw [intVals_take, List.getElem?_take] at hx
  split at hx
  · exact hx
  · cases hx
set_option maxHeartbeats 4000000 in
set_option maxRecDepth 100000 in
theorem impl_first_c (a : Option Addr) (n c k : Nat) (t : List (List Int)) (w : World) (h : TabC w a n t) (hc : n ≤ c) (hR : Rect t n n) (hk : k ≤ n) (hn : n ≤ 9) (hk1 : 1 ≤ k) :
    Calls Tryz.prog 165 #[.slice a n c, .int .i64 k] w fun e w' => ∃ ag cg, e = .returned (.slice ag k cg) ∧ TabC w' ag k (partRC t (List.range k) (List.range k)) ∧ Below w.heap.size w w' := by
  have HRC := hid (fun (i : Nat) (hi : i < n) => rowC h hR hi)
  have HFE := hid (first_part hR hk)
  have HFS := hid (fun (j : Nat) (r : List Int) (hr : t[j]? = some r) => firstL_succ (k := k) hr)
  obtain ⟨vs0, hro, _, _⟩ := h
  obtain ⟨b0, off0, rfl, hb0, _⟩ := hro.at_ (by omega)
  have HO0 := hid (show (w.alloc (.cells #[] 39)).ownsRow w.heap.size 39 1 (.slice (some ⟨w.heap.size, 0, none⟩) 0 0) 0 [] from owns_lit3 #[] _ rfl (Nat.le_refl _) (by unfold maxLen; simp))
  have HT0 := hid (show RowsC w [] (firstL t k 0) from ⟨by simp [firstL], fun i x r hx => by simp at hx⟩)
  have HB0 := hid (show Below w.heap.size w (w.alloc (.cells #[] 39)) from (Below.refl _ _).alloc (Nat.le_refl _) _)
  have hkc : (k : Int) ≤ (c : Int) := by omega
  have hk0 : (0 : Int) ≤ (k : Int) := by omega
  have hc0 : ¬ (c = 0) := by omega
  clear hro hb0
  go_enter Tryz.func165, Tryz.ntmps165
  go_wp2
  go_loopw [5, 13] (fun v i wr => ∃ (j go co : Nat) (vs : List Value), j ≤ k ∧ i = .int .i64 j ∧ v = .slice (some ⟨go, 0, none⟩) j co ∧ Hid (wr.ownsRow w.heap.size 39 1 (.slice (some ⟨go, 0, none⟩) j co) j vs) ∧ Hid (RowsC w vs (firstL t k j)) ∧ Hid (Below w.heap.size w wr)) (fun _ i _ => k - (intOf i).toNat)
  case atStart => exact ⟨0, w.heap.size, 0, [], by omega, rfl, rfl, HO0, HT0, HB0⟩
  case round =>
    clear HO0 HT0 HB0
    obtain ⟨j, go, co, vs, hj, rfl, rfl, HOO, HRS, HBL⟩ := hrel
    by_cases hlt : j < k
    · have hji : (j : Int) < (k : Int) := by omega
      obtain ⟨b, off, a', c', r, he, hb, hcl, hcap, hrow, hr, hrl, _⟩ := HRC.out j (by omega)
      simp only [Option.some.injEq, Addr.mk.injEq, and_true] at he
      obtain ⟨rfl, rfl⟩ := he
      obtain ⟨b2, off2, rfl, hb2, _⟩ := hrow.at_ (by omega)
      have hcell := (HBL.out.cell (p := ⟨b0, off0 + j, none⟩) hb).trans hcl
      have hkc' : (k : Int) ≤ (c' : Int) := by omega
      have hc0' : ¬ (c' = 0) := by omega
      have HNX := hid (HRS.out.snoc (r := r.take k) (a' := some ⟨b2, off2, none⟩) (c' := c') (by simp; omega) (by
        have hl : (r.take k).length = k := by simp; omega
        rw [hl]
        exact row_take hrow hk (by omega)))
      rw [show (r.take k).length = k by simp; omega] at HNX
      have HFJ := hid (HFS.out j r hr)
      have hszL := HBL.out.size
      have hgo := (HOO.out.lt go rfl).1
      clear hcl hrow hr
      go_wp2_with (first | (at_builtin; go_must (refine wpList_appN rfl _ _ 31 rfl w.heap.size 39 (.slice none 0 0) 24 Tryz.underlying31 infoInts rfl go co j vs (HOO.out.alloc _) rfl wr.heap.size 0 1 1 [.slice (some ⟨b2, off2, none⟩) k c'] rfl rfl (lit_cellsP rfl) (by intro u hu; simp at hu; subst hu; rfl) (by omega) (by unfold maxLen; omega) (by simp; omega) ?_); intro g3 c3 w3 hown3 hgr3 hor3 hlt3))
      have HO3 := hid hown3
      have HB3 := hid ((HBL.out.alloc hszL (.cells #[.slice (some ⟨b2, off2, none⟩) k c'] 39)).grown hgr3 (by simp; omega) (by rintro q ⟨⟩; exact hgo))
      clear hown3 hgr3
      go_roundw
      case rel => exact ⟨j + 1, g3, c3, _, by omega, by go_num, rfl, HO3, hid (by rw [HFJ.out]; exact HNX.out), HB3⟩
      case measure => simp [intOf]; omega
    · obtain rfl : j = k := by omega
      obtain ⟨ag, cg, hag, _, hrow⟩ := owns_cap HOO.out (by omega)
      simp only [Value.slice.injEq, true_and] at hag
      obtain ⟨rfl, rfl⟩ := hag
      have HTC := hid (show TabC wr (some ⟨go, 0, none⟩) j (partRC t (List.range j) (List.range j)) from by
        rw [← HFE.out]
        exact ⟨vs, hrow, HRS.out.1, fun i x r hx hr => let ⟨a', c', e, hc, q⟩ := HRS.out.2 i x r hx hr; ⟨a', c', e, hc, q.below HBL.out (Nat.le_refl _)⟩⟩)
      clear hrow
      go_wp2
      go_ret
      exact ⟨_, _, rfl, HTC.out, HBL.out⟩
set_option maxHeartbeats 4000000 in
set_option maxRecDepth 100000 in
theorem impl_isBelow_c (a : Option Addr) (n c : Nat) (M : List (List Int)) (q d : Int) (w : World) (h : TabAt w a n M) (hR : Rect M n n) (hn : 1 ≤ n ∧ n ≤ 4) (hM : ∀ i j, i < n → j < n → 0 ≤ at2 M i j ∧ at2 M i j ≤ 9) (hq : 0 ≤ q ∧ q ≤ 3601) (hd : 0 ≤ d ∧ d ≤ 100) :
    Calls Tryz.prog 138 #[.slice a n c, .int .i64 q, .int .i64 d] w fun e w' => e = .returned (.bool (belowV M n q d)) ∧ Below w.heap.size w w' := by
  have HLE := hid (show Calls Tryz.prog 144 #[.slice a n c, .int .i64 q, .int .i64 d] w fun e w' => ∃ ag cg, e = .returned (.slice ag n cg) ∧ n ≤ cg ∧ TabC w' ag n (lessT M n q d) ∧ Below w.heap.size w w' from (impl_less_c a n c M q d w h hR hn hM hq hd).mono (by
    rintro e w' ⟨v, rfl, hg, hb⟩
    obtain ⟨ag, cg, rfl, hc, ht⟩ := grid_tabC hg (lessT_rect M n q d) (by omega)
    exact ⟨ag, cg, rfl, hc, ht, hb⟩))
  have HFI := hid (fun (k : Nat) (h1 : 1 ≤ k) (hk : k ≤ n) (a : Option Addr) (c : Nat) (V : World) (hc : n ≤ c) (ht : TabC V a n (lessT M n q d)) => impl_first_c a n c k (lessT M n q d) V ht hc (lessT_rect M n q d) hk (by omega) h1)
  have HDET := hid (fun (k : Nat) (hk : k ≤ n) (a : Option Addr) (c : Nat) (V : World) (ht : TabC V a k (headT M n q d k)) => impl_determinant_c 10000 (by omega) (by omega) k (by omega) (headT M n q d k) a c V ht (headT_rect M n q d k) (headT_bd hM hq hd hk))
  have HSTOP := hid (fun (k : Nat) (hk : k < n) (hf : posB M n q d k = false) => below_stop hk hf)
  have HSTEP := hid (fun (k : Nat) (hz : (List.range k).all (posB M n q d) = true) (hp : posB M n q d k = true) => below_step hz hp)
  have HFIN := hid (show belowV M n q d = (List.range n).all (posB M n q d) from rfl)
  have HPOS := hid (fun k => show posB M n q d k = decide (0 < detN (k + 1) (headT M n q d (k + 1))) from rfl)
  have HHE := hid (fun k => show partRC (lessT M n q d) (List.range k) (List.range k) = headT M n q d k from rfl)
  simp only [HHE.out] at HFI
  obtain ⟨R, hRR⟩ : ∃ R, R = belowV M n q d := ⟨_, rfl⟩
  rw [← hRR] at HSTOP HFIN
  rw [← hRR]
  obtain ⟨P, hP⟩ : ∃ P, P = posB M n q d := ⟨_, rfl⟩
  rw [← hP] at HSTOP HSTEP HFIN HPOS
  obtain ⟨LT, hLT⟩ : ∃ LT, LT = lessT M n q d := ⟨_, rfl⟩
  rw [← hLT] at HLE HFI
  obtain ⟨HT, hHT⟩ : ∃ HT, HT = headT M n q d := ⟨_, rfl⟩
  rw [← hHT] at HPOS HFI HDET
  clear h hR hRR hM hP hLT hHT HHE
  go_enter Tryz.func138, Tryz.ntmps138
  go_wp2_with fail
  refine HLE.out.mono ?_
  rintro e w1 ⟨ag, cg, rfl, hcg, ht1, hb1⟩
  have HT1 := hid ht1
  have HB1 := hid hb1
  clear ht1 hb1 HLE
  go_wp2
  go_loopw [8] (fun i wr => ∃ k : Nat, k ≤ n ∧ i = .int .i64 ((k + 1 : Nat) : Int) ∧ Hid ((List.range k).all P = true) ∧ Hid (Below w1.heap.size w1 wr)) (fun i _ => n + 1 - (intOf i).toNat)
  case atStart => exact ⟨0, by omega, rfl, hid rfl, hid (Below.refl _ _)⟩
  case round =>
    obtain ⟨k, hk, rfl, HZP, HBQ⟩ := hrel
    obtain ⟨K, hK⟩ : ∃ K, K = k + 1 := ⟨_, rfl⟩
    have HK := hid hK
    have HKI := hid (show (K : Int) + 1 = ((k + 1 + 1 : Nat) : Int) by rw [hK]; rfl)
    rw [← hK]
    by_cases hltk : k < n
    · have hki : (K : Int) ≤ (n : Int) := by omega
      have HFK := hid (HFI.out K (by omega) (by omega) ag cg wr hcg (HT1.out.below HBQ.out (Nat.le_refl _)))
      have HDK := hid (fun (a : Option Addr) (c : Nat) (V : World) (ht : TabC V a K (HT K)) => HDET.out K (by omega) a c V ht)
      have HPK := hid (HPOS.out k)
      have HST := hid (fun hf => HSTOP.out k hltk hf)
      have HSP := hid (fun hp => HSTEP.out k HZP.out hp)
      rw [← hK] at HPK
      obtain ⟨dt, hdt⟩ : ∃ dt, dt = detN K (HT K) := ⟨_, rfl⟩
      rw [← hdt] at HDK HPK
      clear hdt hK
      go_wp2_with fail
      refine HFK.out.mono ?_
      rintro e w4 ⟨a4, c4, rfl, ht4, hb4⟩
      have HB4 := hid (HBQ.out.trans (hb4.mono HBQ.out.size))
      go_wp2_with fail
      refine (HDK.out a4 c4 _ ht4).mono ?_
      rintro e w5 ⟨rfl, hb5⟩
      have HB5 := hid (HB4.out.trans (hb5.mono HB4.out.size))
      clear ht4 hb4 hb5
      by_cases hd0 : dt ≤ 0
      · have HRF := hid (HST.out (by rw [HPK.out]; exact decide_eq_false (by omega)))
        go_wp2
        go_ret
        exact ⟨ret_bool HRF.out.symm, HB1.out.trans (HB5.out.mono HB1.out.size)⟩
      · have HN := hid (HSP.out (by rw [HPK.out]; exact decide_eq_true (by omega)))
        go_wp2
        go_roundw
        case rel => exact ⟨k + 1, by omega, congrArg (Value.int .i64) HKI.out, HN, HB5⟩
        case measure => have := HK.out; simp [intOf]; omega
    · obtain rfl : k = n := by omega
      have hki : ¬ ((K : Int) ≤ (k : Int)) := by omega
      have HRT := hid (HFIN.out.trans HZP.out)
      clear hK
      go_wp2
      go_ret
      exact ⟨ret_bool HRT.out.symm, HB1.out.trans (HBQ.out.mono HB1.out.size)⟩
end Go.Proofs.YtpfeflhcbcgbfaaGreatDoor
