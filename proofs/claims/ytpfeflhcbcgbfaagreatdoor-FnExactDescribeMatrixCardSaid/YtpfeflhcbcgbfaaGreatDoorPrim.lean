/- Periods of matrices, primitive ones: both functions. Conditions: sizes within the reach. -/
import Derived.Test.YtpfeflhcbcgbfaaGreatDoorPer
namespace Go.Proofs.YtpfeflhcbcgbfaaGreatDoor
open Go.RowKit

theorem tmod_nat (x y : Nat) : (x : Int).tmod (y : Int) = ((x % y : Nat) : Int) := rfl
set_option maxHeartbeats 1000000 in
theorem impl_gcd_c (a b : Nat) (w : World) (ha : a ≤ 1000000000000) (hb : b ≤ 1000000000000) :
    Calls Tryz.prog 102 #[.int .i64 a, .int .i64 b] w fun e w' => e = .returned (.int .i64 (Nat.gcd a b : Nat)) ∧ Below w.heap.size w w' := by
  go_enter Tryz.func102, Tryz.ntmps102
  go_wp2
  go_loopw [0, 1] (fun p q wr => ∃ x y : Nat, p = .int .i64 x ∧ q = .int .i64 y ∧ x ≤ 1000000000000 ∧ y ≤ 1000000000000 ∧ Hid (Nat.gcd x y = Nat.gcd a b) ∧ Below w.heap.size w wr) (fun _ q _ => (intOf q).toNat)
  case atStart => exact ⟨a, b, rfl, rfl, ha, hb, rfl, Below.refl _ _⟩
  case round =>
    obtain ⟨x, y, rfl, rfl, hx, hy, HG, hbel⟩ := hrel
    by_cases hy0 : 0 < y
    · have hne : ((y : Int) != 0) = true := by simp; omega
      have hne2 : ((y : Int) == 0) = false := by simp; omega
      have hlt : x % y < y := Nat.mod_lt _ hy0
      have HST := hid (show Nat.gcd y (x % y) = Nat.gcd a b by rw [← HG.out, Nat.gcd_comm x y, Nat.gcd_rec y x, Nat.gcd_comm])
      go_wp2
      go_quiet (fail)
      go_wp2
      go_roundw
      case rel => exact ⟨y, x % y, rfl, rfl, by omega, by omega, HST.out, below_drewN hbel _⟩
      case measure => simp [intOf]; omega
    · obtain rfl : y = 0 := by omega
      go_wp2
      go_ret
      exact ⟨ret_int (by rw [← HG.out, Nat.gcd_zero_right]; omega), hbel⟩
set_option maxHeartbeats 1000000 in
theorem spec_l6Gcd_c (a b : Nat) (w : World) (ha : a ≤ 1000000000000) (hb : b ≤ 1000000000000) :
    Calls Tryz.prog 89 #[.int .i64 a, .int .i64 b] w fun e w' => e = .returned (.int .i64 (Nat.gcd a b : Nat)) ∧ w = w' := by
  go_enter Tryz.func89, Tryz.ntmps89
  go_wp2
  go_loop [0, 1] (fun p q => ∃ x y : Nat, p = .int .i64 x ∧ q = .int .i64 y ∧ x ≤ 1000000000000 ∧ y ≤ 1000000000000 ∧ Hid (Nat.gcd x y = Nat.gcd a b)) (fun _ q => (intOf q).toNat)
  case atStart => exact ⟨a, b, rfl, rfl, ha, hb, rfl⟩
  case round =>
    obtain ⟨x, y, rfl, rfl, hx, hy, HG⟩ := hrel
    by_cases hy0 : 0 < y
    · have hne : ((y : Int) != 0) = true := by simp; omega
      have hne2 : ((y : Int) == 0) = false := by simp; omega
      have hlt : x % y < y := Nat.mod_lt _ hy0
      have HST := hid (show Nat.gcd y (x % y) = Nat.gcd a b by rw [← HG.out, Nat.gcd_comm x y, Nat.gcd_rec y x, Nat.gcd_comm])
      go_wp2
      go_round
      case rel => exact ⟨y, x % y, rfl, by first | rfl | go_num, by omega, by omega, HST.out⟩
      case measure => simp [intOf]; omega
    · obtain rfl : y = 0 := by omega
      go_wp2_with (go_at_call 131; refine (l1Max_c _ _ _).mono ?_; rintro e w' ⟨rfl, rfl⟩)
      go_ret
      exact ⟨ret_int (by rw [← HG.out, Nat.gcd_zero_right]; omega), rfl⟩
set_option maxHeartbeats 1000000 in
theorem impl_trace_c (a : Option Addr) (n c : Nat) (R : List (List Int)) (w : World) (h : TabAt w a n R) (hR : Rect R n n) (h9 : n ≤ 9) (hB : ∀ i, i < n → 0 ≤ at2 R i i ∧ at2 R i i ≤ 1000000000000) :
    Calls Tryz.prog 98 #[.slice a n c] w fun e w' => e = .returned (.int .i64 (sumTo (fun i => at2 R i i) n)) ∧ w = w' := by
  have HT := hid h
  have HR := hid hR
  have HB := hid hB
  clear h hR hB
  go_enter Tryz.func98, Tryz.ntmps98
  go_wp2
  go_loop [3, 8] (fun s i => ∃ k : Nat, k ≤ n ∧ i = .int .i64 k ∧ s = .int .i64 (sumTo (fun i => at2 R i i) k)) (fun _ i => n - (intOf i).toNat)
  case atStart => exact ⟨0, by omega, rfl, rfl⟩
  case round =>
    obtain ⟨k, hk, rfl, rfl⟩ := hrel
    by_cases hlt : k < n
    · obtain ⟨b, off, b2, off2, c', rfl, hb, hcell1, hb2, hcell2⟩ := rect_cell HT.out HR.out hlt hlt
      have h1 := sumTo_bd (f := fun i => at2 R i i) (n := n) (B := 1000000000000) HB.out k hk
      have h2 := HB.out k hlt
      have hkn : (k : Int) < (n : Int) := by omega
      have HE := hid (show sumTo (fun i => at2 R i i) (k + 1) = sumTo (fun i => at2 R i i) k + at2 R k k from rfl)
      obtain ⟨x, hx⟩ : ∃ x, x = at2 R k k := ⟨_, rfl⟩
      obtain ⟨y, hy⟩ : ∃ y, y = sumTo (fun i => at2 R i i) k := ⟨_, rfl⟩
      rw [← hx] at hcell2 h2
      rw [← hy] at h1
      rw [← hy]
      have hx1 := h2.1
      have hx2 := h2.2
      have hy1 := h1.1
      have hy2 : y ≤ 9000000000000 := by have := h1.2; omega
      have HX := hid hx
      have HY := hid hy
      clear hx hy h1 h2
      go_wp2
      go_round
      case rel => exact ⟨k + 1, by omega, by go_num, by rw [HE.out, ← HX.out, ← HY.out]⟩
      case measure => simp [intOf]; omega
    · obtain rfl : k = n := by omega
      go_wp2
      go_ret
      exact ⟨rfl, rfl⟩

def haveAt (M : List (List Int)) (n : Nat) : Nat → List (List Int) | 0 => unitTab n | k + 1 => stepTab (haveAt M n k) M n
def anyDiag (R : List (List Int)) (i : Nat) : Bool := (List.range i).any fun i => at2 R i i == 1
theorem anyDiag_succ (R : List (List Int)) (i : Nat) : anyDiag R (i + 1) = (anyDiag R i || at2 R i i == 1) := by simp [anyDiag, List.range_succ]
def perAt (M : List (List Int)) (n : Nat) : Nat → Nat | 0 => 0 | k + 1 => if anyDiag (haveAt M n (k + 1)) n then Nat.gcd (perAt M n k) (k + 1) else perAt M n k
/-- The period of a matrix; 0 of another table. -/
def periodOf (M : List (List Int)) : Nat := if isMat M then perAt M M.length (2 * M.length) else 0
theorem unit_bits (n : Nat) : Bits (unitTab n) n := ⟨tabF_rect n n _, fun i j hi hj => by
  rw [unitTab, tabF_at _ hi hj]; unfold unitF; split
  · exact .inr rfl
  · exact .inl rfl⟩
theorem have_bits {M : List (List Int)} {n : Nat} (hM : ∀ i j, i < n → j < n → 0 ≤ at2 M i j) : ∀ k, Bits (haveAt M n k) n
  | 0 => unit_bits n
  | k + 1 => step_bits (have_bits hM k) hM
theorem perAt_le (M : List (List Int)) (n : Nat) : ∀ k, perAt M n k ≤ k
  | 0 => Nat.le_refl _
  | k + 1 => by
    unfold perAt
    split
    · exact Nat.le_of_dvd (by omega) (Nat.gcd_dvd_right _ _)
    · have := perAt_le M n k; omega
theorem diag_sum {R : List (List Int)} {n : Nat} (h : ∀ i, i < n → at2 R i i = 0 ∨ at2 R i i = 1) : ∀ k, k ≤ n → 0 ≤ sumTo (fun i => at2 R i i) k ∧ (anyDiag R k = true ↔ 0 < sumTo (fun i => at2 R i i) k)
  | 0, _ => ⟨Int.le_refl _, by simp [anyDiag, sumTo]⟩
  | k + 1, hk => by
    obtain ⟨i1, i2⟩ := diag_sum h k (by omega)
    have h1 := h k (by omega)
    simp only [sumTo, anyDiag_succ, Bool.or_eq_true, beq_iff_eq]
    refine ⟨by omega, ?_⟩
    rw [i2]; omega

set_option maxHeartbeats 2000000 in
set_option maxRecDepth 100000 in
theorem impl_PeriodOf_c (a : Option Addr) (n c : Nat) (M : List (List Int)) (w : World) (h : TabAt w a n M) :
    Calls Tryz.prog 51 #[.slice a n c] w fun e w' => e = .returned (.int .i64 (periodOf M : Nat)) ∧ Below w.heap.size w w' := by
  have HL := hid (tab_len h).1
  have HTT := hid h
  cases hm : isMat M
  · have HX := hid (show periodOf M = 0 by unfold periodOf; rw [hm]; rfl)
    go_enter Tryz.func51, Tryz.ntmps51
    go_wp2_with fail
    refine (impl_IsMatrix_c a n c M _ h).mono ?_
    rintro e w' ⟨rfl, rfl⟩
    go_wp2
    go_ret
    exact ⟨ret_int (by rw [HX.out]; rfl), Below.refl _ _⟩
  · obtain ⟨⟨h1, h9⟩, hR, hM⟩ := isMat_facts hm HL.out
    have HX := hid (show periodOf M = perAt M n (2 * n) by unfold periodOf; rw [hm, HL.out]; rfl)
    have HM := hid (show ∀ i j, i < n → j < n → 0 ≤ at2 M i j from fun i j _ _ => (hM i j).1)
    have HR := hid hR
    clear hR hM
    go_enter Tryz.func51, Tryz.ntmps51
    go_wp2_with fail
    refine (impl_IsMatrix_c a n c M _ h).mono ?_
    rintro e w' ⟨rfl, rfl⟩
    clear h
    go_wp2_with fail
    refine (impl_unit_c n _ h1 h9).mono ?_
    rintro e w1 ⟨v, rfl, hg, hb1⟩
    obtain ⟨gv, cv, rfl, hbv, hvl⟩ := grid_form hg (tabF_rect n n _).len (by omega)
    have HG := hid hg
    clear hg hm
    go_wp2
    go_loopw [3, 4, 5] (fun p v i wr => ∃ (k g cg : Nat), k ≤ 2 * n ∧ i = .int .i64 ((k + 1 : Nat) : Int) ∧ p = .int .i64 (perAt M n k : Nat) ∧ v = .slice (some ⟨g, 0, none⟩) n cg ∧ TGrid 39 3 wr w.heap.size (.slice (some ⟨g, 0, none⟩) n cg) (haveAt M n k) ∧ Below w.heap.size w wr) (fun _ _ i _ => 2 * n + 1 - (intOf i).toNat)
    case atStart => exact ⟨0, gv, cv, by omega, rfl, rfl, rfl, HG.out, hb1⟩
    case round =>
      obtain ⟨k, g, cg, hk, rfl, rfl, rfl, hgr, hbel⟩ := hrel
      have HGR := hid hgr
      have hp := perAt_le M n k
      clear hgr
      by_cases hlt : k < 2 * n
      · have HT := hid (grid_tab HGR.out (have_bits HM.out k).rect (by omega) (by omega))
        have HT2 := hid (HTT.out.below hbel (Nat.le_refl _))
        have hle : ((k + 1 : Nat) : Int) ≤ 2 * (n : Int) := by omega
        go_wp2_with fail
        refine (impl_oneStep_c _ a n cg c (haveAt M n k) M _ HT.out HT2.out (have_bits HM.out k).rect HR.out h1 h9).mono ?_
        rintro e w2 ⟨v2, rfl, hg2, hb2⟩
        obtain ⟨g2, c2, rfl, hbg2, hg2l⟩ := grid_form hg2 (tabF_rect n n _).len (by omega)
        have HB2 := hid (have_bits HM.out (k + 1))
        have HG2 := hid (show TGrid 39 3 w2 w.heap.size (.slice (some ⟨g2, 0, none⟩) n c2) (haveAt M n (k + 1)) from hg2.base hbel.size)
        have HT3 := hid (grid_tab hg2 (tabF_rect n n _) (by omega) (by omega))
        have hbel2 := hbel.trans (hb2.mono hbel.size)
        clear hg2
        go_wp2_with fail
        refine (impl_trace_c _ n c2 (haveAt M n (k + 1)) _ HT3.out HB2.out.rect h9 (fun i hi => by have := HB2.out.bit i i hi hi; omega)).mono ?_
        rintro e w' ⟨rfl, rfl⟩
        have hd := diag_sum (R := haveAt M n (k + 1)) (n := n) (fun i hi => HB2.out.bit i i hi hi) n (Nat.le_refl _)
        have HD := hid hd.2
        have HPS := hid (show perAt M n (k + 1) = if anyDiag (haveAt M n (k + 1)) n then Nat.gcd (perAt M n k) (k + 1) else perAt M n k from rfl)
        obtain ⟨t, ht⟩ : ∃ t, t = sumTo (fun i => at2 (haveAt M n (k + 1)) i i) n := ⟨_, rfl⟩
        rw [← ht]
        rw [← ht] at HD
        clear hd ht
        by_cases ht0 : 0 < t
        · obtain ⟨p, hpp⟩ : ∃ p, p = perAt M n k := ⟨_, rfl⟩
          rw [← hpp] at hp
          rw [← hpp]
          have HP := hid hpp
          clear hpp
          go_wp2_with fail
          refine (impl_gcd_c p (k + 1) _ (by omega) (by omega)).mono ?_
          rintro e w3 ⟨rfl, hb3⟩
          go_wp2
          go_roundw
          case rel => exact ⟨k + 1, g2, c2, by omega, by go_num, by rw [HPS.out, if_pos (HD.out.2 ht0), HP.out], rfl, HG2.out.below hb3, hbel2.trans (hb3.mono hbel2.size)⟩
          case measure => simp [intOf]; omega
        · go_wp2
          go_roundw
          case rel => exact ⟨k + 1, g2, c2, by omega, by go_num, by rw [HPS.out, if_neg (fun h => by have := HD.out.1 h; omega)], rfl, HG2.out, hbel2⟩
          case measure => simp [intOf]; omega
      · obtain rfl : k = 2 * n := by omega
        have hle : ¬ (((2 * n + 1 : Nat) : Int) ≤ 2 * (n : Int)) := by omega
        go_wp2
        go_ret
        exact ⟨ret_int (by rw [HX.out]), hbel⟩

set_option maxHeartbeats 2000000 in
set_option maxRecDepth 100000 in
theorem spec_PeriodOf_c (a : Option Addr) (n c : Nat) (M : List (List Int)) (w : World) (h : TabAt w a n M) :
    Calls Tryz.prog 41 #[.slice a n c] w fun e w' => e = .returned (.int .i64 (periodOf M : Nat)) ∧ Below w.heap.size w w' := by
  have HL := hid (tab_len h).1
  have HTT := hid h
  cases hm : isMat M
  · have HX := hid (show periodOf M = 0 by unfold periodOf; rw [hm]; rfl)
    go_enter Tryz.func41, Tryz.ntmps41
    go_wp2_with fail
    refine (spec_IsMatrix_c a n c M _ h).mono ?_
    rintro e w' ⟨rfl, rfl⟩
    go_wp2
    go_ret
    exact ⟨ret_int (by rw [HX.out]; rfl), Below.refl _ _⟩
  · obtain ⟨⟨h1, h9⟩, hR, hM⟩ := isMat_facts hm HL.out
    have HX := hid (show periodOf M = perAt M n (2 * n) by unfold periodOf; rw [hm, HL.out]; rfl)
    have HM := hid (show ∀ i j, i < n → j < n → 0 ≤ at2 M i j from fun i j _ _ => (hM i j).1)
    have HR := hid hR
    clear hR hM
    go_enter Tryz.func41, Tryz.ntmps41
    go_wp2_with fail
    refine (spec_IsMatrix_c a n c M _ h).mono ?_
    rintro e w' ⟨rfl, rfl⟩
    clear h
    go_wp2_with fail
    refine (spec_l4One_c n _ h1 h9).mono ?_
    rintro e w1 ⟨v, rfl, hg, hb1⟩
    obtain ⟨gv, cv, rfl, hbv, hvl⟩ := grid_form hg (tabF_rect n n _).len (by omega)
    have HG := hid hg
    clear hg hm
    go_wp2
    go_loopw [3, 4, 5] (fun p v i wr => ∃ (k g cg : Nat), k ≤ 2 * n ∧ i = .int .i64 ((k + 1 : Nat) : Int) ∧ p = .int .i64 (perAt M n k : Nat) ∧ v = .slice (some ⟨g, 0, none⟩) n cg ∧ TGrid 39 3 wr w.heap.size (.slice (some ⟨g, 0, none⟩) n cg) (haveAt M n k) ∧ Below w.heap.size w wr) (fun _ _ i _ => 2 * n + 1 - (intOf i).toNat)
    case atStart => exact ⟨0, gv, cv, by omega, rfl, rfl, rfl, HG.out, hb1⟩
    case round =>
      obtain ⟨k, g, cg, hk, rfl, rfl, rfl, hgr, hbel⟩ := hrel
      have HGR := hid hgr
      have hp := perAt_le M n k
      clear hgr
      by_cases hlt : k < 2 * n
      · have HT := hid (grid_tab HGR.out (have_bits HM.out k).rect (by omega) (by omega))
        have HT2 := hid (HTT.out.below hbel (Nat.le_refl _))
        have hle : ((k + 1 : Nat) : Int) ≤ 2 * (n : Int) := by omega
        obtain ⟨wo, rfl⟩ : ∃ wo : World, wo = wr := ⟨_, rfl⟩
        go_wp2_with fail
        refine (spec_l6Step_c _ a n cg c (haveAt M n k) M _ HT.out HT2.out (have_bits HM.out k) HR.out h1 h9 HM.out).mono ?_
        rintro e w2 ⟨v2, rfl, hg2, hb2⟩
        obtain ⟨g2, c2, rfl, hbg2, hg2l⟩ := grid_form hg2 (tabF_rect n n _).len (by omega)
        have HB2 := hid (have_bits HM.out (k + 1))
        have HG2 := hid (show TGrid 39 3 w2 w.heap.size (.slice (some ⟨g2, 0, none⟩) n c2) (haveAt M n (k + 1)) from hg2.base hbel.size)
        have HT3 := hid (show TabAt w2 (some ⟨g2, 0, none⟩) n (haveAt M n (k + 1)) from grid_tab hg2 (tabF_rect n n _) (by omega) (by omega))
        have hbel2 := hbel.trans (hb2.mono hbel.size)
        have HPS := hid (show perAt M n (k + 1) = if anyDiag (haveAt M n (k + 1)) n then Nat.gcd (perAt M n k) (k + 1) else perAt M n k from rfl)
        obtain ⟨p, hpp⟩ : ∃ p, p = perAt M n k := ⟨_, rfl⟩
        rw [← hpp] at hp HPS
        rw [← hpp]
        clear hg2 hpp
        go_wp2
        go_loop [3, 6] (fun q i => ∃ j y : Nat, j ≤ n ∧ i = .int .i64 j ∧ q = .int .i64 y ∧ y ≤ 100 ∧ Hid (y = if anyDiag (haveAt M n (k + 1)) j then Nat.gcd p (k + 1) else p)) (fun _ i => n - (intOf i).toNat)
        case atStart => exact ⟨0, p, by omega, rfl, rfl, by omega, by show _ = _; simp [anyDiag]⟩
        case round =>
          obtain ⟨j, y, hj, rfl, rfl, hy, HY⟩ := hrel
          by_cases hltj : j < n
          · obtain ⟨b, off, b2, off2, c', he, hb, hcell1, hb2, hcell2⟩ := rect_cell HT3.out HB2.out.rect hltj hltj
            simp only [Option.some.injEq, Addr.mk.injEq, and_true] at he
            obtain ⟨rfl, rfl⟩ := he
            rw [Nat.zero_add] at hcell1
            have HAS := hid (anyDiag_succ (haveAt M n (k + 1)) j)
            obtain ⟨x, hx⟩ : ∃ x, x = at2 (haveAt M n (k + 1)) j j := ⟨_, rfl⟩
            rw [← hx] at hcell2 HAS
            have hjn : (j : Int) < (n : Int) := by omega
            clear hx
            cases hq : x == 1
            · have HQ := hid hq
              go_wp2
              go_round
              case rel => exact ⟨j + 1, y, by omega, by go_num, rfl, hy, by show _ = _; rw [HAS.out, HQ.out, Bool.or_false]; exact HY.out⟩
              case measure => simp [intOf]; omega
            · have HQ := hid hq
              have hgl : Nat.gcd y (k + 1) ≤ k + 1 := Nat.le_of_dvd (by omega) (Nat.gcd_dvd_right _ _)
              go_wp2_with fail
              refine (spec_l6Gcd_c y (k + 1) _ (by omega) (by omega)).mono ?_
              rintro e w' ⟨rfl, rfl⟩
              go_wp2
              go_round
              case rel =>
                refine ⟨j + 1, Nat.gcd y (k + 1), by omega, by go_num, rfl, by omega, ?_⟩
                show _ = _
                rw [HAS.out, HQ.out, Bool.or_true, if_pos rfl, HY.out]
                split
                · rw [Nat.gcd_assoc, Nat.gcd_self]
                · rfl
              case measure => simp [intOf]; omega
          · obtain rfl : j = n := by omega
            go_wp2
            go_roundw
            case rel => exact ⟨k + 1, g2, c2, by omega, by go_num, by rw [HPS.out, ← HY.out], rfl, HG2.out, hbel2⟩
            case measure => simp [intOf]; omega
      · obtain rfl : k = 2 * n := by omega
        have hle : ¬ (((2 * n + 1 : Nat) : Int) ≤ 2 * (n : Int)) := by omega
        go_wp2
        go_ret
        exact ⟨ret_int (by rw [HX.out]), hbel⟩

/-- Primitive matrices. -/
def isPrim (M : List (List Int)) : Bool := isIrr M && ((periodOf M : Nat) : Int) == 1
end Go.Proofs.YtpfeflhcbcgbfaaGreatDoor
