/- Irreducible tables: both functions. Conditions: sizes within the reach. -/
import Derived.Test.YtpfeflhcbcgbfaaGreatDoorReach
namespace Go.Proofs.YtpfeflhcbcgbfaaGreatDoor
open Go.RowKit

/-- A number is not in a list. -/
def lacks (xs : List Int) (y : Int) : Bool := xs.all fun x => !(y == x)
def IdxPostI (xs : List Int) (y : Int) (w : World) (e : Ending) (w' : World) : Prop := w = w' ∧ ∃ r : Int, e = .returned (.int .i64 r) ∧ decide (0 ≤ r) = !lacks xs y
set_option maxHeartbeats 1000000 in
theorem slicesIndexI_c (a : Option Addr) (n cap : Nat) (xs : List Int) (y : Int) (w : World) (hr : RowAt w a n (intVals xs)) :
    Calls Tryz.prog 159 #[.slice a n cap, .int .i64 y] w (IdxPostI xs y w) := by
  obtain ⟨hl, hlim, hat⟩ := hr
  have hlen := hid (show xs.length = n by simpa [intVals] using hl)
  have HAT := hid hat
  clear hl hat
  go_enter Tryz.func159, Tryz.ntmps159
  go_wp2
  go_loop [5, 8] (fun _ i => ∃ k : Nat, k ≤ n ∧ i = .int .i64 k ∧ Hid (lacks (xs.take k) y = true)) (fun _ i => n - (intOf i).toNat)
  case atStart => exact ⟨0, by omega, rfl, rfl⟩
  case round =>
    obtain ⟨k, hk, rfl, H⟩ := hrel
    by_cases hlt : k < n
    · obtain ⟨b, off, rfl, hb, hc⟩ := HAT.out (by omega)
      clear HAT
      obtain ⟨x, hx⟩ := get_some (l := xs) (n := k) (by rw [hlen.out]; exact hlt)
      have hcell := hc k _ (intVals_get hx)
      have HX := hid hx
      clear hx hc
      cases hq : y == x
      · have HQ := hid hq
        go_wp2
        go_round
        case rel => exact ⟨k + 1, by omega, by go_num, all_step (p := fun x => !(y == x)) HX.out H.out (by rw [HQ.out]; rfl)⟩
        case measure => simp [intOf]; omega
      · have HQ := hid hq
        go_wp2
        go_ret
        exact ⟨rfl, _, rfl, by rw [show lacks xs y = false from all_stop (p := fun x => !(y == x)) HX.out (by rw [HQ.out]; rfl)]; simp⟩
    · go_wp2
      go_ret
      exact ⟨rfl, _, rfl, by rw [show lacks xs y = true from all_end H.out (by rw [hlen.out]; omega)]; simp⟩

set_option maxHeartbeats 1000000 in
theorem slicesContainsI_c (a : Option Addr) (n cap : Nat) (xs : List Int) (y : Int) (w : World) (hr : RowAt w a n (intVals xs)) :
    Calls Tryz.prog 127 #[.slice a n cap, .int .i64 y] w fun e w' => e = .returned (.bool (!lacks xs y)) ∧ w = w' := by
  go_enter Tryz.func127, Tryz.ntmps127
  go_wp2_with fail
  refine (slicesIndexI_c a n cap xs y _ hr).mono ?_
  rintro e w' ⟨rfl, r, rfl, hrr⟩
  have HR := hid hrr
  clear hrr
  go_wp2
  go_ret
  exact ⟨ret_bool HR.out, rfl⟩

/-- All rows lack 0. -/
def noZero (R : List (List Int)) : Bool := R.all fun r => lacks r 0
theorem reach_len {M : List (List Int)} {n : Nat} (hM : ∀ i j, i < n → j < n → 0 ≤ at2 M i j) : (reachOf M n).length = n ∧ ∀ r ∈ reachOf M n, r.length ≤ 140737488351232 → r.length = n :=
  ⟨(reachOf_bits hM).rect.len, fun r hr _ => (reachOf_bits hM).rect.row r hr⟩
set_option maxHeartbeats 1000000 in
theorem impl_isIrreducible_c (a : Option Addr) (n c : Nat) (M : List (List Int)) (w : World) (h : TabAt w a n M) (hR : Rect M n n) (h1 : 1 ≤ n) (h9 : n ≤ 9) (hM : ∀ i j, i < n → j < n → 0 ≤ at2 M i j) :
    Calls Tryz.prog 82 #[.slice a n c] w fun e w' => e = .returned (.bool (noZero (reachOf M n))) ∧ Below w.heap.size w w' := by
  have HB := hid (reachOf_bits hM)
  obtain ⟨R, hRR⟩ : ∃ R, R = reachOf M n := ⟨_, rfl⟩
  rw [← hRR] at HB
  have HRR := hid hRR
  clear hRR
  go_enter Tryz.func82, Tryz.ntmps82
  go_wp2_with fail
  refine (impl_reach_c a n c M _ h hR h1 h9 hM).mono ?_
  rintro e w1 ⟨v, rfl, hg, hb1⟩
  rw [← HRR.out] at hg
  obtain ⟨gv, cv, rfl, hbv, hvl⟩ := grid_form hg HB.out.rect.len (by omega)
  have HT := hid (grid_tab hg HB.out.rect (by omega) (by omega))
  clear hg h hR hM
  go_wp2
  go_loop [8] (fun i => ∃ k : Nat, k ≤ n ∧ i = .int .i64 k ∧ Hid ((R.take k).all (fun r => lacks r 0) = true)) (fun i => n - (intOf i).toNat)
  case atStart => exact ⟨0, by omega, rfl, rfl⟩
  case round =>
    obtain ⟨k, hk, rfl, H⟩ := hrel
    by_cases hlt : k < n
    · obtain ⟨b, off, a', c', r, he, hb, hcell, hrow, hr, hat⟩ := rect_row HT.out HB.out.rect hlt
      simp only [Option.some.injEq, Addr.mk.injEq, and_true] at he
      obtain ⟨rfl, rfl⟩ := he
      rw [Nat.zero_add] at hcell
      have HR := hid hr
      have HROW := hid hrow
      clear hr hrow hat
      go_wp2_with fail
      refine (slicesContainsI_c a' n c' r 0 _ HROW.out).mono ?_
      rintro e w' ⟨rfl, rfl⟩
      cases hz : lacks r 0
      · go_wp2
        go_ret
        exact ⟨ret_bool (by rw [← HRR.out, show noZero R = false from all_stop (p := fun r => lacks r 0) HR.out hz]), hb1⟩
      · go_wp2
        go_round
        case rel => exact ⟨k + 1, by omega, by go_num, all_step (p := fun r => lacks r 0) HR.out H.out hz⟩
        case measure => simp [intOf]; omega
    · go_wp2
      go_ret
      exact ⟨ret_bool (by rw [← HRR.out, show noZero R = true from all_end H.out (by rw [HB.out.rect.len]; omega)]), hb1⟩
/-- Irreducible tables. -/
def isIrr (M : List (List Int)) : Bool := isMat M && noZero (reachOf M M.length)
set_option maxHeartbeats 1000000 in
theorem spec_ReachOf_c (a : Option Addr) (n c : Nat) (M : List (List Int)) (w : World) (h : TabAt w a n M) :
    Calls Tryz.prog 90 #[.slice a n c] w (GridPost (if isMat M then reachOf M n else []) w) := by
  have HL := hid (tab_len h).1
  cases hm : isMat M
  · go_enter Tryz.func90, Tryz.ntmps90
    go_wp2_with fail
    refine (spec_IsMatrix_c a n c M _ h).mono ?_
    rintro e w' ⟨rfl, rfl⟩
    go_wp2
    go_ret
    exact ⟨_, rfl, ⟨[], owns_lit3 #[] _ rfl (Nat.le_refl _) (by unfold maxLen; simp), TRows.nil _ _ _⟩, (Below.refl _ _).alloc (Nat.le_refl _) _⟩
  · obtain ⟨⟨h1, h9⟩, hR, hM⟩ := isMat_facts hm HL.out
    go_enter Tryz.func90, Tryz.ntmps90
    go_wp2_with fail
    refine (spec_IsMatrix_c a n c M _ h).mono ?_
    rintro e w' ⟨rfl, rfl⟩
    go_wp2_with fail
    refine (spec_l6Reach_c a n c M _ h hR h1 h9 (fun i j _ _ => (hM i j).1)).mono ?_
    rintro e w1 ⟨v, rfl, hg, hb⟩
    go_wp2
    go_ret
    exact ⟨_, rfl, hg, hb⟩
set_option maxHeartbeats 1000000 in
theorem spec_IsIrreducible_c (a : Option Addr) (n c : Nat) (M : List (List Int)) (w : World) (h : TabAt w a n M) :
    Calls Tryz.prog 68 #[.slice a n c] w fun e w' => e = .returned (.bool (isIrr M)) ∧ Below w.heap.size w w' := by
  have HL := hid (tab_len h).1
  have HTT := hid h
  cases hm : isMat M
  · have HX := hid (show isIrr M = false by unfold isIrr; rw [hm]; rfl)
    go_enter Tryz.func68, Tryz.ntmps68
    go_wp2_with fail
    refine (spec_ReachOf_c a n c M _ h).mono ?_
    rintro e w1 ⟨v, rfl, hg, hb⟩
    rw [hm] at hg
    obtain ⟨a1, c1, rfl, _⟩ := grid_tabAt hg (by simp) (by simp)
    simp only [Bool.false_eq_true, if_false, List.length_nil]
    have ht1 := h.below hb (Nat.le_refl _)
    clear hg
    go_wp2
    refine wp_loop_rounds 1 ?_
    rw [rounds_succ]
    go_wp2_with fail
    refine (spec_IsMatrix_c a n c M _ ht1).mono ?_
    rintro e w' ⟨rfl, rfl⟩
    go_wp2
    go_ret
    exact ⟨ret_bool (by rw [HX.out]), hb⟩
  · obtain ⟨⟨h1, h9⟩, hR, hM⟩ := isMat_facts hm HL.out
    have HX := hid (show isIrr M = noZero (reachOf M n) by unfold isIrr; rw [hm, HL.out]; rfl)
    have HB := hid (reachOf_bits (M := M) (n := n) (fun i j _ _ => (hM i j).1))
    obtain ⟨R, hRR⟩ : ∃ R, R = reachOf M n := ⟨_, rfl⟩
    rw [← hRR] at HB HX
    have HRR := hid hRR
    clear hRR hR hM
    go_enter Tryz.func68, Tryz.ntmps68
    go_wp2_with fail
    refine (spec_ReachOf_c a n c M _ h).mono ?_
    rintro e w1 ⟨v, rfl, hg, hb1⟩
    rw [hm, if_pos rfl, ← HRR.out] at hg
    obtain ⟨gv, cv, rfl, hbv, hvl⟩ := grid_form hg HB.out.rect.len (by omega)
    have HT := hid (grid_tab hg HB.out.rect (by omega) (by omega))
    have HT1 := hid (h.below hb1 (Nat.le_refl _))
    have HMM := hid hm
    clear hg h hm HTT
    go_wp2
    go_loop [4] (fun i => ∃ k : Nat, k ≤ n ∧ i = .int .i64 k ∧ Hid ((R.take k).all (fun r => lacks r 0) = true)) (fun i => n - (intOf i).toNat)
    case atStart => exact ⟨0, by omega, rfl, rfl⟩
    case round =>
      obtain ⟨k, hk, rfl, H⟩ := hrel
      by_cases hlt : k < n
      · obtain ⟨b, off, a', c', r, he, hb, hcell, hrow, hr, hat⟩ := rect_row HT.out HB.out.rect hlt
        simp only [Option.some.injEq, Addr.mk.injEq, and_true] at he
        obtain ⟨rfl, rfl⟩ := he
        rw [Nat.zero_add] at hcell
        have HR := hid hr
        have HROW := hid hrow
        have HRL := hid (show r.length = n by simpa [intVals] using hrow.len)
        clear hr hrow hat
        go_wp2
        go_loop [5] (fun i => ∃ j : Nat, j ≤ n ∧ i = .int .i64 j ∧ Hid (lacks (r.take j) 0 = true)) (fun i => n - (intOf i).toNat)
        case atStart => exact ⟨0, by omega, rfl, rfl⟩
        case round =>
          obtain ⟨j, hj, rfl, HJ⟩ := hrel
          by_cases hltj : j < n
          · obtain ⟨b2, off2, rfl, hb2, hc2⟩ := HROW.out.at_ (by omega)
            obtain ⟨x, hx⟩ := get_some (l := r) (n := j) (by rw [HRL.out]; exact hltj)
            have hcell2 := hc2 j _ (intVals_get hx)
            have HXX := hid hx
            clear hx hc2
            have hkn : (j : Int) < (n : Int) := by omega
            cases hq : x == 0
            · have HQ := hid hq
              go_wp2
              go_round
              case rel => exact ⟨j + 1, by omega, by go_num, all_step (p := fun x => !((0 : Int) == x)) HXX.out HJ.out (by have := HQ.out; simp at this ⊢; omega)⟩
              case measure => simp [intOf]; omega
            · have HQ := hid hq
              go_wp2
              go_ret
              exact ⟨ret_bool (by rw [HX.out, show noZero R = false from all_stop (p := fun r => lacks r 0) HR.out (all_stop (p := fun x => !((0 : Int) == x)) HXX.out (by have := HQ.out; simp at this ⊢; omega))]), hb1⟩
          · obtain rfl : j = n := by omega
            go_wp2
            go_round
            case rel => exact ⟨k + 1, by omega, by go_num, all_step (p := fun r => lacks r 0) HR.out H.out (all_end HJ.out (by rw [HRL.out]; exact Nat.le_refl _))⟩
            case measure => simp [intOf]; omega
      · go_wp2_with fail
        refine (spec_IsMatrix_c a n c M _ HT1.out).mono ?_
        rintro e w' ⟨rfl, rfl⟩
        go_wp2
        go_ret
        exact ⟨ret_bool (by rw [HX.out, HMM.out, show noZero R = true from all_end H.out (by rw [HB.out.rect.len]; omega)]), hb1⟩
end Go.Proofs.YtpfeflhcbcgbfaaGreatDoor
