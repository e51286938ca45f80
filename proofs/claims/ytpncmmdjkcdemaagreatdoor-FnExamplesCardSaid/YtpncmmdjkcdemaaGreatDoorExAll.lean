/- What the reference says of the examples. Conditions: they lie in memory. -/
import Derived.Test.YtpncmmdjkcdemaaGreatDoorResol
import Derived.Test.YtpncmmdjkcdemaaGreatDoorExSub
import Derived.Test.YtpncmmdjkcdemaaGreatDoorExM
import Derived.Test.YtpncmmdjkcdemaaGreatDoorMat
namespace Go.Proofs.YtpncmmdjkcdemaaGreatDoor
open Go.RowKit

theorem exM_mat (n : Int) : isMat ((exM n).getD []) = decide (1 ≤ n ∧ n ≤ 8) ∧ (exM n).isSome = decide (1 ≤ n ∧ n ≤ 8) := by
  by_cases h : 1 ≤ n ∧ n ≤ 8
  · rw [decide_eq_true h]
    have : n = 1 ∨ n = 2 ∨ n = 3 ∨ n = 4 ∨ n = 5 ∨ n = 6 ∨ n = 7 ∨ n = 8 := by omega
    rcases this with rfl | rfl | rfl | rfl | rfl | rfl | rfl | rfl <;> decide +kernel
  · rw [decide_eq_false h, exM_none (by omega)]
    decide +kernel
theorem exM_len (n : Int) : ((exM n).getD []).length ≤ 9 := by
  unfold exM
  repeat' split
  all_goals simp
theorem exSub_is (n : Int) : isSubst (exSub n) = decide (1 ≤ n ∧ n ≤ 4) := by
  by_cases h : 1 ≤ n ∧ n ≤ 4
  · rw [decide_eq_true h]
    have : n = 1 ∨ n = 2 ∨ n = 3 ∨ n = 4 := by omega
    rcases this with rfl | rfl | rfl | rfl <;> decide +kernel
  · have he : exSub n = [] := by
      unfold exSub
      rw [if_neg (by omega), if_neg (by omega), if_neg (by omega), if_neg (by omega)]
    rw [decide_eq_false h, he]
    decide +kernel
theorem exSub_sz (n : Int) : (exSub n).length ≤ 3 ∧ ∀ s ∈ exSub n, s.size ≤ 3 := by
  unfold exSub
  repeat' split
  all_goals decide
theorem exS_is (n : Int) : (exS n).isSome = decide (1 ≤ n ∧ n ≤ 6) ∧ (decide (1 ≤ n ∧ n ≤ 6) = true → okShB (((exS n).map (·.1)).getD 0) (((exS n).map (·.2)).getD []) = true) ∧ (decide (1 ≤ n ∧ n ≤ 6) = false → ((exS n).map (·.1)).getD 0 = 0 ∧ ((exS n).map (·.2)).getD [] = []) ∧ (((exS n).map (·.2)).getD []).length ≤ 8 := by
  by_cases h : 1 ≤ n ∧ n ≤ 6
  · rw [decide_eq_true h]
    have : n = 1 ∨ n = 2 ∨ n = 3 ∨ n = 4 ∨ n = 5 ∨ n = 6 := by omega
    rcases this with rfl | rfl | rfl | rfl | rfl | rfl <;> exact ⟨rfl, fun _ => by decide +kernel, (fun h => absurd h (by decide)), by decide⟩
  · rw [decide_eq_false h, exS_none (by omega)]
    exact ⟨rfl, (fun h => absurd h (by decide)), fun _ => ⟨rfl, rfl⟩, by decide⟩
theorem IsShift_ex (n : Int) (a : Option Addr) (c : Nat) (w : World) (hr : RowAt w a (((exS n).map (·.2)).getD []).length (strVals (((exS n).map (·.2)).getD []))) :
    Calls Tryz.prog 22 #[.agg #[.int .i64 ((((exS n).map (·.1)).getD 0 : Nat) : Int), .slice a (((exS n).map (·.2)).getD []).length c]] w fun e w' => e = .returned (.bool (decide (1 ≤ n ∧ n ≤ 6))) ∧ Below w.heap.size w w' := by
  obtain ⟨_, h1, h2, _⟩ := exS_is n
  cases hd : decide (1 ≤ n ∧ n ≤ 6) with
  | true => exact spec_IsShift_ok _ a _ c _ w hr (h1 hd)
  | false =>
    obtain ⟨h3, h4⟩ := h2 hd
    rw [h3, h4]
    exact IsShift_zero a c w
set_option maxHeartbeats 1000000 in
theorem IsResolving_yes (L S : Int) (a : Option Addr) (n c : Nat) (xs : List Int) (w : World) (hn : n ≤ 1000) (hr : RowAt w a (n * 3) (intVals xs)) (h : LabOk L S n xs) :
    Calls Tryz.prog 23 #[.agg #[.int .i64 L, .int .i64 S, .slice a n c]] w fun e w' => e = .returned (.bool true) ∧ Below w.heap.size w w' := by
  obtain ⟨W2, hW2⟩ : ∃ W2, W2 = w.alloc (.cells #[.int .i64 L, .int .i64 S, .slice a n c] 35) := ⟨_, rfl⟩
  have hB : Below w.heap.size w W2 := by rw [hW2]; exact (Below.refl _ _).alloc (Nat.le_refl _) _
  have hz : w.heap.size < W2.heap.size := by rw [hW2]; simp
  have HX := hid (show W2.cell? ⟨w.heap.size, 0, none⟩ = some (.int .i64 L) ∧ W2.cell? ⟨w.heap.size, 1, none⟩ = some (.int .i64 S) ∧ W2.cell? ⟨w.heap.size, 2, none⟩ = some (.slice a n c) by rw [hW2]; exact ⟨World.cell?_alloc_at _ _ _ _ rfl, World.cell?_alloc_at _ _ _ _ rfl, World.cell?_alloc_at _ _ _ _ rfl⟩)
  have H1 := hid (IsLabels_yes L S a n c xs W2 hn (hr.below hB (Nat.le_refl _)) h)
  have H2 := hid (fun (V : World) (hV : Below W2.heap.size W2 V) => l15Resolving_yes L S a n c xs V hn ((hr.below hB (Nat.le_refl _)).below hV (Nat.le_refl _)) h)
  have HB := hid hB
  have HC := hid (fun (V : World) (hV : Below W2.heap.size W2 V) => show V.cell? ⟨w.heap.size, 0, none⟩ = some (.int .i64 L) ∧ V.cell? ⟨w.heap.size, 1, none⟩ = some (.int .i64 S) ∧ V.cell? ⟨w.heap.size, 2, none⟩ = some (.slice a n c) from ⟨(hV.cell (p := ⟨w.heap.size, 0, none⟩) hz).trans HX.out.1, (hV.cell (p := ⟨w.heap.size, 1, none⟩) hz).trans HX.out.2.1, (hV.cell (p := ⟨w.heap.size, 2, none⟩) hz).trans HX.out.2.2⟩)
  clear hr h hB hz HX
  subst hW2
  go_enter Tryz.func23, Tryz.ntmps23
  go_wp2_with fail
  refine H1.out.mono ?_
  rintro e w3 ⟨rfl, hb3⟩
  obtain ⟨q0, q1, q2⟩ := HC.out _ hb3
  have HB2 := hid hb3
  clear hb3
  go_wp2_with fail
  refine (H2.out _ HB2.out).mono ?_
  rintro e w4 ⟨rfl, hb4⟩
  have hS := HB.out.trans ((HB2.out.trans (hb4.mono HB2.out.size)).mono HB.out.size)
  clear hb4
  go_wp2
  go_ret
  exact ⟨rfl, hS⟩
theorem IsLabels_zero (a : Option Addr) (c : Nat) (w : World) : Calls Tryz.prog 36 #[.agg #[.int .i64 0, .int .i64 0, .slice a 0 c]] w fun e w' => e = .returned (.bool false) ∧ Below w.heap.size w w' := by
  have HK := hid (fun w => l1In_c 0 1 3 w)
  have HK2 := hid (fun w => l1In_c 0 1 12 w)
  rw [show inB 0 1 3 = false from by decide] at HK
  rw [show inB 0 1 12 = false from by decide] at HK2
  go_enter Tryz.func36, Tryz.ntmps36
  go_wp2
  refine wp_loop_rounds 1 ?_
  rw [rounds_succ]
  go_wp2_with (first | (go_at_call 34; refine (HK.out _).mono ?_; rintro e w' ⟨rfl, rfl⟩))
  go_ret
  exact ⟨rfl, (Below.refl _ _).alloc (Nat.le_refl _) _⟩
theorem IsResolving_zero (a : Option Addr) (c : Nat) (w : World) : Calls Tryz.prog 23 #[.agg #[.int .i64 0, .int .i64 0, .slice a 0 c]] w fun e w' => e = .returned (.bool false) ∧ Below w.heap.size w w' := by
  have H1 := hid (fun V => IsLabels_zero a c V)
  have hB := (Below.refl w.heap.size w).alloc (Nat.le_refl _) (.cells #[.int .i64 0, .int .i64 0, .slice a 0 c] 35)
  go_enter Tryz.func23, Tryz.ntmps23
  go_wp2_with (first | (go_at_call 36; refine (H1.out _).mono ?_; rintro e w3 ⟨rfl, hb3⟩))
  go_ret
  exact ⟨rfl, hB.trans (hb3.mono hB.size)⟩
theorem labels_is (t : Int) : ∃ a b n xs, n ≤ 1000 ∧ (∀ w, Calls Tryz.prog 13 #[.int .i64 t] w (LabPost a b (decide (1 ≤ t ∧ t ≤ 3)) n xs w)) ∧ (∀ w, Calls Tryz.prog 12 #[.int .i64 t] w (LabPost a b (decide (1 ≤ t ∧ t ≤ 3)) n xs w)) ∧
    ∀ (g : Option Addr) (c : Nat) (w : World), RowAt w g (n * 3) (intVals xs) → Calls Tryz.prog 23 #[.agg #[.int .i64 a, .int .i64 b, .slice g n c]] w fun e w' => e = .returned (.bool (decide (1 ≤ t ∧ t ≤ 3))) ∧ Below w.heap.size w w' := by
  by_cases h1 : t = 1
  · subst h1; exact ⟨_, _, _, _, by omega, spec_Labels1, impl_Labels1, fun g c w hr => IsResolving_yes _ _ g _ c _ w (by omega) hr (labOk_of (by decide +kernel))⟩
  by_cases h2 : t = 2
  · subst h2; exact ⟨_, _, _, _, by decide, spec_Labels2, impl_Labels2, fun g c w hr => IsResolving_yes _ _ g _ c _ w (by decide) hr (labOk_of (by decide +kernel))⟩
  by_cases h3 : t = 3
  · subst h3; exact ⟨_, _, _, _, by decide, spec_Labels3, impl_Labels3, fun g c w hr => IsResolving_yes _ _ g _ c _ w (by decide) hr (labOk_of (by decide +kernel))⟩
  rw [show decide (1 ≤ t ∧ t ≤ 3) = false from decide_eq_false (by omega)]
  exact ⟨_, _, _, _, by omega, fun w => spec_Labels0 t w h1 h2 h3, fun w => impl_Labels0 t w h1 h2 h3, fun g c w _ => IsResolving_zero g c w⟩
end Go.Proofs.YtpncmmdjkcdemaaGreatDoor
