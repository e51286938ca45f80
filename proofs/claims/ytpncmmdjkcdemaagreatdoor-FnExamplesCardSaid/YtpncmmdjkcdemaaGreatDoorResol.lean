/- Graphs with labels that are resolving: the reference says so. Conditions: the graph is one and resolving, its arcs lie in memory. -/
import Derived.Test.YtpncmmdjkcdemaaGreatDoorExFn
namespace Go.Proofs.YtpncmmdjkcdemaaGreatDoor
open Go.RowKit

def labB (L S : Int) (n : Nat) (xs : List Int) : Bool :=
  decide (1 ≤ L ∧ L ≤ 3) && decide (1 ≤ S ∧ S ≤ 12) && ((List.range n).all fun k => decide (0 ≤ xs.getD (k * 3) 0 ∧ xs.getD (k * 3) 0 ≤ S - 1) && decide (0 ≤ xs.getD (k * 3 + 1) 0 ∧ xs.getD (k * 3 + 1) 0 ≤ S - 1) && decide (0 ≤ xs.getD (k * 3 + 2) 0 ∧ xs.getD (k * 3 + 2) 0 ≤ L - 1)) && (List.range (n - 1)).all fun k => decide (xs.getD (k * 3) 0 < xs.getD ((k + 1) * 3) 0 ∨ (xs.getD (k * 3) 0 = xs.getD ((k + 1) * 3) 0 ∧ xs.getD (k * 3 + 2) 0 < xs.getD ((k + 1) * 3 + 2) 0))
structure LabOk (L S : Int) (n : Nat) (xs : List Int) : Prop where
  hL : 1 ≤ L ∧ L ≤ 3
  hS : 1 ≤ S ∧ S ≤ 12
  arc : ∀ (k : Nat) (f t l : Int), k < n → xs[k * 3]? = some f → xs[k * 3 + 1]? = some t → xs[k * 3 + 2]? = some l → (0 ≤ f ∧ f ≤ S - 1) ∧ (0 ≤ t ∧ t ≤ S - 1) ∧ 0 ≤ l ∧ l ≤ L - 1
  nxt : ∀ (k : Nat) (f l f' l' : Int), k + 1 < n → xs[k * 3]? = some f → xs[k * 3 + 2]? = some l → xs[(k + 1) * 3]? = some f' → xs[(k + 1) * 3 + 2]? = some l' → f < f' ∨ (f = f' ∧ l < l')
theorem labOk_of {L S : Int} {n : Nat} {xs : List Int} (h : labB L S n xs = true) : LabOk L S n xs := by
  unfold labB at h
  simp only [Bool.and_eq_true, decide_eq_true_eq, List.all_eq_true, List.mem_range] at h
  obtain ⟨⟨⟨h1, h2⟩, h3⟩, h4⟩ := h
  refine ⟨h1, h2, fun k f t l hk hf ht hl => ?_, fun k f l f' l' hk hf hl hf' hl' => ?_⟩
  · have := h3 k hk
    rw [List.getD_eq_getElem?_getD, hf, List.getD_eq_getElem?_getD, ht, List.getD_eq_getElem?_getD, hl] at this
    exact ⟨this.1.1, this.1.2, this.2⟩
  · have := h4 k (by omega)
    rw [List.getD_eq_getElem?_getD, hf, List.getD_eq_getElem?_getD, hf', List.getD_eq_getElem?_getD, hl, List.getD_eq_getElem?_getD, hl'] at this
    exact this
set_option maxHeartbeats 1000000 in
theorem l14Before_yes (f t l f' t' l' : Int) (w : World) (h : f < f' ∨ (f = f' ∧ l < l')) :
    Calls Tryz.prog 49 #[.agg #[.int .i64 f, .int .i64 t, .int .i64 l], .agg #[.int .i64 f', .int .i64 t', .int .i64 l']] w fun e w' => e = .returned (.bool true) ∧ Below w.heap.size w w' := by
  have hB : Below w.heap.size w ((w.alloc (.cells #[.int .i64 f, .int .i64 t, .int .i64 l] 54)).alloc (.cells #[.int .i64 f', .int .i64 t', .int .i64 l'] 54)) := ((Below.refl _ _).alloc (Nat.le_refl _) _).alloc (by simp) _
  rcases h with h | ⟨rfl, h⟩
  · have h1 : ¬ f = f' := by omega
    have h2 : (f != f') = true := by simpa using h1
    go_enter Tryz.func49, Tryz.ntmps49
    go_wp2
    go_ret
    exact ⟨ret_bool (by simp [h]), hB⟩
  · have h1 : ¬ l = l' := by omega
    have h2 : (l != l') = true := by simpa using h1
    go_enter Tryz.func49, Tryz.ntmps49
    go_wp2
    go_ret
    exact ⟨ret_bool (by simp [h]), hB⟩
set_option maxHeartbeats 4000000 in
set_option maxRecDepth 100000 in
theorem l15Resolving_yes (L S : Int) (a : Option Addr) (n c : Nat) (xs : List Int) (w : World) (hn : n ≤ 1000) (hr : RowAt w a (n * 3) (intVals xs)) (h : LabOk L S n xs) :
    Calls Tryz.prog 37 #[.agg #[.int .i64 L, .int .i64 S, .slice a n c]] w fun e w' => e = .returned (.bool true) ∧ Below w.heap.size w w' := by
  obtain ⟨W2, hW2⟩ : ∃ W2, W2 = w.alloc (.cells #[.int .i64 L, .int .i64 S, .slice a n c] 35) := ⟨_, rfl⟩
  have hB : Below w.heap.size w W2 := by rw [hW2]; exact (Below.refl _ _).alloc (Nat.le_refl _) _
  obtain ⟨hl, hlim, hat⟩ := hr.below hB (Nat.le_refl _)
  have hlen := hid (show xs.length = n * 3 by simpa [intVals] using hl)
  have HA := hid hat
  have HB := hid hB
  have HX2 := hid (show W2.cell? ⟨w.heap.size, 2, none⟩ = some (.slice a n c) by rw [hW2]; exact World.cell?_alloc_at _ _ _ _ rfl)
  have HOK := hid h
  clear hr hl hlim hat hB h
  go_enter Tryz.func37, Tryz.ntmps37
  go_wp2
  rw [← hW2]
  clear hW2
  go_loopw [3] (fun i wr => ∃ k : Nat, 1 ≤ k ∧ k ≤ n + 1 ∧ i = .int .i64 k ∧ ∃ m, wr = W2.drewN m) (fun i _ => n - (intOf i).toNat)
  case atStart => exact ⟨1, by omega, by omega, rfl, 0, rfl⟩
  case round =>
    obtain ⟨k, hk1, hk, rfl, m, hm⟩ := hrel
    have p2 := (show wr.cell? ⟨w.heap.size, 2, none⟩ = W2.cell? ⟨w.heap.size, 2, none⟩ by rw [hm]; rfl).trans HX2.out
    by_cases hlt : k < n
    · obtain ⟨j, rfl⟩ : ∃ j, k = j + 1 := ⟨k - 1, by omega⟩
      obtain ⟨b1, off1, rfl, hb1, hc1⟩ := HA.out (by omega)
      obtain ⟨f, t, l, h1, hf, ht, hll⟩ := row3 hc1 hlen.out (show j < n by omega)
      obtain ⟨f', t', l', h2, hf', ht', hl'⟩ := row3 hc1 hlen.out hlt
      have hnx := HOK.out.nxt j f l f' l' hlt hf hll hf' hl'
      have hbm : Below W2.heap.size W2 wr := by rw [hm]; exact below_drewN (Below.refl _ _) m
      obtain ⟨e0, e1, e2⟩ := h1.below hbm hb1
      obtain ⟨g0, g1, g2⟩ := h2.below hbm hb1
      have hji : (j : Int) + 1 < (n : Int) := by omega
      have hji2 : (j : Int) < (n : Int) := by omega
      have HM := hid hm
      clear hc1 h1 h2 hf hf' ht ht' hll hl' hm hbm
      rcases hnx with hlt2 | ⟨rfl, hlt2⟩
      · have hne : (f' == f) = false := by rw [beq_eq_false_iff_ne]; omega
        go_wp2
        go_quiet (fail)
        go_wp2
        go_roundw
        case rel => exact ⟨j + 1 + 1, by omega, by omega, by go_num, m + nq, by rw [HM.out, World.drewN_drewN]⟩
        case measure => simp [intOf] <;> omega
      · have hne : (l' == l) = false := by rw [beq_eq_false_iff_ne]; omega
        go_wp2
        go_quiet (fail)
        go_wp2
        go_roundw
        case rel => exact ⟨j + 1 + 1, by omega, by omega, by go_num, m + nq, by rw [HM.out, World.drewN_drewN]⟩
        case measure => simp [intOf] <;> omega
    · have HM := hid hm
      have hki : ¬ ((k : Int) < (n : Int)) := by omega
      clear hm
      go_wp2
      go_ret
      exact ⟨rfl, by rw [HM.out]; exact below_drewN HB.out m⟩
set_option maxHeartbeats 4000000 in
set_option maxRecDepth 100000 in
theorem IsLabels_yes (L S : Int) (a : Option Addr) (n c : Nat) (xs : List Int) (w : World) (hn : n ≤ 1000) (hr : RowAt w a (n * 3) (intVals xs)) (h : LabOk L S n xs) :
    Calls Tryz.prog 36 #[.agg #[.int .i64 L, .int .i64 S, .slice a n c]] w fun e w' => e = .returned (.bool true) ∧ Below w.heap.size w w' := by
  obtain ⟨W2, hW2⟩ : ∃ W2, W2 = w.alloc (.cells #[.int .i64 L, .int .i64 S, .slice a n c] 35) := ⟨_, rfl⟩
  have hB : Below w.heap.size w W2 := by rw [hW2]; exact (Below.refl _ _).alloc (Nat.le_refl _) _
  obtain ⟨hl, hlim, hat⟩ := hr.below hB (Nat.le_refl _)
  have hlen := hid (show xs.length = n * 3 by simpa [intVals] using hl)
  have HA := hid hat
  have HB := hid hB
  have HX := hid (show W2.cell? ⟨w.heap.size, 0, none⟩ = some (.int .i64 L) ∧ W2.cell? ⟨w.heap.size, 1, none⟩ = some (.int .i64 S) ∧ W2.cell? ⟨w.heap.size, 2, none⟩ = some (.slice a n c) by rw [hW2]; exact ⟨World.cell?_alloc_at _ _ _ _ rfl, World.cell?_alloc_at _ _ _ _ rfl, World.cell?_alloc_at _ _ _ _ rfl⟩)
  have hz : w.heap.size < W2.heap.size := by rw [hW2]; simp
  have HOK := hid h
  have hL := h.hL
  have hS := h.hS
  have HK1 := hid (fun w => l1In_c L 1 3 w)
  rw [inB_t hL] at HK1
  have HK2 := hid (fun w => l1In_c S 1 12 w)
  rw [inB_t hS] at HK2
  clear hr hl hlim hat hB h
  go_enter Tryz.func36, Tryz.ntmps36
  go_wp2
  rw [← hW2]
  clear hW2
  go_loopw [3] (fun i wr => ∃ k : Nat, k ≤ n ∧ i = .int .i64 k ∧ Below W2.heap.size W2 wr) (fun i _ => n - (intOf i).toNat)
  case atStart => exact ⟨0, by omega, rfl, Below.refl _ _⟩
  case round =>
    obtain ⟨k, hk, rfl, hbel⟩ := hrel
    have p0 := (hbel.cell (p := ⟨w.heap.size, 0, none⟩) hz).trans HX.out.1
    have p1 := (hbel.cell (p := ⟨w.heap.size, 1, none⟩) hz).trans HX.out.2.1
    have p2 := (hbel.cell (p := ⟨w.heap.size, 2, none⟩) hz).trans HX.out.2.2
    have hzr : w.heap.size < wr.heap.size := Nat.lt_of_lt_of_le hz hbel.size
    by_cases hlt : k < n
    · obtain ⟨b1, off1, rfl, hb1, hc1⟩ := HA.out (by omega)
      obtain ⟨f', t', l', h2, hf', ht', hl'⟩ := row3 hc1 hlen.out hlt
      obtain ⟨i1, i2, i3⟩ := HOK.out.arc k f' t' l' hlt hf' ht' hl'
      obtain ⟨g0, g1, g2⟩ := h2.below hbel hb1
      have HI1 := hid (fun w => l1In_c f' 0 (S - 1) w)
      rw [inB_t i1] at HI1
      have HI2 := hid (fun w => l1In_c t' 0 (S - 1) w)
      rw [inB_t i2] at HI2
      have HI3 := hid (fun w => l1In_c l' 0 (L - 1) w)
      rw [inB_t i3] at HI3
      have hb1r : b1 < wr.heap.size := Nat.lt_of_lt_of_le hb1 hbel.size
      have hki : (k : Int) < (n : Int) := by omega
      by_cases hk0 : k = 0
      · subst hk0
        simp only [Nat.zero_mul, Nat.add_zero] at g0 g1 g2
        clear hc1 h2 hf' ht' hl' i1 i2 i3
        go_wp2
        go_quiet ((first | (go_at_call_of 34 f'; exact Calls.quiet_of_same ((HI1.out _).mono (fun e w' h => ⟨h.1, h.2.symm⟩))) | (go_at_call_of 34 t'; exact Calls.quiet_of_same ((HI2.out _).mono (fun e w' h => ⟨h.1, h.2.symm⟩))) | (go_at_call_of 34 l'; exact Calls.quiet_of_same ((HI3.out _).mono (fun e w' h => ⟨h.1, h.2.symm⟩)))))
        go_wp2
        go_roundw
        case rel => exact ⟨0 + 1, by omega, by go_num, below_drewN (hbel.alloc hbel.size _) _⟩
        case measure => simp [intOf] <;> omega
      · obtain ⟨j, rfl⟩ : ∃ j, k = j + 1 := ⟨k - 1, by omega⟩
        obtain ⟨f, t, l, h1, hf, ht, hll⟩ := row3 hc1 hlen.out (show j < n by omega)
        have hnx := HOK.out.nxt j f l f' l' hlt hf hll hf' hl'
        have HBF := hid (fun V => l14Before_yes f t l f' t' l' V hnx)
        obtain ⟨WA, hWA⟩ : ∃ WA, WA = wr.alloc (.cells #[.int .i64 f', .int .i64 t', .int .i64 l'] 54) := ⟨_, rfl⟩
        have hbA : Below wr.heap.size wr WA := by rw [hWA]; exact (Below.refl _ _).alloc (Nat.le_refl _) _
        have H1 := hid ((h1.below hbel hb1).below hbA hb1r)
        have HP := hid (show WA.cell? ⟨w.heap.size, 0, none⟩ = some (.int .i64 L) ∧ WA.cell? ⟨w.heap.size, 1, none⟩ = some (.int .i64 S) ∧ WA.cell? ⟨w.heap.size, 2, none⟩ = some (.slice (some ⟨b1, off1, none⟩) n c) from
          ⟨(hbA.cell (p := ⟨w.heap.size, 0, none⟩) hzr).trans p0, (hbA.cell (p := ⟨w.heap.size, 1, none⟩) hzr).trans p1, (hbA.cell (p := ⟨w.heap.size, 2, none⟩) hzr).trans p2⟩)
        have HY := hid (show WA.cell? ⟨wr.heap.size, 0, none⟩ = some (.int .i64 f') ∧ WA.cell? ⟨wr.heap.size, 1, none⟩ = some (.int .i64 t') ∧ WA.cell? ⟨wr.heap.size, 2, none⟩ = some (.int .i64 l') by rw [hWA]; exact ⟨World.cell?_alloc_at _ _ _ _ rfl, World.cell?_alloc_at _ _ _ _ rfl, World.cell?_alloc_at _ _ _ _ rfl⟩)
        have hwA : wr.heap.size < WA.heap.size := by rw [hWA]; simp
        have HWA := hid hWA
        have hbA1 : b1 < WA.heap.size := by omega
        have hzA : w.heap.size < WA.heap.size := by omega
        have HBW := hid (hbel.trans (hbA.mono hbel.size))
        have HK := hid (fun (V : World) (hV : Below WA.heap.size WA V) =>
          show V.cell? ⟨w.heap.size, 0, none⟩ = some (.int .i64 L) ∧ V.cell? ⟨w.heap.size, 1, none⟩ = some (.int .i64 S) ∧ V.cell? ⟨w.heap.size, 2, none⟩ = some (.slice (some ⟨b1, off1, none⟩) n c) ∧ V.cell? ⟨wr.heap.size, 0, none⟩ = some (.int .i64 f') ∧ V.cell? ⟨wr.heap.size, 1, none⟩ = some (.int .i64 t') ∧ V.cell? ⟨wr.heap.size, 2, none⟩ = some (.int .i64 l') ∧ V.cell? ⟨b1, off1 + j * 3, none⟩ = some (.int .i64 f) ∧ V.cell? ⟨b1, off1 + j * 3 + 1, none⟩ = some (.int .i64 t) ∧ V.cell? ⟨b1, off1 + j * 3 + 2, none⟩ = some (.int .i64 l) ∧ Below W2.heap.size W2 V from by
            obtain ⟨z0, z1, z2⟩ := H1.out.below hV hbA1
            exact ⟨(hV.cell (p := ⟨w.heap.size, 0, none⟩) hzA).trans HP.out.1, (hV.cell (p := ⟨w.heap.size, 1, none⟩) hzA).trans HP.out.2.1, (hV.cell (p := ⟨w.heap.size, 2, none⟩) hzA).trans HP.out.2.2, (hV.cell (p := ⟨wr.heap.size, 0, none⟩) hwA).trans HY.out.1, (hV.cell (p := ⟨wr.heap.size, 1, none⟩) hwA).trans HY.out.2.1, (hV.cell (p := ⟨wr.heap.size, 2, none⟩) hwA).trans HY.out.2.2, z0, z1, z2, HBW.out.trans (hV.mono HBW.out.size)⟩)
        have hbZ : Below WA.heap.size WA WA.drew := (Below.refl _ _).drew
        have hji : (j : Int) + 1 < (n : Int) := by omega
        have hji2 : (j : Int) < (n : Int) := by omega
        have hw1 : IntKind.i64.wrap (S - 1) = S - 1 := IntWalk.i64_in _ (by omega)
        have hw2 : IntKind.i64.wrap (L - 1) = L - 1 := IntWalk.i64_in _ (by omega)
        have hw3 : IntKind.i64.wrap ((j : Int) + 1 - 1) = (j : Int) := by rw [show (j : Int) + 1 - 1 = (j : Int) by omega]; exact IntWalk.i64_in _ (by omega)
        have hw4 : IntKind.i64.wrap (j : Int) = (j : Int) := IntWalk.i64_in _ (by omega)
        have hgt0 : (0 : Int) < (j : Int) + 1 := by omega
        clear hc1 h1 h2 hf hf' ht ht' hll hl' i1 i2 i3 hnx hbA hWA
        go_wp2
        rw [← HWA.out]
        clear p0 p1 p2 g0 g1 g2
        go_region_held3 (fun V => V.cell? ⟨w.heap.size, 0, none⟩ = some (.int .i64 L) ∧ V.cell? ⟨w.heap.size, 1, none⟩ = some (.int .i64 S) ∧ V.cell? ⟨w.heap.size, 2, none⟩ = some (.slice (some ⟨b1, off1, none⟩) n c) ∧ V.cell? ⟨wr.heap.size, 0, none⟩ = some (.int .i64 f') ∧ V.cell? ⟨wr.heap.size, 1, none⟩ = some (.int .i64 t') ∧ V.cell? ⟨wr.heap.size, 2, none⟩ = some (.int .i64 l') ∧ V.cell? ⟨b1, off1 + j * 3, none⟩ = some (.int .i64 f) ∧ V.cell? ⟨b1, off1 + j * 3 + 1, none⟩ = some (.int .i64 t) ∧ V.cell? ⟨b1, off1 + j * 3 + 2, none⟩ = some (.int .i64 l) ∧ Below W2.heap.size W2 V)
          (first | with_reducible exact HK.out _ hbZ)
          (first | (go_at_call_of 34 f'; refine (HI1.out _).mono ?_; rintro e w3 ⟨rfl, rfl⟩) | (go_at_call_of 34 t'; refine (HI2.out _).mono ?_; rintro e w3 ⟨rfl, rfl⟩) | (go_at_call_of 34 l'; refine (HI3.out _).mono ?_; rintro e w3 ⟨rfl, rfl⟩) | (go_at_call 49; refine (HBF.out _).mono ?_; rintro e w3 ⟨rfl, hb3⟩; have hbZ := hbZ.trans (hb3.mono hbZ.size)))
        all_goals
          have hS := (HK.out _ hbZ).2.2.2.2.2.2.2.2.2
          go_wp2
          go_roundw
          case rel => exact ⟨j + 1 + 1, by omega, by go_num, hS⟩
          case measure => simp [intOf] <;> omega
    · go_wp2_with (first | (go_at_call_of 34 L; refine (HK1.out _).mono ?_; rintro e w' ⟨rfl, rfl⟩) | (go_at_call_of 34 S; refine (HK2.out _).mono ?_; rintro e w' ⟨rfl, rfl⟩))
      go_ret
      exact ⟨rfl, HB.out.trans (hbel.mono HB.out.size)⟩
end Go.Proofs.YtpncmmdjkcdemaaGreatDoor
