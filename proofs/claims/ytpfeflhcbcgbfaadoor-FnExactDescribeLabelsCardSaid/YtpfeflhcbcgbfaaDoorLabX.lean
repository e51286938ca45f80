/- Labelled graphs: the reference's test of validity. Conditions: the arcs lie in memory. -/
import Derived.Test.YtpfeflhcbcgbfaaDoorLabW
namespace Go.Proofs.YtpfeflhcbcgbfaaDoor
open Go.RowKit

set_option maxHeartbeats 4000000 in
set_option maxRecDepth 100000 in
theorem spec_IsLabels_w (L S L1 S1 : Int) (a : Option Addr) (n c : Nat) (A : List (Int × Int × Int)) (w : World) (hr : RowAt w a (n * 3) (arcVals A)) (hL1 : IntKind.i64.wrap (L - 1) = L1) (hS1 : IntKind.i64.wrap (S - 1) = S1) (hn : n ≤ 1048576) :
    Calls Tryd.prog 10 #[.agg #[.int .i64 L, .int .i64 S, .slice a n c]] w fun e w' => e = .returned (.bool (arcsTo (L1 + 1) (S1 + 1) A n && inB L 1 3 && inB S 1 12)) ∧ Below w.heap.size w w' := by
  have HBX := hid (fun (V : World) (hV : Below (w.heap.size + 1) (w.alloc (.cells #[.int .i64 L, .int .i64 S, .slice a n c] 29)) V) => lab_box hV)
  obtain ⟨W2, hW2⟩ : ∃ W2, W2 = w.alloc (.cells #[.int .i64 L, .int .i64 S, .slice a n c] 29) := ⟨_, rfl⟩
  have hB : Below w.heap.size w W2 := by rw [hW2]; exact (Below.refl _ _).alloc (Nat.le_refl _) _
  have hsz : W2.heap.size = w.heap.size + 1 := by rw [hW2]; simp
  rw [← hW2, ← hsz] at HBX
  have HAR := hid (arcs_at hr hB)
  have HB := hid hB
  have HK1 := hid (fun w => l1In_c L 1 3 w)
  have HK2 := hid (fun w => l1In_c S 1 12 w)
  have HSTOP := hid (fun (k : Nat) (hk : k < n) (h : arcStep (L1 + 1) (S1 + 1) A k = false) => show (arcsTo (L1 + 1) (S1 + 1) A n && inB L 1 3 && inB S 1 12) = false from by
    have := arcsTo_stop h (n - (k + 1))
    rw [show k + 1 + (n - (k + 1)) = n by omega] at this
    rw [this]; rfl)
  have HSU := hid (fun (k : Nat) => show arcsTo (L1 + 1) (S1 + 1) A (k + 1) = (arcsTo (L1 + 1) (S1 + 1) A k && arcStep (L1 + 1) (S1 + 1) A k) from rfl)
  obtain ⟨Z, hZ⟩ : ∃ Z : Nat → Bool, Z = arcsTo (L1 + 1) (S1 + 1) A := ⟨_, rfl⟩
  rw [← hZ] at HSTOP HSU
  rw [← hZ]
  have HZ0 := hid (show Z 0 = true by rw [hZ]; rfl)
  have hzB : w.heap.size ≤ W2.heap.size := hB.size
  obtain ⟨U1, hU1⟩ : ∃ u, u = inB L 1 3 := ⟨_, rfl⟩
  obtain ⟨U2, hU2⟩ : ∃ u, u = inB S 1 12 := ⟨_, rfl⟩
  rw [← hU1] at HK1 HSTOP
  rw [← hU2] at HK2 HSTOP
  rw [← hU1, ← hU2]
  clear hr hB hZ hU1 hU2
  go_enter Tryd.func10, Tryd.ntmps10
  go_wp2
  rw [← hW2]
  clear hW2
  go_loopw [3] (fun i wr => ∃ k : Nat, k ≤ n ∧ i = .int .i64 k ∧ Hid (Z k = true) ∧ Below W2.heap.size W2 wr) (fun i _ => n - (intOf i).toNat)
  case atStart => exact ⟨0, by omega, rfl, HZ0, Below.refl _ _⟩
  case round =>
    obtain ⟨k, hk, rfl, HZK, hbel⟩ := hrel
    obtain ⟨⟨p0, p1, p2⟩, hz, _⟩ := HBX.out wr hbel
    by_cases hlt : k < n
    · obtain ⟨x, hx⟩ := get_some (l := A) (n := k) (by rw [HAR.out.1]; exact hlt)
      obtain ⟨b1, off1, rfl, hb1, hc1⟩ := HAR.out.2 k x hx
      have hxa := arcAt_get hx
      obtain ⟨f', t', l'⟩ := x
      obtain ⟨g0, g1, g2⟩ := hc1 wr hbel
      have hki : (k : Int) < (n : Int) := by omega
      have HI1 := hid (fun w => l1In_c f' 0 S1 w)
      have HI2 := hid (fun w => l1In_c t' 0 S1 w)
      have HI3 := hid (fun w => l1In_c l' 0 L1 w)
      have hst : arcStep (L1 + 1) (S1 + 1) A k = (inB f' 0 S1 && inB t' 0 S1 && inB l' 0 L1 && (k == 0 || befB (arcAt A (k - 1)) (f', t', l'))) := by
        unfold arcStep arcOkB
        rw [hxa, inB_wrap, inB_wrap, inB_wrap]
      obtain ⟨u1, hu1⟩ : ∃ u, u = inB f' 0 S1 := ⟨_, rfl⟩
      obtain ⟨u2, hu2⟩ : ∃ u, u = inB t' 0 S1 := ⟨_, rfl⟩
      obtain ⟨u3, hu3⟩ : ∃ u, u = inB l' 0 L1 := ⟨_, rfl⟩
      rw [← hu1] at HI1 hst
      rw [← hu2] at HI2 hst
      rw [← hu3] at HI3 hst
      clear hu1 hu2 hu3 hx hxa hc1
      have hbA : Below w.heap.size w (wr.alloc (.cells #[.int .i64 f', .int .i64 t', .int .i64 l'] 53)) := HB.out.trans ((hbel.alloc hbel.size _).mono hzB)
      cases u1
      · have HR := hid (HSTOP.out k hlt (by rw [hst]; rfl))
        clear hst
        simp only [] at g0 g1 g2
        go_wp2
        go_quiet ((first | (go_at_call_of 32 f'; exact Calls.quiet_of_same ((HI1.out _).mono (fun e w' h => ⟨h.1, h.2.symm⟩))) | (go_at_call_of 32 t'; exact Calls.quiet_of_same ((HI2.out _).mono (fun e w' h => ⟨h.1, h.2.symm⟩))) | (go_at_call_of 32 l'; exact Calls.quiet_of_same ((HI3.out _).mono (fun e w' h => ⟨h.1, h.2.symm⟩)))))
        go_wp2
        go_ret
        exact ⟨ret_bool HR.out.symm, below_drewN hbA _⟩
      cases u2
      · have HR := hid (HSTOP.out k hlt (by rw [hst]; rfl))
        clear hst
        simp only [] at g0 g1 g2
        go_wp2
        go_quiet ((first | (go_at_call_of 32 f'; exact Calls.quiet_of_same ((HI1.out _).mono (fun e w' h => ⟨h.1, h.2.symm⟩))) | (go_at_call_of 32 t'; exact Calls.quiet_of_same ((HI2.out _).mono (fun e w' h => ⟨h.1, h.2.symm⟩))) | (go_at_call_of 32 l'; exact Calls.quiet_of_same ((HI3.out _).mono (fun e w' h => ⟨h.1, h.2.symm⟩)))))
        go_wp2
        go_ret
        exact ⟨ret_bool HR.out.symm, below_drewN hbA _⟩
      cases u3
      · have HR := hid (HSTOP.out k hlt (by rw [hst]; rfl))
        clear hst
        simp only [] at g0 g1 g2
        go_wp2
        go_quiet ((first | (go_at_call_of 32 f'; exact Calls.quiet_of_same ((HI1.out _).mono (fun e w' h => ⟨h.1, h.2.symm⟩))) | (go_at_call_of 32 t'; exact Calls.quiet_of_same ((HI2.out _).mono (fun e w' h => ⟨h.1, h.2.symm⟩))) | (go_at_call_of 32 l'; exact Calls.quiet_of_same ((HI3.out _).mono (fun e w' h => ⟨h.1, h.2.symm⟩)))))
        go_wp2
        go_ret
        exact ⟨ret_bool HR.out.symm, below_drewN hbA _⟩
      by_cases hk0 : k = 0
      · subst hk0
        have HN := hid (show Z (0 + 1) = true by rw [HSU.out, hst, HZK.out]; rfl)
        simp only [Nat.zero_mul, Nat.add_zero] at g0 g1 g2
        clear hst
        go_wp2
        go_quiet ((first | (go_at_call_of 32 f'; exact Calls.quiet_of_same ((HI1.out _).mono (fun e w' h => ⟨h.1, h.2.symm⟩))) | (go_at_call_of 32 t'; exact Calls.quiet_of_same ((HI2.out _).mono (fun e w' h => ⟨h.1, h.2.symm⟩))) | (go_at_call_of 32 l'; exact Calls.quiet_of_same ((HI3.out _).mono (fun e w' h => ⟨h.1, h.2.symm⟩)))))
        go_wp2
        go_roundw
        case rel => exact ⟨0 + 1, by omega, by go_num, HN, below_drewN (hbel.alloc hbel.size _) _⟩
        case measure => simp [intOf] <;> omega
      · obtain ⟨j, rfl⟩ : ∃ j, k = j + 1 := ⟨k - 1, by omega⟩
        obtain ⟨y, hy⟩ := get_some (l := A) (n := j) (by rw [HAR.out.1]; omega)
        obtain ⟨b1', off1', he, _, hd1⟩ := HAR.out.2 j y hy
        injection he with he
        injection he with he1 he2
        subst he1 he2
        rw [Nat.add_sub_cancel, arcAt_get hy] at hst
        have HBF := hid (fun V => l14Before_c y (f', t', l') V)
        obtain ⟨f, t, l⟩ := y
        obtain ⟨u4, hu4⟩ : ∃ u, u = befB (f, t, l) (f', t', l') := ⟨_, rfl⟩
        rw [← hu4] at HBF hst
        clear hy hu4
        obtain ⟨WA, hWA⟩ : ∃ WA, WA = wr.alloc (.cells #[.int .i64 f', .int .i64 t', .int .i64 l'] 53) := ⟨_, rfl⟩
        have hbW : Below W2.heap.size W2 WA := by rw [hWA]; exact hbel.alloc hbel.size _
        have HY := hid (fun (V : World) (hV : Below WA.heap.size WA V) => show V.cell? ⟨wr.heap.size, 0, none⟩ = some (.int .i64 f') ∧ V.cell? ⟨wr.heap.size, 1, none⟩ = some (.int .i64 t') ∧ V.cell? ⟨wr.heap.size, 2, none⟩ = some (.int .i64 l') from by
          rw [hWA] at hV
          obtain ⟨⟨y0, _⟩, ⟨y1, _⟩, y2, _⟩ : (V.cell? ⟨wr.heap.size, 0, none⟩ = _ ∧ _) ∧ (V.cell? ⟨wr.heap.size, 1, none⟩ = _ ∧ _) ∧ (V.cell? ⟨wr.heap.size, 2, none⟩ = _ ∧ _) := ⟨box_kept (by simpa using hV) 0, box_kept (by simpa using hV) 1, box_kept (by simpa using hV) 2⟩
          exact ⟨y0, y1, y2⟩)
        have HWA := hid hWA
        have hbF : Below w.heap.size w WA := HB.out.trans (hbW.mono hzB)
        have HK := hid (fun (V : World) (hV : Below WA.heap.size WA V) =>
          show V.cell? ⟨w.heap.size, 0, none⟩ = some (.int .i64 L) ∧ V.cell? ⟨w.heap.size, 1, none⟩ = some (.int .i64 S) ∧ V.cell? ⟨w.heap.size, 2, none⟩ = some (.slice (some ⟨b1, off1, none⟩) n c) ∧ V.cell? ⟨wr.heap.size, 0, none⟩ = some (.int .i64 f') ∧ V.cell? ⟨wr.heap.size, 1, none⟩ = some (.int .i64 t') ∧ V.cell? ⟨wr.heap.size, 2, none⟩ = some (.int .i64 l') ∧ V.cell? ⟨b1, off1 + j * 3, none⟩ = some (.int .i64 f) ∧ V.cell? ⟨b1, off1 + j * 3 + 1, none⟩ = some (.int .i64 t) ∧ V.cell? ⟨b1, off1 + j * 3 + 2, none⟩ = some (.int .i64 l) ∧ Below WA.heap.size WA V from by
            have hV2 := hbW.trans (hV.mono hbW.size)
            obtain ⟨q0, q1, q2⟩ := (HBX.out V hV2).1
            obtain ⟨z0, z1, z2⟩ := hd1 V hV2
            obtain ⟨y0, y1, y2⟩ := HY.out V hV
            exact ⟨q0, q1, q2, y0, y1, y2, z0, z1, z2, hV⟩)
        have hbZ : Below WA.heap.size WA WA.drew := (Below.refl _ _).drew
        have hji : (j : Int) + 1 < (n : Int) := by omega
        have hji2 : (j : Int) < (n : Int) := by omega
        have hw3 : IntKind.i64.wrap ((j : Int) + 1 - 1) = (j : Int) := by rw [show (j : Int) + 1 - 1 = (j : Int) by omega]; exact IntWalk.i64_in _ (by omega)
        have hw4 : IntKind.i64.wrap (j : Int) = (j : Int) := IntWalk.i64_in _ (by omega)
        have hgt0 : (0 : Int) < (j : Int) + 1 := by omega
        have HBW := hid hbW
        have HBFF := hid hbF
        cases u4
        · have HR := hid (HSTOP.out (j + 1) hlt (by rw [hst]; rfl))
          clear hst hWA hbW hbF hd1 hbA
          simp only [] at g0 g1 g2
          go_wp2
          rw [← HWA.out]
          clear p0 p1 p2 g0 g1 g2
          go_region_held3 (fun V => V.cell? ⟨w.heap.size, 0, none⟩ = some (.int .i64 L) ∧ V.cell? ⟨w.heap.size, 1, none⟩ = some (.int .i64 S) ∧ V.cell? ⟨w.heap.size, 2, none⟩ = some (.slice (some ⟨b1, off1, none⟩) n c) ∧ V.cell? ⟨wr.heap.size, 0, none⟩ = some (.int .i64 f') ∧ V.cell? ⟨wr.heap.size, 1, none⟩ = some (.int .i64 t') ∧ V.cell? ⟨wr.heap.size, 2, none⟩ = some (.int .i64 l') ∧ V.cell? ⟨b1, off1 + j * 3, none⟩ = some (.int .i64 f) ∧ V.cell? ⟨b1, off1 + j * 3 + 1, none⟩ = some (.int .i64 t) ∧ V.cell? ⟨b1, off1 + j * 3 + 2, none⟩ = some (.int .i64 l) ∧ Below WA.heap.size WA V)
            (first | with_reducible exact HK.out _ hbZ)
            (first | (go_at_call_of 32 f'; refine (HI1.out _).mono ?_; rintro e w3 ⟨rfl, rfl⟩) | (go_at_call_of 32 t'; refine (HI2.out _).mono ?_; rintro e w3 ⟨rfl, rfl⟩) | (go_at_call_of 32 l'; refine (HI3.out _).mono ?_; rintro e w3 ⟨rfl, rfl⟩) | (go_at_call 33; refine (HBF.out _).mono ?_; rintro e w3 ⟨rfl, hb3⟩; have hbZ := hbZ.trans (hb3.mono hbZ.size)))
          all_goals
            go_wp2
            go_ret
            exact ⟨ret_bool HR.out.symm, HBFF.out.trans (hbZ.mono HBFF.out.size)⟩
        · have HN := hid (show Z (j + 1 + 1) = true by rw [HSU.out, hst, HZK.out]; simp)
          clear hst hWA hbW hbF hd1 hbA
          simp only [] at g0 g1 g2
          go_wp2
          rw [← HWA.out]
          clear p0 p1 p2 g0 g1 g2
          go_region_held3 (fun V => V.cell? ⟨w.heap.size, 0, none⟩ = some (.int .i64 L) ∧ V.cell? ⟨w.heap.size, 1, none⟩ = some (.int .i64 S) ∧ V.cell? ⟨w.heap.size, 2, none⟩ = some (.slice (some ⟨b1, off1, none⟩) n c) ∧ V.cell? ⟨wr.heap.size, 0, none⟩ = some (.int .i64 f') ∧ V.cell? ⟨wr.heap.size, 1, none⟩ = some (.int .i64 t') ∧ V.cell? ⟨wr.heap.size, 2, none⟩ = some (.int .i64 l') ∧ V.cell? ⟨b1, off1 + j * 3, none⟩ = some (.int .i64 f) ∧ V.cell? ⟨b1, off1 + j * 3 + 1, none⟩ = some (.int .i64 t) ∧ V.cell? ⟨b1, off1 + j * 3 + 2, none⟩ = some (.int .i64 l) ∧ Below WA.heap.size WA V)
            (first | with_reducible exact HK.out _ hbZ)
            (first | (go_at_call_of 32 f'; refine (HI1.out _).mono ?_; rintro e w3 ⟨rfl, rfl⟩) | (go_at_call_of 32 t'; refine (HI2.out _).mono ?_; rintro e w3 ⟨rfl, rfl⟩) | (go_at_call_of 32 l'; refine (HI3.out _).mono ?_; rintro e w3 ⟨rfl, rfl⟩) | (go_at_call 33; refine (HBF.out _).mono ?_; rintro e w3 ⟨rfl, hb3⟩; have hbZ := hbZ.trans (hb3.mono hbZ.size)))
          all_goals
            go_wp2
            go_roundw
            case rel => exact ⟨j + 1 + 1, by omega, by go_num, HN, HBW.out.trans (hbZ.mono HBW.out.size)⟩
            case measure => simp [intOf] <;> omega
    · obtain rfl : k = n := by omega
      have hbF := HB.out.trans (hbel.mono hzB)
      cases U1
      · go_wp2_with (first | (go_at_call_of 32 L; refine (HK1.out _).mono ?_; rintro e w' ⟨rfl, rfl⟩))
        go_ret
        exact ⟨ret_bool (by rw [HZK.out]; rfl), hbF⟩
      · go_wp2_with (first | (go_at_call_of 32 L; refine (HK1.out _).mono ?_; rintro e w' ⟨rfl, rfl⟩) | (go_at_call_of 32 S; refine (HK2.out _).mono ?_; rintro e w' ⟨rfl, rfl⟩))
        go_ret
        exact ⟨ret_bool (by rw [HZK.out]; cases U2 <;> rfl), hbF⟩
end Go.Proofs.YtpfeflhcbcgbfaaDoor
