/- Labelled graphs: the program's test of validity. Conditions: the arcs lie in memory. -/
import Derived.Test.YtpfeflhcbcgbfaaDoorLabW
namespace Go.Proofs.YtpfeflhcbcgbfaaDoor
open Go.RowKit

set_option maxHeartbeats 4000000 in
set_option maxRecDepth 100000 in
theorem impl_IsLabels_w (L S : Int) (a : Option Addr) (n c : Nat) (A : List (Int × Int × Int)) (w : World) (hr : RowAt w a (n * 3) (arcVals A)) (hn : n ≤ 1048576) :
    Calls Tryd.prog 20 #[.agg #[.int .i64 L, .int .i64 S, .slice a n c]] w fun e w' => e = .returned (.bool (labsB L S A)) ∧ Below w.heap.size w w' := by
  have HBX := hid (fun (V : World) (hV : Below (w.heap.size + 1) (w.alloc (.cells #[.int .i64 L, .int .i64 S, .slice a n c] 29)) V) => lab_box hV)
  obtain ⟨W2, hW2⟩ : ∃ W2, W2 = w.alloc (.cells #[.int .i64 L, .int .i64 S, .slice a n c] 29) := ⟨_, rfl⟩
  have hB : Below w.heap.size w W2 := by rw [hW2]; exact (Below.refl _ _).alloc (Nat.le_refl _) _
  have hsz : W2.heap.size = w.heap.size + 1 := by rw [hW2]; simp
  rw [← hW2, ← hsz] at HBX
  have HAR := hid (arcs_at hr hB)
  have HB := hid hB
  have hlen : A.length = n := HAR.out.1
  by_cases hL : 1 ≤ L ∧ L ≤ 3
  · by_cases hS : 1 ≤ S ∧ S ≤ 12
    · have hlab : labsB L S A = arcsTo L S A n := by unfold labsB; rw [inB_t hL, inB_t hS, hlen]; rfl
      rw [hlab]
      have HSTOP := hid (fun (k : Nat) (hk : k < n) (h : arcStep L S A k = false) => show arcsTo L S A n = false from by
        have := arcsTo_stop h (n - (k + 1))
        rw [show k + 1 + (n - (k + 1)) = n by omega] at this
        exact this)
      have HSU := hid (fun (k : Nat) => show arcsTo L S A (k + 1) = (arcsTo L S A k && arcStep L S A k) from rfl)
      obtain ⟨Z, hZ⟩ : ∃ Z : Nat → Bool, Z = arcsTo L S A := ⟨_, rfl⟩
      rw [← hZ] at HSTOP HSU
      rw [← hZ]
      have HZ0 := hid (show Z 0 = true by rw [hZ]; rfl)
      have hzB : w.heap.size ≤ W2.heap.size := hB.size
      obtain ⟨l1, l3⟩ := hL
      obtain ⟨s1, s12⟩ := hS
      clear hr hB hZ hlab hlen
      go_enter Tryd.func20, Tryd.ntmps20
      go_wp2
      rw [← hW2]
      clear hW2
      go_loopw [22] (fun i wr => ∃ k : Nat, k ≤ n ∧ i = .int .i64 k ∧ Hid (Z k = true) ∧ Below W2.heap.size W2 wr) (fun i _ => n - (intOf i).toNat)
      case atStart => exact ⟨0, by omega, rfl, HZ0, Below.refl _ _⟩
      case round =>
        obtain ⟨k, hk, rfl, HZK, hbel⟩ := hrel
        obtain ⟨⟨p0, p1, p2⟩, hz, _⟩ := HBX.out wr hbel
        by_cases hlt : k < n
        · obtain ⟨x, hx⟩ := get_some (l := A) (n := k) (by rw [HAR.out.1]; exact hlt)
          obtain ⟨b1, off1, rfl, hb1, hc1⟩ := HAR.out.2 k x hx
          have hxa := arcAt_get hx
          obtain ⟨f', t', l'⟩ := x
          obtain ⟨g0, g1, g2⟩ := hc1 wr hbel
          have hki : (k : Int) < (n : Int) := by omega
          have hst : arcStep L S A k = (inB f' 0 (S - 1) && inB t' 0 (S - 1) && inB l' 0 (L - 1) && (k == 0 || befB (arcAt A (k - 1)) (f', t', l'))) := by
            unfold arcStep arcOkB
            rw [hxa]
          clear hx hxa hc1
          have hbA : Below w.heap.size w (wr.alloc (.cells #[.int .i64 f', .int .i64 t', .int .i64 l'] 53)) := HB.out.trans ((hbel.alloc hbel.size _).mono hzB)
          by_cases c1 : f' < 0
          · have dc1 : decide (f' < 0) = true := decide_eq_true c1
            have HR := hid (HSTOP.out k hlt (by rw [hst]; unfold inB; simp; omega))
            clear hst HSU HSTOP l1 l3 s1 s12
            try clear c1
            try clear c2
            try clear c3
            try clear c4
            try clear c5
            try clear c6
            simp only [] at g0 g1 g2
            go_wp2
            go_quiet (fail)
            go_wp2
            go_ret
            exact ⟨ret_bool HR.out.symm, below_drewN hbA _⟩
          have dc1 : decide (f' < 0) = false := decide_eq_false c1
          by_cases c2 : S ≤ f'
          · have dc2 : decide (S ≤ f') = true := decide_eq_true c2
            have HR := hid (HSTOP.out k hlt (by rw [hst]; unfold inB; simp; omega))
            clear hst HSU HSTOP l1 l3 s1 s12
            try clear c1
            try clear c2
            try clear c3
            try clear c4
            try clear c5
            try clear c6
            simp only [] at g0 g1 g2
            go_wp2
            go_quiet (fail)
            go_wp2
            go_ret
            exact ⟨ret_bool HR.out.symm, below_drewN hbA _⟩
          have dc2 : decide (S ≤ f') = false := decide_eq_false c2
          by_cases c3 : t' < 0
          · have dc3 : decide (t' < 0) = true := decide_eq_true c3
            have HR := hid (HSTOP.out k hlt (by rw [hst]; unfold inB; simp; omega))
            clear hst HSU HSTOP l1 l3 s1 s12
            try clear c1
            try clear c2
            try clear c3
            try clear c4
            try clear c5
            try clear c6
            simp only [] at g0 g1 g2
            go_wp2
            go_quiet (fail)
            go_wp2
            go_ret
            exact ⟨ret_bool HR.out.symm, below_drewN hbA _⟩
          have dc3 : decide (t' < 0) = false := decide_eq_false c3
          by_cases c4 : S ≤ t'
          · have dc4 : decide (S ≤ t') = true := decide_eq_true c4
            have HR := hid (HSTOP.out k hlt (by rw [hst]; unfold inB; simp; omega))
            clear hst HSU HSTOP l1 l3 s1 s12
            try clear c1
            try clear c2
            try clear c3
            try clear c4
            try clear c5
            try clear c6
            simp only [] at g0 g1 g2
            go_wp2
            go_quiet (fail)
            go_wp2
            go_ret
            exact ⟨ret_bool HR.out.symm, below_drewN hbA _⟩
          have dc4 : decide (S ≤ t') = false := decide_eq_false c4
          by_cases c5 : l' < 0
          · have dc5 : decide (l' < 0) = true := decide_eq_true c5
            have HR := hid (HSTOP.out k hlt (by rw [hst]; unfold inB; simp; omega))
            clear hst HSU HSTOP l1 l3 s1 s12
            try clear c1
            try clear c2
            try clear c3
            try clear c4
            try clear c5
            try clear c6
            simp only [] at g0 g1 g2
            go_wp2
            go_quiet (fail)
            go_wp2
            go_ret
            exact ⟨ret_bool HR.out.symm, below_drewN hbA _⟩
          have dc5 : decide (l' < 0) = false := decide_eq_false c5
          by_cases c6 : L ≤ l'
          · have dc6 : decide (L ≤ l') = true := decide_eq_true c6
            have HR := hid (HSTOP.out k hlt (by rw [hst]; unfold inB; simp; omega))
            clear hst HSU HSTOP l1 l3 s1 s12
            try clear c1
            try clear c2
            try clear c3
            try clear c4
            try clear c5
            try clear c6
            simp only [] at g0 g1 g2
            go_wp2
            go_quiet (fail)
            go_wp2
            go_ret
            exact ⟨ret_bool HR.out.symm, below_drewN hbA _⟩
          have dc6 : decide (L ≤ l') = false := decide_eq_false c6
          by_cases hk0 : k = 0
          · subst hk0
            have HN := hid (show Z (0 + 1) = true by rw [HSU.out, hst, HZK.out, inB_t (by omega), inB_t (by omega), inB_t (by omega)]; rfl)
            simp only [Nat.zero_mul, Nat.add_zero] at g0 g1 g2
            clear hst HSU c1 c2 c3 c4 c5 c6
            go_wp2
            go_quiet (fail)
            go_wp2
            go_roundw
            case rel => exact ⟨0 + 1, by omega, by go_num, HN, below_drewN (hbel.alloc hbel.size _) _⟩
            case measure => simp [intOf] <;> omega
          · obtain ⟨j, rfl⟩ : ∃ j, k = j + 1 := ⟨k - 1, by omega⟩
            obtain ⟨y, hy⟩ := get_some (l := A) (n := j) (by rw [HAR.out.1]; omega)
            obtain ⟨b1', off1', he, _, hd1⟩ := HAR.out.2 j y hy
            injection he with he
            injection he with he1 he2
            subst he1 he2
            rw [Nat.add_sub_cancel, arcAt_get hy] at hst
            have HBF := hid (fun V => compareArcs_c y (f', t', l') V)
            have hneg := cmpA_neg (a := y) (b := (f', t', l'))
            obtain ⟨f, t, l⟩ := y
            obtain ⟨u4, hu4⟩ : ∃ u, u = befB (f, t, l) (f', t', l') := ⟨_, rfl⟩
            obtain ⟨q, hq⟩ : ∃ q, q = cmpA (f, t, l) (f', t', l') := ⟨_, rfl⟩
            rw [← hq] at HBF hneg
            rw [← hu4] at hst hneg
            clear hy hu4 hq
            obtain ⟨WA, hWA⟩ : ∃ WA, WA = wr.alloc (.cells #[.int .i64 f', .int .i64 t', .int .i64 l'] 53) := ⟨_, rfl⟩
            have hbW : Below W2.heap.size W2 WA := by rw [hWA]; exact hbel.alloc hbel.size _
            have HY := hid (fun (V : World) (hV : Below WA.heap.size WA V) => show V.cell? ⟨wr.heap.size, 0, none⟩ = some (.int .i64 f') ∧ V.cell? ⟨wr.heap.size, 1, none⟩ = some (.int .i64 t') ∧ V.cell? ⟨wr.heap.size, 2, none⟩ = some (.int .i64 l') from by
              rw [hWA] at hV
              obtain ⟨⟨y0, _⟩, ⟨y1, _⟩, y2, _⟩ : (V.cell? ⟨wr.heap.size, 0, none⟩ = _ ∧ _) ∧ (V.cell? ⟨wr.heap.size, 1, none⟩ = _ ∧ _) ∧ (V.cell? ⟨wr.heap.size, 2, none⟩ = _ ∧ _) := ⟨box_kept (by simpa using hV) 0, box_kept (by simpa using hV) 1, box_kept (by simpa using hV) 2⟩
              exact ⟨y0, y1, y2⟩)
            have HWA := hid hWA
            have hbF : Below w.heap.size w WA := HB.out.trans (hbW.mono hzB)
            have HK := hid (fun (V : World) (hV : Below WA.heap.size WA V) =>
              show V.cell? ⟨w.heap.size, 0, none⟩ = some (.int .i64 L) ∧ V.cell? ⟨w.heap.size, 1, none⟩ = some (.int .i64 S) ∧ V.cell? ⟨w.heap.size, 2, none⟩ = some (.slice (some ⟨b1, off1, none⟩) n c) ∧ V.cell? ⟨wr.heap.size, 0, none⟩ = some (.int .i64 f') ∧ V.cell? ⟨wr.heap.size, 1, none⟩ = some (.int .i64 t') ∧ V.cell? ⟨wr.heap.size, 2, none⟩ = some (.int .i64 l') ∧ V.cell? ⟨b1, off1 + j * 3, none⟩ = some (.int .i64 f) ∧ V.cell? ⟨b1, off1 + j * 3 + 1, none⟩ = some (.int .i64 t) ∧ V.cell? ⟨b1, off1 + j * 3 + 2, none⟩ = some (.int .i64 l) ∧ Below WA.heap.size WA V from by
                have hV2 := hbW.trans (hV.mono hbW.size)
                obtain ⟨q0, q1, q2⟩ := (HBX.out V hV2).1
                obtain ⟨z0, z1, z2⟩ := hd1 V hV2
                obtain ⟨y0, y1, y2⟩ := HY.out V hV
                exact ⟨q0, q1, q2, y0, y1, y2, z0, z1, z2, hV⟩)
            have hbZ : Below WA.heap.size WA WA.drew := (Below.refl _ _).drew
            have hji : (j : Int) + 1 < (n : Int) := by omega
            have hji2 : (j : Int) < (n : Int) := by omega
            have hw3 : IntKind.i64.wrap ((j : Int) + 1 - 1) = (j : Int) := by rw [show (j : Int) + 1 - 1 = (j : Int) by omega]; exact IntWalk.i64_in _ (by omega)
            have hw4 : IntKind.i64.wrap (j : Int) = (j : Int) := IntWalk.i64_in _ (by omega)
            have hgt0 : (0 : Int) < (j : Int) + 1 := by omega
            have HBW := hid hbW
            have HBFF := hid hbF
            cases u4
            · have HR := hid (HSTOP.out (j + 1) hlt (by rw [hst]; simp))
              have hq0 : 0 ≤ q := hneg.2 rfl
              clear hst hWA hbW hbF hd1 hbA HSU hneg c1 c2 c3 c4 c5 c6
              simp only [] at g0 g1 g2
              go_wp2
              rw [← HWA.out]
              clear p0 p1 p2 g0 g1 g2
              go_region_held3 (fun V => V.cell? ⟨w.heap.size, 0, none⟩ = some (.int .i64 L) ∧ V.cell? ⟨w.heap.size, 1, none⟩ = some (.int .i64 S) ∧ V.cell? ⟨w.heap.size, 2, none⟩ = some (.slice (some ⟨b1, off1, none⟩) n c) ∧ V.cell? ⟨wr.heap.size, 0, none⟩ = some (.int .i64 f') ∧ V.cell? ⟨wr.heap.size, 1, none⟩ = some (.int .i64 t') ∧ V.cell? ⟨wr.heap.size, 2, none⟩ = some (.int .i64 l') ∧ V.cell? ⟨b1, off1 + j * 3, none⟩ = some (.int .i64 f) ∧ V.cell? ⟨b1, off1 + j * 3 + 1, none⟩ = some (.int .i64 t) ∧ V.cell? ⟨b1, off1 + j * 3 + 2, none⟩ = some (.int .i64 l) ∧ Below WA.heap.size WA V)
                (first | with_reducible exact HK.out _ hbZ)
                (first | (go_at_call 45; refine (HBF.out _).mono ?_; rintro e w3 ⟨rfl, hb3⟩; have hbZ := hbZ.trans (hb3.mono hbZ.size)))
              all_goals
                go_wp2
                go_ret
                exact ⟨ret_bool HR.out.symm, HBFF.out.trans (hbZ.mono HBFF.out.size)⟩
            · have HN := hid (show Z (j + 1 + 1) = true by rw [HSU.out, hst, HZK.out, inB_t (by omega), inB_t (by omega), inB_t (by omega)]; simp)
              have hq0 : ¬ 0 ≤ q := fun e => by have := hneg.1 e; cases this
              clear hst hWA hbW hbF hd1 hbA HSU hneg c1 c2 c3 c4 c5 c6
              simp only [] at g0 g1 g2
              go_wp2
              rw [← HWA.out]
              clear p0 p1 p2 g0 g1 g2
              go_region_held3 (fun V => V.cell? ⟨w.heap.size, 0, none⟩ = some (.int .i64 L) ∧ V.cell? ⟨w.heap.size, 1, none⟩ = some (.int .i64 S) ∧ V.cell? ⟨w.heap.size, 2, none⟩ = some (.slice (some ⟨b1, off1, none⟩) n c) ∧ V.cell? ⟨wr.heap.size, 0, none⟩ = some (.int .i64 f') ∧ V.cell? ⟨wr.heap.size, 1, none⟩ = some (.int .i64 t') ∧ V.cell? ⟨wr.heap.size, 2, none⟩ = some (.int .i64 l') ∧ V.cell? ⟨b1, off1 + j * 3, none⟩ = some (.int .i64 f) ∧ V.cell? ⟨b1, off1 + j * 3 + 1, none⟩ = some (.int .i64 t) ∧ V.cell? ⟨b1, off1 + j * 3 + 2, none⟩ = some (.int .i64 l) ∧ Below WA.heap.size WA V)
                (first | with_reducible exact HK.out _ hbZ)
                (first | (go_at_call 45; refine (HBF.out _).mono ?_; rintro e w3 ⟨rfl, hb3⟩; have hbZ := hbZ.trans (hb3.mono hbZ.size)))
              all_goals
                go_wp2
                go_roundw
                case rel => exact ⟨j + 1 + 1, by omega, by go_num, HN, HBW.out.trans (hbZ.mono HBW.out.size)⟩
                case measure => simp [intOf] <;> omega
        · obtain rfl : k = n := by omega
          have hbF := HB.out.trans (hbel.mono hzB)
          go_wp2
          go_ret
          exact ⟨ret_bool HZK.out.symm, hbF⟩
    · have hlab : labsB L S A = false := by unfold labsB; rw [inB_f (x := S) (by omega)]; simp
      rw [hlab]
      obtain ⟨l1, l3⟩ := hL
      clear hr hB hlab hlen HAR
      by_cases hs1 : S < 1
      · go_enter Tryd.func20, Tryd.ntmps20
        go_wp2
        rw [← hW2]
        go_ret
        exact ⟨rfl, HB.out⟩
      · go_enter Tryd.func20, Tryd.ntmps20
        go_wp2
        rw [← hW2]
        go_ret
        exact ⟨rfl, HB.out⟩
  · have hlab : labsB L S A = false := by unfold labsB; rw [inB_f (x := L) (by omega)]; simp
    rw [hlab]
    clear hr hB hlab hlen HAR
    by_cases hl1 : L < 1
    · go_enter Tryd.func20, Tryd.ntmps20
      go_wp2
      rw [← hW2]
      go_ret
      exact ⟨rfl, HB.out⟩
    · have hl3 : 3 < L := by omega
      go_enter Tryd.func20, Tryd.ntmps20
      go_wp2
      rw [← hW2]
      go_ret
      exact ⟨rfl, HB.out⟩
end Go.Proofs.YtpfeflhcbcgbfaaDoor
