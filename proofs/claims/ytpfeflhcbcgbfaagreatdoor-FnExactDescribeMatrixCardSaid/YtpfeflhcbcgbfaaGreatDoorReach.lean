/- Which vertices reach which: both functions, and irreducible tables. Conditions: a matrix. -/
import Derived.Test.YtpfeflhcbcgbfaaGreatDoorSmal
import Derived.Test.YtpfeflhcbcgbfaaGreatDoorSmall
import Derived.StillTailTactics
namespace Go.Proofs.YtpfeflhcbcgbfaaGreatDoor
open Go.RowKit

def btCell (M : List (List Int)) (i j : Nat) (s : List (List Int)) : List (List Int) := put2 s i j (min (at2 M i j) 1)
def btRow (M : List (List Int)) (n i : Nat) (s : List (List Int)) : List (List Int) := iter (btCell M i) n s
def bitTab (M : List (List Int)) (n : Nat) : List (List Int) := iter (btRow M n) n (zeroTab n n)
def wrCell (k i j : Nat) (s : List (List Int)) : List (List Int) := put2 s i j (max (at2 s i j) (min (at2 s i k) (at2 s k j)))
def wrRow (n k i : Nat) (s : List (List Int)) : List (List Int) := iter (wrCell k i) n s
def wrTab (n k : Nat) (s : List (List Int)) : List (List Int) := iter (wrRow n k) n s
/-- Which vertices reach which. -/
def reachOf (M : List (List Int)) (n : Nat) : List (List Int) := iter (wrTab n) n (bitTab M n)

/-- A table of ones and zeros. -/
structure Bits (s : List (List Int)) (n : Nat) : Prop where
  rect : Rect s n n
  bit : ∀ i j, i < n → j < n → at2 s i j = 0 ∨ at2 s i j = 1
theorem Bits.put {s : List (List Int)} {n i j : Nat} {u : Int} (h : Bits s n) (hi : i < n) (hj : j < n) (hu : u = 0 ∨ u = 1) : Bits (put2 s i j u) n := by
  refine ⟨h.rect.put2 _ _ _, fun p q hp hq => ?_⟩
  by_cases e : i = p ∧ j = q
  · obtain ⟨rfl, rfl⟩ := e
    rw [put2_same h.rect hi hj]; exact hu
  · rw [put2_other u (by omega)]; exact h.bit p q hp hq
theorem zero_bits (n : Nat) : Bits (zeroTab n n) n := ⟨zero_rect n n, fun i j _ _ => .inl (zero_at n n i j)⟩
theorem btCell_bits {M s : List (List Int)} {n i : Nat} (hM : ∀ i j, i < n → j < n → 0 ≤ at2 M i j) (hi : i < n) (h : Bits s n) (j : Nat) (hj : j ≤ n) : Bits (iter (btCell M i) j s) n :=
  iter_inv (P := fun s => Bits s n) n (fun k a hk ha => ha.put hi hk (by have := hM i k hi hk; omega)) j hj s h
theorem btRow_bits {M s : List (List Int)} {n : Nat} (hM : ∀ i j, i < n → j < n → 0 ≤ at2 M i j) (h : Bits s n) (i : Nat) (hi : i ≤ n) : Bits (iter (btRow M n) i s) n :=
  iter_inv (P := fun s => Bits s n) n (fun k a hk ha => btCell_bits hM hk ha n (Nat.le_refl _)) i hi s h
theorem bit_wr {x y z : Int} (hx : x = 0 ∨ x = 1) (hy : y = 0 ∨ y = 1) (hz : z = 0 ∨ z = 1) : max x (min y z) = 0 ∨ max x (min y z) = 1 := by omega
theorem bit_ops {x y z : Int} (hx : x = 0 ∨ x = 1) (hy : y = 0 ∨ y = 1) (hz : z = 0 ∨ z = 1) : bits BinOp.or IntKind.i64 x (bits BinOp.and IntKind.i64 y z) = max x (min y z) := by
  rcases hx with rfl | rfl <;> rcases hy with rfl | rfl <;> rcases hz with rfl | rfl <;> decide
theorem wrCell_bits {s : List (List Int)} {n k i : Nat} (hk : k < n) (hi : i < n) (h : Bits s n) (j : Nat) (hj : j ≤ n) : Bits (iter (wrCell k i) j s) n :=
  iter_inv (P := fun s => Bits s n) n (fun q a hq ha => ha.put hi hq (bit_wr (ha.bit i q hi hq) (ha.bit i k hi hk) (ha.bit k q hk hq))) j hj s h
theorem wrRow_bits {s : List (List Int)} {n k : Nat} (hk : k < n) (h : Bits s n) (i : Nat) (hi : i ≤ n) : Bits (iter (wrRow n k) i s) n :=
  iter_inv (P := fun s => Bits s n) n (fun q a hq ha => wrCell_bits hk hq ha n (Nat.le_refl _)) i hi s h
theorem wrTab_bits {s : List (List Int)} {n : Nat} (h : Bits s n) (k : Nat) (hk : k ≤ n) : Bits (iter (wrTab n) k s) n :=
  iter_inv (P := fun s => Bits s n) n (fun q a hq ha => wrRow_bits hq ha n (Nat.le_refl _)) k hk s h
theorem bitTab_bits {M : List (List Int)} {n : Nat} (hM : ∀ i j, i < n → j < n → 0 ≤ at2 M i j) : Bits (bitTab M n) n := btRow_bits hM (zero_bits n) n (Nat.le_refl _)
theorem reachOf_bits {M : List (List Int)} {n : Nat} (hM : ∀ i j, i < n → j < n → 0 ≤ at2 M i j) : Bits (reachOf M n) n := wrTab_bits (bitTab_bits hM) n (Nat.le_refl _)

theorem l1Bit_pos (x : Int) (h : 0 ≤ x) (w : World) : Calls Tryz.prog 130 #[.bool (decide (0 < x))] w fun e w' => e = .returned (.int .i64 (min x 1)) ∧ w' = w :=
  (l1Bit_c _ _).mono fun e w' ⟨he, hw⟩ => ⟨by rw [he]; exact ret_int (by by_cases h0 : 0 < x <;> simp [h0] <;> omega), hw.symm⟩
set_option maxHeartbeats 4000000 in
set_option maxRecDepth 100000 in
theorem impl_reach_c (a : Option Addr) (n c : Nat) (M : List (List Int)) (w : World) (h : TabAt w a n M) (hR : Rect M n n) (h1 : 1 ≤ n) (h9 : n ≤ 9) (hM : ∀ i j, i < n → j < n → 0 ≤ at2 M i j) :
    Calls Tryz.prog 103 #[.slice a n c] w (GridPost (reachOf M n) w) := by
  have HT := hid h
  have HR := hid hR
  have HM := hid hM
  clear h hR hM
  go_enter Tryz.func103, Tryz.ntmps103
  go_wp2_with (first | (go_at_call 117; refine (impl_zeros_c n _ (by omega)).mono ?_; rintro e w1 ⟨v, rfl, hgrid, hbel0⟩))
  obtain ⟨gv, cv, rfl, hbv, hvl⟩ := grid_form hgrid (zeroTab_len n n) (by omega)
  have HG := hid hgrid
  clear hgrid
  go_loopw [16] (fun i wr => ∃ ii : Nat, ii ≤ n ∧ i = .int .i64 ii ∧ TGrid 39 3 wr w.heap.size (.slice (some ⟨gv, 0, none⟩) n cv) (iter (btRow M n) ii (zeroTab n n)) ∧ Below w.heap.size w wr) (fun i _ => n - (intOf i).toNat)
  case atStart => exact ⟨0, by omega, rfl, HG.out, hbel0⟩
  case round =>
    obtain ⟨ii, hi, rfl, hgr, hbel⟩ := hrel
    have HGR := hid hgr
    clear hgr
    by_cases hlt : ii < n
    · obtain ⟨b, off, a', c', r, rfl, hb, hcell, hrow, hr, hat⟩ := rect_row HT.out HR.out hlt
      have hcell1 := (hbel.cell (p := ⟨b, off + ii, none⟩) hb).trans hcell
      have HB2 := hid (btRow_bits HM.out (zero_bits n) ii hi)
      have HROW := hid hrow
      have HAT := hid hat
      have HRL := hid (show r.length = n by simpa [intVals] using hrow.len)
      clear hcell hrow hr hat
      go_wp2
      go_loopw [23] (fun j wr => ∃ jj : Nat, jj ≤ n ∧ j = .int .i64 jj ∧ TGrid 39 3 wr w.heap.size (.slice (some ⟨gv, 0, none⟩) n cv) (iter (btCell M ii) jj (iter (btRow M n) ii (zeroTab n n))) ∧ Below w.heap.size w wr) (fun j _ => n - (intOf j).toNat)
      case atStart => exact ⟨0, by omega, rfl, HGR.out, hbel⟩
      case round =>
        obtain ⟨jj, hj, rfl, hgr, hbel⟩ := hrel
        by_cases hltj : jj < n
        · obtain ⟨b2, off2, rfl, hb2, hc2⟩ := HROW.out.at_ (by omega)
          have hx0 : w.cell? ⟨b2, off2 + jj, none⟩ = some (.int .i64 (at2 M ii jj)) := hc2 jj _ (intVals_get (by rw [HAT.out]; exact at0_some (by rw [HRL.out]; exact hltj)))
          have hx := (hbel.cell (p := ⟨b2, off2 + jj, none⟩) hb2).trans hx0
          obtain ⟨g, c3, hO1, hO2, hfr, hbg, hst⟩ := grid_cell hgr (by decide) (btCell_bits HM.out hlt HB2.out jj hj).rect hlt hltj
          have HST := hid (hst (min (at2 M ii jj) 1))
          obtain ⟨x, hxx⟩ : ∃ x, x = at2 M ii jj := ⟨_, rfl⟩
          have HE := hid (show put2 (iter (btCell M ii) jj (iter (btRow M n) ii (zeroTab n n))) ii jj (min x 1) = iter (btCell M ii) (jj + 1) (iter (btRow M n) ii (zeroTab n n)) by rw [hxx]; rfl)
          rw [← hxx] at hx HST
          rw [HE.out] at HST
          clear hc2 hx0 hgr hst hxx
          go_wp2
          go_roundw
          case rel => exact ⟨jj + 1, by omega, by go_num, HST.out.1, hbel.grown HST.out.2 hbel.size (fun k hk => by cases hk; exact hbg)⟩
          case measure => simp [intOf]; omega
        · obtain rfl : jj = n := by omega
          have HGQ := hid hgr
          clear hgr
          go_wp2
          go_roundw
          case rel => exact ⟨ii + 1, by omega, by go_num, HGQ.out, hbel⟩
          case measure => simp [intOf]; omega
    · obtain rfl : ii = n := by omega
      have HBB := hid (bitTab_bits HM.out)
      go_wp2
      go_loopw [40] (fun k wr => ∃ kk : Nat, kk ≤ ii ∧ k = .int .i64 kk ∧ TGrid 39 3 wr w.heap.size (.slice (some ⟨gv, 0, none⟩) ii cv) (iter (wrTab ii) kk (bitTab M ii)) ∧ Below w.heap.size w wr) (fun k _ => ii - (intOf k).toNat)
      case atStart => exact ⟨0, by omega, rfl, HGR.out, hbel⟩
      case round =>
        obtain ⟨kk, hk, rfl, hgr, hbel⟩ := hrel
        have HGR1 := hid hgr
        clear hgr
        by_cases hltk : kk < ii
        · have HB3 := hid (wrTab_bits HBB.out kk hk)
          go_wp2
          go_loopw [45] (fun i wr => ∃ pp : Nat, pp ≤ ii ∧ i = .int .i64 pp ∧ TGrid 39 3 wr w.heap.size (.slice (some ⟨gv, 0, none⟩) ii cv) (iter (wrRow ii kk) pp (iter (wrTab ii) kk (bitTab M ii))) ∧ Below w.heap.size w wr) (fun i _ => ii - (intOf i).toNat)
          case atStart => exact ⟨0, by omega, rfl, HGR1.out, hbel⟩
          case round =>
            obtain ⟨pp, hp, rfl, hgr, hbel⟩ := hrel
            have HGR2 := hid hgr
            clear hgr
            by_cases hltp : pp < ii
            · have HB4 := hid (wrRow_bits hltk HB3.out pp hp)
              go_wp2
              go_loopw [50] (fun j wr => ∃ jj : Nat, jj ≤ ii ∧ j = .int .i64 jj ∧ TGrid 39 3 wr w.heap.size (.slice (some ⟨gv, 0, none⟩) ii cv) (iter (wrCell kk pp) jj (iter (wrRow ii kk) pp (iter (wrTab ii) kk (bitTab M ii)))) ∧ Below w.heap.size w wr) (fun j _ => ii - (intOf j).toNat)
              case atStart => exact ⟨0, by omega, rfl, HGR2.out, hbel⟩
              case round =>
                obtain ⟨jj, hj, rfl, hgr, hbel⟩ := hrel
                by_cases hltj : jj < ii
                · have hB5 := wrCell_bits hltk hltp HB4.out jj hj
                  obtain ⟨S, hS⟩ : ∃ S, S = iter (wrCell kk pp) jj (iter (wrRow ii kk) pp (iter (wrTab ii) kk (bitTab M ii))) := ⟨_, rfl⟩
                  have HS := hid hS
                  rw [← hS] at hgr hB5
                  obtain ⟨g, c3, hO1, hO2, hfr, hbg, hst⟩ := grid_cell hgr (by decide) hB5.rect hltp hltj
                  obtain ⟨g', c4, hP1, hP2, _, _, _⟩ := grid_cell hgr (by decide) hB5.rect hltp hltk
                  rw [hO1] at hP1
                  simp only [Option.some.injEq, Value.slice.injEq, Addr.mk.injEq, and_true, true_and] at hP1
                  obtain ⟨rfl, rfl⟩ := hP1
                  obtain ⟨g2, c5, hQ1, hQ2, _, _, _⟩ := grid_cell hgr (by decide) hB5.rect hltk hltj
                  have HST := hid (hst (max (at2 S pp jj) (min (at2 S pp kk) (at2 S kk jj))))
                  obtain ⟨x, hx⟩ : ∃ x, x = at2 S pp jj := ⟨_, rfl⟩
                  obtain ⟨y, hy⟩ : ∃ y, y = at2 S pp kk := ⟨_, rfl⟩
                  obtain ⟨z, hz⟩ : ∃ z, z = at2 S kk jj := ⟨_, rfl⟩
                  have HE := hid (show put2 S pp jj (max x (min y z)) = iter (wrCell kk pp) (jj + 1) (iter (wrRow ii kk) pp (iter (wrTab ii) kk (bitTab M ii))) by rw [hx, hy, hz, HS.out]; rfl)
                  rw [← hx, ← hy, ← hz] at HST
                  rw [← hx] at hO2
                  rw [← hy] at hP2
                  rw [← hz] at hQ2
                  clear hgr hst hx hy hz hS hB5
                  go_wp2
                  (refine wp_region_still_tail 29 (by kernel_rfl) (by kernel_rfl) ?_; change wpStill _ _ (World.drew _) (fun a' => wpList _ _ _ _ a' (World.drew _)) _ _; simp only [List.take_succ_cons, List.take_zero, List.drop_succ_cons, List.drop_zero]; repeat still_step)
                  refine wpStill_nil ?_
                  go_wp2
                  go_roundw
                  case rel =>
                    have h1 := HST.out
                    rw [HE.out] at h1
                    exact ⟨jj + 1, by omega, by go_num, h1.1.below (Below.refl _ _).drew, (hbel.grown h1.2 hbel.size (fun k hk => by cases hk; exact hbg)).drew⟩
                  case measure => simp [intOf]; omega
                · obtain rfl : jj = ii := by omega
                  have HGQ := hid hgr
                  clear hgr
                  go_wp2
                  go_roundw
                  case rel => exact ⟨pp + 1, by omega, by go_num, HGQ.out, hbel⟩
                  case measure => simp [intOf]; omega
            · obtain rfl : pp = ii := by omega
              go_wp2
              go_roundw
              case rel => exact ⟨kk + 1, by omega, by go_num, HGR2.out, hbel⟩
              case measure => simp [intOf]; omega
        · obtain rfl : kk = ii := by omega
          go_wp2
          go_ret
          exact ⟨_, rfl, HGR1.out, hbel⟩
set_option maxHeartbeats 4000000 in
set_option maxRecDepth 100000 in
theorem spec_l6Reach_c (a : Option Addr) (n c : Nat) (M : List (List Int)) (w : World) (h : TabAt w a n M) (hR : Rect M n n) (h1 : 1 ≤ n) (h9 : n ≤ 9) (hM : ∀ i j, i < n → j < n → 0 ≤ at2 M i j) :
    Calls Tryz.prog 132 #[.slice a n c] w (GridPost (reachOf M n) w) := by
  have HT := hid h
  have HR := hid hR
  have HM := hid hM
  clear h hR hM
  go_enter Tryz.func132, Tryz.ntmps132
  go_wp2_with (first | (go_at_call 109; refine (spec_l4Zero_c n n _ (by omega) (by omega)).mono ?_; rintro e w1 ⟨v, rfl, hgrid, hbel0⟩))
  obtain ⟨gv, cv, rfl, hbv, hvl⟩ := grid_form hgrid (zeroTab_len n n) (by omega)
  have HG := hid hgrid
  clear hgrid
  go_loopw [4] (fun i wr => ∃ ii : Nat, ii ≤ n ∧ i = .int .i64 ii ∧ TGrid 39 3 wr w.heap.size (.slice (some ⟨gv, 0, none⟩) n cv) (iter (btRow M n) ii (zeroTab n n)) ∧ Below w.heap.size w wr) (fun i _ => n - (intOf i).toNat)
  case atStart => exact ⟨0, by omega, rfl, HG.out, hbel0⟩
  case round =>
    obtain ⟨ii, hi, rfl, hgr, hbel⟩ := hrel
    have HGR := hid hgr
    clear hgr
    by_cases hlt : ii < n
    · have HB2 := hid (btRow_bits HM.out (zero_bits n) ii hi)
      go_wp2
      go_loopw [5] (fun j wr => ∃ jj : Nat, jj ≤ n ∧ j = .int .i64 jj ∧ TGrid 39 3 wr w.heap.size (.slice (some ⟨gv, 0, none⟩) n cv) (iter (btCell M ii) jj (iter (btRow M n) ii (zeroTab n n))) ∧ Below w.heap.size w wr) (fun j _ => n - (intOf j).toNat)
      case atStart => exact ⟨0, by omega, rfl, HGR.out, hbel⟩
      case round =>
        obtain ⟨jj, hj, rfl, hgr, hbel⟩ := hrel
        by_cases hltj : jj < n
        · obtain ⟨b, off, b2, off2, c', rfl, hb, hcl1, hb2, hcl2⟩ := rect_cell HT.out HR.out hlt hltj
          have hcell1 := (hbel.cell (p := ⟨b, off + ii, none⟩) hb).trans hcl1
          have hcell2 := (hbel.cell (p := ⟨b2, off2 + jj, none⟩) hb2).trans hcl2
          obtain ⟨g, c3, hO1, hO2, hfr, hbg, hst⟩ := grid_cell hgr (by decide) (btCell_bits HM.out hlt HB2.out jj hj).rect hlt hltj
          have HST := hid (hst (min (at2 M ii jj) 1))
          have hx0 := HM.out ii jj hlt hltj
          obtain ⟨x, hxx⟩ : ∃ x, x = at2 M ii jj := ⟨_, rfl⟩
          have HE := hid (show put2 (iter (btCell M ii) jj (iter (btRow M n) ii (zeroTab n n))) ii jj (min x 1) = iter (btCell M ii) (jj + 1) (iter (btRow M n) ii (zeroTab n n)) by rw [hxx]; rfl)
          rw [← hxx] at hcell2 HST hx0
          rw [HE.out] at HST
          clear hcl1 hcl2 hgr hst hxx
          go_wp2
          (refine wp_region_still_tail 15 (by kernel_rfl) (by kernel_rfl) ?_; change wpStill _ _ (World.drew _) (fun a' => wpList _ _ _ _ a' (World.drew _)) _ _; simp only [List.take_succ_cons, List.take_zero, List.drop_succ_cons, List.drop_zero]; repeat still_step)
          still_call (l1Bit_pos x hx0 _)
          repeat still_step
          refine wpStill_nil ?_
          go_wp2
          go_roundw
          case rel => exact ⟨jj + 1, by omega, by go_num, HST.out.1.below (Below.refl _ _).drew, (hbel.grown HST.out.2 hbel.size (fun k hk => by cases hk; exact hbg)).drew⟩
          case measure => simp [intOf]; omega
        · obtain rfl : jj = n := by omega
          have HGQ := hid hgr
          clear hgr
          go_wp2
          go_roundw
          case rel => exact ⟨ii + 1, by omega, by go_num, HGQ.out, hbel⟩
          case measure => simp [intOf]; omega
    · obtain rfl : ii = n := by omega
      have HBB := hid (bitTab_bits HM.out)
      go_wp2
      go_loopw [6] (fun k wr => ∃ kk : Nat, kk ≤ ii ∧ k = .int .i64 kk ∧ TGrid 39 3 wr w.heap.size (.slice (some ⟨gv, 0, none⟩) ii cv) (iter (wrTab ii) kk (bitTab M ii)) ∧ Below w.heap.size w wr) (fun k _ => ii - (intOf k).toNat)
      case atStart => exact ⟨0, by omega, rfl, HGR.out, hbel⟩
      case round =>
        obtain ⟨kk, hk, rfl, hgr, hbel⟩ := hrel
        have HGR1 := hid hgr
        clear hgr
        by_cases hltk : kk < ii
        · have HB3 := hid (wrTab_bits HBB.out kk hk)
          go_wp2
          go_loopw [7] (fun i wr => ∃ pp : Nat, pp ≤ ii ∧ i = .int .i64 pp ∧ TGrid 39 3 wr w.heap.size (.slice (some ⟨gv, 0, none⟩) ii cv) (iter (wrRow ii kk) pp (iter (wrTab ii) kk (bitTab M ii))) ∧ Below w.heap.size w wr) (fun i _ => ii - (intOf i).toNat)
          case atStart => exact ⟨0, by omega, rfl, HGR1.out, hbel⟩
          case round =>
            obtain ⟨pp, hp, rfl, hgr, hbel⟩ := hrel
            have HGR2 := hid hgr
            clear hgr
            by_cases hltp : pp < ii
            · have HB4 := hid (wrRow_bits hltk HB3.out pp hp)
              go_wp2
              go_loopw [8] (fun j wr => ∃ jj : Nat, jj ≤ ii ∧ j = .int .i64 jj ∧ TGrid 39 3 wr w.heap.size (.slice (some ⟨gv, 0, none⟩) ii cv) (iter (wrCell kk pp) jj (iter (wrRow ii kk) pp (iter (wrTab ii) kk (bitTab M ii)))) ∧ Below w.heap.size w wr) (fun j _ => ii - (intOf j).toNat)
              case atStart => exact ⟨0, by omega, rfl, HGR2.out, hbel⟩
              case round =>
                obtain ⟨jj, hj, rfl, hgr, hbel⟩ := hrel
                by_cases hltj : jj < ii
                · have hB5 := wrCell_bits hltk hltp HB4.out jj hj
                  obtain ⟨S, hS⟩ : ∃ S, S = iter (wrCell kk pp) jj (iter (wrRow ii kk) pp (iter (wrTab ii) kk (bitTab M ii))) := ⟨_, rfl⟩
                  have HS := hid hS
                  rw [← hS] at hgr hB5
                  obtain ⟨g, c3, hO1, hO2, hfr, hbg, hst⟩ := grid_cell hgr (by decide) hB5.rect hltp hltj
                  obtain ⟨g', c4, hP1, hP2, _, _, _⟩ := grid_cell hgr (by decide) hB5.rect hltp hltk
                  rw [hO1] at hP1
                  simp only [Option.some.injEq, Value.slice.injEq, Addr.mk.injEq, and_true, true_and] at hP1
                  obtain ⟨rfl, rfl⟩ := hP1
                  obtain ⟨g2, c5, hQ1, hQ2, _, _, _⟩ := grid_cell hgr (by decide) hB5.rect hltk hltj
                  have HST := hid (hst (max (at2 S pp jj) (min (at2 S pp kk) (at2 S kk jj))))
                  obtain ⟨x, hx⟩ : ∃ x, x = at2 S pp jj := ⟨_, rfl⟩
                  obtain ⟨y, hy⟩ : ∃ y, y = at2 S pp kk := ⟨_, rfl⟩
                  obtain ⟨z, hz⟩ : ∃ z, z = at2 S kk jj := ⟨_, rfl⟩
                  have HO := hid (show bits BinOp.or IntKind.i64 x (bits BinOp.and IntKind.i64 y z) = max x (min y z) by rw [hx, hy, hz]; exact bit_ops (hB5.bit pp jj hltp hltj) (hB5.bit pp kk hltp hltk) (hB5.bit kk jj hltk hltj))
                  have HE := hid (show put2 S pp jj (max x (min y z)) = iter (wrCell kk pp) (jj + 1) (iter (wrRow ii kk) pp (iter (wrTab ii) kk (bitTab M ii))) by rw [hx, hy, hz, HS.out]; rfl)
                  rw [← hx, ← hy, ← hz] at HST
                  rw [← hx] at hO2
                  rw [← hy] at hP2
                  rw [← hz] at hQ2
                  clear hgr hst hx hy hz hS hB5
                  go_wp2
                  (refine wp_region_still_tail 29 (by kernel_rfl) (by kernel_rfl) ?_; change wpStill _ _ (World.drew _) (fun a' => wpList _ _ _ _ a' (World.drew _)) _ _; simp only [List.take_succ_cons, List.take_zero, List.drop_succ_cons, List.drop_zero]; repeat still_step)
                  refine wpStill_nil ?_
                  go_wp2
                  go_roundw
                  case rel =>
                    have h1 := HST.out
                    rw [HE.out, ← HO.out] at h1
                    exact ⟨jj + 1, by omega, by go_num, h1.1.below (Below.refl _ _).drew, (hbel.grown h1.2 hbel.size (fun k hk => by cases hk; exact hbg)).drew⟩
                  case measure => simp [intOf]; omega
                · obtain rfl : jj = ii := by omega
                  have HGQ := hid hgr
                  clear hgr
                  go_wp2
                  go_roundw
                  case rel => exact ⟨pp + 1, by omega, by go_num, HGQ.out, hbel⟩
                  case measure => simp [intOf]; omega
            · obtain rfl : pp = ii := by omega
              go_wp2
              go_roundw
              case rel => exact ⟨kk + 1, by omega, by go_num, HGR2.out, hbel⟩
              case measure => simp [intOf]; omega
        · obtain rfl : kk = ii := by omega
          go_wp2
          go_ret
          exact ⟨_, rfl, HGR1.out, hbel⟩
end Go.Proofs.YtpfeflhcbcgbfaaGreatDoor
