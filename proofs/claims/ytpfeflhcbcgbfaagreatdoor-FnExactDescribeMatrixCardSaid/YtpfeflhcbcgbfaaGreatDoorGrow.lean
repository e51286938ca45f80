/- The growth in parts, rounded down, both ways. Conditions: a small matrix in memory, up to a hundred parts. -/
import Derived.Test.YtpfeflhcbcgbfaaGreatDoorBelS
import Derived.Test.YtpfeflhcbcgbfaaGreatDoorBelI
import Derived.Test.YtpfeflhcbcgbfaaGreatDoorSmal
namespace Go.Proofs.YtpfeflhcbcgbfaaGreatDoor
open Go.RowKit
/-- Halving. -/
def bisF (P : Nat → Bool) (lo hi : Nat) : Nat := if h : 1 < hi - lo then (if P ((lo + hi) / 2) = true then bisF P lo ((lo + hi) / 2) else bisF P ((lo + hi) / 2) hi) else lo
termination_by hi - lo
decreasing_by all_goals omega
theorem bisF_eq (P : Nat → Bool) (lo hi : Nat) : bisF P lo hi = if 1 < hi - lo then (if P ((lo + hi) / 2) = true then bisF P lo ((lo + hi) / 2) else bisF P ((lo + hi) / 2) hi) else lo := by
  rw [bisF]
  split <;> rfl
theorem bisF_le (P : Nat → Bool) (lo hi : Nat) (h : lo ≤ hi) : bisF P lo hi ≤ hi := by
  rw [bisF_eq]
  split
  · split
    · exact Nat.le_trans (bisF_le P lo ((lo + hi) / 2) (by omega)) (by omega)
    · exact bisF_le P ((lo + hi) / 2) hi (by omega)
  · exact h
termination_by hi - lo
decreasing_by all_goals omega
def growV (M : List (List Int)) (n d : Nat) : Nat := bisF (fun q : Nat => belowV M n (q : Int) (d : Int)) 0 (36 * d + 1)
theorem growV_le (M : List (List Int)) (n d : Nat) : growV M n d ≤ 36 * d + 1 := bisF_le _ _ _ (by omega)
set_option maxHeartbeats 2000000 in
set_option maxRecDepth 100000 in
theorem spec_FloorOfGrowth_c (a : Option Addr) (n c d : Nat) (M : List (List Int)) (w : World) (h : TabAt w a n M) (hS : isSm M = true) (hd : 1 ≤ d ∧ d ≤ 100) :
    Calls Tryz.prog 86 #[.slice a n c, .int .i64 d] w fun e w' => e = .returned (.int .i64 (growV M n d : Nat)) ∧ Below w.heap.size w w' := by
  obtain ⟨_, hn, hR, hM⟩ := isSm_facts hS (tab_len h).1
  have HIS := hid (fun (V : World) (hV : Below w.heap.size w V) => spec_IsSmall_c a n c M V (h.below hV (Nat.le_refl _)))
  rw [hS] at HIS
  have HBE := hid (fun (q : Nat) (hq : q ≤ 3601) (V : World) (hV : Below w.heap.size w V) => show Calls Tryz.prog 129 #[.slice a n c, .int .i64 (q : Int), .int .i64 (d : Int)] V fun e w' => e = .returned (.bool (belowV M n (q : Int) (d : Int))) ∧ Below V.heap.size V w' from spec_l8Below_c a n c M (q : Int) (d : Int) V (h.below hV (Nat.le_refl _)) hR hn hM (by omega) (by omega))
  have HGV := hid (show growV M n d = bisF (fun q : Nat => belowV M n (q : Int) (d : Int)) 0 (36 * d + 1) from rfl)
  obtain ⟨P, hP⟩ : ∃ P : Nat → Bool, P = (fun q : Nat => belowV M n (q : Int) (d : Int)) := ⟨_, rfl⟩
  have HPE := hid (fun q : Nat => show belowV M n (q : Int) (d : Int) = P q by rw [hP])
  simp only [HPE.out] at HBE
  rw [← hP] at HGV
  have HBI := hid (fun lo hi => bisF_eq P lo hi)
  obtain ⟨G, hG⟩ : ∃ G, G = growV M n d := ⟨_, rfl⟩
  rw [← hG] at HGV
  rw [← hG]
  obtain ⟨H, hH⟩ : ∃ H, H = 36 * d + 1 := ⟨_, rfl⟩
  rw [← hH] at HGV
  have hHi : 36 * (d : Int) + 1 = (H : Int) := by omega
  have hwH : IntKind.i64.wrap (36 * (d : Int)) = 36 * (d : Int) := IntWalk.i64_in _ (by omega)
  have hwH2 : IntKind.i64.wrap (36 * (d : Int) + 1) = (H : Int) := by rw [IntWalk.i64_in (36 * (d : Int) + 1) (by omega)]; exact hHi
  have hH3 : H ≤ 3601 := by omega
  have hH0 : 0 < H := by omega
  have HLI := hid (fun w => l1In_c (d : Int) 1 100 w)
  rw [inB_t (show (1 : Int) ≤ (d : Int) ∧ (d : Int) ≤ 100 by omega)] at HLI
  clear h hS hR hM hP hG hH HPE
  go_enter Tryz.func86, Tryz.ntmps86
  go_wp2_with fail
  refine (HIS.out _ (Below.refl _ _)).mono ?_
  rintro e w' ⟨rfl, rfl⟩
  go_wp2_with (go_at_call 58; refine (HLI.out _).mono ?_; rintro e w' ⟨rfl, rfl⟩)
  try rw [hHi]
  clear hwH hwH2 hHi
  go_loopw [5, 6] (fun l h wr => ∃ lo hi : Nat, lo < hi ∧ hi ≤ 3601 ∧ l = .int .i64 lo ∧ h = .int .i64 hi ∧ Hid (G = bisF P lo hi) ∧ Hid (Below w.heap.size w wr)) (fun l h _ => (intOf h).toNat - (intOf l).toNat)
  case atStart => exact ⟨0, H, hH0, hH3, rfl, rfl, HGV, hid (Below.refl _ _)⟩
  case round =>
    clear HGV
    obtain ⟨lo, hi, hlh, hhi, rfl, rfl, HG, HBL⟩ := hrel
    have HBX := hid (HBI.out lo hi)
    by_cases hlt : 1 < hi - lo
    · have hgt : (1 : Int) < (hi : Int) - (lo : Int) := by omega
      obtain ⟨q, hq⟩ : ∃ q, q = (lo + hi) / 2 := ⟨_, rfl⟩
      have hd1 : Int.tdiv ((lo : Int) + (hi : Int)) 2 = (q : Int) := by
        rw [hq]
        exact (show Int.tdiv ((lo + hi : Nat) : Int) ((2 : Nat) : Int) = (((lo + hi) / 2 : Nat) : Int) from rfl)
      have hwq : IntKind.i64.wrap (q : Int) = (q : Int) := IntWalk.i64_in _ (by omega)
      have hq1 : lo < q := by omega
      have hq2 : q < hi := by omega
      have HBQ := hid (HBE.out q (by omega) wr HBL.out)
      rw [← hq, if_pos hlt] at HBX
      clear hq
      obtain ⟨pq, hpq⟩ : ∃ pq, pq = P q := ⟨_, rfl⟩
      rw [← hpq] at HBQ HBX
      clear hpq
      cases pq with
      | true =>
        have HN := hid (show G = bisF P lo q by rw [HG.out, HBX.out]; rfl)
        go_wp2_with fail
        refine HBQ.out.mono ?_
        rintro e w3 ⟨rfl, hb3⟩
        have HB3 := hid (HBL.out.trans (hb3.mono HBL.out.size))
        clear hd1
        go_wp2
        go_roundw
        case rel => exact ⟨lo, q, hq1, by omega, rfl, rfl, HN, HB3⟩
        case measure => simp [intOf]; omega
      | false =>
        have HN := hid (show G = bisF P q hi by rw [HG.out, HBX.out]; rfl)
        go_wp2_with fail
        refine HBQ.out.mono ?_
        rintro e w3 ⟨rfl, hb3⟩
        have HB3 := hid (HBL.out.trans (hb3.mono HBL.out.size))
        clear hd1
        go_wp2
        go_roundw
        case rel => exact ⟨q, hi, hq2, hhi, rfl, rfl, HN, HB3⟩
        case measure => simp [intOf]; omega
    · have hgt : ¬ ((1 : Int) < (hi : Int) - (lo : Int)) := by omega
      have HN := hid (show G = lo by rw [HG.out, HBX.out, if_neg hlt])
      go_wp2
      go_ret
      exact ⟨by rw [HN.out]; rfl, HBL.out⟩
set_option maxHeartbeats 2000000 in
set_option maxRecDepth 100000 in
theorem impl_FloorOfGrowth_c (a : Option Addr) (n c d : Nat) (M : List (List Int)) (w : World) (h : TabAt w a n M) (hS : isSm M = true) (hd : 1 ≤ d ∧ d ≤ 100) :
    Calls Tryz.prog 99 #[.slice a n c, .int .i64 d] w fun e w' => e = .returned (.int .i64 (growV M n d : Nat)) ∧ Below w.heap.size w w' := by
  obtain ⟨_, hn, hR, hM⟩ := isSm_facts hS (tab_len h).1
  have HIS := hid (fun (V : World) (hV : Below w.heap.size w V) => impl_IsSmall_c a n c M V (h.below hV (Nat.le_refl _)))
  rw [hS] at HIS
  have HBE := hid (fun (q : Nat) (hq : q ≤ 3601) (V : World) (hV : Below w.heap.size w V) => show Calls Tryz.prog 138 #[.slice a n c, .int .i64 (q : Int), .int .i64 (d : Int)] V fun e w' => e = .returned (.bool (belowV M n (q : Int) (d : Int))) ∧ Below V.heap.size V w' from impl_isBelow_c a n c M (q : Int) (d : Int) V (h.below hV (Nat.le_refl _)) hR hn hM (by omega) (by omega))
  have HGV := hid (show growV M n d = bisF (fun q : Nat => belowV M n (q : Int) (d : Int)) 0 (36 * d + 1) from rfl)
  obtain ⟨P, hP⟩ : ∃ P : Nat → Bool, P = (fun q : Nat => belowV M n (q : Int) (d : Int)) := ⟨_, rfl⟩
  have HPE := hid (fun q : Nat => show belowV M n (q : Int) (d : Int) = P q by rw [hP])
  simp only [HPE.out] at HBE
  rw [← hP] at HGV
  have HBI := hid (fun lo hi => bisF_eq P lo hi)
  obtain ⟨G, hG⟩ : ∃ G, G = growV M n d := ⟨_, rfl⟩
  rw [← hG] at HGV
  rw [← hG]
  obtain ⟨H, hH⟩ : ∃ H, H = 36 * d + 1 := ⟨_, rfl⟩
  rw [← hH] at HGV
  have hHi : 36 * (d : Int) + 1 = (H : Int) := by omega
  have hwH : IntKind.i64.wrap (36 * (d : Int)) = 36 * (d : Int) := IntWalk.i64_in _ (by omega)
  have hwH2 : IntKind.i64.wrap (36 * (d : Int) + 1) = (H : Int) := by rw [IntWalk.i64_in (36 * (d : Int) + 1) (by omega)]; exact hHi
  have hH3 : H ≤ 3601 := by omega
  have hH0 : 0 < H := by omega
  have hd1 : ¬ ((d : Int) < 1) := by omega
  have hd2 : ¬ ((100 : Int) < (d : Int)) := by omega
  clear h hS hR hM hP hG hH HPE
  go_enter Tryz.func99, Tryz.ntmps99
  go_wp2_with fail
  refine (HIS.out _ (Below.refl _ _)).mono ?_
  rintro e w' ⟨rfl, rfl⟩
  go_wp2
  try rw [hHi]
  clear hwH hwH2 hHi
  go_loopw [5, 6] (fun l h wr => ∃ lo hi : Nat, lo < hi ∧ hi ≤ 3601 ∧ l = .int .i64 lo ∧ h = .int .i64 hi ∧ Hid (G = bisF P lo hi) ∧ Hid (Below w.heap.size w wr)) (fun l h _ => (intOf h).toNat - (intOf l).toNat)
  case atStart => exact ⟨0, H, hH0, hH3, rfl, rfl, HGV, hid (Below.refl _ _)⟩
  case round =>
    clear HGV
    obtain ⟨lo, hi, hlh, hhi, rfl, rfl, HG, HBL⟩ := hrel
    have HBX := hid (HBI.out lo hi)
    by_cases hlt : 1 < hi - lo
    · have hgt : (1 : Int) < (hi : Int) - (lo : Int) := by omega
      obtain ⟨q, hq⟩ : ∃ q, q = (lo + hi) / 2 := ⟨_, rfl⟩
      have hd1 : Int.tdiv ((lo : Int) + (hi : Int)) 2 = (q : Int) := by
        rw [hq]
        exact (show Int.tdiv ((lo + hi : Nat) : Int) ((2 : Nat) : Int) = (((lo + hi) / 2 : Nat) : Int) from rfl)
      have hwq : IntKind.i64.wrap (q : Int) = (q : Int) := IntWalk.i64_in _ (by omega)
      have hq1 : lo < q := by omega
      have hq2 : q < hi := by omega
      have HBQ := hid (HBE.out q (by omega) wr HBL.out)
      rw [← hq, if_pos hlt] at HBX
      clear hq
      obtain ⟨pq, hpq⟩ : ∃ pq, pq = P q := ⟨_, rfl⟩
      rw [← hpq] at HBQ HBX
      clear hpq
      cases pq with
      | true =>
        have HN := hid (show G = bisF P lo q by rw [HG.out, HBX.out]; rfl)
        go_wp2_with fail
        refine HBQ.out.mono ?_
        rintro e w3 ⟨rfl, hb3⟩
        have HB3 := hid (HBL.out.trans (hb3.mono HBL.out.size))
        clear hd1
        go_wp2
        go_roundw
        case rel => exact ⟨lo, q, hq1, by omega, rfl, rfl, HN, HB3⟩
        case measure => simp [intOf]; omega
      | false =>
        have HN := hid (show G = bisF P q hi by rw [HG.out, HBX.out]; rfl)
        go_wp2_with fail
        refine HBQ.out.mono ?_
        rintro e w3 ⟨rfl, hb3⟩
        have HB3 := hid (HBL.out.trans (hb3.mono HBL.out.size))
        clear hd1
        go_wp2
        go_roundw
        case rel => exact ⟨q, hi, hq2, hhi, rfl, rfl, HN, HB3⟩
        case measure => simp [intOf]; omega
    · have hgt : ¬ ((1 : Int) < (hi : Int) - (lo : Int)) := by omega
      have HN := hid (show G = lo by rw [HG.out, HBX.out, if_neg hlt])
      go_wp2
      go_ret
      exact ⟨by rw [HN.out]; rfl, HBL.out⟩
end Go.Proofs.YtpfeflhcbcgbfaaGreatDoor
