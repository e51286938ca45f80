/- How many rings come again, the reference's way. No condition but the sizes. -/
import Derived.Test.YtiigfnlkilfomaaKeptS
namespace Go.Proofs.Ytiigfnlkilfomaa
open Go.RowKit

set_option maxHeartbeats 2000000 in
theorem spec_CountOnRings_no (k n : Int) (o : ByteArray) (m : Int) (w : World) (ho : o.size ≤ maxLen) (h : fitsB k n o m = false) :
    Calls Try.prog 16 #[.agg #[.int .i64 k, .int .i64 n, .string o], .int .i64 m] w fun e w' => e = .returned (.int .i64 (-1)) ∧ Below w.heap.size w w' := by
  have HN := hid (fun w => spec_l33Fits_c k n o m w ho)
  rw [h] at HN
  clear h
  go_enter Try.func16, Try.ntmps16
  go_wp2_with fail
  refine (HN.out _).mono ?_
  rintro e w1 ⟨rfl, hb1⟩
  go_wp2
  go_ret
  exact ⟨rfl, ((Below.refl _ _).alloc (Nat.le_refl _) _).trans (hb1.mono (by simp))⟩
set_option maxHeartbeats 2000000 in
set_option maxRecDepth 100000 in
theorem spec_CountOnRings_yes (n m : Nat) (o : ByteArray) (w : World) (ho : o.size ≤ maxLen) (h : RFit o n m) (hf : fitsB 2 n o m = true) :
    Calls Try.prog 16 #[.agg #[.int .i64 2, .int .i64 n, .string o], .int .i64 m] w fun e w' => e = .returned (.int .i64 (cntP o n m : Int)) ∧ Below w.heap.size w w' := by
  have hps := pow_small (k := 2) (by omega) h.m8
  have HN := hid (fun w => spec_l33Fits_c 2 n o m w ho)
  rw [hf] at HN
  have HX := hid (fun w => spec_l33Next_c n m o w ho h)
  have HK := hid (fun (a : Option Addr) (c : Nat) (w : World) (hr : RowAt w a (2 ^ m) (intVals (nexts o n m (2 ^ m)))) => spec_l33Kept_c (2 ^ m) (nextB o n m) a c w (next_lt h) hps hr)
  have HPR := hid (fun (K : Nat → Bool) (h1 : ∀ i, i < 2 ^ m → AgainN (nextB o n m) i → K i = true) (h2 : ∀ i, i < 2 ^ m → K i = true → hitK (nextB o n m) K (2 ^ m) i = true) =>
    show ((List.range (2 ^ m)).filter K).length = cntP o n m from by
      unfold cntP
      congr 1
      refine List.filter_congr fun i hi => ?_
      have hi2 := List.mem_range.1 hi
      rw [Bool.eq_iff_iff, ← againN_per h hi2]
      exact ⟨fun hk => keep_again (next_lt h) h2 hi2 hk, fun ha => h1 i hi2 ha⟩)
  unfold NextsPost at HX
  unfold KeptSPost at HK
  obtain ⟨M, hM⟩ : ∃ M, M = 2 ^ m := ⟨_, rfl⟩
  obtain ⟨g, hg⟩ : ∃ g, g = nextB o n m := ⟨_, rfl⟩
  obtain ⟨cp, hcp⟩ : ∃ cp, cp = cntP o n m := ⟨_, rfl⟩
  rw [← hM] at HX hps HK HPR
  rw [← hg] at HK HPR
  rw [← hcp] at HPR
  rw [← hcp]
  clear hM hf h hg hcp
  go_enter Try.func16, Try.ntmps16
  go_wp2_with fail
  refine (HN.out _).mono ?_
  rintro e w1 ⟨rfl, hb1⟩
  obtain ⟨⟨hc0, hc1, hc2⟩, _, hzz⟩ := box3 hb1
  have hbw1 : Below w.heap.size w w1 := ((Below.refl _ _).alloc (Nat.le_refl _) _).trans (hb1.mono (by simp))
  go_wp2_with fail
  refine (HX.out _).mono ?_
  rintro e w2 ⟨v, rfl, hown, hb2⟩
  obtain ⟨a5, c5, rfl, hr5⟩ := owns_rowAt hown (by omega)
  have HR5 := hid hr5
  have hbw2 := bs hbw1 hb2
  clear hc0 hc1 hc2 hown hr5
  go_wp2_with fail
  refine (HK.out _ _ _ HR5.out).mono ?_
  rintro e w3 ⟨v3, K, rfl, hown3, hb3, h1, h2⟩
  have HCN := hid (HPR.out K h1 h2)
  obtain ⟨a6, c6, rfl, hr6⟩ := owns_rowAt hown3 (by omega)
  have HR6 := hid hr6
  have hbw3 := bs hbw2 hb3
  clear h1 h2 hown3 hr6
  go_wp2
  go_loop [5, 7] (fun c i => ∃ q r : Nat, r ≤ M ∧ i = .int .i64 r ∧ c = .int .i64 q ∧ q ≤ r ∧ Hid (q = ((List.range r).filter K).length)) (fun _ i => M - (intOf i).toNat)
  case atStart => exact ⟨0, 0, by omega, rfl, rfl, by omega, rfl⟩
  case round =>
    obtain ⟨q, r, hr, rfl, rfl, hqr, HQ⟩ := hrel
    by_cases hlt2 : r < M
    · obtain ⟨b5, o5, rfl, hb5, hcl5⟩ := HR6.out.at_ (by omega)
      have hcell := hcl5 r _ (rowB_get hlt2)
      clear hcl5
      cases hb : K r
      · rw [hb] at hcell
        have HB := hid hb
        clear hb
        go_wp2_with (go_at_call 38; refine (l1Bit_c _ _).mono ?_; rintro e w' ⟨rfl, rfl⟩)
        go_round
        case rel => exact ⟨q, r + 1, by omega, by go_num, by go_num, by omega, by show _ = _; rw [cn_no HB.out]; exact HQ.out⟩
        case measure => simp [intOf]; omega
      · rw [hb] at hcell
        have HB := hid hb
        clear hb
        go_wp2_with (go_at_call 38; refine (l1Bit_c _ _).mono ?_; rintro e w' ⟨rfl, rfl⟩)
        go_round
        case rel => exact ⟨q + 1, r + 1, by omega, by go_num, by go_num, by omega, by show _ = _; rw [cn_yes HB.out]; rw [HQ.out]⟩
        case measure => simp [intOf]; omega
    · obtain rfl : r = M := by omega
      go_wp2
      go_ret
      exact ⟨ret_int (by rw [HQ.out, HCN.out]), hbw3⟩
end Go.Proofs.Ytiigfnlkilfomaa
