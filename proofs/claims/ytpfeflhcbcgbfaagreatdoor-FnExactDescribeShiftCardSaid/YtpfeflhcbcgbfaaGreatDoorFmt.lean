/- A number's decimal digits: the reference's function. Conditions: the number is an int. -/
import Derived.Test.YtpfeflhcbcgbfaaGreatDoorNumber
import Derived.Lib.ItoaNum
namespace Go.Proofs.YtpfeflhcbcgbfaaGreatDoor
open Go.RowKit

def ddK (k : Nat) : List UInt8 := if k = 0 then [] else Lib.decDigits k
theorem mtLoop_dd : ∀ (k : Nat) (out : ByteArray), mtLoop k out = ⟨(ddK k ++ out.data.toList).toArray⟩ := by
  intro k
  induction k using Nat.strongRecOn with
  | _ k ih =>
    intro out
    by_cases hk : k = 0
    · subst hk
      rw [mtLoop, dif_pos rfl]
      simp [ddK]
    · rw [mtLoop, dif_neg hk, ih (k / 10) (by omega)]
      have e : (ByteArray.mk #[digB k] ++ out).data.toList = digB k :: out.data.toList := by simp
      rw [e]
      congr 2
      unfold ddK
      rw [if_neg hk]
      by_cases h10 : k < 10
      · rw [if_pos (by omega), Lib.decDigits, dif_pos h10]
        unfold digB
        rw [Nat.mod_eq_of_lt h10]
        rfl
      · rw [if_neg (by omega)]
        conv => rhs; rw [Lib.decDigits, dif_neg h10]
        unfold digB
        simp
theorem fmt_pos {k : Nat} (h : k ≠ 0) : mtLoop k ByteArray.empty = ⟨(Lib.itoa (k : Int)).toArray⟩ := by
  rw [mtLoop_dd]
  unfold ddK Lib.itoa
  rw [if_neg h, if_neg (by omega), Int.toNat_natCast]
  simp
theorem fmt_neg {k : Nat} (h : k ≠ 0) : (ByteArray.mk #[45]) ++ mtLoop k ByteArray.empty = ⟨(Lib.itoa (-(k : Int))).toArray⟩ := by
  rw [mtLoop_dd]
  unfold ddK Lib.itoa
  rw [if_neg h, if_pos (by omega), Int.natAbs_neg, Int.natAbs_natCast]
  simp
  rfl
def fmtB (n : Int) : ByteArray := ⟨(Lib.itoa n).toArray⟩
theorem half_step {j s k : Nat} (h : j * 2 ^ s ≤ k) : j / 10 * 2 ^ (s + 1) ≤ k := by
  rw [Nat.pow_succ, Nat.mul_comm (2 ^ s) 2, ← Nat.mul_assoc]
  exact Nat.le_trans (Nat.mul_le_mul_right _ (by omega)) h
theorem half_size {j s k : Nat} (h : j * 2 ^ s ≤ k) (hj : 0 < j) (hk : k ≤ 9223372036854775808) : s ≤ 64 := by
  refine Nat.le_of_lt_succ ((Nat.pow_lt_pow_iff_right (a := 2) (by omega)).1 ?_)
  have h1 : 2 ^ s ≤ j * 2 ^ s := Nat.le_mul_of_pos_left _ hj
  have h2 : (9223372036854775808 : Nat) < 2 ^ 65 := by decide
  omega
theorem mt_stepF {j : Nat} {out : ByteArray} (h : 0 < j) : mtLoop j out = mtLoop (j / 10) (⟨#[digB j]⟩ ++ out) := by rw [mtLoop, dif_neg (by omega)]
set_option maxHeartbeats 1000000 in
theorem spec_FormatInt_pos (k : Nat) (w : World) (hk : k ≤ 9223372036854775807) (hk0 : 0 < k) :
    Calls Tryz.prog 20 #[.int .i64 k] w fun e w' => e = .returned (.string (fmtB k)) ∧ Below w.heap.size w w' := by
  have hk1 : ((k : Int) == 0) = false := by rw [beq_eq_false_iff_ne]; omega
  have hk2 : ¬ ((k : Int) < 0) := by omega
  have HF := hid (fmt_pos (k := k) (by omega))
  go_enter Tryz.func20, Tryz.ntmps20
  go_wp2
  go_loopw [0, 4, 5] (fun m o _ wr => ∃ (j : Nat) (out : ByteArray), m = .int .i64 j ∧ o = .string out ∧ j ≤ k ∧ Hid (j * 2 ^ out.size ≤ k) ∧ Below w.heap.size w wr ∧ Hid (mtLoop k ByteArray.empty = mtLoop j out)) (fun m _ _ _ => (intOf m).toNat)
  case atStart => exact ⟨k, ByteArray.empty, rfl, rfl, by omega, by show _ ≤ _; simp, Below.refl _ _, rfl⟩
  case round =>
    obtain ⟨j, out, rfl, rfl, hjk, HS, hbel, H⟩ := hrel
    by_cases hlt : 0 < j
    · have hs := half_size HS.out hlt (by omega)
      have HST := hid (mt_stepF (out := out) hlt)
      have hj1 : ((j : Int) != 0) = true := by rw [bne_iff_ne]; omega
      have hnn : ¬ ((j : Int) % 10 < 0) := by omega
      go_wp2_with (with_reducible refine wpList_convs rfl _ 71 9 5 rfl Tryz.underlying71 Tryz.underlying5 Tryz.underlying9 _ 1 1 [digB j] rfl (rowAt_byte1 _ _ _ _ (digB_nat j)) ?_)
      go_roundw
      case rel => exact ⟨j / 10, _, by go_num, rfl, by omega, by (show _ ≤ _; rw [ByteArray.size_append, show (ByteArray.mk #[digB j]).size = 1 from rfl, Nat.add_comm]; exact half_step HS.out), hbel.alloc hbel.size _, by show _ = _; rw [H.out, HST.out]⟩
      case measure => simp [intOf]; omega
    · obtain rfl : j = 0 := by omega
      go_wp2
      go_ret
      exact ⟨ret_str (by rw [fmtB, ← HF.out, H.out, mtLoop, dif_pos rfl]), hbel⟩
set_option maxHeartbeats 1000000 in
theorem spec_FormatInt_neg (k : Nat) (w : World) (hk : k ≤ 9223372036854775808) (hk0 : 0 < k) :
    Calls Tryz.prog 20 #[.int .i64 (-(k : Int))] w fun e w' => e = .returned (.string (fmtB (-(k : Int)))) ∧ Below w.heap.size w w' := by
  obtain ⟨v, hv⟩ : ∃ v : Int, v = -(k : Int) := ⟨_, rfl⟩
  have hk1 : (v == 0) = false := by rw [beq_eq_false_iff_ne]; omega
  have hk2 : v < 0 := by omega
  have HF := hid (fmt_neg (k := k) (by omega))
  rw [← hv] at HF
  rw [← hv]
  have HV := hid hv
  clear hv
  go_enter Tryz.func20, Tryz.ntmps20
  go_wp2
  go_loopw [0, 4, 5] (fun m o _ wr => ∃ (j : Nat) (u : Int) (out : ByteArray), m = .int .i64 u ∧ o = .string out ∧ Hid (u = -(j : Int)) ∧ j ≤ k ∧ out.size ≤ 65 ∧ Hid (j * 2 ^ out.size ≤ k) ∧ Below w.heap.size w wr ∧ Hid (mtLoop k ByteArray.empty = mtLoop j out)) (fun m _ _ _ => (intOf m).natAbs)
  case atStart => exact ⟨k, v, ByteArray.empty, rfl, rfl, HV, by omega, by simp, by show _ ≤ _; simp, Below.refl _ _, rfl⟩
  case round =>
    obtain ⟨j, u, out, rfl, rfl, HU, hjk, h65, HS, hbel, H⟩ := hrel
    have hu := HU.out
    by_cases hlt : 0 < j
    · have hs := half_size HS.out hlt (by omega)
      have HST := hid (mt_stepF (out := out) hlt)
      have hj1 : (u != 0) = true := by rw [bne_iff_ne]; omega
      have hub1 : -9223372036854775808 ≤ u := by omega
      have hub2 : u < 0 := by omega
      have hdig := digB_nat j
      obtain ⟨e, he⟩ : ∃ e : Int, e = u.tmod 10 := ⟨_, rfl⟩
      obtain ⟨q, hq⟩ : ∃ q : Int, q = u.tdiv 10 := ⟨_, rfl⟩
      have hej : e = -((j % 10 : Nat) : Int) := by rw [he, hu, Int.neg_tmod]; rfl
      have hqj : q = -((j / 10 : Nat) : Int) := by rw [hq, hu, Int.neg_tdiv]; rfl
      have hte := he.symm
      have htq := hq.symm
      have he9 : -9 ≤ e := by omega
      have he0 : e ≤ 0 := by omega
      have HQ := hid hqj
      have HDG := hid (show ((digB j).toNat : Int) = 48 - e by omega)
      have hqb1 : -9223372036854775808 ≤ q := by omega
      have hqb2 : q ≤ 0 := by omega
      clear hu he hq hej hqj hdig
      by_cases hez : e = 0
      · subst hez
        go_wp2_with (refine wpList_convs rfl _ 71 9 5 rfl Tryz.underlying71 Tryz.underlying5 Tryz.underlying9 _ 1 1 [digB j] rfl (rowAt_byte1 _ _ _ _ (by rw [HDG.out]; rfl)) ?_)
        go_roundw
        case rel => exact ⟨j / 10, q, _, rfl, rfl, HQ, by omega, by (rw [ByteArray.size_append, show (ByteArray.mk #[digB j]).size = 1 from rfl]; omega), by (show _ ≤ _; rw [ByteArray.size_append, show (ByteArray.mk #[digB j]).size = 1 from rfl, Nat.add_comm]; exact half_step HS.out), hbel.alloc hbel.size _, by show _ = _; rw [H.out, HST.out]⟩
        case measure => have := HQ.out; have := HU.out; simp [intOf]; omega
      · have hel : e < 0 := by omega
        go_wp2_with (refine wpList_convs rfl _ 71 9 5 rfl Tryz.underlying71 Tryz.underlying5 Tryz.underlying9 _ 1 1 [digB j] rfl (rowAt_byte1 _ _ _ _ (by rw [HDG.out]; omega)) ?_)
        go_roundw
        case rel => exact ⟨j / 10, q, _, rfl, rfl, HQ, by omega, by (rw [ByteArray.size_append, show (ByteArray.mk #[digB j]).size = 1 from rfl]; omega), by (show _ ≤ _; rw [ByteArray.size_append, show (ByteArray.mk #[digB j]).size = 1 from rfl, Nat.add_comm]; exact half_step HS.out), hbel.alloc hbel.size _, by show _ = _; rw [H.out, HST.out]⟩
        case measure => have := HQ.out; have := HU.out; simp [intOf]; omega
    · obtain rfl : j = 0 := by omega
      obtain rfl : u = 0 := by rw [hu]; rfl
      clear hu
      have hone : (ByteArray.mk #[45]).size = 1 := rfl
      go_wp2
      go_ret
      exact ⟨ret_str (by rw [fmtB, ← HF.out, H.out, mtLoop, dif_pos rfl]), hbel⟩
set_option maxHeartbeats 1000000 in
theorem spec_FormatInt_c (n : Int) (w : World) (h0 : -9223372036854775808 ≤ n) (h1 : n ≤ 9223372036854775807) :
    Calls Tryz.prog 20 #[.int .i64 n] w fun e w' => e = .returned (.string (fmtB n)) ∧ Below w.heap.size w w' := by
  rcases Int.lt_trichotomy n 0 with h | h | h
  · obtain ⟨k, rfl⟩ : ∃ k : Nat, n = -(k : Int) := ⟨n.natAbs, by omega⟩
    exact spec_FormatInt_neg k w (by omega) (by omega)
  · subst h
    have hz : fmtB 0 = ⟨#[48]⟩ := by
      unfold fmtB Lib.itoa
      rw [if_neg (by omega)]
      show ByteArray.mk (Lib.decDigits 0).toArray = _
      rw [Lib.decDigits, dif_pos (by omega)]
      rfl
    rw [hz]
    go_enter Tryz.func20, Tryz.ntmps20
    go_wp2
    go_ret
    exact ⟨rfl, Below.refl _ _⟩
  · obtain ⟨k, rfl⟩ : ∃ k : Nat, n = (k : Int) := ⟨n.toNat, by omega⟩
    exact spec_FormatInt_pos k w (by omega) (by omega)
end Go.Proofs.YtpfeflhcbcgbfaaGreatDoor
