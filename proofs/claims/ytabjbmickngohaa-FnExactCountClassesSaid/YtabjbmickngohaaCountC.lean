/- How many classes of rules there are: both functions. No condition. -/
import Derived.Test.YtabjbmickngohaaClassW
namespace Go.Proofs.Ytabjbmickngohaa
open Go.RowKit

def hdC (n : Nat) : Int := (classOf n).headD 0
theorem class_head (n : Nat) : (intVals (classOf n))[0]? = some (.int .i64 (hdC n)) := by
  have h := (class_len n).1
  unfold hdC
  match hc : classOf n, h with
  | x :: l, _ => simp [intVals]
def cntC (j : Nat) : Nat := ((List.range j).filter fun n => decide (hdC n = (n : Int))).length
theorem cntC_yes {j : Nat} (h : hdC j = (j : Int)) : cntC (j + 1) = cntC j + 1 := by simp [cntC, List.range_succ, List.filter_append, h]
theorem cntC_no {j : Nat} (h : ¬ hdC j = (j : Int)) : cntC (j + 1) = cntC j := by simp [cntC, List.range_succ, List.filter_append, h]
theorem cntC_le (j : Nat) : cntC j ≤ j := by
  have := List.length_filter_le (fun n => decide (hdC n = (n : Int))) (List.range j)
  rwa [List.length_range] at this
set_option maxHeartbeats 2000000 in
set_option maxRecDepth 100000 in
theorem spec_CountClasses_c (w : World) :
    Calls Try.prog 26 #[] w fun e w' => e = .returned (.int .i64 (cntC 256 : Int)) ∧ Below w.heap.size w w' := by
  have HC := hid (fun n hn w => spec_RuleClass_yes n hn w)
  unfold ClassPost at HC
  go_enter Try.func26, Try.ntmps26
  go_wp2
  go_loopw [1, 2] (fun c i wr => ∃ j q : Nat, j ≤ 256 ∧ i = .int .i64 j ∧ c = .int .i64 q ∧ q ≤ j ∧ Hid (q = cntC j) ∧ Below w.heap.size w wr) (fun _ i _ => 256 - (intOf i).toNat)
  case atStart => exact ⟨0, 0, by omega, rfl, rfl, by omega, rfl, Below.refl _ _⟩
  case round =>
    obtain ⟨j, q, hj, rfl, rfl, hqj, HQ, hbel⟩ := hrel
    by_cases hlt : j < 256
    · have HCj := hid (HC.out j hlt wr)
      have HH := hid (class_head j)
      have hL := (class_len j).1
      have hL4 := (class_len j).2
      obtain ⟨l, hl⟩ : ∃ l, l = classOf j := ⟨_, rfl⟩
      rw [← hl] at HCj HH hL hL4
      obtain ⟨m, hm⟩ : ∃ m, m = l.length := ⟨_, rfl⟩
      rw [← hm] at HCj hL hL4
      obtain ⟨x, hx⟩ : ∃ x, x = hdC j := ⟨_, rfl⟩
      rw [← hx] at HH
      have HX := hid hx
      clear hl hm hx
      go_wp2_with fail
      refine HCj.out.mono ?_
      rintro e w1 ⟨g, c, rfl, ho, hb⟩
      have hcell : w1.cell? ⟨g, 0, none⟩ = some (.int .i64 x) := (ho.cellAt 0 (by omega)).trans HH.out
      have hbel1 := hbel.trans (hb.mono hbel.size)
      have hL1 : (1 : Int) ≤ (m : Int) := by omega
      clear ho
      by_cases hxe : x = (j : Int)
      · have HS := hid (cntC_yes (j := j) (by rw [← HX.out]; exact hxe))
        subst hxe
        go_wp2_with (go_at_call 49; refine (l1Bit_c _ _).mono ?_; rintro e w' ⟨rfl, rfl⟩)
        go_roundw
        case rel => exact ⟨j + 1, q + 1, by omega, by go_num, by go_num, by omega, by show _ = _; rw [HS.out, HQ.out], hbel1⟩
        case measure => simp [intOf]; omega
      · have HS := hid (cntC_no (j := j) (by rw [← HX.out]; exact hxe))
        have hxb : (x == (j : Int)) = false := by simpa using hxe
        go_wp2_with (go_at_call 49; refine (l1Bit_c _ _).mono ?_; rintro e w' ⟨rfl, rfl⟩)
        go_roundw
        case rel => exact ⟨j + 1, q, by omega, by go_num, by go_num, by omega, by show _ = _; rw [HS.out]; exact HQ.out, hbel1⟩
        case measure => simp [intOf]; omega
    · obtain rfl : j = 256 := by omega
      go_wp2
      go_ret
      exact ⟨ret_int (by rw [HQ.out]), hbel⟩
set_option maxHeartbeats 2000000 in
set_option maxRecDepth 100000 in
theorem impl_CountClasses_c (w : World) :
    Calls Try.prog 27 #[] w fun e w' => e = .returned (.int .i64 (cntC 256 : Int)) ∧ Below w.heap.size w w' := by
  have HC := hid (fun n hn w => impl_RuleClass_yes n hn w)
  unfold ClassPost at HC
  go_enter Try.func27, Try.ntmps27
  go_wp2
  go_loopw [1, 3] (fun c i wr => ∃ j q : Nat, j ≤ 256 ∧ i = .int .i64 j ∧ c = .int .i64 q ∧ q ≤ j ∧ Hid (q = cntC j) ∧ Below w.heap.size w wr) (fun _ i _ => 256 - (intOf i).toNat)
  case atStart => exact ⟨0, 0, by omega, rfl, rfl, by omega, rfl, Below.refl _ _⟩
  case round =>
    obtain ⟨j, q, hj, rfl, rfl, hqj, HQ, hbel⟩ := hrel
    by_cases hlt : j < 256
    · have HCj := hid (HC.out j hlt wr)
      have HH := hid (class_head j)
      have hL := (class_len j).1
      have hL4 := (class_len j).2
      obtain ⟨l, hl⟩ : ∃ l, l = classOf j := ⟨_, rfl⟩
      rw [← hl] at HCj HH hL hL4
      obtain ⟨m, hm⟩ : ∃ m, m = l.length := ⟨_, rfl⟩
      rw [← hm] at HCj hL hL4
      obtain ⟨x, hx⟩ : ∃ x, x = hdC j := ⟨_, rfl⟩
      rw [← hx] at HH
      have HX := hid hx
      clear hl hm hx
      go_wp2_with fail
      refine HCj.out.mono ?_
      rintro e w1 ⟨g, c, rfl, ho, hb⟩
      have hcell : w1.cell? ⟨g, 0, none⟩ = some (.int .i64 x) := (ho.cellAt 0 (by omega)).trans HH.out
      have hbel1 := hbel.trans (hb.mono hbel.size)
      have hL1 : (1 : Int) ≤ (m : Int) := by omega
      clear ho
      by_cases hxe : x = (j : Int)
      · have HS := hid (cntC_yes (j := j) (by rw [← HX.out]; exact hxe))
        subst hxe
        go_wp2
        go_roundw
        case rel => exact ⟨j + 1, q + 1, by omega, by go_num, by go_num, by omega, by show _ = _; rw [HS.out, HQ.out], hbel1⟩
        case measure => simp [intOf]; omega
      · have HS := hid (cntC_no (j := j) (by rw [← HX.out]; exact hxe))
        have hxb : (x == (j : Int)) = false := by simpa using hxe
        go_wp2
        go_roundw
        case rel => exact ⟨j + 1, q, by omega, by go_num, by go_num, by omega, by show _ = _; rw [HS.out]; exact HQ.out, hbel1⟩
        case measure => simp [intOf]; omega
    · obtain rfl : j = 256 := by omega
      go_wp2
      go_ret
      exact ⟨ret_int (by rw [HQ.out]), hbel⟩
end Go.Proofs.Ytabjbmickngohaa
