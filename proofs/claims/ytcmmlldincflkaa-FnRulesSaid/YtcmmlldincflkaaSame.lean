/- Lists compared by the laws of chapters. Conditions: they lie in memory. -/
import Derived.Test.YtcmmlldincflkaaGrid
namespace Go.Proofs.Ytcmmlldincflkaa
open Go.RowKit

set_option maxHeartbeats 1000000 in
theorem sameIntsQ_c (a b : Option Addr) (n c d : Nat) (xs : List Int) (w : World) (ha : RowAt w a n (intVals xs)) (hb : RowAt w b n (intVals xs)) :
    Calls Try.prog 18 #[.slice a n c, .slice b n d] w fun e w' => e = .returned (.bool true) ∧ ∃ m, w' = w.drewN m := by
  obtain ⟨hl, hlim, hat⟩ := ha
  obtain ⟨_, _, hbt⟩ := hb
  have hlen := hid (show xs.length = n by simpa [intVals] using hl)
  clear hl
  have HAT := hid hat
  have HBT := hid hbt
  clear hat hbt
  go_enter Try.func18, Try.ntmps18
  go_wp2
  go_loopw [5] (fun i wr => ∃ k : Nat, k ≤ n ∧ i = .int .i64 k ∧ ∃ m, wr = w.drewN m) (fun i _ => n - (intOf i).toNat)
  case atStart => exact ⟨0, by omega, rfl, 0, rfl⟩
  case round =>
    obtain ⟨k, hk, rfl, m, hm⟩ := hrel
    by_cases hlt : k < n
    · obtain ⟨s, hsk⟩ := get_some (l := xs) (n := k) (by rw [hlen.out]; exact hlt)
      obtain ⟨b1, off1, rfl, hb1, hc1⟩ := HAT.out (by omega)
      obtain ⟨b2, off2, rfl, hb2, hc2⟩ := HBT.out (by omega)
      have hcell1 := (show wr.cell? ⟨b1, off1 + k, none⟩ = w.cell? ⟨b1, off1 + k, none⟩ by rw [hm]; rfl).trans (hc1 k _ (intVals_get hsk))
      have hcell2 := (show wr.cell? ⟨b2, off2 + k, none⟩ = w.cell? ⟨b2, off2 + k, none⟩ by rw [hm]; rfl).trans (hc2 k _ (intVals_get hsk))
      have HM := hid hm
      clear hsk hc1 hc2 hm
      go_wp2
      go_quiet (fail)
      go_wp2
      go_roundw
      case rel => exact ⟨k + 1, by omega, by go_num, m + nq, by rw [HM.out, World.drewN_drewN]⟩
      case measure => simp [intOf]; omega
    · have HM := hid hm
      clear hm
      go_wp2
      go_ret
      exact ⟨rfl, m, HM.out⟩

set_option maxHeartbeats 1000000 in
theorem sameInts_c (a b : Option Addr) (n c d : Nat) (xs : List Int) (w : World) (ha : RowAt w a n (intVals xs)) (hb : RowAt w b n (intVals xs)) :
    Calls Try.prog 18 #[.slice a n c, .slice b n d] w fun e w' => e = .returned (.bool true) ∧ Below w.heap.size w w' := by
  obtain ⟨hl, hlim, hat⟩ := ha
  obtain ⟨_, _, hbt⟩ := hb
  have hlen := hid (show xs.length = n by simpa [intVals] using hl)
  clear hl
  by_cases hn : n = 0
  · subst hn
    clear hat hbt
    go_enter Try.func18, Try.ntmps18
    go_wp2
    refine wp_loop_rounds 1 ?_
    rw [rounds_succ]
    go_wp2
    go_ret
    exact ⟨rfl, Below.refl _ _⟩
  · obtain ⟨b1, off1, rfl, hb1, hc1⟩ := hat (by omega)
    obtain ⟨b2, off2, rfl, hb2, hc2⟩ := hbt (by omega)
    clear hat hbt
    have HC1 := hid hc1
    have HC2 := hid hc2
    clear hc1 hc2
    go_enter Try.func18, Try.ntmps18
    go_wp2
    go_loopw [5] (fun i wr => ∃ k : Nat, k ≤ n ∧ i = .int .i64 k ∧ Below w.heap.size w wr) (fun i _ => n - (intOf i).toNat)
    case atStart => exact ⟨0, by omega, rfl, Below.refl _ _⟩
    case round =>
      obtain ⟨k, hk, rfl, hbel⟩ := hrel
      by_cases hlt : k < n
      · obtain ⟨s, hsk⟩ := get_some (l := xs) (n := k) (by rw [hlen.out]; exact hlt)
        have hcell1 := (hbel.cell (p := ⟨b1, off1 + k, none⟩) hb1).trans (HC1.out k _ (intVals_get hsk))
        have hcell2 := (hbel.cell (p := ⟨b2, off2 + k, none⟩) hb2).trans (HC2.out k _ (intVals_get hsk))
        clear hsk
        go_wp2
        go_quiet (fail)
        go_wp2
        go_roundw
        case rel => exact ⟨k + 1, by omega, by go_num, below_drewN hbel _⟩
        case measure => simp [intOf]; omega
      · go_wp2
        go_ret
        exact ⟨rfl, hbel⟩

end Go.Proofs.Ytcmmlldincflkaa
