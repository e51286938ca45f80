import Derived.Test.YtpncmmdjkcdemaaDoorLaw
import Derived.Deep.RegionHeld3
namespace Go.Proofs.YtpncmmdjkcdemaaDoor
open Go.RowKit

def digB (k : Nat) : UInt8 := UInt8.ofNat (48 + k % 10)
theorem digB_nat (k : Nat) : ((digB k).toNat : Int) = 48 + (k : Int) % 10 := by unfold digB; simp [UInt8.toNat_ofNat']; omega
def mtLoop (k : Nat) (out : ByteArray) : ByteArray := if h : k = 0 then out else mtLoop (k / 10) (⟨#[digB k]⟩ ++ out)
termination_by k
decreasing_by omega
def mText (k : Nat) : ByteArray := ⟨#[109]⟩ ++ mtLoop k ByteArray.empty

set_option maxHeartbeats 1000000 in
theorem markText_c (k : Nat) (w : World) (hk : k ≤ 281474976710656) (hk0 : 0 < k) :
    Calls Tryd.prog 39 #[.int .i64 k] w fun e w' => e = .returned (.string (mText k)) ∧ Below w.heap.size w w' := by
  have hk1 : decide (k = 0) = false := by simp; omega
  go_enter Tryd.func39, Tryd.ntmps39
  go_wp2
  go_loopw [0, 3] (fun m o wr => ∃ (j : Nat) (out : ByteArray), m = .int .i64 j ∧ o = .string out ∧ out.size + j ≤ k ∧ Below w.heap.size w wr ∧ Hid (mtLoop k ByteArray.empty = mtLoop j out)) (fun m _ _ => (intOf m).toNat)
  case atStart => exact ⟨k, ByteArray.empty, rfl, rfl, by simp, Below.refl _ _, rfl⟩
  case round =>
    obtain ⟨j, out, rfl, rfl, hs, hbel, H⟩ := hrel
    by_cases hlt : 0 < j
    · go_wp2_with (with_reducible refine wpList_convs rfl _ 69 9 5 rfl Tryd.underlying69 Tryd.underlying5 Tryd.underlying9 _ 1 1 [digB j] rfl (rowAt_byte1 _ _ _ _ (digB_nat j)) ?_)
      go_roundw
      case rel => exact ⟨j / 10, _, by go_num, rfl, by (rw [ByteArray.size_append, show (ByteArray.mk #[digB j]).size = 1 from rfl]; omega), hbel.alloc hbel.size _, by show _ = _; rw [H.out, mtLoop, dif_neg (by omega)]⟩
      case measure => simp [intOf]; omega
    · obtain rfl : j = 0 := by omega
      go_wp2
      go_ret
      exact ⟨ret_str (by rw [mText, H.out, mtLoop, dif_pos rfl]), hbel⟩

def smarks (k n : Nat) : List ByteArray := (List.range n).map fun i => mText (k + i)
theorem smarks_len (k n : Nat) : (strVals (smarks k n)).length = n := by simp [smarks, strVals]
theorem smarks_get {k n i : Nat} (h : i < n) : (strVals (smarks k n))[i]? = some (.string (mText (k + i))) := by simp [smarks, strVals, h]

set_option maxHeartbeats 1000000 in
theorem markStringS_c (base : Nat) (v : Value) (n k : Nat) (xs : List Value) (w : World) (ho : w.ownsRow base 9 1 v n xs) (hk : 0 < k ∧ k ≤ 140737488355328) (hlim : n ≤ 140737488355328) :
    Calls Tryd.prog 24 #[v, .int .i64 k] w fun e w' => e = .returned (.int .i64 ((k + n : Nat) : Int)) ∧ w'.ownsRow base 9 1 v n (strVals (smarks k n)) ∧ w.grownBy w' v.ownBlock := by
  have hxl := hid ho.1
  rcases hid ho.2 with ⟨rfl, rfl⟩ | ⟨g, cap, cur, rfl, hbg, hg, hnc, hcm, hcs, htake⟩
  · go_enter Tryd.func24, Tryd.ntmps24
    go_wp2
    refine wp_loop_rounds 1 ?_
    rw [rounds_succ]
    go_wp2
    go_ret
    exact ⟨rfl, World.ownsRow_nil _ _ _ _, World.grownBy.refl _ _⟩
  · clear hg hcs htake hcm
    go_enter Tryd.func24, Tryd.ntmps24
    go_wp2
    go_loopw [1, 5] (fun m i wr => ∃ j : Nat, j ≤ n ∧ i = .int .i64 j ∧ m = .int .i64 ((k + j : Nat) : Int) ∧ wr.ownsRow base 9 1 (.slice (some ⟨g, 0, none⟩) n cap) n (marked (strVals (smarks k n)) xs j) ∧ w.grownBy wr (some g)) (fun _ i _ => n - (intOf i).toNat)
    case atStart => exact ⟨0, by omega, rfl, rfl, by rw [marked_zero]; exact ho, World.grownBy.refl _ _⟩
    case round =>
      obtain ⟨j, hj, rfl, rfl, hown, hgr⟩ := hrel
      by_cases hlt : j < n
      · obtain ⟨u, hu⟩ := get_some (l := marked (strVals (smarks k n)) xs j) (n := j) (by rw [hown.1]; omega)
        have hcell : wr.cell? ⟨g, j, none⟩ = some u := (hown.cellAt j (by omega)).trans hu
        clear hu
        have hgs : g < wr.heap.size := World.block_lt_of_cell? wr _ hcell
        have hfr := hown.frozenAt j
        have hsum : ((k + j : Nat) : Int) = (k : Int) + j := by omega
        go_wp2_with fail
        refine (markText_c (k + j) _ (by omega) (by omega)).mono ?_
        rintro e w1 ⟨rfl, hb⟩
        have hcell1 := (hb.cell (p := ⟨g, j, none⟩) hgs).trans hcell
        have hfr1 := (hb.frozen (p := ⟨g, j, none⟩) hgs).trans hfr
        go_wp2
        go_roundw
        case rel =>
          have hst := (owns_below hown hb).stored j (.string (mText (k + j)))
          rw [marked_step (xs := xs) (ms := strVals (smarks k n)) (n := n) (u := .string (mText (k + j))) (by have := hxl.out; omega) (smarks_len k n) hlt (smarks_get hlt)] at hst
          exact ⟨j + 1, by omega, by go_num, by go_num, hst.1, grown_trans (grown_trans hgr (below_grown hb _)) hst.2⟩
        case measure => simp [intOf]; omega
      · obtain rfl : j = n := by omega
        go_wp2
        go_ret
        exact ⟨rfl, by rw [← marked_all (xs := xs) (ms := strVals (smarks k j)) (by have := hxl.out; omega) (smarks_len k j)]; exact hown, hgr⟩

set_option maxHeartbeats 1000000 in
theorem heldStringS_c (a : Option Addr) (n c k : Nat) (w : World) (hr : RowAt w a n (strVals (smarks k n))) (hk : 0 < k ∧ k ≤ 140737488355328) :
    Calls Tryd.prog 25 #[.slice a n c, .int .i64 k] w fun e w' => e = .returned (.int .i64 ((k + n : Nat) : Int)) ∧ Below w.heap.size w w' := by
  obtain ⟨_, hlim, hat⟩ := hr
  by_cases hn : n = 0
  · subst hn
    clear hat
    go_enter Tryd.func25, Tryd.ntmps25
    go_wp2
    refine wp_loop_rounds 1 ?_
    rw [rounds_succ]
    go_wp2
    go_ret
    exact ⟨rfl, Below.refl _ _⟩
  · obtain ⟨b1, off1, rfl, hb1, hc1⟩ := hat (by omega)
    clear hat
    have HC1 := hid hc1
    clear hc1
    go_enter Tryd.func25, Tryd.ntmps25
    go_wp2
    go_loopw [1, 5] (fun m i wr => ∃ j : Nat, j ≤ n ∧ i = .int .i64 j ∧ m = .int .i64 ((k + j : Nat) : Int) ∧ Below w.heap.size w wr) (fun _ i _ => n - (intOf i).toNat)
    case atStart => exact ⟨0, by omega, rfl, rfl, Below.refl _ _⟩
    case round =>
      obtain ⟨j, hk, rfl, rfl, hbel⟩ := hrel
      by_cases hlt : j < n
      · have hcell1 := (hbel.cell (p := ⟨b1, off1 + j, none⟩) hb1).trans (HC1.out j _ (smarks_get hlt))
        have hsum : ((k + j : Nat) : Int) = (k : Int) + j := by omega
        go_wp2_with fail
        go_region_held3 (fun W => W.cell? ⟨b1, off1 + j, none⟩ = some (.string (mText (k + j))) ∧ Below w.heap.size w W)
          (first | exact ⟨hcell1, hbel.drew⟩ | exact ⟨(hb.cell (p := ⟨b1, off1 + j, none⟩) (Nat.lt_of_lt_of_le hb1 hbel.size)).trans hcell1, hbel.drew.trans (hb.mono hbel.size)⟩)
          (first | (go_at_call 39; refine (markText_c (k + j) _ (by omega) (by omega)).mono ?_; rintro e w1 ⟨rfl, hb⟩))
        all_goals
          have hS : Below w.heap.size w _ := (by assumption : _ ∧ _).2
          go_wp2
          go_roundw
          case rel => exact ⟨j + 1, by omega, by go_num, by go_num, hS⟩
          case measure => simp [intOf]; omega
      · obtain rfl : j = n := by omega
        go_wp2
        go_ret
        exact ⟨rfl, hbel⟩

theorem infoStr : (Tryd.prog.info? 9).map (fun i => (i.zero, i.size, i.bytes)) = some (some (.string ByteArray.empty), 1, 16) := by kernel_rfl

