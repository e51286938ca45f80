/- Shifts compared, marked and held by the laws, their words lying anywhere in a block. Conditions: sizes of at most 1000 words. -/
import Derived.Test.YtpncmmdjkcdemaaDoorExSh
namespace Go.Proofs.YtpncmmdjkcdemaaDoor
open Go.RowKit

theorem sh_box {w wr : World} {k : Int} {v : Value} {T : TypeId} (h : Below (w.alloc (.cells #[.int .i64 k, v] T)).heap.size (w.alloc (.cells #[.int .i64 k, v] T)) wr) :
    wr.cell? ⟨w.heap.size, 0, none⟩ = some (.int .i64 k) ∧ wr.cell? ⟨w.heap.size, 1, none⟩ = some v ∧ wr.frozen? ⟨w.heap.size, 0, none⟩ = false ∧ wr.frozen? ⟨w.heap.size, 1, none⟩ = false ∧ w.heap.size < wr.heap.size ∧ Below w.heap.size w wr := by
  obtain ⟨h1, h2, h3, h4⟩ := boxS h
  exact ⟨(h1 0).trans rfl, (h1 1).trans rfl, h2 0, h2 1, h3, h4⟩
/-- The block that a mark may change. -/
def blkN (a : Option Addr) (n : Nat) : Option Nat := if n = 0 then none else a.map (·.block)
theorem OffRow.set {w : World} {base n g off j : Nat} {xs : List Value} (h : OffRow w base (some ⟨g, off, none⟩) n xs) (hj : j < n) (v : Value) : OffRow (w.setCell ⟨g, off + j, none⟩ v) base (some ⟨g, off, none⟩) n (xs.set j v) ∧ w.grownBy (w.setCell ⟨g, off + j, none⟩ v) (some g) := by
  obtain ⟨g', off', ha, h1, hg, hc, hf⟩ := h.at_ (by omega)
  injection ha with ha
  injection ha with ha1 ha2
  subst ha1 ha2
  refine ⟨⟨by rw [List.length_set]; exact h.len, h.lim, fun _ => ⟨g, off, rfl, h1, by simpa using hg, fun i x hx => ?_, fun i => ?_⟩⟩, rfl, rfl, rfl, by simp, fun p hq hr => Below.heap_setCell _ _ _ _ (fun e => hr (by rw [show p = g from e]))⟩
  · rw [List.getElem?_set] at hx
    split at hx
    · rename_i hij
      subst hij
      split at hx
      · injection hx with hx
        subst hx
        obtain ⟨u, hu⟩ := get_some (l := xs) (n := j) (by rw [h.len]; exact hj)
        exact World.cell?_setCell_same _ _ _ (hc j u hu)
      · cases hx
    · rename_i hij
      rw [World.cell?_setCell_other _ _ _ _ (fun e => by injection e with e1 e2; omega)]
      exact hc i x hx
  · rw [World.frozen?_setCell]
    exact hf i
set_option maxHeartbeats 1000000 in
theorem markStringS_off (base : Nat) (a : Option Addr) (n c k : Nat) (xs : List Value) (w : World) (h : OffRow w base a n xs) (hk : 0 < k ∧ k ≤ 1000000) :
    Calls Tryd.prog 24 #[.slice a n c, .int .i64 k] w fun e w' => e = .returned (.int .i64 ((k + n : Nat) : Int)) ∧ OffRow w' base a n (strVals (smarks k n)) ∧ w.grownBy w' (blkN a n) := by
  have hlen := h.len
  have hlim := h.lim
  by_cases hn : n = 0
  · subst hn
    have hx : xs = [] := List.eq_nil_of_length_eq_zero hlen
    subst hx
    have HH := hid h
    clear h hlen
    go_enter Tryd.func24, Tryd.ntmps24
    go_wp2
    refine wp_loop_rounds 1 ?_
    rw [rounds_succ]
    go_wp2
    go_ret
    exact ⟨rfl, HH.out, World.grownBy.refl _ _⟩
  · obtain ⟨g, off, rfl, hbg, hg, hc, hf⟩ := h.at_ (by omega)
    have HH := hid h
    have HXL := hid hlen
    have HBK := hid (show blkN (some ⟨g, off, none⟩) n = some g by unfold blkN; rw [if_neg hn]; rfl)
    clear h hc hf hlen
    go_enter Tryd.func24, Tryd.ntmps24
    go_wp2
    go_loopw [1, 5] (fun m i wr => ∃ j : Nat, j ≤ n ∧ i = .int .i64 j ∧ m = .int .i64 ((k + j : Nat) : Int) ∧ Hid (OffRow wr base (some ⟨g, off, none⟩) n (marked (strVals (smarks k n)) xs j)) ∧ Hid (w.grownBy wr (some g))) (fun _ i _ => n - (intOf i).toNat)
    case atStart => exact ⟨0, by omega, rfl, rfl, hid (by rw [marked_zero]; exact HH.out), hid (World.grownBy.refl _ _)⟩
    case round =>
      obtain ⟨j, hj, rfl, rfl, HO, HG⟩ := hrel
      by_cases hlt : j < n
      · obtain ⟨g', off', ha, h1, hg2, hc, hf⟩ := HO.out.at_ (by omega)
        injection ha with ha
        injection ha with ha1 ha2
        subst ha1 ha2
        obtain ⟨u, hu⟩ := get_some (l := marked (strVals (smarks k n)) xs j) (n := j) (by rw [HO.out.len]; omega)
        have hcell := hc j u hu
        have hfr := hf j
        clear hu hc hf
        have hsum : ((k + j : Nat) : Int) = (k : Int) + j := by omega
        go_wp2_with fail
        refine (markText_c (k + j) _ (by omega) (by omega)).mono ?_
        rintro e w1 ⟨rfl, hb⟩
        have hcell1 := (hb.cell (p := ⟨g, off + j, none⟩) hg2).trans hcell
        have hfr1 := (hb.frozen (p := ⟨g, off + j, none⟩) hg2).trans hfr
        have HST := hid ((HO.out.below hb).set hlt (.string (mText (k + j))))
        have HGB := hid (below_grown hb (some g))
        clear hb
        go_wp2
        go_roundw
        case rel =>
          have hst := HST.out
          rw [marked_step (xs := xs) (ms := strVals (smarks k n)) (n := n) (u := .string (mText (k + j))) HXL.out (smarks_len k n) hlt (smarks_get hlt)] at hst
          exact ⟨j + 1, by omega, by go_num, by go_num, hid hst.1, hid (grown_trans (grown_trans HG.out HGB.out) hst.2)⟩
        case measure => simp [intOf] <;> omega
      · obtain rfl : j = n := by omega
        have ho := HO.out
        rw [marked_all HXL.out (smarks_len k j)] at ho
        have HO2 := hid ho
        clear ho
        go_wp2
        go_ret
        exact ⟨rfl, HO2.out, by rw [HBK.out]; exact HG.out⟩
set_option maxHeartbeats 1000000 in
theorem markShift_c (base : Nat) (l : Int) (a : Option Addr) (n c k : Nat) (xs : List Value) (w : World) (h : OffRow w base a n xs) (hk : 0 < k ∧ k ≤ 1000000) :
    Calls Tryd.prog 9 #[.agg #[.int .i64 l, .slice a n c], .int .i64 k] w fun e w' => e = .returned (.int .i64 ((k + n : Nat) : Int)) ∧ OffRow w' base a n (strVals (smarks k n)) ∧ w.grownBy w' (blkN a n) := by
  have HM := hid (markStringS_off base a n c k xs (w.alloc (.cells #[.int .i64 l, .slice a n c] 24)) (h.below ((Below.refl _ _).alloc (Nat.le_refl _) _)) hk)
  have HG := hid (World.grownBy_alloc w (.cells #[.int .i64 l, .slice a n c] 24) (blkN a n))
  clear h
  go_enter Tryd.func9, Tryd.ntmps9
  go_wp2_with fail
  refine HM.out.mono ?_
  rintro e w1 ⟨rfl, ho, hg⟩
  have HO := hid ho
  have HG2 := hid (grown_trans HG.out hg)
  clear ho hg
  go_wp2
  go_ret
  exact ⟨rfl, HO.out, HG2.out⟩
set_option maxHeartbeats 1000000 in
theorem heldShift_c (l : Int) (a : Option Addr) (n c k : Nat) (w : World) (h : RowAt w a n (strVals (smarks k n))) (hk : 0 < k ∧ k ≤ 1000000) (hn : n ≤ 1000) :
    Calls Tryd.prog 10 #[.agg #[.int .i64 l, .slice a n c], .int .i64 k] w fun e w' => e = .returned (.int .i64 ((k + n : Nat) : Int)) ∧ Below w.heap.size w w' := by
  have hB := (Below.refl w.heap.size w).alloc (Nat.le_refl _) (.cells #[.int .i64 l, .slice a n c] 24)
  have HM := hid (heldStringS_c a n c k _ (h.below hB (Nat.le_refl _)) (by omega))
  have HB := hid hB
  have hlt : ¬ (((k + n : Nat) : Int) < 0) := by omega
  clear h hB
  go_enter Tryd.func10, Tryd.ntmps10
  go_wp2_with fail
  refine HM.out.mono ?_
  rintro e w1 ⟨rfl, hb⟩
  have HB2 := hid (HB.out.trans (hb.mono (by simp)))
  clear hb
  go_wp2
  go_ret
  exact ⟨rfl, HB2.out⟩
set_option maxHeartbeats 1000000 in
theorem eqShiftS_c (l : Int) (a b : Option Addr) (n c d : Nat) (ss : List ByteArray) (w : World) (ha : RowAt w a n (strVals ss)) (hb : RowAt w b n (strVals ss)) :
    Calls Tryd.prog 8 #[.agg #[.int .i64 l, .slice a n c], .agg #[.int .i64 l, .slice b n d]] w fun e w' => e = .returned (.bool true) ∧ Below w.heap.size w w' := by
  have HE := hid (fun (V : World) (hV : Below w.heap.size w V) => eqStringS_c a b n c d ss V (ha.below hV (Nat.le_refl _)) (hb.below hV (Nat.le_refl _)))
  clear ha hb
  have hB : Below w.heap.size w ((w.alloc (.cells #[.int .i64 l, .slice a n c] 24)).alloc (.cells #[.int .i64 l, .slice b n d] 24)) := ((Below.refl _ _).alloc (Nat.le_refl _) _).alloc (by simp) _
  go_enter Tryd.func8, Tryd.ntmps8
  go_wp2_with fail
  refine (HE.out _ hB).mono ?_
  rintro e w1 ⟨rfl, hb1⟩
  go_wp2
  go_ret
  exact ⟨rfl, hB.trans (hb1.mono hB.size)⟩
end Go.Proofs.YtpncmmdjkcdemaaDoor
