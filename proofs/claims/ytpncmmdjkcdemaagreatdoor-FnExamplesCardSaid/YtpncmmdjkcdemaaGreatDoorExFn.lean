/- What the law of examples draws and compares. Conditions: what is read lies in memory. -/
import Derived.Test.YtpncmmdjkcdemaaGreatDoorDraw2
import Derived.Test.YtpncmmdjkcdemaaGreatDoorLab
import Derived.Test.YtpncmmdjkcdemaaGreatDoorSame
import Derived.Test.YtpncmmdjkcdemaaGreatDoorExSh
namespace Go.Proofs.YtpncmmdjkcdemaaGreatDoor
open Go.RowKit

theorem below_drewE {W w w1 : World} {g : Nat} {a : Option Addr} {n c : Nat} {bs : List UInt8} (hb : Below W.heap.size W w) (hd : Drew W w w1 g a n c bs) : Below W.heap.size W w1 := by
  obtain ⟨⟨i, k, x⟩, hg⟩ := hd
  exact hb.grown hg hb.size (by rintro q ⟨⟩; exact x.lo)
set_option maxHeartbeats 1000000 in
theorem DrawExampleMatrix_c (a : Option Addr) (n c : Nat) (bs : List UInt8) (w : World) (hr : RowAt w a n (byteVals bs)) :
    Calls Tryz.prog 5 #[.slice a n c] w fun e w' => ∃ t : Int, e = .returned (.int .i64 t) ∧ (-1 ≤ t ∧ t ≤ 20) ∧ Below w.heap.size w w' := by
  have HN := hid (l1New_c a n c bs w hr)
  clear hr
  go_enter Tryz.func5, Tryz.ntmps5
  go_wp2_with fail
  refine HN.out.mono ?_
  rintro e w1 ⟨g, rfl, hc, hb1⟩
  have HL := hid (l1Below_c w w1 g a n c bs 11 hc (by omega) (by omega))
  have HB := hid hb1
  clear hc hb1 HN
  go_wp2_with fail
  refine HL.out.mono ?_
  rintro e w2 ⟨x, rfl, hx, hd⟩
  have HX := hid (below_drewE HB.out hd)
  clear hd HL
  go_wp2
  go_ret
  exact ⟨(x : Int) - 1, rfl, by omega, HX.out⟩
set_option maxHeartbeats 1000000 in
theorem DrawExampleShift_c (a : Option Addr) (n c : Nat) (bs : List UInt8) (w : World) (hr : RowAt w a n (byteVals bs)) :
    Calls Tryz.prog 8 #[.slice a n c] w fun e w' => ∃ t : Int, e = .returned (.int .i64 t) ∧ (-1 ≤ t ∧ t ≤ 20) ∧ Below w.heap.size w w' := by
  have HN := hid (l1New_c a n c bs w hr)
  clear hr
  go_enter Tryz.func8, Tryz.ntmps8
  go_wp2_with fail
  refine HN.out.mono ?_
  rintro e w1 ⟨g, rfl, hc, hb1⟩
  have HL := hid (l1Below_c w w1 g a n c bs 9 hc (by omega) (by omega))
  have HB := hid hb1
  clear hc hb1 HN
  go_wp2_with fail
  refine HL.out.mono ?_
  rintro e w2 ⟨x, rfl, hx, hd⟩
  have HX := hid (below_drewE HB.out hd)
  clear hd HL
  go_wp2
  go_ret
  exact ⟨(x : Int) - 1, rfl, by omega, HX.out⟩
set_option maxHeartbeats 1000000 in
theorem DrawExampleLabels_c (a : Option Addr) (n c : Nat) (bs : List UInt8) (w : World) (hr : RowAt w a n (byteVals bs)) :
    Calls Tryz.prog 11 #[.slice a n c] w fun e w' => ∃ t : Int, e = .returned (.int .i64 t) ∧ (-1 ≤ t ∧ t ≤ 20) ∧ Below w.heap.size w w' := by
  have HN := hid (l1New_c a n c bs w hr)
  clear hr
  go_enter Tryz.func11, Tryz.ntmps11
  go_wp2_with fail
  refine HN.out.mono ?_
  rintro e w1 ⟨g, rfl, hc, hb1⟩
  have HL := hid (l1Below_c w w1 g a n c bs 6 hc (by omega) (by omega))
  have HB := hid hb1
  clear hc hb1 HN
  go_wp2_with fail
  refine HL.out.mono ?_
  rintro e w2 ⟨x, rfl, hx, hd⟩
  have HX := hid (below_drewE HB.out hd)
  clear hd HL
  go_wp2
  go_ret
  exact ⟨(x : Int) - 1, rfl, by omega, HX.out⟩
set_option maxHeartbeats 1000000 in
theorem DrawExampleSubst_c (a : Option Addr) (n c : Nat) (bs : List UInt8) (w : World) (hr : RowAt w a n (byteVals bs)) :
    Calls Tryz.prog 14 #[.slice a n c] w fun e w' => ∃ t : Int, e = .returned (.int .i64 t) ∧ (-1 ≤ t ∧ t ≤ 20) ∧ Below w.heap.size w w' := by
  have HN := hid (l1New_c a n c bs w hr)
  clear hr
  go_enter Tryz.func14, Tryz.ntmps14
  go_wp2_with fail
  refine HN.out.mono ?_
  rintro e w1 ⟨g, rfl, hc, hb1⟩
  have HL := hid (l1Below_c w w1 g a n c bs 7 hc (by omega) (by omega))
  have HB := hid hb1
  clear hc hb1 HN
  go_wp2_with fail
  refine HL.out.mono ?_
  rintro e w2 ⟨x, rfl, hx, hd⟩
  have HX := hid (below_drewE HB.out hd)
  clear hd HL
  go_wp2
  go_ret
  exact ⟨(x : Int) - 1, rfl, by omega, HX.out⟩
set_option maxHeartbeats 1000000 in
theorem sameShift_c (l : Int) (a b : Option Addr) (n c d : Nat) (ss : List ByteArray) (w : World) (ha : RowAt w a n (strVals ss)) (hb : RowAt w b n (strVals ss)) :
    Calls Tryz.prog 18 #[.agg #[.int .i64 l, .slice a n c], .agg #[.int .i64 l, .slice b n d]] w fun e w' => e = .returned (.bool true) ∧ Below w.heap.size w w' := by
  have HE := hid (fun (V : World) (hV : Below w.heap.size w V) => sameTexts_c a b n c d ss V (ha.below hV (Nat.le_refl _)) (hb.below hV (Nat.le_refl _)))
  clear ha hb
  have hB : Below w.heap.size w ((w.alloc (.cells #[.int .i64 l, .slice a n c] 30)).alloc (.cells #[.int .i64 l, .slice b n d] 30)) := ((Below.refl _ _).alloc (Nat.le_refl _) _).alloc (by simp) _
  go_enter Tryz.func18, Tryz.ntmps18
  go_wp2_with fail
  refine (HE.out _ hB).mono ?_
  rintro e w1 ⟨rfl, hb1⟩
  go_wp2
  go_ret
  exact ⟨rfl, hB.trans (hb1.mono hB.size)⟩
theorem IsShift_zero (a : Option Addr) (c : Nat) (w : World) : Calls Tryz.prog 22 #[.agg #[.int .i64 0, .slice a 0 c]] w fun e w' => e = .returned (.bool false) ∧ Below w.heap.size w w' := by
  have HK := hid (fun w => l1In_c 0 1 3 w)
  rw [show inB 0 1 3 = false from by decide] at HK
  go_enter Tryz.func22, Tryz.ntmps22
  go_wp2
  refine wp_loop_rounds 1 ?_
  rw [rounds_succ]
  go_wp2_with (first | (go_at_call 34; refine (HK.out _).mono ?_; rintro e w' ⟨rfl, rfl⟩))
  go_ret
  exact ⟨rfl, (Below.refl _ _).alloc (Nat.le_refl _) _⟩
set_option maxHeartbeats 2000000 in
theorem sameLabels_c (x y : Int) (a b : Option Addr) (n c d : Nat) (xs : List Int) (w : World) (hn : n ≤ 1000000) (ha : RowAt w a (n * 3) (intVals xs)) (hb : RowAt w b (n * 3) (intVals xs)) :
    Calls Tryz.prog 19 #[.agg #[.int .i64 x, .int .i64 y, .slice a n c], .agg #[.int .i64 x, .int .i64 y, .slice b n d]] w fun e w' => e = .returned (.bool true) ∧ Below w.heap.size w w' := by
  obtain ⟨W2, hW2⟩ : ∃ W2, W2 = (w.alloc (.cells #[.int .i64 x, .int .i64 y, .slice a n c] 35)).alloc (.cells #[.int .i64 x, .int .i64 y, .slice b n d] 35) := ⟨_, rfl⟩
  have hB : Below w.heap.size w W2 := by rw [hW2]; exact ((Below.refl _ _).alloc (Nat.le_refl _) _).alloc (by simp) _
  obtain ⟨hl, hlim, hat⟩ := ha.below hB (Nat.le_refl _)
  obtain ⟨_, _, hbt⟩ := hb.below hB (Nat.le_refl _)
  have hlen := hid (show xs.length = n * 3 by simpa [intVals] using hl)
  have HA := hid hat
  have HBT := hid hbt
  have HB := hid hB
  have hx2 : W2.cell? ⟨w.heap.size, 2, none⟩ = some (.slice a n c) := by
    rw [hW2, World.cell?_alloc_old _ _ _ (by simp)]
    exact World.cell?_alloc_at _ _ _ _ rfl
  have hy2 : W2.cell? ⟨w.heap.size + 1, 2, none⟩ = some (.slice b n d) := by
    rw [hW2]
    exact World.cell?_alloc_at _ _ _ _ (by simp)
  have HX2 := hid hx2
  have HY2 := hid hy2
  clear ha hb hl hlim hat hbt hB hx2 hy2
  go_enter Tryz.func19, Tryz.ntmps19
  go_wp2
  rw [← hW2]
  have HW := hid hW2
  clear hW2
  go_loopw [5] (fun i wr => ∃ k : Nat, k ≤ n ∧ i = .int .i64 k ∧ ∃ m, wr = W2.drewN m) (fun i _ => n - (intOf i).toNat)
  case atStart => exact ⟨0, by omega, rfl, 0, rfl⟩
  case round =>
    obtain ⟨k, hk, rfl, m, hm⟩ := hrel
    have p2 := (show wr.cell? ⟨w.heap.size, 2, none⟩ = W2.cell? ⟨w.heap.size, 2, none⟩ by rw [hm]; rfl).trans HX2.out
    have r2 := (show wr.cell? ⟨w.heap.size + 1, 2, none⟩ = W2.cell? ⟨w.heap.size + 1, 2, none⟩ by rw [hm]; rfl).trans HY2.out
    by_cases hlt : k < n
    · obtain ⟨b1, off1, rfl, hb1, hc1⟩ := HA.out (by omega)
      obtain ⟨b2, off2, rfl, hb2, hc2⟩ := HBT.out (by omega)
      obtain ⟨f, g, h, h1, hf, hg, hh⟩ := row3 hc1 hlen.out hlt
      obtain ⟨f', g', h', h2, hf', hg', hh'⟩ := row3 hc2 hlen.out hlt
      obtain rfl : f = f' := Option.some.inj (hf.symm.trans hf')
      obtain rfl : g = g' := Option.some.inj (hg.symm.trans hg')
      obtain rfl : h = h' := Option.some.inj (hh.symm.trans hh')
      have hbm : Below W2.heap.size W2 wr := by rw [hm]; exact below_drewN (Below.refl _ _) m
      obtain ⟨e0, e1, e2⟩ := h1.below hbm hb1
      obtain ⟨g0, g1, g2⟩ := h2.below hbm hb2
      have HM := hid hm
      clear hc1 hc2 h1 h2 hf hf' hg hg' hh hh' hm hbm
      go_wp2
      go_quiet (fail)
      go_wp2
      go_roundw
      case rel => exact ⟨k + 1, by omega, by go_num, m + nq, by rw [HM.out, World.drewN_drewN]⟩
      case measure => simp [intOf] <;> omega
    · have HM := hid hm
      clear hm
      go_wp2
      go_ret
      exact ⟨rfl, by rw [HM.out]; exact below_drewN HB.out m⟩
end Go.Proofs.YtpncmmdjkcdemaaGreatDoor
