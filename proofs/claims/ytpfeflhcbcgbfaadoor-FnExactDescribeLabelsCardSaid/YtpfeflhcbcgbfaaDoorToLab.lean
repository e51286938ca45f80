/- Labelled graphs that came in: copied. Conditions: the arcs lie in memory. -/
import Derived.Deep.Slices
import Derived.Deep.Strs
import Derived.Test.YtpfeflhcbcgbfaaDoorSrch
import Derived.Test.YtpfeflhcbcgbfaaDoorLabP
import Derived.Test.YtpfeflhcbcgbfaaDoorRunL
import Derived.Test.YtpfeflhcbcgbfaaDoorBoxC
import Derived.Test.YtpfeflhcbcgbfaaDoorTrimC
import Derived.Test.YtpfeflhcbcgbfaaDoorLab
namespace Go.Proofs.YtpfeflhcbcgbfaaDoor
open Go.ChangeShapes Go.WideShapes Go.ChangeAt Go.RowKit
open Go.ChangeMaps (open_string shut_string)

/-- A labelled graph that came in. -/
def LabIn (W : World) (v : Value) : Prop := ∃ L S a c A, v = .agg #[.int .i64 L, .int .i64 S, .slice a A.length c] ∧ RowAt W a (A.length * 3) (arcVals A)
theorem arcVals_ints (A : List (Int × Int × Int)) : arcVals A = intVals (A.flatMap fun a => [a.1, a.2.1, a.2.2]) := by
  induction A with
  | nil => rfl
  | cons p ys ih =>
    simp only [arcVals, List.flatMap_cons, intVals, List.map_append] at ih ⊢
    rw [ih]
    rfl
theorem plain_ofL {W : World} {a : Addr} {v : Value} (h : W.cell? (a.add 0) = some v) : ∃ b off, a = ⟨b, off, none⟩ ∧ b < W.heap.size := by
  obtain ⟨b, off, spot⟩ := a
  have hspot : spot = none := by simpa [Addr.add] using World.cell?_spot h
  subst hspot
  exact ⟨b, off, rfl, by have := World.block_lt_of_cell? W _ h; simpa [Addr.add] using this⟩
/-- The cells of arcs, one by one. -/
theorem arcVals_at (f : Nat → Int × Int × Int) (n k : Nat) (x : Value) (h : (arcVals ((List.range n).map f))[k]? = some x) : ∃ i j, k = i * 3 + j ∧ j < 3 ∧ i < n ∧ x = .int .i64 (if j = 0 then (f i).1 else if j = 1 then (f i).2.1 else (f i).2.2) := by
  have hk := (List.getElem?_eq_some_iff.1 h).1
  rw [arcVals_len, List.length_map, List.length_range] at hk
  have hi : k / 3 < n := by omega
  have hg : ((List.range n).map f)[k / 3]? = some (f (k / 3)) := by simp [hi]
  obtain ⟨h0, h1, h2⟩ := arcVals_get hg
  refine ⟨k / 3, k % 3, by omega, by omega, hi, ?_⟩
  rcases (by omega : k % 3 = 0 ∨ k % 3 = 1 ∨ k % 3 = 2) with e | e | e
  · rw [show k / 3 * 3 = k by omega, h] at h0
    injection h0 with h0
    rw [h0, if_pos e]
  · rw [show k / 3 * 3 + 1 = k by omega, h] at h1
    injection h1 with h1
    rw [h1, if_neg (by omega), if_pos e]
  · rw [show k / 3 * 3 + 2 = k by omega, h] at h2
    injection h2 with h2
    rw [h2, if_neg (by omega), if_neg (by omega)]
theorem cellsLawLab : Tryd.prog.cellsOf 24 = 3 := by kernel_rfl
theorem cellsLawArc : Tryd.prog.cellsOf 67 = 3 := by kernel_rfl
theorem bytesLawArc : Tryd.prog.bytesOf 67 = 24 := by kernel_rfl
theorem cellsIntL : Tryd.prog.cellsOf 3 = 1 := by kernel_rfl
set_option maxRecDepth 100000 in
theorem arc_in {H : Type} {enc : TypeId × Value → H} {W : World} {cs : List Value} {fuel : Nat} {y : DataW H × List MemPlace}
    (hf : DataW.trod enc Tryd.prog W 0 (fun _ => true) true fuel 67 cs = some y) : ∃ x : Int × Int × Int, cs = [.int .i64 x.1, .int .i64 x.2.1, .int .i64 x.2.2] := by
  obtain ⟨e0, e1, e2, n2, _, hl, j0, j1, j2⟩ := Go.Deep.trod_struct3 Tryd.underlying67 hf
  rw [cellsLawArc] at hl
  match cs, hl with
  | [c0, c1, c2], _ =>
  simp [cellsIntL] at j0 j1 j2
  obtain ⟨a0, g0, _, _⟩ := DataW.trod_int Tryd.underlying3 j0
  obtain ⟨a1, g1, _, _⟩ := DataW.trod_int Tryd.underlying3 j1
  obtain ⟨a2, g2, _, _⟩ := DataW.trod_int Tryd.underlying3 j2
  simp at g0 g1 g2
  subst g0 g1 g2
  exact ⟨(a0, a1, a2), rfl⟩
set_option maxRecDepth 100000 in
theorem arcs_in {H : Type} {enc : TypeId × Value → H} {W : World} {v : Value} {fuel : Nat} {y : DataW H × List MemPlace} {ws : List Nat}
    (hf : DataW.trod enc Tryd.prog W 0 (fun _ => true) true fuel 22 [v] = some y)
    (hm : ∀ x ∈ y.1.weights Tryd.prog 22, x ∈ ws) (hall : ws.all (· ≤ reachBytes) = true) : ∃ a c A, v = .slice a A.length c ∧ RowAt W a (A.length * 3) (arcVals A) := by
  rcases Go.Deep.open_slice Tryd.underlying22 hf with ⟨hcs, hx⟩ | ⟨a, len, cap, m, n, D, Pl, hcs, _, hl, hm2, hmm, hx, hcell⟩
  · simp at hcs
    exact ⟨none, 0, [], hcs, ⟨rfl, by simp, fun h => by simp at h⟩⟩
  · simp at hcs
    subst hx
    simp only [if_true] at hmm
    subst hmm
    have hre : len * 24 ≤ 140737488351232 := by
      have h1 := hm ((len + (m - len)) * Tryd.prog.bytesOf 67) (by simp [DataW.weights, Tryd.underlying22])
      have h2 := List.all_eq_true.1 hall _ h1
      rw [bytesLawArc] at h2
      have h2 := of_decide_eq_true h2; simp only [reachBytes] at h2
      omega
    rw [cellsLawArc] at hcell
    obtain ⟨Z, hZ⟩ := Go.Deep.choose_lt (α := Int × Int × Int) (n := len) (p := fun i x => W.cell? (a.add (i * 3)) = some (.int .i64 x.1) ∧ W.cell? ((a.add (i * 3)).add 1) = some (.int .i64 x.2.1) ∧ W.cell? ((a.add (i * 3)).add 2) = some (.int .i64 x.2.2)) (fun i hi => by
      obtain ⟨cs', h1, h2⟩ := hcell i (by omega)
      obtain ⟨x, rfl⟩ := arc_in h2
      obtain ⟨_, _, h3⟩ := World.cells?_some h1
      have q0 := h3 0 (by omega)
      have q1 := h3 1 (by omega)
      have q2 := h3 2 (by omega)
      refine ⟨x, ?_, q1, q2⟩
      simpa [Addr.add] using q0)
    have hl2 : ((List.range len).map Z).length = len := by simp
    refine ⟨some a, _, (List.range len).map Z, by rw [hl2]; exact hcs, ?_⟩
    rw [hl2]
    refine ⟨by rw [arcVals_len, hl2], by omega, fun hn => ?_⟩
    obtain ⟨b, off, rfl, hb⟩ := plain_ofL (W := W) (a := a) (v := .int .i64 (Z 0).1) (by simpa using (hZ 0 (by omega)).1)
    refine ⟨b, off, rfl, hb, fun k x hx => ?_⟩
    obtain ⟨i, j, rfl, hj, hi, rfl⟩ := arcVals_at Z len k x hx
    obtain ⟨z0, z1, z2⟩ := hZ i hi
    rw [add_plain] at z0 z1 z2
    rw [add_plain] at z1 z2
    rw [← Nat.add_assoc]
    rcases (by omega : j = 0 ∨ j = 1 ∨ j = 2) with rfl | rfl | rfl
    · exact z0
    · exact z1
    · exact z2
set_option maxRecDepth 100000 in
theorem open_labels {H : Type} {enc : TypeId × Value → H} {W : World} {base : Nat} {v : Value} {d : DataW H} {p : List MemPlace} {ws : List Nat}
    (hval : Value.okWide Tryd.prog W .any base 24 v) (h : DataW.Trod enc Tryd.prog W 0 (fun _ => true) true 24 v d p)
    (hm : ∀ x ∈ d.weights Tryd.prog 24, x ∈ ws) (hall : ws.all (· ≤ reachBytes) = true) : LabIn W v := by
  obtain ⟨c0, c1, c2, y0, y1, y2, m, rfl, rfl, rfl, hy0, hy1, hy2⟩ := Go.Joins.open_agg3 Tryd.underlying24 (by kernel_rfl) cellsLawLab hval h
  obtain ⟨a0, e0, _, _⟩ := DataW.trod_int Tryd.underlying3 hy0
  obtain ⟨a1, e1, _, _⟩ := DataW.trod_int Tryd.underlying3 hy1
  simp at e0 e1
  subst e0 e1
  obtain ⟨a, c, A, rfl, hr⟩ := arcs_in hy2 (fun x hx => hm x (by
    simp only [DataW.weights, Tryd.underlying24]
    exact List.mem_append_right _ (List.mem_append_right _ (List.mem_append_left _ hx)))) hall
  exact ⟨a0, a1, a, c, A, rfl, hr⟩
theorem szLabels_c (L S : Int) (a : Option Addr) (n c : Nat) (w : World) (hn : n ≤ 140737488351232) :
    Calls Tryd.prog 4 #[.agg #[.int .i64 L, .int .i64 S, .slice a n c], .int .i64 1048576] w fun e w' => e = .returned (.int .i64 (if 1048576 < n then -1 else 1048576 - (n : Int))) ∧ Below w.heap.size w w' := by
  by_cases h : 1048576 < n
  · have h1 : (1048576 : Int) - (n : Int) < 0 := by omega
    rw [if_pos h]
    go_enter Tryd.func4, Tryd.ntmps4
    go_wp2
    go_ret
    exact ⟨rfl, (Below.refl _ _).alloc (Nat.le_refl _) _⟩
  · have h1 : ¬ ((1048576 : Int) - (n : Int) < 0) := by omega
    rw [if_neg h]
    go_enter Tryd.func4, Tryd.ntmps4
    go_wp2
    go_ret
    exact ⟨rfl, (Below.refl _ _).alloc (Nat.le_refl _) _⟩
theorem toArc_c (x y z : Int) (w : World) :
    Calls Tryd.prog 43 #[.agg #[.int .i64 x, .int .i64 y, .int .i64 z]] w fun e w' => e = .returned (.agg #[.int .i64 x, .int .i64 y, .int .i64 z]) ∧ Below w.heap.size w w' := by
  go_enter Tryd.func43, Tryd.ntmps43
  go_wp2
  refine bodyPost_ret (v := .agg #[.int .i64 x, .int .i64 y, .int .i64 z]) (by simp [results, Tryd.results43, go_sem]) rfl ⟨rfl, ?_⟩
  exact (((Below.refl _ _).alloc (Nat.le_refl _) _).alloc (by simp) _).alloc (by simp; omega) _
end Go.Proofs.YtpfeflhcbcgbfaaDoor
namespace Go.Proofs.YtpfeflhcbcgbfaaDoor
open Go.RowKit

theorem marked3 {ms xs : List Value} {n j : Nat} {u0 u1 u2 : Value} (hn : xs.length = n * 3) (h2 : ms.length = n * 3) (h : j < n) (h0 : ms[j * 3]? = some u0) (h1 : ms[j * 3 + 1]? = some u1) (h3 : ms[j * 3 + 2]? = some u2) :
    (((marked ms xs (j * 3)).set (j * 3) u0).set (j * 3 + 1) u1).set (j * 3 + 2) u2 = marked ms xs ((j + 1) * 3) := by
  rw [marked_step hn h2 (by omega) h0, marked_step hn h2 (by omega) h1, marked_step (j := j * 3 + 1 + 1) hn h2 (by omega) h3]
  congr 1
  omega
set_option maxHeartbeats 2000000 in
theorem toArcS_c (a : Option Addr) (n c : Nat) (A : List (Int × Int × Int)) (w : World) (hr : RowAt w a (n * 3) (arcVals A)) (hn : n ≤ 1048576) :
    Calls Tryd.prog 19 #[.slice a n c] w fun e w' => ∃ v, e = .returned v ∧ w'.ownsRow w.heap.size 53 3 v n (arcVals A) ∧ Below w.heap.size w w' := by
  obtain ⟨hl, _, hat⟩ := hr
  rw [arcVals_len] at hl
  have HL := hid (show A.length = n by omega)
  have HAT := hid hat
  clear hl hat
  obtain ⟨i, hi, hz, hz1, hz2⟩ := info_parts infoArc
  have HTA := hid (fun (x y z : Int) (w : World) => toArc_c x y z w)
  go_enter Tryd.func19, Tryd.ntmps19
  go_wp2_with (first | (at_make; refine wpList_make_full _ rfl _ _ 27 rfl w.heap.size 53 i (.agg #[.int .i64 0, .int .i64 0, .int .i64 0]) 3 Tryd.underlying27 hi hz hz1 .i64 .i64 _ _ n rfl rfl rfl rfl (by rw [hz2]; omega) (by unfold maxLen; omega) (Nat.le_refl _) ?_; intro w1 hown1 hgr1))
  have hb1 : Below w.heap.size w w1 := (Below.refl _ _).grown hgr1 (Nat.le_refl _) (by intro k h; cases h)
  clear hgr1
  obtain ⟨cs, hcs⟩ : ∃ cs, cs = (madeCells (Value.agg #[.int .i64 0, .int .i64 0, .int .i64 0]).cells (n * 3)).toList := ⟨_, rfl⟩
  first | rw [← hcs] at hown1 | skip
  have HCS := hid (show cs.length = n * 3 from hown1.1)
  clear hcs
  go_loopw [4] (fun i wr => ∃ j : Nat, j ≤ n ∧ i = .int .i64 j ∧ wr.ownsRow w.heap.size 53 3 (.slice (some ⟨w.heap.size, 0, none⟩) n n) n (marked (arcVals A) cs (j * 3)) ∧ Below w.heap.size w wr) (fun i _ => n - (intOf i).toNat)
  case atStart => exact ⟨0, by omega, rfl, by rw [Nat.zero_mul, marked_zero]; exact hown1, hb1⟩
  case round =>
    clear hown1 hb1
    obtain ⟨j, hj, rfl, hown, hbel⟩ := hrel
    by_cases hlt : j < n
    · obtain ⟨b1, off1, rfl, hbs, hc1⟩ := HAT.out (by omega)
      obtain ⟨x, hx⟩ := get_some (l := A) (n := j) (by rw [HL.out]; exact hlt)
      obtain ⟨d0, d1, d2⟩ := arc_row hc1 hx
      have e0 := (hbel.cell (p := ⟨b1, off1 + j * 3, none⟩) hbs).trans d0
      have e1 := (hbel.cell (p := ⟨b1, off1 + j * 3 + 1, none⟩) hbs).trans d1
      have e2 := (hbel.cell (p := ⟨b1, off1 + j * 3 + 2, none⟩) hbs).trans d2
      have HX := hid hx
      obtain ⟨f, t, l⟩ := x
      have HTJ := hid (fun w => HTA.out f t l w)
      have hji : (j : Int) < (n : Int) := by omega
      have HO := hid hown
      have HBL := hid hbel
      simp only [] at e0 e1 e2
      clear hx hc1 d0 d1 d2 hown hbel
      go_wp2_with fail
      refine (HTJ.out _).mono ?_
      rintro e w3 ⟨rfl, hb3⟩
      have HO3 := hid (owns_below HO.out hb3)
      have HB3 := hid (HBL.out.trans (hb3.mono HBL.out.size))
      obtain ⟨u, hu⟩ := get_some (l := marked (arcVals A) cs (j * 3)) (n := j * 3) (by rw [HO3.out.1]; omega)
      obtain ⟨u1, hu1⟩ := get_some (l := marked (arcVals A) cs (j * 3)) (n := j * 3 + 1) (by rw [HO3.out.1]; omega)
      obtain ⟨u2, hu2⟩ := get_some (l := marked (arcVals A) cs (j * 3)) (n := j * 3 + 2) (by rw [HO3.out.1]; omega)
      have hcell : w3.cell? ⟨w.heap.size, j * 3, none⟩ = some u := (HO3.out.cellAt (j * 3) (by omega)).trans hu
      have hcell1 : w3.cell? ⟨w.heap.size, j * 3 + 1, none⟩ = some u1 := (HO3.out.cellAt (j * 3 + 1) (by omega)).trans hu1
      have hcell2 : w3.cell? ⟨w.heap.size, j * 3 + 2, none⟩ = some u2 := (HO3.out.cellAt (j * 3 + 2) (by omega)).trans hu2
      have hfr := HO3.out.frozenAt (j * 3)
      have hfr1 := HO3.out.frozenAt (j * 3 + 1)
      have hfr2 := HO3.out.frozenAt (j * 3 + 2)
      clear hu hu1 hu2 hb3 e0 e1 e2
      go_wp2
      go_roundw
      case rel =>
        have hst := HO3.out.stored (j * 3) (.int .i64 f)
        have hst1 := hst.1.stored (j * 3 + 1) (.int .i64 t)
        have hst2 := hst1.1.stored (j * 3 + 2) (.int .i64 l)
        obtain ⟨y0, y1, y2⟩ := arcVals_get HX.out
        rw [marked3 HCS.out (by rw [arcVals_len, HL.out]) hlt y0 y1 y2] at hst2
        exact ⟨j + 1, by omega, by go_num, hst2.1, HB3.out.grown (grown_trans hst.2 (grown_trans hst1.2 hst2.2)) HB3.out.size (by rintro k ⟨⟩; exact Nat.le_refl _)⟩
      case measure => simp [intOf]; omega
    · obtain rfl : j = n := by omega
      go_wp2
      go_ret
      exact ⟨_, rfl, by rw [← marked_all (xs := cs) (ms := arcVals A) HCS.out (by rw [arcVals_len, HL.out])]; exact hown, hbel⟩
set_option maxHeartbeats 1000000 in
theorem toLabels_c (L S : Int) (a : Option Addr) (n c : Nat) (A : List (Int × Int × Int)) (w : World) (hr : RowAt w a (n * 3) (arcVals A)) (hn : n ≤ 1048576) :
    Calls Tryd.prog 6 #[.agg #[.int .i64 L, .int .i64 S, .slice a n c]] w fun e w' => ∃ g d, e = .returned (.agg #[.int .i64 L, .int .i64 S, .slice g n d]) ∧ RowAt w' g (n * 3) (arcVals A) ∧ Below w.heap.size w w' := by
  have HA := hid (fun (W : World) (hW : Below w.heap.size w W) => toArcS_c a n c A W (hr.below hW (Nat.le_refl _)) hn)
  clear hr
  obtain ⟨W1, hW1⟩ : ∃ W1, W1 = w.alloc (.cells #[.int .i64 L, .int .i64 S, .slice a n c] 24) := ⟨_, rfl⟩
  obtain ⟨W2, hW2⟩ : ∃ W2, W2 = W1.alloc (.cells #[.int .i64 0, .int .i64 0, .slice none 0 0] 29) := ⟨_, rfl⟩
  obtain ⟨W3, hW3⟩ : ∃ W3, W3 = W2.alloc (.cells #[.int .i64 L, .int .i64 S, .slice none 0 0] 29) := ⟨_, rfl⟩
  have hb1 : Below w.heap.size w W1 := by rw [hW1]; exact (Below.refl _ _).alloc (Nat.le_refl _) _
  have hb2 : Below W1.heap.size W1 W2 := by rw [hW2]; exact (Below.refl _ _).alloc (Nat.le_refl _) _
  have hb3 : Below W2.heap.size W2 W3 := by rw [hW3]; exact (Below.refl _ _).alloc (Nat.le_refl _) _
  have hz1 : W1.heap.size = w.heap.size + 1 := by rw [hW1]; simp
  have hz2 : W2.heap.size = w.heap.size + 1 + 1 := by rw [hW2]; simp; omega
  have HX2 := hid ((show BoxC W2 (w.heap.size + 1) #[.int .i64 0, .int .i64 0, .slice none 0 0] by rw [hW2, ← hz1]; exact BoxC.new _ _ _).below hb3)
  have HX3 := hid (show BoxC W3 (w.heap.size + 1 + 1) #[.int .i64 L, .int .i64 S, .slice none 0 0] by rw [hW3, ← hz2]; exact BoxC.new _ _ _)
  have hb := bs hb1 (bs hb2 hb3)
  have HA3 := hid (HA.out W3 hb)
  have HB := hid hb
  have hz3 : W3.heap.size = w.heap.size + 1 + 1 + 1 := by rw [hW3]; simp; omega
  have HW := hid (show W3 = ((w.alloc (.cells #[.int .i64 L, .int .i64 S, .slice a n c] 24)).alloc (.cells #[.int .i64 0, .int .i64 0, .slice none 0 0] 29)).alloc (.cells #[.int .i64 L, .int .i64 S, .slice none 0 0] 29) by rw [hW3, hW2, hW1])
  clear hW1 hW2 hW3 hb1 hb2 hb3 HA hb
  go_enter Tryd.func6, Tryd.ntmps6
  go_wp2_with fail
  rw [← HW.out]
  refine HA3.out.mono ?_
  rintro e w4 ⟨v, rfl, ho, hb4⟩
  obtain ⟨g, d, rfl⟩ := slice_form ho
  have HX24 := hid (HX2.out.below hb4)
  have HX34 := hid (HX3.out.below hb4)
  have hra := owns_rowAt3 ho (by omega)
  have HLT := hid ho.lt
  have HRA := hid hra
  have HB4 := hid (HB.out.trans (hb4.mono HB.out.size))
  obtain ⟨⟨s0, s1, s2⟩, sf0, sf1, sf2⟩ := HX34.out.c3
  obtain ⟨⟨r0, r1, r2⟩, rf0, rf1, rf2⟩ := HX24.out.c3
  have HO := hid ho
  clear ho hra HX2 HX3 HA3
  go_wp2
  have hw4 := HB4.out.size
  refine bodyPost_ret (v := .agg #[.int .i64 L, .int .i64 S, .slice g n d]) (by simp [results, Tryd.results6, go_sem, r0, r1, r2]) rfl ⟨g, d, rfl, ?_, ?_⟩
  · have h1 := own_setB HO.out (b := w.heap.size + 1 + 1) (by omega) 2 (.slice g n d)
    have h2 := own_setB (own_setB (own_setB h1 (b := w.heap.size + 1) (by omega) 0 (.int .i64 L)) (b := w.heap.size + 1) (by omega) 1 (.int .i64 S)) (b := w.heap.size + 1) (by omega) 2 (.slice g n d)
    exact owns_rowAt3 h2 (by omega)
  · exact (((HB4.out.setCell (by show w.heap.size ≤ w.heap.size + 1 + 1; omega) _).setCell (by show w.heap.size ≤ w.heap.size + 1; omega) _).setCell (by show w.heap.size ≤ w.heap.size + 1; omega) _).setCell (by show w.heap.size ≤ w.heap.size + 1; omega) _
end Go.Proofs.YtpfeflhcbcgbfaaDoor
