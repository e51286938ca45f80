/- What the laws of rings draw. Conditions: the bytes lie in memory. -/
import Derived.Test.YtccknookhkahbaaGreatDraw8
namespace Go.Proofs.YtccknookhkahbaaGreat
open Go.RowKit

set_option maxHeartbeats 1000000 in
theorem spec_RuleCode_any (n : Int) (h0 : -1 ≤ n) (h1 : n ≤ 256) (w : World) :
    Calls Tryz.prog 81 #[.int .i64 n] w (CodeAny w) := by
  unfold CodeAny
  by_cases hn : 0 ≤ n ∧ n ≤ 255
  · obtain ⟨m, rfl⟩ : ∃ m : Nat, n = m := ⟨n.toNat, by omega⟩
    refine (spec_RuleCode_c m (by omega) w).mono ?_
    rintro e w' ⟨rfl, hb⟩
    exact ⟨_, _, _, _, rfl, by show (ruleOut m 8).length ≤ 100; simp [ruleOut], hb⟩
  · have hin := inB_f (x := n) (lo := 0) (hi := 255) (by omega)
    clear hn
    go_enter Tryz.func81, Tryz.ntmps81
    go_wp2_with (go_at_call 35; refine (l1In_c _ _ _ _).mono ?_; rintro e w' ⟨rfl, rfl⟩)
    refine bodyPost_ret (v := .tuple #[.agg #[.int .i64 0, .int .i64 0, .string ⟨#[]⟩], .bool false]) (by simp [results, Tryz.results81, go_sem]) rfl ⟨_, _, _, _, rfl, by show 0 ≤ 100; omega, ?_⟩
    exact ((Below.refl _ _).alloc (Nat.le_refl _) _)
/-- A code and a word. -/
def CodeWord (W : World) (e : Ending) (w' : World) : Prop :=
  ∃ (k m : Int) (o s : ByteArray), e = .returned (.tuple #[.agg #[.int .i64 k, .int .i64 m, .string o], .string s]) ∧ o.size ≤ 101 ∧ s.size ≤ 100 ∧ Below W.heap.size W w'
theorem Drew.bel {W w w1 : World} {g : Nat} {a : Option Addr} {n c : Nat} {bs : List UInt8} (h : Drew W w w1 g a n c bs) : Below W.heap.size W w1 := by
  obtain ⟨⟨i, k, x⟩, _⟩ := h
  exact x.bel
theorem held_set3 {w : World} {b q : Nat} {x y z x' y' z' : Value} {B : Array Value} (hq : BoxC w q #[x, y, z]) (hb : BoxC w b B) (hne : b ≠ q) :
    ((((w.setCell ⟨b, 0, none⟩ x').setCell ⟨b, 1, none⟩ y').setCell ⟨b, 2, none⟩ z').cell? ⟨q, 0, none⟩ = some x ∧ (((w.setCell ⟨b, 0, none⟩ x').setCell ⟨b, 1, none⟩ y').setCell ⟨b, 2, none⟩ z').cell? ⟨q, 1, none⟩ = some y ∧ (((w.setCell ⟨b, 0, none⟩ x').setCell ⟨b, 1, none⟩ y').setCell ⟨b, 2, none⟩ z').cell? ⟨q, 2, none⟩ = some z) ∧
    ((((w.setCell ⟨b, 0, none⟩ x').setCell ⟨b, 1, none⟩ y').setCell ⟨b, 2, none⟩ z').frozen? ⟨b, 0, none⟩ = false ∧ (((w.setCell ⟨b, 0, none⟩ x').setCell ⟨b, 1, none⟩ y').setCell ⟨b, 2, none⟩ z').frozen? ⟨b, 1, none⟩ = false ∧ (((w.setCell ⟨b, 0, none⟩ x').setCell ⟨b, 1, none⟩ y').setCell ⟨b, 2, none⟩ z').frozen? ⟨b, 2, none⟩ = false) :=
  ⟨(((hq.other (i := 0) hne x').other (i := 1) hne y').other (i := 2) hne z').c3.1, by simp only [World.frozen?_setCell]; exact ⟨hb.froz 0, hb.froz 1, hb.froz 2⟩⟩
set_option maxHeartbeats 4000000 in
set_option maxRecDepth 100000 in
theorem l11Case_c (a : Option Addr) (n c : Nat) (bs : List UInt8) (w : World) (hr : RowAt w a n (byteVals bs)) :
    Calls Tryz.prog 56 #[.slice a n c] w (CodeWord w) := by
  unfold CodeWord
  have hb0 : Below w.heap.size w (w.alloc (.cells #[.int .i64 0, .int .i64 0, .string ⟨#[]⟩] 25)) := (Below.refl _ _).alloc (Nat.le_refl _) _
  have HN := hid (l1New_c a n c bs _ (hr.below hb0 (Nat.le_refl _)))
  have HB0 := hid (BoxC.new w #[.int .i64 0, .int .i64 0, .string ⟨#[]⟩] 25)
  have HW := hid hb0
  clear hr hb0
  go_enter Tryz.func56, Tryz.ntmps56
  go_wp2_with fail
  refine HN.out.mono ?_
  rintro e w1 ⟨g, rfl, hc, hb⟩
  have HB1 := hid (HB0.out.below hb)
  have hgb : w.heap.size < g := by obtain ⟨i, k, x⟩ := hc; have := x.lo; simp at this; omega
  have HD1 := hid hc.drew0
  have hgw : g < w1.heap.size ∧ (w.alloc (.cells #[.int .i64 0, .int .i64 0, .string ⟨#[]⟩] 25)).heap.size ≤ w1.heap.size := ⟨HD1.out.gW, hb.size⟩
  have HB := hid (l11Bent_c _ w1 g a n c bs hc)
  clear hc HN HB0 hb
  go_wp2_with fail
  refine HB.out.mono ?_
  rintro e w2 ⟨k, m, o, rfl, ho, hd⟩
  have hgw2 := hd.gW
  have hlt1 := HB1.out.lt
  have hs12 := hd.2.size
  have HB2 := hid ((HB1.out.grown hd.2 (by omega)).alloc (.cells #[.int .i64 k, .int .i64 m, .string o] 25))
  have HQ2 := hid (BoxC.new w2 #[.int .i64 k, .int .i64 m, .string o] 25)
  have HD2 := hid (hd.alloc (.cells #[.int .i64 k, .int .i64 m, .string o] 25))
  have HC := hid (l1Once_c _ (w2.alloc (.cells #[.int .i64 k, .int .i64 m, .string o] 25)) g a n c bs 8 HD2.out.1 (by omega) (by omega))
  clear hd HB HB1 HD1
  go_wp2_with fail
  refine HC.out.mono ?_
  rintro e w3 ⟨b, rfl, hd⟩
  have HB3 := hid (HB2.out.grown hd.2 (by omega))
  have HQ3 := hid (HQ2.out.grown hd.2 (by omega))
  have HD3 := hid (HD2.out.trans hd)
  have hq3 := HQ3.out.lt
  clear hd HC HB2 HQ2 HD2
  obtain ⟨⟨s0, s1, s2⟩, t0, t1, t2⟩ := HQ3.out.c3
  obtain ⟨⟨r0, r1, r2⟩, u0, u1, u2⟩ := HB3.out.c3
  have hzs := HB3.out.lt
  cases b
  · obtain ⟨L, hL⟩ : ∃ L : Nat, max 1 (min k 3) = (L : Int) := ⟨(max 1 (min k 3)).toNat, by omega⟩
    have hL3 : 1 ≤ L ∧ L ≤ 3 := by omega
    have HE := hid (l2Draw_c _ w3.drew g a n c bs L 9 (HD3.out.app (Below.refl _ _).drew hgw.1 hgw.2).1 hL3.1 hL3.2 (by omega))
    have HB4 := hid (HB3.out.below (Below.refl _ _).drew)
    have HQ4 := hid (HQ3.out.below (Below.refl _ _).drew)
    have HD4 := hid (HD3.out.app (Below.refl _ _).drew hgw.1 hgw.2)
    have HM := hid hL
    clear HB3 HQ3 HD3 hL
    go_wp2_with fail
    go_region_held3 (fun V => (V.cell? ⟨w2.heap.size, 0, none⟩ = some (.int .i64 k) ∧ V.cell? ⟨w2.heap.size, 1, none⟩ = some (.int .i64 m) ∧ V.cell? ⟨w2.heap.size, 2, none⟩ = some (.string o)) ∧ (V.frozen? ⟨w.heap.size, 0, none⟩ = false ∧ V.frozen? ⟨w.heap.size, 1, none⟩ = false ∧ V.frozen? ⟨w.heap.size, 2, none⟩ = false))
      (first | exact ⟨HQ4.out.c3.1, HB4.out.c3.2⟩ | exact ⟨HQ5.out.c3.1, HB5.out.c3.2⟩ | exact held_set3 HQ5.out HB5.out (by omega))
      (first | (go_at_call 80; refine (l1Min_c _ _ _).mono ?_; rintro e w5 ⟨rfl, rfl⟩) | (go_at_call 79; refine (l1Max_c _ _ _).mono ?_; rintro e w5 ⟨rfl, rfl⟩) | (go_at_call 59; rw [HM.out]; refine HE.out.mono ?_; rintro e w4 ⟨s, rfl, hs, hd⟩; have HB5 := hid (HB4.out.grown hd.2 (by omega)); have HQ5 := hid (HQ4.out.grown hd.2 (by omega)); have HD5 := hid (HD4.out.trans hd); have v0 := HB5.out.c3.1.1; have v1 := HB5.out.c3.1.2.1; have v2 := HB5.out.c3.1.2.2; have hz5 := HB5.out.lt; have hs' : s.size ≤ 100 := (by omega)))
    all_goals
      go_wp2
      refine bodyPost_ret (v := .tuple #[.agg #[.int .i64 k, .int .i64 m, .string o], .string s]) ?_ rfl ⟨_, _, _, _, rfl, ho, hs', HW.out.trans ((below_set3 (HD5.out.bel.mono HW.out.size) (by omega) (.int .i64 k) (.int .i64 m) (.string o)).mono (Nat.le_refl _))⟩
      simp [results, Tryz.results56, go_sem, v0, v1, v2, hz5]
  · have HE := hid (l2Bent_c _ w3.drew g a n c bs (HD3.out.app (Below.refl _ _).drew hgw.1 hgw.2).1)
    have HB4 := hid (HB3.out.below (Below.refl _ _).drew)
    have HQ4 := hid (HQ3.out.below (Below.refl _ _).drew)
    have HD4 := hid (HD3.out.app (Below.refl _ _).drew hgw.1 hgw.2)
    clear HB3 HQ3 HD3
    go_wp2_with fail
    go_region_held3 (fun V => (V.cell? ⟨w2.heap.size, 0, none⟩ = some (.int .i64 k) ∧ V.cell? ⟨w2.heap.size, 1, none⟩ = some (.int .i64 m) ∧ V.cell? ⟨w2.heap.size, 2, none⟩ = some (.string o)) ∧ (V.frozen? ⟨w.heap.size, 0, none⟩ = false ∧ V.frozen? ⟨w.heap.size, 1, none⟩ = false ∧ V.frozen? ⟨w.heap.size, 2, none⟩ = false))
      (first | exact ⟨HQ4.out.c3.1, HB4.out.c3.2⟩ | exact ⟨HQ5.out.c3.1, HB5.out.c3.2⟩ | exact held_set3 HQ5.out HB5.out (by omega))
      (first | (go_at_call 78; refine HE.out.mono ?_; rintro e w4 ⟨s, rfl, hs, hd⟩; have HB5 := hid (HB4.out.grown hd.2 (by omega)); have HQ5 := hid (HQ4.out.grown hd.2 (by omega)); have HD5 := hid (HD4.out.trans hd); have v0 := HB5.out.c3.1.1; have v1 := HB5.out.c3.1.2.1; have v2 := HB5.out.c3.1.2.2; have hz5 := HB5.out.lt; have hs' : s.size ≤ 100 := hs))
    all_goals
      go_wp2
      refine bodyPost_ret (v := .tuple #[.agg #[.int .i64 k, .int .i64 m, .string o], .string s]) ?_ rfl ⟨_, _, _, _, rfl, ho, hs', HW.out.trans ((below_set3 (HD5.out.bel.mono HW.out.size) (by omega) (.int .i64 k) (.int .i64 m) (.string o)).mono (Nat.le_refl _))⟩
      simp [results, Tryz.results56, go_sem, v0, v1, v2, hz5]
end Go.Proofs.YtccknookhkahbaaGreat
