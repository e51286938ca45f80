/- The law FnExactEqualSession returns true for all sessions. No condition. -/
import Derived.Test.YtomeinlaiidmpaaEqSes
import Derived.Deep.RegionHeld3
namespace Go.Proofs.Ytomeinlaiidmpaa
open Go.ChangeShapes Go.WideShapes Go.ChangeAt Go.RowKit
open Go.ChangeMaps (open_string shut_string)

def ToP (s : Ses) (w : World) (e : Ending) (w' : World) : Prop :=
  ∃ a c b d, e = .returned (.agg #[.slice a s.rows.length c, .int .i64 s.l, .slice b s.ss.length d, .int .i64 s.k, .int .i64 s.q, .string s.o]) ∧ SesAt w' (.agg #[.slice a s.rows.length c, .int .i64 s.l, .slice b s.ss.length d, .int .i64 s.k, .int .i64 s.q, .string s.o]) s ∧ Below w.heap.size w w'
theorem toSession_c2 (v : Value) (s : Ses) (w : World) (h : SesAt w v s) (hf : SesFit s) : Calls Try.prog 34 #[v] w (ToP s w) :=
  (toSession_c v s w h hf).mono fun e w' h => by
    obtain ⟨v', rfl, ho, hb⟩ := h
    have hat := ho.at_ hf
    obtain ⟨a, c, b, d, rfl, _, _⟩ := ho
    exact ⟨a, c, b, d, rfl, hat, hb⟩

set_option maxHeartbeats 4000000 in
theorem walk_FnExactEqualSession (W : World) (v : Value) (h : SesIn W v) (u : Value) (h' : SesIn W u) :
    Calls Try.prog 8 #[v, u] W fun e W' => e = .returned (.bool true) ∧ Below W.heap.size W W' := by
  obtain ⟨s, hs, hfs⟩ := h
  obtain ⟨t, ht, hft⟩ := h'
  have HS := hid hs
  have HT := hid ht
  obtain ⟨a, c, b, d, rfl, _, _⟩ := hs
  obtain ⟨a', c', b', d', rfl, _, _⟩ := ht
  obtain ⟨z, hz⟩ : ∃ z, z = sesEq s t := ⟨_, rfl⟩
  have HZS := hid (fun (V : World) (hV : Below W.heap.size W V) => szSession_c _ s 1048576 V (HS.out.below hV (Nat.le_refl _)) hfs (Nat.le_refl _))
  have HZT := hid (fun (V : World) (hV : Below W.heap.size W V) (L : Nat) (hL : L ≤ 1048576) => szSession_c _ t L V (HT.out.below hV (Nat.le_refl _)) hft hL)
  have HA := hid (fun (V : World) (hV : Below W.heap.size W V) => toSession_c2 _ s V (HS.out.below hV (Nat.le_refl _)) hfs)
  have HB := hid (fun (V : World) (hV : Below W.heap.size W V) => toSession_c2 _ t V (HT.out.below hV (Nat.le_refl _)) hft)
  have HES := hid (fun (x y : Value) (V : World) (hx : SesAt V x s) (hy : SesAt V y t) => hz ▸ spec_EqualSession_c x y s t V hx hy)
  have HEI := hid (fun (x y : Value) (V : World) (hx : SesAt V x s) (hy : SesAt V y t) => hz ▸ impl_EqualSession_c x y s t V hx hy)
  have HEA := hid (fun (x y : Value) (V : World) (hx : SesAt V x s) (hy : SesAt V y s) => eqSession_c x y s V hx hy)
  have HEB := hid (fun (x y : Value) (V : World) (hx : SesAt V x t) (hy : SesAt V y t) => eqSession_c x y t V hx hy)
  unfold SzP at HZS HZT
  unfold ToP at HA HB
  clear hz
  go_enter Try.func8, Try.ntmps8
  go_wp2_with fail
  refine (HZS.out _ (((Below.refl _ _).alloc (Nat.le_refl _) _).alloc (by simp) _)).mono ?_
  rintro e w1 ⟨r, rfl, hr, hb1⟩
  obtain ⟨⟨hA, _⟩, ⟨hA', _⟩, hz1, hB1⟩ := box2 hb1
  have q0 := hA 0
  have p0 := hA' 0
  have q1 := hA 1
  have p1 := hA' 1
  have q2 := hA 2
  have p2 := hA' 2
  have q3 := hA 3
  have p3 := hA' 3
  have q4 := hA 4
  have p4 := hA' 4
  have q5 := hA 5
  have p5 := hA' 5
  simp at q0 p0 q1 p1 q2 p2 q3 p3 q4 p4 q5 p5
  clear hA hA' hb1
  rcases hr with rfl | ⟨m1, rfl, hm1⟩
  · go_wp2
    go_ret
    exact ⟨rfl, hB1⟩
  go_wp2_with fail
  refine (HZT.out _ hB1 m1 hm1).mono ?_
  rintro e w2 ⟨r, rfl, hr, hb2⟩
  have hz0 : W.heap.size < w1.heap.size := by omega
  have q0 := (hb2.cell (p := ⟨W.heap.size, 0, none⟩) hz0).trans q0
  have p0 := (hb2.cell (p := ⟨W.heap.size + 1, 0, none⟩) hz1).trans p0
  have q1 := (hb2.cell (p := ⟨W.heap.size, 1, none⟩) hz0).trans q1
  have p1 := (hb2.cell (p := ⟨W.heap.size + 1, 1, none⟩) hz1).trans p1
  have q2 := (hb2.cell (p := ⟨W.heap.size, 2, none⟩) hz0).trans q2
  have p2 := (hb2.cell (p := ⟨W.heap.size + 1, 2, none⟩) hz1).trans p2
  have q3 := (hb2.cell (p := ⟨W.heap.size, 3, none⟩) hz0).trans q3
  have p3 := (hb2.cell (p := ⟨W.heap.size + 1, 3, none⟩) hz1).trans p3
  have q4 := (hb2.cell (p := ⟨W.heap.size, 4, none⟩) hz0).trans q4
  have p4 := (hb2.cell (p := ⟨W.heap.size + 1, 4, none⟩) hz1).trans p4
  have q5 := (hb2.cell (p := ⟨W.heap.size, 5, none⟩) hz0).trans q5
  have p5 := (hb2.cell (p := ⟨W.heap.size + 1, 5, none⟩) hz1).trans p5
  have hB2 := hid (bs hB1 hb2)
  have hz2 : W.heap.size + 1 < w2.heap.size := Nat.lt_of_lt_of_le hz1 hb2.size
  have hz3 : W.heap.size < w2.heap.size := by omega
  clear hb2 hB1 hz1 hz0
  rcases hr with rfl | ⟨m2, rfl, hm2⟩
  · go_wp2
    go_ret
    exact ⟨rfl, hB2.out⟩
  have HK := hid (fun (V : World) (hV : Below w2.heap.size w2 V) => show V.cell? ⟨W.heap.size, 0, none⟩ = some (.slice a s.rows.length c) ∧ V.cell? ⟨W.heap.size, 1, none⟩ = some (.int .i64 s.l) ∧ V.cell? ⟨W.heap.size, 2, none⟩ = some (.slice b s.ss.length d) ∧ V.cell? ⟨W.heap.size, 3, none⟩ = some (.int .i64 s.k) ∧ V.cell? ⟨W.heap.size, 4, none⟩ = some (.int .i64 s.q) ∧ V.cell? ⟨W.heap.size, 5, none⟩ = some (.string s.o) ∧ V.cell? ⟨W.heap.size + 1, 0, none⟩ = some (.slice a' t.rows.length c') ∧ V.cell? ⟨W.heap.size + 1, 1, none⟩ = some (.int .i64 t.l) ∧ V.cell? ⟨W.heap.size + 1, 2, none⟩ = some (.slice b' t.ss.length d') ∧ V.cell? ⟨W.heap.size + 1, 3, none⟩ = some (.int .i64 t.k) ∧ V.cell? ⟨W.heap.size + 1, 4, none⟩ = some (.int .i64 t.q) ∧ V.cell? ⟨W.heap.size + 1, 5, none⟩ = some (.string t.o) ∧ Below w2.heap.size w2 V from ⟨(hV.cell (p := ⟨W.heap.size, 0, none⟩) hz3).trans q0, (hV.cell (p := ⟨W.heap.size, 1, none⟩) hz3).trans q1, (hV.cell (p := ⟨W.heap.size, 2, none⟩) hz3).trans q2, (hV.cell (p := ⟨W.heap.size, 3, none⟩) hz3).trans q3, (hV.cell (p := ⟨W.heap.size, 4, none⟩) hz3).trans q4, (hV.cell (p := ⟨W.heap.size, 5, none⟩) hz3).trans q5, (hV.cell (p := ⟨W.heap.size + 1, 0, none⟩) hz2).trans p0, (hV.cell (p := ⟨W.heap.size + 1, 1, none⟩) hz2).trans p1, (hV.cell (p := ⟨W.heap.size + 1, 2, none⟩) hz2).trans p2, (hV.cell (p := ⟨W.heap.size + 1, 3, none⟩) hz2).trans p3, (hV.cell (p := ⟨W.heap.size + 1, 4, none⟩) hz2).trans p4, (hV.cell (p := ⟨W.heap.size + 1, 5, none⟩) hz2).trans p5, hV⟩)
  have HA2 := hid (fun (V : World) (hV : Below w2.heap.size w2 V) => HA.out V (bs hB2.out hV))
  have HB2 := hid (fun (V : World) (hV : Below w2.heap.size w2 V) => HB.out V (bs hB2.out hV))
  have hbZ : Below w2.heap.size w2 w2.drew := (Below.refl _ _).drew
  go_wp2
  go_region_held3 (fun V => V.cell? ⟨W.heap.size, 0, none⟩ = some (.slice a s.rows.length c) ∧ V.cell? ⟨W.heap.size, 1, none⟩ = some (.int .i64 s.l) ∧ V.cell? ⟨W.heap.size, 2, none⟩ = some (.slice b s.ss.length d) ∧ V.cell? ⟨W.heap.size, 3, none⟩ = some (.int .i64 s.k) ∧ V.cell? ⟨W.heap.size, 4, none⟩ = some (.int .i64 s.q) ∧ V.cell? ⟨W.heap.size, 5, none⟩ = some (.string s.o) ∧ V.cell? ⟨W.heap.size + 1, 0, none⟩ = some (.slice a' t.rows.length c') ∧ V.cell? ⟨W.heap.size + 1, 1, none⟩ = some (.int .i64 t.l) ∧ V.cell? ⟨W.heap.size + 1, 2, none⟩ = some (.slice b' t.ss.length d') ∧ V.cell? ⟨W.heap.size + 1, 3, none⟩ = some (.int .i64 t.k) ∧ V.cell? ⟨W.heap.size + 1, 4, none⟩ = some (.int .i64 t.q) ∧ V.cell? ⟨W.heap.size + 1, 5, none⟩ = some (.string t.o) ∧ Below w2.heap.size w2 V)
    (first | with_reducible exact HK.out _ hbZ)
    (first | (go_at_call 34; with_reducible refine (HA2.out _ hbZ).mono ?_; rintro e wA ⟨a1, c1, b1, d1, rfl, hUA, hbA⟩; have hbZ := hbZ.trans (hbA.mono hbZ.size); try have hUB := hUB.below hbA (Nat.le_refl _)) | (go_at_call 34; with_reducible refine (HB2.out _ hbZ).mono ?_; rintro e wB ⟨a2, c2, b2, d2, rfl, hUB, hbB⟩; have hbZ := hbZ.trans (hbB.mono hbZ.size); try have hUA := hUA.below hbB (Nat.le_refl _)) | (go_at_call 33; refine (HES.out _ _ _ hUA hUB).mono ?_; rintro e wE ⟨rfl, hbE⟩; have hbZ := hbZ.trans (hbE.mono hbZ.size)))
  all_goals
    have hs5 := hbZ.size
    obtain ⟨q0, q1, q2, q3, q4, q5, p0, p1, p2, p3, p4, p5, _⟩ := HK.out _ hbZ
    go_wp2_with fail
    refine (HA2.out _ hbZ).mono ?_
    rintro e w6 ⟨a3, c3, b3, d3, rfl, hU3, hb6⟩
    have hb6Z := hbZ.trans (hb6.mono hbZ.size)
    have hs6 : W.heap.size + 1 < w6.heap.size := Nat.lt_of_lt_of_le hz2 hb6Z.size
    have hs6' : W.heap.size < w6.heap.size := by omega
    obtain ⟨q0, q1, q2, q3, q4, q5, p0, p1, p2, p3, p4, p5, _⟩ := HK.out _ hb6Z
    have hX := (Below.refl w6.heap.size w6).alloc (Nat.le_refl _) (.cells #[.slice a3 s.rows.length c3, .int .i64 s.l, .slice b3 s.ss.length d3, .int .i64 s.k, .int .i64 s.q, .string s.o] 57)
    go_wp2_with fail
    refine (HB2.out _ (hb6Z.trans (hX.mono hb6Z.size))).mono ?_
    rintro e w7 ⟨a4, c4, b4, d4, rfl, hU4, hb7⟩
    obtain ⟨hC, _, hs7, hB7⟩ := boxA hb7
    have r0 := hC 0
    have r1 := hC 1
    have r2 := hC 2
    have r3 := hC 3
    have r4 := hC 4
    have r5 := hC 5
    simp at r0 r1 r2 r3 r4 r5
    have hb7Z := hb6Z.trans (hB7.mono hb6Z.size)
    have hU3 := hU3.below hB7 (Nat.le_refl _)
    have hY := (Below.refl w7.heap.size w7).alloc (Nat.le_refl _) (.cells #[.slice a4 t.rows.length c4, .int .i64 t.l, .slice b4 t.ss.length d4, .int .i64 t.k, .int .i64 t.q, .string t.o] 57)
    clear hC hb7 hX
    go_wp2_with fail
    refine (HEI.out _ _ _ (hU3.below hY (Nat.le_refl _)) (hU4.below hY (Nat.le_refl _))).mono ?_
    rintro e w8 ⟨rfl, hb8⟩
    obtain ⟨hD, _, hs8, hB8⟩ := boxA hb8
    have x0 := hD 0
    have x1 := hD 1
    have x2 := hD 2
    have x3 := hD 3
    have x4 := hD 4
    have x5 := hD 5
    simp at x0 x1 x2 x3 x4 x5
    have r0 := (hB8.cell (p := ⟨w6.heap.size, 0, none⟩) hs7).trans r0
    have r1 := (hB8.cell (p := ⟨w6.heap.size, 1, none⟩) hs7).trans r1
    have r2 := (hB8.cell (p := ⟨w6.heap.size, 2, none⟩) hs7).trans r2
    have r3 := (hB8.cell (p := ⟨w6.heap.size, 3, none⟩) hs7).trans r3
    have r4 := (hB8.cell (p := ⟨w6.heap.size, 4, none⟩) hs7).trans r4
    have r5 := (hB8.cell (p := ⟨w6.heap.size, 5, none⟩) hs7).trans r5
    have hb8Z := hb7Z.trans (hB8.mono hb7Z.size)
    have hU3 := hU3.below hB8 (Nat.le_refl _)
    have hU4 := hU4.below hB8 (Nat.le_refl _)
    have hs8' : w6.heap.size < w8.heap.size := by omega
    clear hD hb8 hY
    obtain ⟨q0, q1, q2, q3, q4, q5, p0, p1, p2, p3, p4, p5, _⟩ := HK.out _ hb8Z
    have hz8 : W.heap.size < w8.heap.size := by omega
    have hz8' : W.heap.size + 1 < w8.heap.size := by omega
    have HK1 := hid (fun (V : World) (hV : Below w8.heap.size w8 V) => show V.cell? ⟨w6.heap.size, 0, none⟩ = some (.slice a3 s.rows.length c3) ∧ V.cell? ⟨w6.heap.size, 1, none⟩ = some (.int .i64 s.l) ∧ V.cell? ⟨w6.heap.size, 2, none⟩ = some (.slice b3 s.ss.length d3) ∧ V.cell? ⟨w6.heap.size, 3, none⟩ = some (.int .i64 s.k) ∧ V.cell? ⟨w6.heap.size, 4, none⟩ = some (.int .i64 s.q) ∧ V.cell? ⟨w6.heap.size, 5, none⟩ = some (.string s.o) ∧ V.cell? ⟨W.heap.size, 0, none⟩ = some (.slice a s.rows.length c) ∧ V.cell? ⟨W.heap.size, 1, none⟩ = some (.int .i64 s.l) ∧ V.cell? ⟨W.heap.size, 2, none⟩ = some (.slice b s.ss.length d) ∧ V.cell? ⟨W.heap.size, 3, none⟩ = some (.int .i64 s.k) ∧ V.cell? ⟨W.heap.size, 4, none⟩ = some (.int .i64 s.q) ∧ V.cell? ⟨W.heap.size, 5, none⟩ = some (.string s.o) ∧ Below w8.heap.size w8 V from ⟨(hV.cell (p := ⟨w6.heap.size, 0, none⟩) hs8').trans r0, (hV.cell (p := ⟨w6.heap.size, 1, none⟩) hs8').trans r1, (hV.cell (p := ⟨w6.heap.size, 2, none⟩) hs8').trans r2, (hV.cell (p := ⟨w6.heap.size, 3, none⟩) hs8').trans r3, (hV.cell (p := ⟨w6.heap.size, 4, none⟩) hs8').trans r4, (hV.cell (p := ⟨w6.heap.size, 5, none⟩) hs8').trans r5, (hV.cell (p := ⟨W.heap.size, 0, none⟩) hz8).trans q0, (hV.cell (p := ⟨W.heap.size, 1, none⟩) hz8).trans q1, (hV.cell (p := ⟨W.heap.size, 2, none⟩) hz8).trans q2, (hV.cell (p := ⟨W.heap.size, 3, none⟩) hz8).trans q3, (hV.cell (p := ⟨W.heap.size, 4, none⟩) hz8).trans q4, (hV.cell (p := ⟨W.heap.size, 5, none⟩) hz8).trans q5, hV⟩)
    have hbY : Below w8.heap.size w8 w8.drew := (Below.refl _ _).drew
    have HA8 := hid (fun (V : World) (hV : Below w8.heap.size w8 V) => HA2.out V (hb8Z.trans (hV.mono hb8Z.size)))
    have HB8 := hid (fun (V : World) (hV : Below w8.heap.size w8 V) => HB2.out V (hb8Z.trans (hV.mono hb8Z.size)))
    go_wp2
    go_region_held3 (fun V => V.cell? ⟨w6.heap.size, 0, none⟩ = some (.slice a3 s.rows.length c3) ∧ V.cell? ⟨w6.heap.size, 1, none⟩ = some (.int .i64 s.l) ∧ V.cell? ⟨w6.heap.size, 2, none⟩ = some (.slice b3 s.ss.length d3) ∧ V.cell? ⟨w6.heap.size, 3, none⟩ = some (.int .i64 s.k) ∧ V.cell? ⟨w6.heap.size, 4, none⟩ = some (.int .i64 s.q) ∧ V.cell? ⟨w6.heap.size, 5, none⟩ = some (.string s.o) ∧ V.cell? ⟨W.heap.size, 0, none⟩ = some (.slice a s.rows.length c) ∧ V.cell? ⟨W.heap.size, 1, none⟩ = some (.int .i64 s.l) ∧ V.cell? ⟨W.heap.size, 2, none⟩ = some (.slice b s.ss.length d) ∧ V.cell? ⟨W.heap.size, 3, none⟩ = some (.int .i64 s.k) ∧ V.cell? ⟨W.heap.size, 4, none⟩ = some (.int .i64 s.q) ∧ V.cell? ⟨W.heap.size, 5, none⟩ = some (.string s.o) ∧ Below w8.heap.size w8 V)
      (first | with_reducible exact HK1.out _ hbY)
      (first | (go_at_call 34; refine (HA8.out _ hbY).mono ?_; rintro e w9 ⟨a5, c5, b5, d5, rfl, hU5, hb9⟩; have hbY := hbY.trans (hb9.mono hbY.size)) | (go_at_call 36; refine (HEA.out _ _ _ (hU3.below hbY (Nat.le_refl _)) hU5).mono ?_; rintro e w10 ⟨rfl, hb10⟩; have hbY := hbY.trans (hb10.mono hbY.size)))
    have x0 := (hbY.cell (p := ⟨w7.heap.size, 0, none⟩) hs8).trans x0
    have x1 := (hbY.cell (p := ⟨w7.heap.size, 1, none⟩) hs8).trans x1
    have x2 := (hbY.cell (p := ⟨w7.heap.size, 2, none⟩) hs8).trans x2
    have x3 := (hbY.cell (p := ⟨w7.heap.size, 3, none⟩) hs8).trans x3
    have x4 := (hbY.cell (p := ⟨w7.heap.size, 4, none⟩) hs8).trans x4
    have x5 := (hbY.cell (p := ⟨w7.heap.size, 5, none⟩) hs8).trans x5
    have p0 := (hbY.cell (p := ⟨W.heap.size + 1, 0, none⟩) hz8').trans p0
    have p1 := (hbY.cell (p := ⟨W.heap.size + 1, 1, none⟩) hz8').trans p1
    have p2 := (hbY.cell (p := ⟨W.heap.size + 1, 2, none⟩) hz8').trans p2
    have p3 := (hbY.cell (p := ⟨W.heap.size + 1, 3, none⟩) hz8').trans p3
    have p4 := (hbY.cell (p := ⟨W.heap.size + 1, 4, none⟩) hz8').trans p4
    have p5 := (hbY.cell (p := ⟨W.heap.size + 1, 5, none⟩) hz8').trans p5
    have hs10 : w7.heap.size < w10.heap.size := Nat.lt_of_lt_of_le hs8 hbY.size
    have hz10 : W.heap.size + 1 < w10.heap.size := Nat.lt_of_lt_of_le hz8' hbY.size
    have HK2 := hid (fun (V : World) (hV : Below w10.heap.size w10 V) => show V.cell? ⟨w7.heap.size, 0, none⟩ = some (.slice a4 t.rows.length c4) ∧ V.cell? ⟨w7.heap.size, 1, none⟩ = some (.int .i64 t.l) ∧ V.cell? ⟨w7.heap.size, 2, none⟩ = some (.slice b4 t.ss.length d4) ∧ V.cell? ⟨w7.heap.size, 3, none⟩ = some (.int .i64 t.k) ∧ V.cell? ⟨w7.heap.size, 4, none⟩ = some (.int .i64 t.q) ∧ V.cell? ⟨w7.heap.size, 5, none⟩ = some (.string t.o) ∧ V.cell? ⟨W.heap.size + 1, 0, none⟩ = some (.slice a' t.rows.length c') ∧ V.cell? ⟨W.heap.size + 1, 1, none⟩ = some (.int .i64 t.l) ∧ V.cell? ⟨W.heap.size + 1, 2, none⟩ = some (.slice b' t.ss.length d') ∧ V.cell? ⟨W.heap.size + 1, 3, none⟩ = some (.int .i64 t.k) ∧ V.cell? ⟨W.heap.size + 1, 4, none⟩ = some (.int .i64 t.q) ∧ V.cell? ⟨W.heap.size + 1, 5, none⟩ = some (.string t.o) ∧ Below w10.heap.size w10 V from ⟨(hV.cell (p := ⟨w7.heap.size, 0, none⟩) hs10).trans x0, (hV.cell (p := ⟨w7.heap.size, 1, none⟩) hs10).trans x1, (hV.cell (p := ⟨w7.heap.size, 2, none⟩) hs10).trans x2, (hV.cell (p := ⟨w7.heap.size, 3, none⟩) hs10).trans x3, (hV.cell (p := ⟨w7.heap.size, 4, none⟩) hs10).trans x4, (hV.cell (p := ⟨w7.heap.size, 5, none⟩) hs10).trans x5, (hV.cell (p := ⟨W.heap.size + 1, 0, none⟩) hz10).trans p0, (hV.cell (p := ⟨W.heap.size + 1, 1, none⟩) hz10).trans p1, (hV.cell (p := ⟨W.heap.size + 1, 2, none⟩) hz10).trans p2, (hV.cell (p := ⟨W.heap.size + 1, 3, none⟩) hz10).trans p3, (hV.cell (p := ⟨W.heap.size + 1, 4, none⟩) hz10).trans p4, (hV.cell (p := ⟨W.heap.size + 1, 5, none⟩) hz10).trans p5, hV⟩)
    have hU4 := hU4.below hbY (Nat.le_refl _)
    have HB10 := hid (fun (V : World) (hV : Below w10.heap.size w10 V) => HB8.out V (bs hbY hV))
    have hbX : Below w10.heap.size w10 w10.drew := (Below.refl _ _).drew
    go_wp2
    go_region_held3 (fun V => V.cell? ⟨w7.heap.size, 0, none⟩ = some (.slice a4 t.rows.length c4) ∧ V.cell? ⟨w7.heap.size, 1, none⟩ = some (.int .i64 t.l) ∧ V.cell? ⟨w7.heap.size, 2, none⟩ = some (.slice b4 t.ss.length d4) ∧ V.cell? ⟨w7.heap.size, 3, none⟩ = some (.int .i64 t.k) ∧ V.cell? ⟨w7.heap.size, 4, none⟩ = some (.int .i64 t.q) ∧ V.cell? ⟨w7.heap.size, 5, none⟩ = some (.string t.o) ∧ V.cell? ⟨W.heap.size + 1, 0, none⟩ = some (.slice a' t.rows.length c') ∧ V.cell? ⟨W.heap.size + 1, 1, none⟩ = some (.int .i64 t.l) ∧ V.cell? ⟨W.heap.size + 1, 2, none⟩ = some (.slice b' t.ss.length d') ∧ V.cell? ⟨W.heap.size + 1, 3, none⟩ = some (.int .i64 t.k) ∧ V.cell? ⟨W.heap.size + 1, 4, none⟩ = some (.int .i64 t.q) ∧ V.cell? ⟨W.heap.size + 1, 5, none⟩ = some (.string t.o) ∧ Below w10.heap.size w10 V)
      (first | with_reducible exact HK2.out _ hbX)
      (first | (go_at_call 34; refine (HB10.out _ hbX).mono ?_; rintro e w11 ⟨a6, c6, b6, d6, rfl, hU6, hb11⟩; have hbX := hbX.trans (hb11.mono hbX.size)) | (go_at_call 36; refine (HEB.out _ _ _ (hU4.below hbX (Nat.le_refl _)) hU6).mono ?_; rintro e w12 ⟨rfl, hb12⟩; have hbX := hbX.trans (hb12.mono hbX.size)))
    go_wp2
    go_ret
    exact ⟨rfl, bs hB2.out (bs (hb8Z) (bs hbY hbX))⟩
set_option maxRecDepth 100000 in
theorem lifted_FnExactEqualSession (os : Os) (started : os.Started) (H : Type) (enc : TypeId × Value → H) :
    ReturnsInHanded {} Try.checked os 8 .any (Rows.fnExactEqualSessionSpec.pre6 enc Try.prog Try.f8 Rows.fnExactEqualSessionRow.domain false) (Rows.fnExactEqualSessionSpec.post enc Try.prog Try.f8 false true false false) := by
  refine returnsInHanded_of_change_sized (C := Try.checked) own started (by kernel_rfl) Try.func8
    (ChangeSpec.witness6 (enc := enc) (C := Try.checked) false ⟨#[], #[.agg #[.slice none 0 0, .int .i64 0, .slice none 0 0, .int .i64 0, .int .i64 0, .string ByteArray.empty], .agg #[.slice none 0 0, .int .i64 0, .slice none 0 0, .int .i64 0, .int .i64 0, .string ByteArray.empty]], []⟩ 8 (by kernel_rfl) (by kernel_rfl) (by kernel_rfl) (by kernel_rfl)) ?_
  intro W base args ds gs before hval0 hW hcnd hsz0 _
  have hsz : (DataW.weightsEach Try.prog (Try.f8.params.toList ++ Rows.fnExactEqualSessionSpec.plain.varTypes Try.prog) (ds ++ gs)).all (· ≤ reachBytes) = true := hsz0
  clear hsz0
  have hval : ∀ (j : Nat) t v, Try.f8.params[j]? = some t → args[j]? = some v → Value.okWide Try.prog W .any base t v := hval0
  have hW' := hW
  obtain ⟨p, q, hA0, hV, rfl, hfz, hnd⟩ := hW
  have hA : DataW.TrodAll enc Try.prog W 0 (fun _ => true) true Try.f8.params.toList args.toList ds p := hA0
  rw [Try.params8] at hA hval hsz
  obtain ⟨v0, vs0, d0, ds0, p0, q0, hargs, rfl, rfl, h0, r0⟩ := trodAll_cons hA
  obtain ⟨v1, vs1, d1, ds1, p1, q1, rfl, rfl, rfl, h1, r1⟩ := trodAll_cons r0
  obtain ⟨rfl, rfl, rfl⟩ := trodAll_nil r1
  obtain rfl : args = #[v0, v1] := by cases args; simp_all
  obtain ⟨rfl, rfl⟩ := trodVars_none hV
  have k0 := h0
  have lt0 : ∀ x ∈ p0, x.block < W.heap.size := by obtain ⟨m, hm⟩ := k0; exact DataW.trod_lt m _ _ _ hm
  have k1 := h1
  have lt1 : ∀ x ∈ p1, x.block < W.heap.size := by obtain ⟨m, hm⟩ := k1; exact DataW.trod_lt m _ _ _ hm
  have w0 := open_sess (enc := enc) (hval 0 51 v0 rfl rfl) h0 (fun x hx => DataW.weights_mem_each (j := 0) rfl rfl x hx) hsz
  have w1 := open_sess (enc := enc) (hval 1 51 v1 rfl rfl) h1 (fun x hx => DataW.weights_mem_each (j := 1) rfl rfl x hx) hsz
  clear hA0 hval0
  refine (walk_FnExactEqualSession W v0 w0 v1 w1).mono fun e W' ⟨he, bel⟩ => ?_
  subst he
  exact ⟨_, rfl, _, _, _, [], _, [], hW', trodAll_mk1 (shut_bool Try.underlying4 _), (trodAll_cons_mk (Below.trod laidOut (by kernel_rfl) (of_decide_eq_true (by kernel_rfl)) k0 bel lt0) (trodAll_cons_mk (Below.trod laidOut (by kernel_rfl) (of_decide_eq_true (by kernel_rfl)) k1 bel lt1) trodAll_mk0)), rfl, bel.frame _, fun h => by cases h⟩

theorem closed_FnExactEqualSession : joinedFacts Try.prog 8 Try.f8 Rows.fnExactEqualSessionSpec Rows.fnExactEqualSessionRow = true := by
  unfold joinedFacts
  rw [headMayEnter, headLiftsFinal, headMake]
  kernel_rfl
/-- The law returns true for every input, and its arguments read as before: the given statement. -/
theorem fnExactEqualSession_holds : Rows.FnExactEqualSessionSaid :=
  OpenClaim.holds_of_wide 8 Try.f8 rfl rfl rfl rfl rfl rfl rfl ⟨rfl, rfl, rfl, rfl, rfl⟩ rfl rfl rfl rfl rfl (by as_aux_lemma => kernel_rfl) Try.func8 closed_FnExactEqualSession
    (by as_aux_lemma => exact of_decide_eq_true (by kernel_rfl)) (by unfold Func.isWrapper; first | (rw [if_pos (by decide +kernel)]; kernel_rfl) | (rw [if_neg (by decide +kernel)]; exact ⟨rfl, rfl⟩))
    (fun os started H enc _ => lifted_FnExactEqualSession os started H enc)
#print axioms fnExactEqualSession_holds

end Go.Proofs.Ytomeinlaiidmpaa
