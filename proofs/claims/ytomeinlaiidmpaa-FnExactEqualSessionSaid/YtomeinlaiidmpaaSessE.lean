/- Sessions copied and compared by the laws. Conditions: what came in lies in memory. -/
import Derived.Test.YtomeinlaiidmpaaSessD
import Derived.Test.YtomeinlaiidmpaaBox
namespace Go.Proofs.Ytomeinlaiidmpaa
open Go.RowKit

theorem boxes3 {w w1 : World} {A B C : Array Value} {S T U : TypeId} (h : Below (((w.alloc (.cells A S)).alloc (.cells B T)).alloc (.cells C U)).heap.size (((w.alloc (.cells A S)).alloc (.cells B T)).alloc (.cells C U)) w1) :
    ((∀ k, w1.cell? ⟨w.heap.size, k, none⟩ = A[k]?) ∧ (∀ k, w1.cell? ⟨w.heap.size + 1, k, none⟩ = B[k]?) ∧ (∀ k, w1.cell? ⟨w.heap.size + 1 + 1, k, none⟩ = C[k]?)) ∧ ((∀ k, w1.frozen? ⟨w.heap.size + 1, k, none⟩ = false) ∧ (∀ k, w1.frozen? ⟨w.heap.size + 1 + 1, k, none⟩ = false)) ∧ w.heap.size + 1 + 1 < w1.heap.size ∧ Below w.heap.size w w1 := by
  have hs := h.size
  simp at hs
  refine ⟨⟨fun k => ?_, fun k => ?_, fun k => ?_⟩, ⟨fun k => ?_, fun k => ?_⟩, by omega, ((((Below.refl _ _).alloc (Nat.le_refl _) _).alloc (by simp) _).alloc (by simp; omega) _).trans (h.mono (by simp; omega))⟩
  · refine (h.cell (p := ⟨w.heap.size, k, none⟩) (by simp; omega)).trans ?_
    rw [World.cell?_alloc_past _ _ _ (by simp; omega), World.cell?_alloc_past _ _ _ (by simp), World.cell?_alloc_at _ _ _ _ rfl]
  · refine (h.cell (p := ⟨w.heap.size + 1, k, none⟩) (by simp)).trans ?_
    rw [World.cell?_alloc_past _ _ _ (by simp), World.cell?_alloc_at _ _ _ _ (by simp)]
  · refine (h.cell (p := ⟨w.heap.size + 1 + 1, k, none⟩) (by simp)).trans ?_
    rw [World.cell?_alloc_at _ _ _ _ (by simp)]
  · refine (h.frozen (p := ⟨w.heap.size + 1, k, none⟩) (by simp)).trans ?_
    rw [World.frozen?_alloc_past _ _ _ (by simp), World.frozen?_alloc_at _ _ _ _ (by simp)]
  · refine (h.frozen (p := ⟨w.heap.size + 1 + 1, k, none⟩) (by simp)).trans ?_
    rw [World.frozen?_alloc_at _ _ _ _ (by simp)]
/-- Three blocks behind a call's beginning: the argument's box, the result's, the variable's. -/
structure Bx (w wr : World) (A B C : Array Value) : Prop where
  a : ∀ k, wr.cell? ⟨w.heap.size, k, none⟩ = A[k]?
  b : ∀ k, wr.cell? ⟨w.heap.size + 1, k, none⟩ = B[k]?
  c : ∀ k, wr.cell? ⟨w.heap.size + 1 + 1, k, none⟩ = C[k]?
  fb : ∀ k, wr.frozen? ⟨w.heap.size + 1, k, none⟩ = false
  fc : ∀ k, wr.frozen? ⟨w.heap.size + 1 + 1, k, none⟩ = false
  sz : w.heap.size + 1 + 1 < wr.heap.size
  bel : Below w.heap.size w wr
theorem Bx.call {w wr w' : World} {A B C : Array Value} (h : Bx w wr A B C) (hb : Below wr.heap.size wr w') : Bx w w' A B C := by
  have hz := h.sz
  exact ⟨fun k => (hb.cell (p := ⟨w.heap.size, k, none⟩) (by show w.heap.size < _; omega)).trans (h.a k), fun k => (hb.cell (p := ⟨w.heap.size + 1, k, none⟩) (by show w.heap.size + 1 < _; omega)).trans (h.b k), fun k => (hb.cell (p := ⟨w.heap.size + 1 + 1, k, none⟩) hz).trans (h.c k), fun k => (hb.frozen (p := ⟨w.heap.size + 1, k, none⟩) (by show w.heap.size + 1 < _; omega)).trans (h.fb k), fun k => (hb.frozen (p := ⟨w.heap.size + 1 + 1, k, none⟩) hz).trans (h.fc k), Nat.lt_of_lt_of_le hz hb.size, bs h.bel hb⟩
theorem Bx.setC {w wr : World} {A B C : Array Value} (h : Bx w wr A B C) (j : Nat) (x : Value) (hj : j < C.size) : Bx w (wr.setCell ⟨w.heap.size + 1 + 1, j, none⟩ x) A B (C.setIfInBounds j x) := by
  have hz := h.sz
  refine ⟨fun k => ?_, fun k => ?_, fun k => ?_, fun k => ?_, fun k => ?_, by simpa using hz, h.bel.setCell (by simp; omega) _⟩
  · rw [World.cell?_setCell_other _ _ _ _ (fun e => by injection e with e1; omega)]; exact h.a k
  · rw [World.cell?_setCell_other _ _ _ _ (fun e => by injection e with e1; omega)]; exact h.b k
  · rw [Array.getElem?_setIfInBounds]
    by_cases hk : j = k
    · subst hk
      rw [if_pos rfl, if_pos hj]
      exact World.cell?_setCell_same _ _ _ ((h.c j).trans (Array.getElem?_eq_getElem hj))
    · rw [if_neg hk, World.cell?_setCell_other _ _ _ _ (fun e => by injection e with e1 e2; exact hk e2)]
      exact h.c k
  · rw [World.frozen?_setCell]; exact h.fb k
  · rw [World.frozen?_setCell]; exact h.fc k
set_option maxHeartbeats 1000000 in
theorem toShift_c (l : Int) (a : Option Addr) (n c : Nat) (ss : List ByteArray) (w : World) (hr : RowAt w a n (strVals ss)) (hlim : n * 16 ≤ 140737488355328) :
    Calls Try.prog 63 #[.agg #[.int .i64 l, .slice a n c]] w fun e w' => ∃ b d, e = .returned (.agg #[.int .i64 l, .slice b n d]) ∧ w'.ownsRow w.heap.size 9 1 (.slice b n d) n (strVals ss) ∧ Below w.heap.size w w' := by
  have HT := hid (fun (V : World) (hV : Below w.heap.size w V) => toStringS_c a n c ss V (hr.below hV (Nat.le_refl _)) hlim)
  clear hr
  go_enter Try.func63, Try.ntmps63
  go_wp2_with fail
  refine (HT.out _ ((((Below.refl _ _).alloc (Nat.le_refl _) _).alloc (by simp) _).alloc (by simp; omega) _)).mono ?_
  rintro e w1 ⟨v, rfl, ho1, hb1⟩
  obtain ⟨b, d, rfl, hr1⟩ := owns_rowAt ho1 (by omega)
  obtain ⟨⟨_, hcB, hcC⟩, ⟨hfB, hfC⟩, hz, hB⟩ := boxes3 hb1
  have p0 := hcB 0
  have p1 := hcB 1
  have q0 := hcC 0
  have q1 := hcC 1
  simp at p0 p1 q0 q1
  have f0 := hfB 0
  have f1 := hfB 1
  have f2 := hfC 0
  have f3 := hfC 1
  have HO := hid (owns_base (base' := w.heap.size + 1 + 1 + 1) ho1 (by simp))
  have HB := hid hB
  clear hcB hcC hfB hfC ho1 hb1 hr1 hB HT
  go_wp2
  refine bodyPost_ret (v := .agg #[.int .i64 l, .slice b n d]) (by simp [results, Try.results63, go_sem, p0, p1, show w.heap.size + 1 < w1.heap.size by omega]) rfl ⟨_, _, rfl, ?_, ?_⟩
  · exact owns_base (own_setB (own_setB (own_setB HO.out (by omega) _ _) (by omega) _ _) (by omega) _ _) (by omega)
  · exact ((HB.out.setCell (by simp; omega) _).setCell (by simp) _).setCell (by simp) _
/-- A session of the call's own. -/
def SesOwn (T1 T0 TS : TypeId) (W : World) (base : Nat) (v : Value) (s : Ses) : Prop :=
  ∃ a c b d, v = .agg #[.slice a s.rows.length c, .int .i64 s.l, .slice b s.ss.length d, .int .i64 s.k, .int .i64 s.q, .string s.o] ∧ TabOwn T1 T0 W base (.slice a s.rows.length c) s.rows.length s.rows ∧ W.ownsRow base TS 1 (.slice b s.ss.length d) s.ss.length (strVals s.ss)
theorem SesOwn.at_ {T1 T0 TS : TypeId} {W : World} {base : Nat} {v : Value} {s : Ses} (h : SesOwn T1 T0 TS W base v s) (hf : SesFit s) : SesAt W v s := by
  obtain ⟨a, c, b, d, rfl, h1, h2⟩ := h
  have := hf.rows
  have := hf.ss
  obtain ⟨q, c2, he, hra⟩ := owns_rowAt h2 (by omega)
  injection he with e1 _ e2
  subst e1 e2
  exact ⟨_, _, _, _, rfl, h1.at_ (by omega) hf.row, hra⟩
set_option maxHeartbeats 2000000 in
theorem toSession_c (v : Value) (s : Ses) (w : World) (h : SesAt w v s) (hf : SesFit s) :
    Calls Try.prog 34 #[v] w fun e w' => ∃ v', e = .returned v' ∧ SesOwn 22 3 9 w' w.heap.size v' s ∧ Below w.heap.size w w' := by
  obtain ⟨a, c, b, d, rfl, hT, hR⟩ := h
  obtain ⟨rows, l, ss, k, q, o⟩ := s
  have hrow := hf.row
  have hrl := hf.rows
  have hsl := hf.ss
  unfold SesOwn
  simp only at hT hR hrow hrl hsl ⊢
  clear hf
  have H1 := hid (fun (V : World) (hV : Below w.heap.size w V) => toIntSS_c a rows.length c rows V (hT.below hV (Nat.le_refl _)) hrl hrow)
  have H2 := hid (fun (V : World) (hV : Below w.heap.size w V) => toShift_c l b ss.length d ss V (hR.below hV (Nat.le_refl _)) hsl)
  obtain ⟨n, hn⟩ : ∃ n, n = rows.length := ⟨_, rfl⟩
  obtain ⟨m, hm⟩ : ∃ m, m = ss.length := ⟨_, rfl⟩
  rw [← hn] at H1 ⊢
  rw [← hm] at H2 ⊢
  clear hT hR hrow hrl hsl hn hm
  go_enter Try.func34, Try.ntmps34
  go_wp2_with fail
  refine (H1.out _ ((((Below.refl _ _).alloc (Nat.le_refl _) _).alloc (by simp) _).alloc (by simp; omega) _)).mono ?_
  rintro e w1 ⟨a1, c1, rfl, ho1, hb1⟩
  obtain ⟨⟨hcA, hcB, hcC⟩, ⟨hfB, hfC⟩, hz, hB⟩ := boxes3 hb1
  have X1 := hid (Bx.mk hcA hcB hcC hfB hfC hz hB)
  have HT1 := hid (ho1.base (base' := w.heap.size + 1 + 1 + 1) (by simp))
  clear ho1 hb1 hcA hcB hcC hfB hfC hz hB
  have q1 := X1.out.a 1
  have q2 := X1.out.a 2
  have r0 := X1.out.c 0
  have g0 := X1.out.fc 0
  have X2 := hid (X1.out.setC 0 (.slice a1 n c1) (by simp))
  have HT2 := hid (HT1.out.set (b := w.heap.size + 1 + 1) (by omega) 0 (.slice a1 n c1))
  have hz := X1.out.sz
  simp at q1 q2 r0
  go_wp2_with fail
  refine (H2.out _ X2.out.bel).mono ?_
  rintro e w2 ⟨b1, d1, rfl, ho2, hb2⟩
  have X3 := hid (X2.out.call hb2)
  have HT3 := hid (HT2.out.below hb2)
  have HS3 := hid (owns_base (base' := w.heap.size + 1 + 1 + 1) ho2 (by simp; omega))
  have X4 := hid (((X3.out.setC 1 (.int .i64 l) (by simp)).setC 2 (.slice b1 m d1) (by simp)))
  clear ho2 hb2 q1 q2 r0 g0 hz X1 X2 HT1 HT2
  have q3 := X3.out.a 3
  have q4 := X3.out.a 4
  have q5 := X3.out.a 5
  have r1 := X3.out.c 1
  have r2 := X3.out.c 2
  have g1 := X3.out.fc 1
  have g2 := X3.out.fc 2
  have hz := X3.out.sz
  simp at q3 q4 q5 r1 r2
  go_wp2_with fail
  refine (toCode_c k q o _).mono ?_
  rintro e w3 ⟨rfl, hb3⟩
  have X5 := hid (X4.out.call hb3)
  have HT5 := hid (((HT3.out.set (b := w.heap.size + 1 + 1) (by omega) 1 (.int .i64 l)).set (b := w.heap.size + 1 + 1) (by omega) 2 (.slice b1 m d1)).below hb3)
  have HS5 := hid (owns_below (own_setB (own_setB HS3.out (b := w.heap.size + 1 + 1) (by omega) 1 (.int .i64 l)) (b := w.heap.size + 1 + 1) (by omega) 2 (.slice b1 m d1)) hb3)
  clear hb3 q3 q4 q5 r1 r2 g1 g2 hz X3 X4 HT3 HS3
  have r0 := X5.out.c 0
  have r1 := X5.out.c 1
  have r2 := X5.out.c 2
  have r3 := X5.out.c 3
  have r4 := X5.out.c 4
  have r5 := X5.out.c 5
  have g3 := X5.out.fc 3
  have g4 := X5.out.fc 4
  have g5 := X5.out.fc 5
  have p0 := X5.out.b 0
  have p1 := X5.out.b 1
  have p2 := X5.out.b 2
  have p3 := X5.out.b 3
  have p4 := X5.out.b 4
  have p5 := X5.out.b 5
  have f0 := X5.out.fb 0
  have f1 := X5.out.fb 1
  have f2 := X5.out.fb 2
  have f3 := X5.out.fb 3
  have f4 := X5.out.fb 4
  have f5 := X5.out.fb 5
  have hz := X5.out.sz
  simp at r0 r1 r2 r3 r4 r5 p0 p1 p2 p3 p4 p5
  go_wp2
  have hB := X5.out.bel
  refine bodyPost_ret (v := .agg #[.slice a1 n c1, .int .i64 l, .slice b1 m d1, .int .i64 k, .int .i64 q, .string o]) (by simp [results, Try.results34, go_sem, p0, p1, p2, p3, p4, p5, show w.heap.size + 1 < w3.heap.size by omega]) rfl ⟨_, rfl, ⟨_, _, _, _, rfl, ?_, ?_⟩, ?_⟩
  · exact (((((((((HT5.out.set (by omega) _ _).set (by omega) _ _).set (by omega) _ _).set (by omega) _ _).set (by omega) _ _).set (by omega) _ _).set (by omega) _ _).set (by omega) _ _).set (by omega) _ _).base (by omega)
  · exact owns_base (own_setB (own_setB (own_setB (own_setB (own_setB (own_setB (own_setB (own_setB (own_setB HS5.out (by omega) _ _) (by omega) _ _) (by omega) _ _) (by omega) _ _) (by omega) _ _) (by omega) _ _) (by omega) _ _) (by omega) _ _) (by omega) _ _) (by omega)
  · exact ((((((((hB.setCell (by simp; omega) _).setCell (by simp; omega) _).setCell (by simp; omega) _).setCell (by simp) _).setCell (by simp) _).setCell (by simp) _).setCell (by simp) _).setCell (by simp) _).setCell (by simp) _
set_option maxHeartbeats 1000000 in
theorem eqShift_c (l : Int) (a b : Option Addr) (n c d : Nat) (ss : List ByteArray) (w : World) (ha : RowAt w a n (strVals ss)) (hb : RowAt w b n (strVals ss)) :
    Calls Try.prog 67 #[.agg #[.int .i64 l, .slice a n c], .agg #[.int .i64 l, .slice b n d]] w fun e w' => e = .returned (.bool true) ∧ Below w.heap.size w w' := by
  have HE := hid (fun (V : World) (hV : Below w.heap.size w V) => eqStringS_c a b n c d ss V (ha.below hV (Nat.le_refl _)) (hb.below hV (Nat.le_refl _)))
  clear ha hb
  have hB : Below w.heap.size w ((w.alloc (.cells #[.int .i64 l, .slice a n c] 54)).alloc (.cells #[.int .i64 l, .slice b n d] 54)) := ((Below.refl _ _).alloc (Nat.le_refl _) _).alloc (by simp) _
  go_enter Try.func67, Try.ntmps67
  go_wp2_with fail
  refine (HE.out _ hB).mono ?_
  rintro e w1 ⟨rfl, hb1⟩
  go_wp2
  go_ret
  exact ⟨rfl, hB.trans (hb1.mono hB.size)⟩
set_option maxHeartbeats 1000000 in
theorem eqCode_c (k q : Int) (o : ByteArray) (w : World) :
    Calls Try.prog 68 #[.agg #[.int .i64 k, .int .i64 q, .string o], .agg #[.int .i64 k, .int .i64 q, .string o]] w fun e w' => e = .returned (.bool true) ∧ Below w.heap.size w w' := by
  go_enter Try.func68, Try.ntmps68
  go_wp2
  go_ret
  exact ⟨rfl, ((Below.refl _ _).alloc (Nat.le_refl _) _).alloc (by simp) _⟩
set_option maxHeartbeats 2000000 in
theorem eqSession_c (v u : Value) (s : Ses) (w : World) (h : SesAt w v s) (h' : SesAt w u s) :
    Calls Try.prog 36 #[v, u] w fun e w' => e = .returned (.bool true) ∧ Below w.heap.size w w' := by
  obtain ⟨a, c, b, d, rfl, hT, hR⟩ := h
  obtain ⟨a', c', b', d', rfl, hT', hR'⟩ := h'
  obtain ⟨rows, l, ss, k, q, o⟩ := s
  simp only at hT hR hT' hR' ⊢
  have H1 := hid (fun (V : World) (hV : Below w.heap.size w V) => eqIntSS_c a a' rows.length c c' rows V (hT.below hV (Nat.le_refl _)) (hT'.below hV (Nat.le_refl _)))
  have H2 := hid (fun (V : World) (hV : Below w.heap.size w V) => eqShift_c l b b' ss.length d d' ss V (hR.below hV (Nat.le_refl _)) (hR'.below hV (Nat.le_refl _)))
  obtain ⟨n, hn⟩ : ∃ n, n = rows.length := ⟨_, rfl⟩
  obtain ⟨m, hm⟩ : ∃ m, m = ss.length := ⟨_, rfl⟩
  rw [← hn] at H1 ⊢
  rw [← hm] at H2 ⊢
  clear hT hR hT' hR' hn hm
  go_enter Try.func36, Try.ntmps36
  go_wp2_with fail
  refine (H1.out _ (((Below.refl _ _).alloc (Nat.le_refl _) _).alloc (by simp) _)).mono ?_
  rintro e w1 ⟨rfl, z, hz⟩
  have hb1 : Below (((w.alloc (.cells #[.slice a n c, .int .i64 l, .slice b m d, .int .i64 k, .int .i64 q, .string o] 57)).alloc (.cells #[.slice a' n c', .int .i64 l, .slice b' m d', .int .i64 k, .int .i64 q, .string o] 57)).heap.size) ((w.alloc (.cells #[.slice a n c, .int .i64 l, .slice b m d, .int .i64 k, .int .i64 q, .string o] 57)).alloc (.cells #[.slice a' n c', .int .i64 l, .slice b' m d', .int .i64 k, .int .i64 q, .string o] 57)) w1 := by
    rw [hz]; exact below_drewN (Below.refl _ _) z
  obtain ⟨⟨hA, _⟩, ⟨hA', _⟩, hz1, hB⟩ := box2 hb1
  have q1 := hA 1
  have q2 := hA 2
  have q3 := hA 3
  have q4 := hA 4
  have q5 := hA 5
  have p1 := hA' 1
  have p2 := hA' 2
  have p3 := hA' 3
  have p4 := hA' 4
  have p5 := hA' 5
  simp at q1 q2 q3 q4 q5 p1 p2 p3 p4 p5
  clear hz hb1 hA hA'
  go_wp2_with fail
  refine (H2.out _ hB).mono ?_
  rintro e w2 ⟨rfl, hb2⟩
  have hz0 : w.heap.size < w1.heap.size := by omega
  have q3 := (hb2.cell (p := ⟨w.heap.size, 3, none⟩) hz0).trans q3
  have q4 := (hb2.cell (p := ⟨w.heap.size, 4, none⟩) hz0).trans q4
  have q5 := (hb2.cell (p := ⟨w.heap.size, 5, none⟩) hz0).trans q5
  have p3 := (hb2.cell (p := ⟨w.heap.size + 1, 3, none⟩) hz1).trans p3
  have p4 := (hb2.cell (p := ⟨w.heap.size + 1, 4, none⟩) hz1).trans p4
  have p5 := (hb2.cell (p := ⟨w.heap.size + 1, 5, none⟩) hz1).trans p5
  go_wp2_with fail
  refine (eqCode_c k q o _).mono ?_
  rintro e w3 ⟨rfl, hb3⟩
  go_wp2
  go_ret
  exact ⟨rfl, bs (bs hB hb2) hb3⟩
end Go.Proofs.Ytomeinlaiidmpaa
