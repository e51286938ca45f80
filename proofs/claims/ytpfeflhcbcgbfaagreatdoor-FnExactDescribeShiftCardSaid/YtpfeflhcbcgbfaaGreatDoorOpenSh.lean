/- Shifts that came in: opened. No condition. -/
import Derived.Deep.Slices
import Derived.Deep.Strs
import Derived.Test.YtpfeflhcbcgbfaaGreatDoorSessC
import Derived.Test.YtpfeflhcbcgbfaaGreatDoorNumber
import Derived.Test.YtpfeflhcbcgbfaaGreatDoorSrch
namespace Go.Proofs.YtpfeflhcbcgbfaaGreatDoor
open Go.RowKit

theorem boxA {w wr : World} {A : Array Value} {T : TypeId} (h : Below (w.alloc (.cells A T)).heap.size (w.alloc (.cells A T)) wr) :
    (∀ k, wr.cell? ⟨w.heap.size, k, none⟩ = A[k]?) ∧ (∀ k, wr.frozen? ⟨w.heap.size, k, none⟩ = false) ∧ w.heap.size < wr.heap.size ∧ Below w.heap.size w wr := by
  have hs := h.size
  simp at hs
  refine ⟨fun k => ?_, fun k => ?_, by omega, ((Below.refl _ _).alloc (Nat.le_refl _) _).trans (h.mono (by simp))⟩
  · exact (h.cell (p := ⟨w.heap.size, k, none⟩) (by simp)).trans (World.cell?_alloc_at _ _ _ _ rfl)
  · exact (h.frozen (p := ⟨w.heap.size, k, none⟩) (by simp)).trans (World.frozen?_alloc_at _ _ _ _ rfl)
theorem szP_of {ss : List ByteArray} {L : Nat} {w w' : World} {e : Ending} (h : SzPost L ss w e w') : SzP L w e w' := by
  obtain ⟨rfl, r, rfl, h⟩ := h
  refine ⟨r, rfl, ?_, Below.refl _ _⟩
  rcases h with ⟨rfl, _⟩ | ⟨h1, h2⟩
  · exact .inl rfl
  · exact .inr ⟨r.toNat, by omega, by omega⟩
set_option maxHeartbeats 1000000 in
theorem szShift_c (l : Int) (a : Option Addr) (c L : Nat) (ss : List ByteArray) (w : World) (hr : RowAt w a ss.length (strVals ss)) (hL : L ≤ 1048576) (hs : ∀ s ∈ ss, s.size ≤ maxLen) :
    Calls Tryz.prog 5 #[.agg #[.int .i64 l, .slice a ss.length c], .int .i64 L] w (SzP L w) := by
  have hB : Below w.heap.size w (w.alloc (.cells #[.int .i64 l, .slice a ss.length c] 24)) := (Below.refl _ _).alloc (Nat.le_refl _) _
  have HS := hid (Calls.mono (szStringS_c a ss.length c L ss _ (hr.below hB (Nat.le_refl _)) hL hs) (fun e w' h => szP_of h))
  obtain ⟨n, hn⟩ : ∃ n, n = ss.length := ⟨_, rfl⟩
  rw [← hn] at HS hB ⊢
  clear hr hs hn
  unfold SzP at HS ⊢
  go_enter Tryz.func5, Tryz.ntmps5
  go_wp2_with fail
  refine HS.out.mono ?_
  rintro e w1 ⟨r, rfl, hr, hb1⟩
  have HB := hid (hB.trans (hb1.mono (by simp)))
  clear hb1
  rcases hr with rfl | ⟨m, rfl, hm⟩
  · go_wp2
    go_ret
    exact ⟨_, rfl, .inl rfl, HB.out⟩
  · go_wp2
    go_ret
    exact ⟨_, rfl, .inr ⟨m, rfl, hm⟩, HB.out⟩
end Go.Proofs.YtpfeflhcbcgbfaaGreatDoor
namespace Go.Proofs.YtpfeflhcbcgbfaaGreatDoor
open Go.RowKit

theorem boxes3 {w w1 : World} {A B C : Array Value} {S T U : TypeId} (h : Below (((w.alloc (.cells A S)).alloc (.cells B T)).alloc (.cells C U)).heap.size (((w.alloc (.cells A S)).alloc (.cells B T)).alloc (.cells C U)) w1) :
    ((∀ k, w1.cell? ⟨w.heap.size, k, none⟩ = A[k]?) ∧ (∀ k, w1.cell? ⟨w.heap.size + 1, k, none⟩ = B[k]?) ∧ (∀ k, w1.cell? ⟨w.heap.size + 1 + 1, k, none⟩ = C[k]?)) ∧ ((∀ k, w1.frozen? ⟨w.heap.size + 1, k, none⟩ = false) ∧ (∀ k, w1.frozen? ⟨w.heap.size + 1 + 1, k, none⟩ = false)) ∧ w.heap.size + 1 + 1 < w1.heap.size ∧ Below w.heap.size w w1 := by
  have hs := h.size
  simp at hs
  refine ⟨⟨fun k => ?_, fun k => ?_, fun k => ?_⟩, ⟨fun k => ?_, fun k => ?_⟩, by omega, ((((Below.refl _ _).alloc (Nat.le_refl _) _).alloc (by simp) _).alloc (by simp; omega) _).trans (h.mono (by simp; omega))⟩
  · refine (h.cell (p := ⟨w.heap.size, k, none⟩) (by simp; omega)).trans ?_
    rw [World.cell?_alloc_past _ _ _ (by simp; omega), World.cell?_alloc_past _ _ _ (by simp), World.cell?_alloc_at _ _ _ _ rfl]
  · refine (h.cell (p := ⟨w.heap.size + 1, k, none⟩) (by simp)).trans ?_
    rw [World.cell?_alloc_past _ _ _ (by simp), World.cell?_alloc_at _ _ _ _ (by simp)]
  · refine (h.cell (p := ⟨w.heap.size + 1 + 1, k, none⟩) (by simp)).trans ?_
    rw [World.cell?_alloc_at _ _ _ _ (by simp)]
  · refine (h.frozen (p := ⟨w.heap.size + 1, k, none⟩) (by simp)).trans ?_
    rw [World.frozen?_alloc_past _ _ _ (by simp), World.frozen?_alloc_at _ _ _ _ (by simp)]
  · refine (h.frozen (p := ⟨w.heap.size + 1 + 1, k, none⟩) (by simp)).trans ?_
    rw [World.frozen?_alloc_at _ _ _ _ (by simp)]
/-- Three blocks behind a call's beginning: the argument's box, the result's, the variable's. -/
structure Bx (w wr : World) (A B C : Array Value) : Prop where
  a : ∀ k, wr.cell? ⟨w.heap.size, k, none⟩ = A[k]?
  b : ∀ k, wr.cell? ⟨w.heap.size + 1, k, none⟩ = B[k]?
  c : ∀ k, wr.cell? ⟨w.heap.size + 1 + 1, k, none⟩ = C[k]?
  fb : ∀ k, wr.frozen? ⟨w.heap.size + 1, k, none⟩ = false
  fc : ∀ k, wr.frozen? ⟨w.heap.size + 1 + 1, k, none⟩ = false
  sz : w.heap.size + 1 + 1 < wr.heap.size
  bel : Below w.heap.size w wr
theorem Bx.call {w wr w' : World} {A B C : Array Value} (h : Bx w wr A B C) (hb : Below wr.heap.size wr w') : Bx w w' A B C := by
  have hz := h.sz
  exact ⟨fun k => (hb.cell (p := ⟨w.heap.size, k, none⟩) (by show w.heap.size < _; omega)).trans (h.a k), fun k => (hb.cell (p := ⟨w.heap.size + 1, k, none⟩) (by show w.heap.size + 1 < _; omega)).trans (h.b k), fun k => (hb.cell (p := ⟨w.heap.size + 1 + 1, k, none⟩) hz).trans (h.c k), fun k => (hb.frozen (p := ⟨w.heap.size + 1, k, none⟩) (by show w.heap.size + 1 < _; omega)).trans (h.fb k), fun k => (hb.frozen (p := ⟨w.heap.size + 1 + 1, k, none⟩) hz).trans (h.fc k), Nat.lt_of_lt_of_le hz hb.size, bs h.bel hb⟩
theorem Bx.setC {w wr : World} {A B C : Array Value} (h : Bx w wr A B C) (j : Nat) (x : Value) (hj : j < C.size) : Bx w (wr.setCell ⟨w.heap.size + 1 + 1, j, none⟩ x) A B (C.setIfInBounds j x) := by
  have hz := h.sz
  refine ⟨fun k => ?_, fun k => ?_, fun k => ?_, fun k => ?_, fun k => ?_, by simpa using hz, h.bel.setCell (by simp; omega) _⟩
  · rw [World.cell?_setCell_other _ _ _ _ (fun e => by injection e with e1; omega)]; exact h.a k
  · rw [World.cell?_setCell_other _ _ _ _ (fun e => by injection e with e1; omega)]; exact h.b k
  · rw [Array.getElem?_setIfInBounds]
    by_cases hk : j = k
    · subst hk
      rw [if_pos rfl, if_pos hj]
      exact World.cell?_setCell_same _ _ _ ((h.c j).trans (Array.getElem?_eq_getElem hj))
    · rw [if_neg hk, World.cell?_setCell_other _ _ _ _ (fun e => by injection e with e1 e2; exact hk e2)]
      exact h.c k
  · rw [World.frozen?_setCell]; exact h.fb k
  · rw [World.frozen?_setCell]; exact h.fc k
set_option maxHeartbeats 1000000 in
theorem toShift_c (l : Int) (a : Option Addr) (n c : Nat) (ss : List ByteArray) (w : World) (hr : RowAt w a n (strVals ss)) (hlim : n * 16 ≤ 140737488355328) :
    Calls Tryz.prog 7 #[.agg #[.int .i64 l, .slice a n c]] w fun e w' => ∃ b d, e = .returned (.agg #[.int .i64 l, .slice b n d]) ∧ w'.ownsRow w.heap.size 9 1 (.slice b n d) n (strVals ss) ∧ Below w.heap.size w w' := by
  have HT := hid (fun (V : World) (hV : Below w.heap.size w V) => toStringS_c a n c ss V (hr.below hV (Nat.le_refl _)) hlim)
  clear hr
  go_enter Tryz.func7, Tryz.ntmps7
  go_wp2_with fail
  refine (HT.out _ ((((Below.refl _ _).alloc (Nat.le_refl _) _).alloc (by simp) _).alloc (by simp; omega) _)).mono ?_
  rintro e w1 ⟨v, rfl, ho1, hb1⟩
  obtain ⟨b, d, rfl, hr1⟩ := owns_rowAt ho1 (by omega)
  obtain ⟨⟨_, hcB, hcC⟩, ⟨hfB, hfC⟩, hz, hB⟩ := boxes3 hb1
  have p0 := hcB 0
  have p1 := hcB 1
  have q0 := hcC 0
  have q1 := hcC 1
  simp at p0 p1 q0 q1
  have f0 := hfB 0
  have f1 := hfB 1
  have f2 := hfC 0
  have f3 := hfC 1
  have HO := hid (owns_base (base' := w.heap.size + 1 + 1 + 1) ho1 (by simp))
  have HB := hid hB
  clear hcB hcC hfB hfC ho1 hb1 hr1 hB HT
  go_wp2
  refine bodyPost_ret (v := .agg #[.int .i64 l, .slice b n d]) (by simp [results, Tryz.results7, go_sem, p0, p1, show w.heap.size + 1 < w1.heap.size by omega]) rfl ⟨_, _, rfl, ?_, ?_⟩
  · exact owns_base (own_setB (own_setB (own_setB HO.out (by omega) _ _) (by omega) _ _) (by omega) _ _) (by omega)
  · exact ((HB.out.setCell (by simp; omega) _).setCell (by simp) _).setCell (by simp) _
/-- A session of the call's own. -/
def SesOwn (T1 T0 TS : TypeId) (W : World) (base : Nat) (v : Value) (s : Ses) : Prop :=
  ∃ a c b d, v = .agg #[.slice a s.rows.length c, .int .i64 s.l, .slice b s.ss.length d, .int .i64 s.k, .int .i64 s.q, .string s.o] ∧ TabOwn T1 T0 W base (.slice a s.rows.length c) s.rows.length s.rows ∧ W.ownsRow base TS 1 (.slice b s.ss.length d) s.ss.length (strVals s.ss)
theorem SesOwn.at_ {T1 T0 TS : TypeId} {W : World} {base : Nat} {v : Value} {s : Ses} (h : SesOwn T1 T0 TS W base v s) (hf : SesFit s) : SesAt W v s := by
  obtain ⟨a, c, b, d, rfl, h1, h2⟩ := h
  have := hf.rows
  have := hf.ss
  obtain ⟨q, c2, he, hra⟩ := owns_rowAt h2 (by omega)
  injection he with e1 _ e2
  subst e1 e2
  exact ⟨_, _, _, _, rfl, h1.at_ (by omega) hf.row, hra⟩
set_option maxHeartbeats 1000000 in
theorem eqShift_c (l : Int) (a b : Option Addr) (n c d : Nat) (ss : List ByteArray) (w : World) (ha : RowAt w a n (strVals ss)) (hb : RowAt w b n (strVals ss)) :
    Calls Tryz.prog 9 #[.agg #[.int .i64 l, .slice a n c], .agg #[.int .i64 l, .slice b n d]] w fun e w' => e = .returned (.bool true) ∧ Below w.heap.size w w' := by
  have HE := hid (fun (V : World) (hV : Below w.heap.size w V) => eqStringS_c a b n c d ss V (ha.below hV (Nat.le_refl _)) (hb.below hV (Nat.le_refl _)))
  clear ha hb
  have hB : Below w.heap.size w ((w.alloc (.cells #[.int .i64 l, .slice a n c] 27)).alloc (.cells #[.int .i64 l, .slice b n d] 27)) := ((Below.refl _ _).alloc (Nat.le_refl _) _).alloc (by simp) _
  go_enter Tryz.func9, Tryz.ntmps9
  go_wp2_with fail
  refine (HE.out _ hB).mono ?_
  rintro e w1 ⟨rfl, hb1⟩
  go_wp2
  go_ret
  exact ⟨rfl, hB.trans (hb1.mono hB.size)⟩
end Go.Proofs.YtpfeflhcbcgbfaaGreatDoor
namespace Go.Proofs.YtpfeflhcbcgbfaaGreatDoor
open Go.ChangeShapes Go.WideShapes Go.ChangeAt Go.RowKit
open Go.ChangeMaps (open_string shut_string)

/-- A shift that came in. -/
def ShiftIn (W : World) (v : Value) : Prop := ∃ L a c ss, v = .agg #[.int .i64 L, .slice a ss.length c] ∧ RowAt W a ss.length (strVals ss) ∧ ss.length * 16 ≤ 140737488355328 ∧ ∀ s ∈ ss, s.size ≤ maxLen
theorem cellsLawSh : Tryz.prog.cellsOf 24 = 2 := by kernel_rfl
set_option maxRecDepth 100000 in
theorem open_shift {H : Type} {enc : TypeId × Value → H} {W : World} {base : Nat} {v : Value} {d : DataW H} {p : List MemPlace} {ws : List Nat}
    (hval : Value.okWide Tryz.prog W .any base 24 v) (h : DataW.Trod enc Tryz.prog W 0 (fun _ => true) true 24 v d p)
    (hm : ∀ x ∈ d.weights Tryz.prog 24, x ∈ ws) (hall : ws.all (· ≤ reachBytes) = true) : ShiftIn W v := by
  obtain ⟨c0, c1, y0, y1, m, rfl, rfl, rfl, hy0, hy1⟩ := Go.Joins.open_agg2 Tryz.underlying24 (by kernel_rfl) cellsLawSh hval h
  obtain ⟨a0, e0, _, _⟩ := DataW.trod_int Tryz.underlying3 hy0
  simp at e0
  subst e0
  obtain ⟨a, c, ss, rfl, hr, h1, h2⟩ := strs_in hy1 (fun x hx => hm x (by
    simp only [DataW.weights, Tryz.underlying24]
    exact List.mem_append_right _ (List.mem_append_left _ hx))) hall
  exact ⟨a0, a, c, ss, rfl, hr, h1, h2⟩
end Go.Proofs.YtpfeflhcbcgbfaaGreatDoor
