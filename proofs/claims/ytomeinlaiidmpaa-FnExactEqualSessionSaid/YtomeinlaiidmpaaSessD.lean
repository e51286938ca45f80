/- Sessions sized, copied, compared by the laws. Conditions: what came in lies in memory. -/
import Derived.Test.YtomeinlaiidmpaaSessC
namespace Go.Proofs.Ytomeinlaiidmpaa
open Go.RowKit

theorem boxA {w wr : World} {A : Array Value} {T : TypeId} (h : Below (w.alloc (.cells A T)).heap.size (w.alloc (.cells A T)) wr) :
    (∀ k, wr.cell? ⟨w.heap.size, k, none⟩ = A[k]?) ∧ (∀ k, wr.frozen? ⟨w.heap.size, k, none⟩ = false) ∧ w.heap.size < wr.heap.size ∧ Below w.heap.size w wr := by
  have hs := h.size
  simp at hs
  refine ⟨fun k => ?_, fun k => ?_, by omega, ((Below.refl _ _).alloc (Nat.le_refl _) _).trans (h.mono (by simp))⟩
  · exact (h.cell (p := ⟨w.heap.size, k, none⟩) (by simp)).trans (World.cell?_alloc_at _ _ _ _ rfl)
  · exact (h.frozen (p := ⟨w.heap.size, k, none⟩) (by simp)).trans (World.frozen?_alloc_at _ _ _ _ rfl)
theorem szP_of {ss : List ByteArray} {L : Nat} {w w' : World} {e : Ending} (h : SzPost L ss w e w') : SzP L w e w' := by
  obtain ⟨rfl, r, rfl, h⟩ := h
  refine ⟨r, rfl, ?_, Below.refl _ _⟩
  rcases h with ⟨rfl, _⟩ | ⟨h1, h2⟩
  · exact .inl rfl
  · exact .inr ⟨r.toNat, by omega, by omega⟩
set_option maxHeartbeats 1000000 in
theorem szShift_c (l : Int) (a : Option Addr) (c L : Nat) (ss : List ByteArray) (w : World) (hr : RowAt w a ss.length (strVals ss)) (hL : L ≤ 1048576) (hs : ∀ s ∈ ss, s.size ≤ maxLen) :
    Calls Try.prog 59 #[.agg #[.int .i64 l, .slice a ss.length c], .int .i64 L] w (SzP L w) := by
  have hB : Below w.heap.size w (w.alloc (.cells #[.int .i64 l, .slice a ss.length c] 47)) := (Below.refl _ _).alloc (Nat.le_refl _) _
  have HS := hid (Calls.mono (szStringS_c a ss.length c L ss _ (hr.below hB (Nat.le_refl _)) hL hs) (fun e w' h => szP_of h))
  obtain ⟨n, hn⟩ : ∃ n, n = ss.length := ⟨_, rfl⟩
  rw [← hn] at HS hB ⊢
  clear hr hs hn
  unfold SzP at HS ⊢
  go_enter Try.func59, Try.ntmps59
  go_wp2_with fail
  refine HS.out.mono ?_
  rintro e w1 ⟨r, rfl, hr, hb1⟩
  have HB := hid (hB.trans (hb1.mono (by simp)))
  clear hb1
  rcases hr with rfl | ⟨m, rfl, hm⟩
  · go_wp2
    go_ret
    exact ⟨_, rfl, .inl rfl, HB.out⟩
  · go_wp2
    go_ret
    exact ⟨_, rfl, .inr ⟨m, rfl, hm⟩, HB.out⟩
set_option maxHeartbeats 2000000 in
theorem szSession_c (v : Value) (s : Ses) (L : Nat) (w : World) (h : SesAt w v s) (hf : SesFit s) (hL : L ≤ 1048576) :
    Calls Try.prog 32 #[v, .int .i64 L] w (SzP L w) := by
  obtain ⟨a, c, b, d, rfl, hT, hR⟩ := h
  obtain ⟨rows, l, ss, k, q, o⟩ := s
  have hrow := hf.row
  have hss := hf.sz
  have ho := hf.o
  simp only at hT hR hrow hss ho
  clear hf
  obtain ⟨A, hA⟩ : ∃ A : Array Value, A = #[.slice a rows.length c, .int .i64 l, .slice b ss.length d, .int .i64 k, .int .i64 q, .string o] := ⟨_, rfl⟩
  have hB : Below w.heap.size w (w.alloc (.cells A 51)) := (Below.refl _ _).alloc (Nat.le_refl _) _
  have H1 := hid (fun (V : World) (hV : Below w.heap.size w V) => szIntSS_c a rows.length c L rows V (hT.below hV (Nat.le_refl _)) hL hrow)
  have H2 := hid (fun (V : World) (hV : Below w.heap.size w V) (L : Nat) (hL : L ≤ 1048576) => szShift_c l b d L ss V (hR.below hV (Nat.le_refl _)) hL hss)
  have H3 := hid (fun (V : World) (L : Nat) (hL : L ≤ 1048576) => szCode_c k q o L V hL ho)
  obtain ⟨n, hn⟩ : ∃ n, n = rows.length := ⟨_, rfl⟩
  obtain ⟨m, hm⟩ : ∃ m, m = ss.length := ⟨_, rfl⟩
  obtain ⟨z, hz⟩ : ∃ z, z = o.size := ⟨_, rfl⟩
  rw [← hn] at H1 hA ⊢
  rw [← hm] at H2 hA ⊢
  rw [← hz] at H3
  clear hT hR hrow hss ho hn hm hz
  unfold SzP at H1 H2 ⊢
  go_enter Try.func32, Try.ntmps32
  go_wp2_with fail
  rw [← hA]
  refine (H1.out _ hB).mono ?_
  rintro e w1 ⟨r, rfl, hr, hb1⟩
  obtain ⟨hc, _, hz1, hB1⟩ := boxA hb1
  rw [hA] at hc
  have q1 := hc 1
  have q2 := hc 2
  have q3 := hc 3
  have q4 := hc 4
  have q5 := hc 5
  simp at q1 q2 q3 q4 q5
  clear hb1 hc
  rcases hr with rfl | ⟨m1, rfl, hm1⟩
  · go_wp2
    go_ret
    exact ⟨_, rfl, .inl rfl, hB1⟩
  go_wp2_with fail
  refine (H2.out _ hB1 m1 (by omega)).mono ?_
  rintro e w2 ⟨r, rfl, hr, hb2⟩
  have q3 := (hb2.cell (p := ⟨w.heap.size, 3, none⟩) hz1).trans q3
  have q4 := (hb2.cell (p := ⟨w.heap.size, 4, none⟩) hz1).trans q4
  have q5 := (hb2.cell (p := ⟨w.heap.size, 5, none⟩) hz1).trans q5
  have hB2 := bs hB1 hb2
  rcases hr with rfl | ⟨m2, rfl, hm2⟩
  · go_wp2
    go_ret
    exact ⟨_, rfl, .inl rfl, hB2⟩
  go_wp2_with fail
  refine (H3.out _ m2 (by omega)).mono ?_
  rintro e w3 ⟨rfl, hb3⟩
  have hB3 := bs hB2 hb3
  by_cases hlt : m2 < z
  · simp only [hlt, if_true]
    go_wp2
    go_ret
    exact ⟨_, rfl, .inl rfl, hB3⟩
  · have hlt2 : ¬ ((m2 : Int) - (z : Int) < 0) := by omega
    simp only [hlt, if_false]
    go_wp2
    go_ret
    exact ⟨_, rfl, .inr ⟨m2 - z, by omega, by omega⟩, hB3⟩
end Go.Proofs.Ytomeinlaiidmpaa
