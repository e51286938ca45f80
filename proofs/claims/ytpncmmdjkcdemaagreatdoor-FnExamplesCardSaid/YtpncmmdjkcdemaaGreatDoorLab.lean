/- Labelled graphs: compared, marked, held; the examples of both functions. No condition. -/
import Derived.Test.YtpncmmdjkcdemaaGreatDoorRunL
import Derived.Test.YtpncmmdjkcdemaaGreatDoorRule
namespace Go.Proofs.YtpncmmdjkcdemaaGreatDoor
open Go.RowKit

/-- What a function returns that hands out a graph with labels. -/
def LabPost (a b : Int) (ok : Bool) (n : Nat) (xs : List Int) (w : World) (e : Ending) (w' : World) : Prop :=
  ∃ g c, e = .returned (.tuple #[.agg #[.int .i64 a, .int .i64 b, .slice g n c], .bool ok]) ∧ w'.ownsRow w.heap.size 54 3 (.slice g n c) n (intVals xs) ∧ Below w.heap.size w w'
theorem lab_of_run {d k : Nat} {w w' : World} {e : Ending} (h : RunPost d k w e w') : LabPost 2 ((k : Int) + 1) true (arcsC d k (k + 1)) (arcsN d k (k + 1)) w e w' := by
  obtain ⟨v, rfl, ho, hb⟩ := h
  obtain ⟨g, c, rfl⟩ : ∃ g c, v = .slice g (arcsC d k (k + 1)) c := by
    rcases ho.2 with ⟨h0, h1⟩ | ⟨g, cap, cur, he, _⟩
    · exact ⟨none, 0, by rw [h0, h1]⟩
    · exact ⟨_, _, he⟩
  exact ⟨g, c, rfl, ho, hb⟩
theorem own_set2 {wr : World} {B e s n b : Nat} {v : Value} {xs : List Value} (h : wr.ownsRow B e s v n xs) (hb : ∀ q, v.ownBlock = some q → q ≠ b) (q : Nat) (y : Value) : (wr.setCell ⟨b, q, none⟩ y).ownsRow B e s v n xs :=
  h.kept (row := some b) ⟨rfl, rfl, rfl, by simp, fun p hq hr => Below.heap_setCell _ _ _ _ (fun e => hr (by rw [show p = b from e]))⟩ (by
    cases hv : v.ownBlock with
    | none => exact .inl rfl
    | some q => exact .inr fun e => hb q hv (by injection e))
set_option maxHeartbeats 1000000 in
theorem spec_Labels1 (w : World) : Calls Tryz.prog 13 #[.int .i64 1] w (LabPost 2 2 true 3 [0, 0, 0, 0, 1, 1, 1, 0, 1] w) := by
  unfold LabPost
  go_enter Tryz.func13, Tryz.ntmps13
  go_wp2
  refine bodyPost_ret (v := .tuple #[.agg #[.int .i64 2, .int .i64 2, .slice (some ⟨w.heap.size + 1, 0, none⟩) 3 3], .bool true]) (by simp [results, Tryz.results13, go_sem]) rfl ⟨_, _, rfl, ?_, ?_⟩
  · have := World.ownsRow_lit (base := w.heap.size) (e := 54) (size := 3) (w.alloc (.cells #[.int .i64 2, .int .i64 2, .slice (some ⟨w.heap.size + 1, 0, none⟩) 3 3] 35)) #[.int .i64 0, .int .i64 0, .int .i64 0, .int .i64 0, .int .i64 1, .int .i64 1, .int .i64 1, .int .i64 0, .int .i64 1] 3 (by simp) (by unfold maxLen; omega) rfl
    simp only [World.size_alloc] at this
    exact this
  · exact ((Below.refl _ _).alloc (Nat.le_refl _) _).alloc (by simp) _
set_option maxHeartbeats 1000000 in
theorem impl_Labels1 (w : World) : Calls Tryz.prog 12 #[.int .i64 1] w (LabPost 2 2 true 3 [0, 0, 0, 0, 1, 1, 1, 0, 1] w) := by
  unfold LabPost
  go_enter Tryz.func12, Tryz.ntmps12
  go_wp2
  refine bodyPost_ret (v := .tuple #[.agg #[.int .i64 2, .int .i64 2, .slice (some ⟨w.heap.size + 1, 0, none⟩) 3 3], .bool true]) (by simp [results, Tryz.results12, go_sem]) rfl ⟨_, _, rfl, ?_, ?_⟩
  · have := World.ownsRow_lit (base := w.heap.size) (e := 54) (size := 3) (w.alloc (.cells #[.int .i64 2, .int .i64 2, .slice (some ⟨w.heap.size + 1, 0, none⟩) 3 3] 35)) #[.int .i64 0, .int .i64 0, .int .i64 0, .int .i64 0, .int .i64 1, .int .i64 1, .int .i64 1, .int .i64 0, .int .i64 1] 3 (by simp) (by unfold maxLen; omega) rfl
    simp only [World.size_alloc] at this
    exact this
  · exact ((Below.refl _ _).alloc (Nat.le_refl _) _).alloc (by simp) _
set_option maxHeartbeats 1000000 in
theorem spec_Labels0 (t : Int) (w : World) (h1 : t ≠ 1) (h2 : t ≠ 2) (h3 : t ≠ 3) : Calls Tryz.prog 13 #[.int .i64 t] w (LabPost 0 0 false 0 [] w) := by
  unfold LabPost
  have g1 : (t == 1) = false := by simp [h1]
  have g2 : (t == 2) = false := by simp [h2]
  have g3 : (t == 3) = false := by simp [h3]
  clear h1 h2 h3
  go_enter Tryz.func13, Tryz.ntmps13
  go_wp2
  refine bodyPost_ret (v := .tuple #[.agg #[.int .i64 0, .int .i64 0, .slice none 0 0], .bool false]) (by simp [results, Tryz.results13, go_sem]) rfl ⟨_, _, rfl, World.ownsRow_nil _ _ _ _, ?_⟩
  first
    | exact (((((Below.refl _ _).alloc (Nat.le_refl _) _)).setCell (Nat.le_refl _) _).setCell (Nat.le_refl _) _).setCell (Nat.le_refl _) _
    | exact ((Below.refl _ _).alloc (Nat.le_refl _) _)
set_option maxHeartbeats 1000000 in
theorem impl_Labels0 (t : Int) (w : World) (h1 : t ≠ 1) (h2 : t ≠ 2) (h3 : t ≠ 3) : Calls Tryz.prog 12 #[.int .i64 t] w (LabPost 0 0 false 0 [] w) := by
  unfold LabPost
  have g1 : (t == 1) = false := by simp [h1]
  have g2 : (t == 2) = false := by simp [h2]
  have g3 : (t == 3) = false := by simp [h3]
  clear h1 h2 h3
  go_enter Tryz.func12, Tryz.ntmps12
  go_wp2
  refine bodyPost_ret (v := .tuple #[.agg #[.int .i64 0, .int .i64 0, .slice none 0 0], .bool false]) (by simp [results, Tryz.results12, go_sem]) rfl ⟨_, _, rfl, World.ownsRow_nil _ _ _ _, ?_⟩
  first
    | exact (((((Below.refl _ _).alloc (Nat.le_refl _) _)).setCell (Nat.le_refl _) _).setCell (Nat.le_refl _) _).setCell (Nat.le_refl _) _
    | exact ((Below.refl _ _).alloc (Nat.le_refl _) _)
set_option maxHeartbeats 1000000 in
theorem spec_Labels2 (w : World) : Calls Tryz.prog 13 #[.int .i64 2] w (LabPost 2 4 true (arcsC 1 3 4) (arcsN 1 3 4) w) := by
  have HR := hid (fun w : World => show Calls Tryz.prog 32 #[.int .i64 1, .int .i64 3] w (LabPost 2 4 true (arcsC 1 3 4) (arcsN 1 3 4) w) from (spec_RunLabels_c 1 3 w (by omega) (by omega)).mono fun e w' h => lab_of_run h)
  obtain ⟨n, hn⟩ : ∃ n, n = arcsC 1 3 4 := ⟨_, rfl⟩
  obtain ⟨xs, hx⟩ : ∃ xs, xs = arcsN 1 3 4 := ⟨_, rfl⟩
  rw [← hn, ← hx] at HR ⊢
  clear hn hx
  unfold LabPost at HR ⊢
  go_enter Tryz.func13, Tryz.ntmps13
  go_wp2_with fail
  refine (HR.out _).mono ?_
  rintro e w1 ⟨g, c, rfl, ho, hb1⟩
  obtain ⟨⟨hd0, hd1, hd2⟩, ⟨hf0, hf1, hf2⟩, hz⟩ := box3 hb1
  have hlt : ∀ q, (Value.slice g n c).ownBlock = some q → q < w1.heap.size ∧ w.heap.size + 1 ≤ q := fun q hq => by
    have h1 := ho.lt q hq
    have h2 := hb1.size
    simp at h1 h2
    omega
  have HLT := hid hlt
  have HO := hid ho
  have HB := hid (show Below w.heap.size w w1 from ((Below.refl _ _).alloc (Nat.le_refl _) _).trans (hb1.mono (by simp)))
  clear hlt ho hb1 HR
  go_wp2
  refine bodyPost_ret (v := .tuple #[.agg #[.int .i64 2, .int .i64 4, .slice g n c], .bool true]) (by simp [results, Tryz.results13, go_sem, hd0, hd1, hd2, hz]) rfl ⟨_, _, rfl, ?_, ?_⟩
  · have HO' : w1.ownsRow w.heap.size 54 3 (.slice g n c) n (intVals xs) := owns_base HO.out (by simp)
    first
      | exact own_set2 (own_set2 (own_set2 HO' (fun q hq => by have := HLT.out q hq; omega) _ _) (fun q hq => by have := HLT.out q hq; omega) _ _) (fun q hq => by have := HLT.out q hq; omega) _ _
      | exact (own_set2 (own_set2 (own_set2 HO' (fun q hq => by have := HLT.out q hq; omega) _ _) (fun q hq => by have := HLT.out q hq; omega) _ _) (fun q hq => by have := HLT.out q hq; omega) _ _).alloc _
      | trace_state; exact own_set2 (own_set2 (own_set2 (HO'.alloc _) (fun q hq => by have := HLT.out q hq; omega) _ _) (fun q hq => by have := HLT.out q hq; omega) _ _) (fun q hq => by have := HLT.out q hq; omega) _ _
  · first
      | exact ((HB.out.setCell (Nat.le_refl _) _).setCell (Nat.le_refl _) _).setCell (Nat.le_refl _) _
      | exact (((HB.out.setCell (Nat.le_refl _) _).setCell (Nat.le_refl _) _).setCell (Nat.le_refl _) _).alloc (by simp; omega) _
      | exact (((HB.out.alloc (by omega) _).setCell (Nat.le_refl _) _).setCell (Nat.le_refl _) _).setCell (Nat.le_refl _) _
set_option maxHeartbeats 1000000 in
theorem impl_Labels2 (w : World) : Calls Tryz.prog 12 #[.int .i64 2] w (LabPost 2 4 true (arcsC 1 3 4) (arcsN 1 3 4) w) := by
  have HR := hid (fun w : World => show Calls Tryz.prog 31 #[.int .i64 1, .int .i64 3] w (LabPost 2 4 true (arcsC 1 3 4) (arcsN 1 3 4) w) from (impl_RunLabels_c 1 3 w (by omega) (by omega)).mono fun e w' h => lab_of_run h)
  obtain ⟨n, hn⟩ : ∃ n, n = arcsC 1 3 4 := ⟨_, rfl⟩
  obtain ⟨xs, hx⟩ : ∃ xs, xs = arcsN 1 3 4 := ⟨_, rfl⟩
  rw [← hn, ← hx] at HR ⊢
  clear hn hx
  unfold LabPost at HR ⊢
  go_enter Tryz.func12, Tryz.ntmps12
  go_wp2_with fail
  refine (HR.out _).mono ?_
  rintro e w1 ⟨g, c, rfl, ho, hb1⟩
  obtain ⟨⟨hd0, hd1, hd2⟩, ⟨hf0, hf1, hf2⟩, hz⟩ := box3 hb1
  have hlt : ∀ q, (Value.slice g n c).ownBlock = some q → q < w1.heap.size ∧ w.heap.size + 1 ≤ q := fun q hq => by
    have h1 := ho.lt q hq
    have h2 := hb1.size
    simp at h1 h2
    omega
  have HLT := hid hlt
  have HO := hid ho
  have HB := hid (show Below w.heap.size w w1 from ((Below.refl _ _).alloc (Nat.le_refl _) _).trans (hb1.mono (by simp)))
  clear hlt ho hb1 HR
  go_wp2
  refine bodyPost_ret (v := .tuple #[.agg #[.int .i64 2, .int .i64 4, .slice g n c], .bool true]) (by simp [results, Tryz.results12, go_sem, hd0, hd1, hd2]) rfl ⟨_, _, rfl, ?_, ?_⟩
  · have HO' : w1.ownsRow w.heap.size 54 3 (.slice g n c) n (intVals xs) := owns_base HO.out (by simp)
    first
      | exact own_set2 (own_set2 (own_set2 HO' (fun q hq => by have := HLT.out q hq; omega) _ _) (fun q hq => by have := HLT.out q hq; omega) _ _) (fun q hq => by have := HLT.out q hq; omega) _ _
      | exact (own_set2 (own_set2 (own_set2 HO' (fun q hq => by have := HLT.out q hq; omega) _ _) (fun q hq => by have := HLT.out q hq; omega) _ _) (fun q hq => by have := HLT.out q hq; omega) _ _).alloc _
      | trace_state; exact own_set2 (own_set2 (own_set2 (HO'.alloc _) (fun q hq => by have := HLT.out q hq; omega) _ _) (fun q hq => by have := HLT.out q hq; omega) _ _) (fun q hq => by have := HLT.out q hq; omega) _ _
  · first
      | exact ((HB.out.setCell (Nat.le_refl _) _).setCell (Nat.le_refl _) _).setCell (Nat.le_refl _) _
      | exact (((HB.out.setCell (Nat.le_refl _) _).setCell (Nat.le_refl _) _).setCell (Nat.le_refl _) _).alloc (by simp; omega) _
      | exact (((HB.out.alloc (by omega) _).setCell (Nat.le_refl _) _).setCell (Nat.le_refl _) _).setCell (Nat.le_refl _) _
set_option maxHeartbeats 1000000 in
theorem spec_Labels3 (w : World) : Calls Tryz.prog 13 #[.int .i64 3] w (LabPost 2 8 true (arcsC 2 7 8) (arcsN 2 7 8) w) := by
  have HR := hid (fun w : World => show Calls Tryz.prog 32 #[.int .i64 2, .int .i64 7] w (LabPost 2 8 true (arcsC 2 7 8) (arcsN 2 7 8) w) from (spec_RunLabels_c 2 7 w (by omega) (by omega)).mono fun e w' h => lab_of_run h)
  obtain ⟨n, hn⟩ : ∃ n, n = arcsC 2 7 8 := ⟨_, rfl⟩
  obtain ⟨xs, hx⟩ : ∃ xs, xs = arcsN 2 7 8 := ⟨_, rfl⟩
  rw [← hn, ← hx] at HR ⊢
  clear hn hx
  unfold LabPost at HR ⊢
  go_enter Tryz.func13, Tryz.ntmps13
  go_wp2_with fail
  refine (HR.out _).mono ?_
  rintro e w1 ⟨g, c, rfl, ho, hb1⟩
  obtain ⟨⟨hd0, hd1, hd2⟩, ⟨hf0, hf1, hf2⟩, hz⟩ := box3 hb1
  have hlt : ∀ q, (Value.slice g n c).ownBlock = some q → q < w1.heap.size ∧ w.heap.size + 1 ≤ q := fun q hq => by
    have h1 := ho.lt q hq
    have h2 := hb1.size
    simp at h1 h2
    omega
  have HLT := hid hlt
  have HO := hid ho
  have HB := hid (show Below w.heap.size w w1 from ((Below.refl _ _).alloc (Nat.le_refl _) _).trans (hb1.mono (by simp)))
  clear hlt ho hb1 HR
  go_wp2
  refine bodyPost_ret (v := .tuple #[.agg #[.int .i64 2, .int .i64 8, .slice g n c], .bool true]) (by simp [results, Tryz.results13, go_sem, hd0, hd1, hd2, hz]) rfl ⟨_, _, rfl, ?_, ?_⟩
  · have HO' : w1.ownsRow w.heap.size 54 3 (.slice g n c) n (intVals xs) := owns_base HO.out (by simp)
    first
      | exact own_set2 (own_set2 (own_set2 HO' (fun q hq => by have := HLT.out q hq; omega) _ _) (fun q hq => by have := HLT.out q hq; omega) _ _) (fun q hq => by have := HLT.out q hq; omega) _ _
      | exact (own_set2 (own_set2 (own_set2 HO' (fun q hq => by have := HLT.out q hq; omega) _ _) (fun q hq => by have := HLT.out q hq; omega) _ _) (fun q hq => by have := HLT.out q hq; omega) _ _).alloc _
      | trace_state; exact own_set2 (own_set2 (own_set2 (HO'.alloc _) (fun q hq => by have := HLT.out q hq; omega) _ _) (fun q hq => by have := HLT.out q hq; omega) _ _) (fun q hq => by have := HLT.out q hq; omega) _ _
  · first
      | exact ((HB.out.setCell (Nat.le_refl _) _).setCell (Nat.le_refl _) _).setCell (Nat.le_refl _) _
      | exact (((HB.out.setCell (Nat.le_refl _) _).setCell (Nat.le_refl _) _).setCell (Nat.le_refl _) _).alloc (by simp; omega) _
      | exact (((HB.out.alloc (by omega) _).setCell (Nat.le_refl _) _).setCell (Nat.le_refl _) _).setCell (Nat.le_refl _) _
set_option maxHeartbeats 1000000 in
theorem impl_Labels3 (w : World) : Calls Tryz.prog 12 #[.int .i64 3] w (LabPost 2 8 true (arcsC 2 7 8) (arcsN 2 7 8) w) := by
  have HR := hid (fun w : World => show Calls Tryz.prog 31 #[.int .i64 2, .int .i64 7] w (LabPost 2 8 true (arcsC 2 7 8) (arcsN 2 7 8) w) from (impl_RunLabels_c 2 7 w (by omega) (by omega)).mono fun e w' h => lab_of_run h)
  obtain ⟨n, hn⟩ : ∃ n, n = arcsC 2 7 8 := ⟨_, rfl⟩
  obtain ⟨xs, hx⟩ : ∃ xs, xs = arcsN 2 7 8 := ⟨_, rfl⟩
  rw [← hn, ← hx] at HR ⊢
  clear hn hx
  unfold LabPost at HR ⊢
  go_enter Tryz.func12, Tryz.ntmps12
  go_wp2_with fail
  refine (HR.out _).mono ?_
  rintro e w1 ⟨g, c, rfl, ho, hb1⟩
  obtain ⟨⟨hd0, hd1, hd2⟩, ⟨hf0, hf1, hf2⟩, hz⟩ := box3 hb1
  have hlt : ∀ q, (Value.slice g n c).ownBlock = some q → q < w1.heap.size ∧ w.heap.size + 1 ≤ q := fun q hq => by
    have h1 := ho.lt q hq
    have h2 := hb1.size
    simp at h1 h2
    omega
  have HLT := hid hlt
  have HO := hid ho
  have HB := hid (show Below w.heap.size w w1 from ((Below.refl _ _).alloc (Nat.le_refl _) _).trans (hb1.mono (by simp)))
  clear hlt ho hb1 HR
  go_wp2
  refine bodyPost_ret (v := .tuple #[.agg #[.int .i64 2, .int .i64 8, .slice g n c], .bool true]) (by simp [results, Tryz.results12, go_sem, hd0, hd1, hd2]) rfl ⟨_, _, rfl, ?_, ?_⟩
  · have HO' : w1.ownsRow w.heap.size 54 3 (.slice g n c) n (intVals xs) := owns_base HO.out (by simp)
    first
      | exact own_set2 (own_set2 (own_set2 HO' (fun q hq => by have := HLT.out q hq; omega) _ _) (fun q hq => by have := HLT.out q hq; omega) _ _) (fun q hq => by have := HLT.out q hq; omega) _ _
      | exact (own_set2 (own_set2 (own_set2 HO' (fun q hq => by have := HLT.out q hq; omega) _ _) (fun q hq => by have := HLT.out q hq; omega) _ _) (fun q hq => by have := HLT.out q hq; omega) _ _).alloc _
      | trace_state; exact own_set2 (own_set2 (own_set2 (HO'.alloc _) (fun q hq => by have := HLT.out q hq; omega) _ _) (fun q hq => by have := HLT.out q hq; omega) _ _) (fun q hq => by have := HLT.out q hq; omega) _ _
  · first
      | exact ((HB.out.setCell (Nat.le_refl _) _).setCell (Nat.le_refl _) _).setCell (Nat.le_refl _) _
      | exact (((HB.out.setCell (Nat.le_refl _) _).setCell (Nat.le_refl _) _).setCell (Nat.le_refl _) _).alloc (by simp; omega) _
      | exact (((HB.out.alloc (by omega) _).setCell (Nat.le_refl _) _).setCell (Nat.le_refl _) _).setCell (Nat.le_refl _) _
theorem owns_rowAt3 {w : World} {base e s : Nat} {a : Option Addr} {n c : Nat} {xs : List Value} (h : w.ownsRow base e s (.slice a n c) n xs) (hlim : n * s ≤ 140737488351232) : RowAt w a (n * s) xs := by
  have hl := h.1
  rcases h.2 with ⟨h1, h0⟩ | ⟨g, cap, cur, h1, hb, hg, hnc, hcm, hcs, htake⟩
  · refine ⟨by simpa using hl, hlim, fun h => by subst h0; simp at h⟩
  · simp only [Value.slice.injEq, true_and] at h1
    obtain ⟨rfl, rfl⟩ := h1
    refine ⟨by simpa using hl, hlim, fun hn => ⟨g, 0, rfl, (Array.getElem?_eq_some_iff.1 hg).1, fun k x hx => ?_⟩⟩
    rw [cell_of_row w g (0 + k) cur e (0, 0) hg]
    rw [← htake, List.getElem?_take] at hx
    split at hx
    · simpa using hx
    · cases hx
theorem labels_ex (t : Int) : ∃ a b ok n xs, n ≤ 1000 ∧ (∀ w, Calls Tryz.prog 13 #[.int .i64 t] w (LabPost a b ok n xs w)) ∧ (∀ w, Calls Tryz.prog 12 #[.int .i64 t] w (LabPost a b ok n xs w)) := by
  by_cases h1 : t = 1
  · subst h1; exact ⟨_, _, _, _, _, by omega, spec_Labels1, impl_Labels1⟩
  by_cases h2 : t = 2
  · subst h2; exact ⟨_, _, _, _, _, by decide, spec_Labels2, impl_Labels2⟩
  by_cases h3 : t = 3
  · subst h3; exact ⟨_, _, _, _, _, by decide, spec_Labels3, impl_Labels3⟩
  exact ⟨_, _, _, _, _, by omega, fun w => spec_Labels0 t w h1 h2 h3, fun w => impl_Labels0 t w h1 h2 h3⟩
end Go.Proofs.YtpncmmdjkcdemaaGreatDoor
