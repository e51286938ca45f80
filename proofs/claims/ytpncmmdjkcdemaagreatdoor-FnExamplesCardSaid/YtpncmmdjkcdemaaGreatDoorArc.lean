/- Rows of arcs: compared, marked, held. Conditions: the rows lie in memory. -/
import Derived.Test.YtpncmmdjkcdemaaGreatDoorOpen
import Derived.Test.YtpncmmdjkcdemaaGreatDoorAppN
import Derived.Test.YtpncmmdjkcdemaaGreatDoorBox
import Derived.Deep.RegionHeld3
namespace Go.Proofs.YtpncmmdjkcdemaaGreatDoor
open Go.RowKit

theorem three_get {xs : List Int} {n j : Nat} (hl : xs.length = n * 3) (hj : j < n) : ∃ x y z, xs[j * 3]? = some x ∧ xs[j * 3 + 1]? = some y ∧ xs[j * 3 + 2]? = some z := by
  obtain ⟨x, hx⟩ := get_some (l := xs) (n := j * 3) (by omega)
  obtain ⟨y, hy⟩ := get_some (l := xs) (n := j * 3 + 1) (by omega)
  obtain ⟨z, hz⟩ := get_some (l := xs) (n := j * 3 + 2) (by omega)
  exact ⟨x, y, z, hx, hy, hz⟩
/-- The three cells of an element. -/
def Cell3 (w : World) (b o : Nat) (x y z : Int) : Prop := w.cell? ⟨b, o, none⟩ = some (.int .i64 x) ∧ w.cell? ⟨b, o + 1, none⟩ = some (.int .i64 y) ∧ w.cell? ⟨b, o + 2, none⟩ = some (.int .i64 z)
theorem Cell3.below {B : Nat} {w w' : World} {b o : Nat} {x y z : Int} (h : Cell3 w b o x y z) (hb : Below B w w') (hB : b < B) : Cell3 w' b o x y z :=
  ⟨(hb.cell (p := ⟨b, o, none⟩) hB).trans h.1, (hb.cell (p := ⟨b, o + 1, none⟩) hB).trans h.2.1, (hb.cell (p := ⟨b, o + 2, none⟩) hB).trans h.2.2⟩
theorem row3 {w : World} {b off n : Nat} {xs : List Int} {j : Nat} (hc : ∀ k v, (intVals xs)[k]? = some v → w.cell? ⟨b, off + k, none⟩ = some v) (hl : xs.length = n * 3) (hj : j < n) : ∃ x y z, Cell3 w b (off + j * 3) x y z ∧ xs[j * 3]? = some x ∧ xs[j * 3 + 1]? = some y ∧ xs[j * 3 + 2]? = some z := by
  obtain ⟨x, y, z, hx, hy, hz⟩ := three_get hl hj
  refine ⟨x, y, z, ⟨hc _ _ (intVals_get hx), ?_, ?_⟩, hx, hy, hz⟩
  · have := hc _ _ (intVals_get hy); rwa [← Nat.add_assoc] at this
  · have := hc _ _ (intVals_get hz); rwa [← Nat.add_assoc] at this
theorem marked_three {xs : List Value} {k n j : Nat} (hl : xs.length = n * 3) (hj : j < n) :
    (((marked (marks k (n * 3)) xs (j * 3)).set (j * 3) (.int .i64 ((k : Int) + j * 3))).set (j * 3 + 1) (.int .i64 ((k : Int) + j * 3 + 1))).set (j * 3 + 2) (.int .i64 ((k : Int) + j * 3 + 2)) = marked (marks k (n * 3)) xs ((j + 1) * 3) := by
  rw [marked_step (xs := xs) (ms := marks k (n * 3)) (n := n * 3) (j := j * 3) (u := .int .i64 ((k : Int) + j * 3)) hl (marks_len k _) (by omega) (by rw [marks_get (by omega)]; simp)]
  rw [marked_step (xs := xs) (ms := marks k (n * 3)) (n := n * 3) (j := j * 3 + 1) (u := .int .i64 ((k : Int) + j * 3 + 1)) hl (marks_len k _) (by omega) (by rw [marks_get (by omega)]; simp; omega)]
  rw [marked_step (xs := xs) (ms := marks k (n * 3)) (n := n * 3) (j := j * 3 + 1 + 1) (u := .int .i64 ((k : Int) + j * 3 + 2)) hl (marks_len k _) (by omega) (by rw [marks_get (by omega)]; simp; omega)]
  congr 1
  omega
