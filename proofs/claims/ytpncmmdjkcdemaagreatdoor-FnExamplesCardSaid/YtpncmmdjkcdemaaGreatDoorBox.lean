/- Cells of new blocks behind further calls. No condition. -/
import Derived.Test.YtpncmmdjkcdemaaGreatDoorLaw2
namespace Go.Proofs.YtpncmmdjkcdemaaGreatDoor
open Go.RowKit

theorem box2 {w wr : World} {A B : Array Value} {S T : TypeId} (h : Below ((w.alloc (.cells A S)).alloc (.cells B T)).heap.size ((w.alloc (.cells A S)).alloc (.cells B T)) wr) :
    ((∀ k, wr.cell? ⟨w.heap.size, k, none⟩ = A[k]?) ∧ (∀ k, wr.frozen? ⟨w.heap.size, k, none⟩ = false)) ∧ ((∀ k, wr.cell? ⟨w.heap.size + 1, k, none⟩ = B[k]?) ∧ (∀ k, wr.frozen? ⟨w.heap.size + 1, k, none⟩ = false)) ∧ w.heap.size + 1 < wr.heap.size ∧ Below w.heap.size w wr := by
  have hs := h.size
  simp at hs
  refine ⟨⟨fun k => ?_, fun k => ?_⟩, ⟨fun k => ?_, fun k => ?_⟩, by omega, (((Below.refl _ _).alloc (Nat.le_refl _) _).alloc (by simp) _).trans (h.mono (by simp; omega))⟩
  · refine (h.cell (p := ⟨w.heap.size, k, none⟩) (by simp; omega)).trans ?_
    rw [World.cell?_alloc_past _ _ _ (by simp), World.cell?_alloc_at _ _ _ _ rfl]
  · refine (h.frozen (p := ⟨w.heap.size, k, none⟩) (by simp; omega)).trans ?_
    rw [World.frozen?_alloc_past _ _ _ (by simp), World.frozen?_alloc_at _ _ _ _ rfl]
  · refine (h.cell (p := ⟨w.heap.size + 1, k, none⟩) (by simp)).trans ?_
    rw [World.cell?_alloc_at _ _ _ _ (by simp)]
  · refine (h.frozen (p := ⟨w.heap.size + 1, k, none⟩) (by simp)).trans ?_
    rw [World.frozen?_alloc_at _ _ _ _ (by simp)]
/-- The three cells of a block, as the walk reads them. -/
theorem three {wr : World} {b : Nat} {x y z : Value} (h : ∀ k, wr.cell? ⟨b, k, none⟩ = (#[x, y, z] : Array Value)[k]?) : wr.cell? ⟨b, 0, none⟩ = some x ∧ wr.cell? ⟨b, 1, none⟩ = some y ∧ wr.cell? ⟨b, 2, none⟩ = some z := ⟨h 0, h 1, h 2⟩
theorem cells_below {w wr : World} {b B : Nat} {A : Array Value} (h : ∀ k, w.cell? ⟨b, k, none⟩ = A[k]?) (hb : Below B w wr) (hB : b < B) : ∀ k, wr.cell? ⟨b, k, none⟩ = A[k]? := fun k => (hb.cell (p := ⟨b, k, none⟩) hB).trans (h k)
theorem frozen_below {w wr : World} {b B : Nat} (h : ∀ k, w.frozen? ⟨b, k, none⟩ = false) (hb : Below B w wr) (hB : b < B) : ∀ k, wr.frozen? ⟨b, k, none⟩ = false := fun k => (hb.frozen (p := ⟨b, k, none⟩) hB).trans (h k)
/-- The text that a cell holds. -/
def outAt (V : World) (a : Addr) : ByteArray := match V.cell? a with | some (.string z) => z | _ => ByteArray.empty
theorem outAt_of {V : World} {a : Addr} {z : ByteArray} (h : V.cell? a = some (.string z)) : outAt V a = z := by unfold outAt; rw [h]
theorem held_out {V : World} {a : Addr} {z : ByteArray} (h : V.cell? a = some (.string z)) : V.cell? a = some (.string (outAt V a)) := by rw [outAt_of h]; exact h
end Go.Proofs.YtpncmmdjkcdemaaGreatDoor
