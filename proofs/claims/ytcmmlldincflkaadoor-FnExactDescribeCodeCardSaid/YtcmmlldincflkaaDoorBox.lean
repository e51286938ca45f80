/- Cells of new blocks behind further calls. No condition. -/
import Derived.Deep.RegionHeld3
import Derived.Test.YtcmmlldincflkaaDoorLaw
namespace Go.Proofs.YtcmmlldincflkaaDoor
open Go.RowKit

def digB (k : Nat) : UInt8 := UInt8.ofNat (48 + k % 10)
theorem digB_nat (k : Nat) : ((digB k).toNat : Int) = 48 + (k : Int) % 10 := by unfold digB; simp [UInt8.toNat_ofNat']; omega
def mtLoop (k : Nat) (out : ByteArray) : ByteArray := if h : k = 0 then out else mtLoop (k / 10) (⟨#[digB k]⟩ ++ out)
termination_by k
decreasing_by omega
def mText (k : Nat) : ByteArray := ⟨#[109]⟩ ++ mtLoop k ByteArray.empty

def smarks (k n : Nat) : List ByteArray := (List.range n).map fun i => mText (k + i)
theorem smarks_len (k n : Nat) : (strVals (smarks k n)).length = n := by simp [smarks, strVals]
theorem smarks_get {k n i : Nat} (h : i < n) : (strVals (smarks k n))[i]? = some (.string (mText (k + i))) := by simp [smarks, strVals, h]

theorem infoStr : (Tryd.prog.info? 9).map (fun i => (i.zero, i.size, i.bytes)) = some (some (.string ByteArray.empty), 1, 16) := by kernel_rfl

def sizes (ss : List ByteArray) : Nat := (ss.map (·.size)).sum
theorem sizes_take {ss : List ByteArray} {j : Nat} {s : ByteArray} (h : ss[j]? = some s) : sizes (ss.take (j + 1)) = sizes (ss.take j) + s.size := by
  simp [sizes, List.take_add_one, h]
theorem sizes_le (ss : List ByteArray) (j : Nat) : sizes (ss.take j) ≤ sizes ss := by
  have : sizes ss = sizes (ss.take j) + sizes (ss.drop j) := by
    simp only [sizes]; rw [← List.sum_append, ← List.map_append, List.take_append_drop]
  omega
/-- What is left of a size behind a list of texts. -/
def SzPost (L : Nat) (ss : List ByteArray) (w : World) (e : Ending) (w' : World) : Prop :=
  w = w' ∧ ∃ r : Int, e = .returned (.int .i64 r) ∧ ((r = -1 ∧ L < ss.length + sizes ss) ∨ (0 ≤ r ∧ (ss.length + sizes ss : Nat) + r = L))

end Go.Proofs.YtcmmlldincflkaaDoor
namespace Go.Proofs.YtcmmlldincflkaaDoor
open Go.RowKit

theorem box2 {w wr : World} {A B : Array Value} {S T : TypeId} (h : Below ((w.alloc (.cells A S)).alloc (.cells B T)).heap.size ((w.alloc (.cells A S)).alloc (.cells B T)) wr) :
    ((∀ k, wr.cell? ⟨w.heap.size, k, none⟩ = A[k]?) ∧ (∀ k, wr.frozen? ⟨w.heap.size, k, none⟩ = false)) ∧ ((∀ k, wr.cell? ⟨w.heap.size + 1, k, none⟩ = B[k]?) ∧ (∀ k, wr.frozen? ⟨w.heap.size + 1, k, none⟩ = false)) ∧ w.heap.size + 1 < wr.heap.size ∧ Below w.heap.size w wr := by
  have hs := h.size
  simp at hs
  refine ⟨⟨fun k => ?_, fun k => ?_⟩, ⟨fun k => ?_, fun k => ?_⟩, by omega, (((Below.refl _ _).alloc (Nat.le_refl _) _).alloc (by simp) _).trans (h.mono (by simp; omega))⟩
  · refine (h.cell (p := ⟨w.heap.size, k, none⟩) (by simp; omega)).trans ?_
    rw [World.cell?_alloc_past _ _ _ (by simp), World.cell?_alloc_at _ _ _ _ rfl]
  · refine (h.frozen (p := ⟨w.heap.size, k, none⟩) (by simp; omega)).trans ?_
    rw [World.frozen?_alloc_past _ _ _ (by simp), World.frozen?_alloc_at _ _ _ _ rfl]
  · refine (h.cell (p := ⟨w.heap.size + 1, k, none⟩) (by simp)).trans ?_
    rw [World.cell?_alloc_at _ _ _ _ (by simp)]
  · refine (h.frozen (p := ⟨w.heap.size + 1, k, none⟩) (by simp)).trans ?_
    rw [World.frozen?_alloc_at _ _ _ _ (by simp)]
/-- The three cells of a block, as the walk reads them. -/
theorem three {wr : World} {b : Nat} {x y z : Value} (h : ∀ k, wr.cell? ⟨b, k, none⟩ = (#[x, y, z] : Array Value)[k]?) : wr.cell? ⟨b, 0, none⟩ = some x ∧ wr.cell? ⟨b, 1, none⟩ = some y ∧ wr.cell? ⟨b, 2, none⟩ = some z := ⟨h 0, h 1, h 2⟩
theorem cells_below {w wr : World} {b B : Nat} {A : Array Value} (h : ∀ k, w.cell? ⟨b, k, none⟩ = A[k]?) (hb : Below B w wr) (hB : b < B) : ∀ k, wr.cell? ⟨b, k, none⟩ = A[k]? := fun k => (hb.cell (p := ⟨b, k, none⟩) hB).trans (h k)
theorem frozen_below {w wr : World} {b B : Nat} (h : ∀ k, w.frozen? ⟨b, k, none⟩ = false) (hb : Below B w wr) (hB : b < B) : ∀ k, wr.frozen? ⟨b, k, none⟩ = false := fun k => (hb.frozen (p := ⟨b, k, none⟩) hB).trans (h k)
/-- The text that a cell holds. -/
def outAt (V : World) (a : Addr) : ByteArray := match V.cell? a with | some (.string z) => z | _ => ByteArray.empty
theorem outAt_of {V : World} {a : Addr} {z : ByteArray} (h : V.cell? a = some (.string z)) : outAt V a = z := by unfold outAt; rw [h]
theorem held_out {V : World} {a : Addr} {z : ByteArray} (h : V.cell? a = some (.string z)) : V.cell? a = some (.string (outAt V a)) := by rw [outAt_of h]; exact h
end Go.Proofs.YtcmmlldincflkaaDoor
