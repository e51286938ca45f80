/- How the arguments of the laws are opened: each kind of argument reads as plain data. No condition. -/
import Derived.Test.YtpncmmdjkcdemaaGreatDoorLaw2
import Derived.Test.YtpncmmdjkcdemaaGreatDoorHead
import Derived.Test.YtpncmmdjkcdemaaGreatDoorRows
import Derived.ProofKit
import Derived.SizedLaws
import Derived.OpenShut
import Derived.ChangeOld
import Derived.SliceStrings
import Derived.Lib.SmallJoins
namespace Go.Proofs.YtpncmmdjkcdemaaGreatDoor
open Go.ChangeShapes Go.WideShapes Go.ChangeAt Go.RowKit
open Go.ChangeMaps (open_string shut_string)

theorem bs {a b c : World} (h : Below a.heap.size a b) (k : Below b.heap.size b c) : Below a.heap.size a c := h.trans (k.mono h.size)
theorem rowAt_trans {w w' : World} {a : Option Addr} {n : Nat} {xs : List Value} (h : RowAt w a n xs) (hb : Below w.heap.size w w') : RowAt w' a n xs := h.below hb (Nat.le_refl _)
theorem own : ownKnob Tryz.prog.godebug = none := by kernel_rfl
theorem laidOut : laidOutB Tryz.prog = true := by kernel_rfl
theorem cellsStr : Tryz.prog.cellsOf 9 = 1 := by kernel_rfl
theorem bytesStr : Tryz.prog.bytesOf 9 = 16 := by kernel_rfl

/-- A slice of texts that came in. -/
def StrsIn (W : World) (v : Value) : Prop := ∃ a n c ss, v = .slice a n c ∧ RowAt W a n (strVals ss) ∧ n * 16 ≤ 140737488355328 ∧ ∀ s ∈ ss, s.size ≤ maxLen

set_option maxRecDepth 100000 in
theorem open_strs {H : Type} {enc : TypeId × Value → H} {W : World} {base : Nat} {v : Value} {d : DataW H} {p : List MemPlace} {ws : List Nat}
    (hval : Value.okWide Tryz.prog W .any base 28 v) (h : DataW.Trod enc Tryz.prog W 0 (fun _ => true) true 28 v d p)
    (hm : ∀ x ∈ d.weights Tryz.prog 28, x ∈ ws) (hall : ws.all (· ≤ reachBytes) = true) : StrsIn W v := by
  obtain ⟨a0, len0, cap0, rfl⟩ := okWide_slice Tryz.underlying28 hval
  obtain ⟨fuel, hf⟩ := h
  rcases open_strings Tryz.underlying28 Tryz.underlying9 cellsStr hf with ⟨hcs, hx⟩ | ⟨a, len, cap, ss, hcs, _, hl, hm2, hz, hx, hcell, hsz⟩
  · simp [Value.cells] at hcs
    obtain ⟨rfl, rfl, rfl⟩ := hcs
    exact ⟨none, 0, 0, [], rfl, ⟨rfl, by omega, fun h => by omega⟩, by omega, fun s hs => by simp at hs⟩
  · simp [Value.cells] at hcs
    obtain ⟨rfl, rfl, rfl⟩ := hcs
    simp only [Prod.mk.injEq] at hx
    obtain ⟨rfl, rfl⟩ := hx
    simp only [if_true] at hz
    have hre : len0 * 16 ≤ 140737488351232 := by
      have h1 := hm ((len0 + (ss.length - len0)) * Tryz.prog.bytesOf 9) (by simp [DataW.weights, Tryz.underlying28, strs, hz, hl])
      have h2 := List.all_eq_true.1 hall _ h1
      rw [bytesStr] at h2
      have h2 := of_decide_eq_true h2; simp only [reachBytes] at h2
      omega
    refine ⟨some a, len0, cap0, ss.take len0, rfl, ⟨by simp [strVals]; omega, by omega, fun hn => ?_⟩, by omega, fun s hs => hsz s (List.mem_of_mem_take hs)⟩
    obtain ⟨b, off, spot⟩ := a
    have hspot : spot = none := by simpa [Addr.add] using World.cell?_spot (hcell 0 (by omega))
    subst hspot
    have hb : b < W.heap.size := by
      have := World.block_lt_of_cell? W _ (hcell 0 (by omega))
      simpa [Addr.add] using this
    refine ⟨b, off, rfl, hb, fun k x hx => ?_⟩
    have hk : k < len0 := by
      have := (List.getElem?_eq_some_iff.1 hx).1
      simp [strVals] at this; omega
    have hc := hcell k (by omega)
    rw [add_plain] at hc
    rw [hc]
    simp only [strVals, List.getElem?_map, List.getElem?_take, hk, if_true] at hx
    obtain ⟨s, hs, rfl⟩ := Option.map_eq_some_iff.1 hx
    simp [List.getD, hs]
end Go.Proofs.YtpncmmdjkcdemaaGreatDoor
