/- A slice of ints that came in: opened, copied. No condition. -/
import Derived.Test.YtcfjchaklgjmkaaOpen
namespace Go.Proofs.Ytcfjchaklgjmkaa
open Go.ChangeShapes Go.WideShapes Go.ChangeAt Go.RowKit
open Go.ChangeMaps (open_string shut_string)

def I64b (x : Int) : Prop := -9223372036854775808 ≤ x ∧ x ≤ 9223372036854775807
def IntsIn (W : World) (v : Value) : Prop := ∃ a n c xs, v = .slice a n c ∧ RowAt W a n (intVals xs) ∧ n * 8 ≤ 140737488355328 ∧ ∀ x ∈ xs, I64b x
theorem cellsIntV : Try.prog.cellsOf 3 = 1 := by kernel_rfl
theorem bytesIntV : Try.prog.bytesOf 3 = 8 := by kernel_rfl
theorem infoIntV : (Try.prog.info? 3).map (fun i => (i.zero, i.size, i.bytes)) = some (some (.int .i64 0), 1, 8) := by kernel_rfl
set_option maxRecDepth 100000 in
theorem open_intsV {H : Type} {enc : TypeId × Value → H} {W : World} {base : Nat} {v : Value} {d : DataW H} {p : List MemPlace} {ws : List Nat}
    (hval : Value.okWide Try.prog W .any base 44 v) (h : DataW.Trod enc Try.prog W 0 (fun _ => true) true 44 v d p)
    (hm : ∀ x ∈ d.weights Try.prog 44, x ∈ ws) (hall : ws.all (· ≤ reachBytes) = true) : IntsIn W v := by
  obtain ⟨a0, len0, cap0, rfl⟩ := okWide_slice Try.underlying44 hval
  obtain ⟨fuel, hf⟩ := h
  rcases open_ints Try.underlying44 Try.underlying3 cellsIntV hf with ⟨hcs, hx⟩ | ⟨a, len, cap, zs, hcs, _, hl, hm2, hz, hx, hcell, hwz⟩
  · simp [Value.cells] at hcs
    obtain ⟨rfl, rfl, rfl⟩ := hcs
    exact ⟨none, 0, 0, [], rfl, ⟨rfl, by omega, fun h => by omega⟩, by omega, fun s hs => by simp at hs⟩
  · simp [Value.cells] at hcs
    obtain ⟨rfl, rfl, rfl⟩ := hcs
    simp only [Prod.mk.injEq] at hx
    obtain ⟨rfl, rfl⟩ := hx
    simp only [if_true] at hz
    have hre : len0 * 8 ≤ 140737488351232 := by
      have h1 := hm ((len0 + (zs.length - len0)) * Try.prog.bytesOf 3) (by simp [DataW.weights, Try.underlying44, lits, hz, hl])
      have h2 := List.all_eq_true.1 hall _ h1
      rw [bytesIntV] at h2
      have h2 := of_decide_eq_true h2; simp only [reachBytes] at h2
      omega
    refine ⟨some a, len0, cap0, zs.take len0, rfl, ⟨by simp [intVals]; omega, by omega, fun hn => ?_⟩, by omega, fun s hs => bounds_i64 (hwz s (List.mem_of_mem_take hs))⟩
    obtain ⟨b, off, spot⟩ := a
    have hspot : spot = none := by simpa [Addr.add] using World.cell?_spot (hcell 0 (by omega))
    subst hspot
    have hb : b < W.heap.size := by
      have := World.block_lt_of_cell? W _ (hcell 0 (by omega))
      simpa [Addr.add] using this
    refine ⟨b, off, rfl, hb, fun k x hx => ?_⟩
    have hk : k < len0 := by
      have := (List.getElem?_eq_some_iff.1 hx).1
      simp [intVals] at this; omega
    have hc := hcell k (by omega)
    rw [add_plain] at hc
    rw [hc]
    simp only [intVals, List.getElem?_map, List.getElem?_take, hk, if_true] at hx
    obtain ⟨s, hs, rfl⟩ := Option.map_eq_some_iff.1 hx
    simp [List.getD, hs]
