/- Bytes that came in. No condition. -/
import Derived.Test.YtcmmlldincflkaaOpen
import Derived.Test.YtcmmlldincflkaaBytes
namespace Go.Proofs.Ytcmmlldincflkaa
open Go.ChangeShapes Go.WideShapes Go.ChangeAt Go.RowKit
open Go.ChangeMaps (open_string shut_string)

def I64b (x : Int) : Prop := -9223372036854775808 ≤ x ∧ x ≤ 9223372036854775807
def IntsIn (W : World) (v : Value) : Prop := ∃ a n c xs, v = .slice a n c ∧ RowAt W a n (intVals xs) ∧ n * 8 ≤ 140737488355328 ∧ ∀ x ∈ xs, I64b x
theorem cellsIntV : Try.prog.cellsOf 3 = 1 := by kernel_rfl
theorem bytesIntV : Try.prog.bytesOf 3 = 8 := by kernel_rfl
theorem infoIntV : (Try.prog.info? 3).map (fun i => (i.zero, i.size, i.bytes)) = some (some (.int .i64 0), 1, 8) := by kernel_rfl
set_option maxRecDepth 100000 in
theorem open_intsV {H : Type} {enc : TypeId × Value → H} {W : World} {base : Nat} {v : Value} {d : DataW H} {p : List MemPlace} {ws : List Nat}
    (hval : Value.okWide Try.prog W .any base 31 v) (h : DataW.Trod enc Try.prog W 0 (fun _ => true) true 31 v d p)
    (hm : ∀ x ∈ d.weights Try.prog 31, x ∈ ws) (hall : ws.all (· ≤ reachBytes) = true) : IntsIn W v := by
  obtain ⟨a0, len0, cap0, rfl⟩ := okWide_slice Try.underlying31 hval
  obtain ⟨fuel, hf⟩ := h
  rcases open_ints Try.underlying31 Try.underlying3 cellsIntV hf with ⟨hcs, hx⟩ | ⟨a, len, cap, zs, hcs, _, hl, hm2, hz, hx, hcell, hwz⟩
  · simp [Value.cells] at hcs
    obtain ⟨rfl, rfl, rfl⟩ := hcs
    exact ⟨none, 0, 0, [], rfl, ⟨rfl, by omega, fun h => by omega⟩, by omega, fun s hs => by simp at hs⟩
  · simp [Value.cells] at hcs
    obtain ⟨rfl, rfl, rfl⟩ := hcs
    simp only [Prod.mk.injEq] at hx
    obtain ⟨rfl, rfl⟩ := hx
    simp only [if_true] at hz
    have hre : len0 * 8 ≤ 140737488351232 := by
      have h1 := hm ((len0 + (zs.length - len0)) * Try.prog.bytesOf 3) (by simp [DataW.weights, Try.underlying31, lits, hz, hl])
      have h2 := List.all_eq_true.1 hall _ h1
      rw [bytesIntV] at h2
      have h2 := of_decide_eq_true h2; simp only [reachBytes] at h2
      omega
    refine ⟨some a, len0, cap0, zs.take len0, rfl, ⟨by simp [intVals]; omega, by omega, fun hn => ?_⟩, by omega, fun s hs => bounds_i64 (hwz s (List.mem_of_mem_take hs))⟩
    obtain ⟨b, off, spot⟩ := a
    have hspot : spot = none := by simpa [Addr.add] using World.cell?_spot (hcell 0 (by omega))
    subst hspot
    have hb : b < W.heap.size := by
      have := World.block_lt_of_cell? W _ (hcell 0 (by omega))
      simpa [Addr.add] using this
    refine ⟨b, off, rfl, hb, fun k x hx => ?_⟩
    have hk : k < len0 := by
      have := (List.getElem?_eq_some_iff.1 hx).1
      simp [intVals] at this; omega
    have hc := hcell k (by omega)
    rw [add_plain] at hc
    rw [hc]
    simp only [intVals, List.getElem?_map, List.getElem?_take, hk, if_true] at hx
    obtain ⟨s, hs, rfl⟩ := Option.map_eq_some_iff.1 hx
    simp [List.getD, hs]
end Go.Proofs.Ytcmmlldincflkaa
namespace Go.Proofs.Ytcmmlldincflkaa
open Go.ChangeShapes Go.WideShapes Go.ChangeAt Go.RowKit
open Go.ChangeMaps (open_string shut_string)

/-- A slice of bytes that came in. -/
def BytesIn (W : World) (v : Value) : Prop := ∃ a n c bs, v = .slice a n c ∧ RowAt W a n (byteVals bs)
theorem cellsU8V : Try.prog.cellsOf 5 = 1 := by kernel_rfl
theorem bytesU8V : Try.prog.bytesOf 5 = 1 := by kernel_rfl
theorem bytes_of_ints : ∀ {zs : List Int}, (∀ z ∈ zs, (Lit.int .u8 z).wf = true) → ∃ bs : List UInt8, zs.map (Value.int .u8) = byteVals bs
  | [], _ => ⟨[], rfl⟩
  | z :: zs, h => by
    obtain ⟨bs, hb⟩ := bytes_of_ints (zs := zs) fun x hx => h x (List.mem_cons_of_mem _ hx)
    have hz := h z (List.mem_cons_self ..)
    have hz2 : 0 ≤ z ∧ z ≤ 255 := by simpa [Lit.wf, IntKind.min, IntKind.max, IntKind.bits, IntKind.signed] using hz
    refine ⟨UInt8.ofNat z.toNat :: bs, ?_⟩
    have hzz : ((UInt8.ofNat z.toNat).toNat : Int) = z := by rw [UInt8.toNat_ofNat']; omega
    simp only [List.map_cons, hb, byteVals, hzz]
set_option maxRecDepth 100000 in
theorem open_bytes {H : Type} {enc : TypeId × Value → H} {W : World} {base : Nat} {v : Value} {d : DataW H} {p : List MemPlace} {ws : List Nat}
    (hval : Value.okWide Try.prog W .any base 22 v) (h : DataW.Trod enc Try.prog W 0 (fun _ => true) true 22 v d p)
    (hm : ∀ x ∈ d.weights Try.prog 22, x ∈ ws) (hall : ws.all (· ≤ reachBytes) = true) : BytesIn W v := by
  obtain ⟨a0, len0, cap0, rfl⟩ := okWide_slice Try.underlying22 hval
  obtain ⟨fuel, hf⟩ := h
  rcases open_ints Try.underlying22 Try.underlying5 cellsU8V hf with ⟨hcs, hx⟩ | ⟨a, len, cap, zs, hcs, _, hl, hm2, hz, hx, hcell, hwz⟩
  · simp [Value.cells] at hcs
    obtain ⟨rfl, rfl, rfl⟩ := hcs
    exact ⟨none, 0, 0, [], rfl, ⟨rfl, by omega, fun h => by omega⟩⟩
  · simp [Value.cells] at hcs
    obtain ⟨rfl, rfl, rfl⟩ := hcs
    simp only [Prod.mk.injEq] at hx
    obtain ⟨rfl, rfl⟩ := hx
    simp only [if_true] at hz
    have hre : len0 ≤ 140737488351232 := by
      have h1 := hm ((len0 + (zs.length - len0)) * Try.prog.bytesOf 5) (by simp [DataW.weights, Try.underlying22, lits, hz, hl])
      have h2 := List.all_eq_true.1 hall _ h1
      rw [bytesU8V] at h2
      have h2 := of_decide_eq_true h2; simp only [reachBytes] at h2
      omega
    obtain ⟨bs, hbs⟩ := bytes_of_ints (zs := zs.take len0) fun z hz => hwz z (List.mem_of_mem_take hz)
    refine ⟨some a, len0, cap0, bs, rfl, ⟨by rw [← hbs]; simp; omega, by omega, fun hn => ?_⟩⟩
    obtain ⟨b, off, spot⟩ := a
    have hspot : spot = none := by simpa [Addr.add] using World.cell?_spot (hcell 0 (by omega))
    subst hspot
    have hb : b < W.heap.size := by
      have := World.block_lt_of_cell? W _ (hcell 0 (by omega))
      simpa [Addr.add] using this
    refine ⟨b, off, rfl, hb, fun k x hx => ?_⟩
    rw [← hbs] at hx
    have hk : k < len0 := by
      have := (List.getElem?_eq_some_iff.1 hx).1
      simp at this; omega
    have hc := hcell k (by omega)
    rw [add_plain] at hc
    rw [hc]
    simp only [List.getElem?_map, List.getElem?_take, hk, if_true] at hx
    obtain ⟨s, hs, rfl⟩ := Option.map_eq_some_iff.1 hx
    simp [List.getD, hs]
end Go.Proofs.Ytcmmlldincflkaa
