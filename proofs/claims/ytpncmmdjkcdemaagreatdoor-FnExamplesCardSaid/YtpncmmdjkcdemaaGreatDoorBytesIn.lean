/- Bytes that came in. No condition. -/
import Derived.Test.YtpncmmdjkcdemaaGreatDoorOpen
import Derived.Test.YtpncmmdjkcdemaaGreatDoorBytes
namespace Go.Proofs.YtpncmmdjkcdemaaGreatDoor
open Go.ChangeShapes Go.WideShapes Go.ChangeAt Go.RowKit
open Go.ChangeMaps (open_string shut_string)

/-- A slice of bytes that came in. -/
def BytesIn (W : World) (v : Value) : Prop := ∃ a n c bs, v = .slice a n c ∧ RowAt W a n (byteVals bs)
theorem cellsU8V : Tryz.prog.cellsOf 5 = 1 := by kernel_rfl
theorem bytesU8V : Tryz.prog.bytesOf 5 = 1 := by kernel_rfl
theorem bytes_of_ints : ∀ {zs : List Int}, (∀ z ∈ zs, (Lit.int .u8 z).wf = true) → ∃ bs : List UInt8, zs.map (Value.int .u8) = byteVals bs
  | [], _ => ⟨[], rfl⟩
  | z :: zs, h => by
    obtain ⟨bs, hb⟩ := bytes_of_ints (zs := zs) fun x hx => h x (List.mem_cons_of_mem _ hx)
    have hz := h z (List.mem_cons_self ..)
    have hz2 : 0 ≤ z ∧ z ≤ 255 := by simpa [Lit.wf, IntKind.min, IntKind.max, IntKind.bits, IntKind.signed] using hz
    refine ⟨UInt8.ofNat z.toNat :: bs, ?_⟩
    have hzz : ((UInt8.ofNat z.toNat).toNat : Int) = z := by rw [UInt8.toNat_ofNat']; omega
    simp only [List.map_cons, hb, byteVals, hzz]
set_option maxRecDepth 100000 in
theorem open_bytes {H : Type} {enc : TypeId × Value → H} {W : World} {base : Nat} {v : Value} {d : DataW H} {p : List MemPlace} {ws : List Nat}
    (hval : Value.okWide Tryz.prog W .any base 22 v) (h : DataW.Trod enc Tryz.prog W 0 (fun _ => true) true 22 v d p)
    (hm : ∀ x ∈ d.weights Tryz.prog 22, x ∈ ws) (hall : ws.all (· ≤ reachBytes) = true) : BytesIn W v := by
  obtain ⟨a0, len0, cap0, rfl⟩ := okWide_slice Tryz.underlying22 hval
  obtain ⟨fuel, hf⟩ := h
  rcases open_ints Tryz.underlying22 Tryz.underlying5 cellsU8V hf with ⟨hcs, hx⟩ | ⟨a, len, cap, zs, hcs, _, hl, hm2, hz, hx, hcell, hwz⟩
  · simp [Value.cells] at hcs
    obtain ⟨rfl, rfl, rfl⟩ := hcs
    exact ⟨none, 0, 0, [], rfl, ⟨rfl, by omega, fun h => by omega⟩⟩
  · simp [Value.cells] at hcs
    obtain ⟨rfl, rfl, rfl⟩ := hcs
    simp only [Prod.mk.injEq] at hx
    obtain ⟨rfl, rfl⟩ := hx
    simp only [if_true] at hz
    have hre : len0 ≤ 140737488351232 := by
      have h1 := hm ((len0 + (zs.length - len0)) * Tryz.prog.bytesOf 5) (by simp [DataW.weights, Tryz.underlying22, lits, hz, hl])
      have h2 := List.all_eq_true.1 hall _ h1
      rw [bytesU8V] at h2
      have h2 := of_decide_eq_true h2; simp only [reachBytes] at h2
      omega
    obtain ⟨bs, hbs⟩ := bytes_of_ints (zs := zs.take len0) fun z hz => hwz z (List.mem_of_mem_take hz)
    refine ⟨some a, len0, cap0, bs, rfl, ⟨by rw [← hbs]; simp; omega, by omega, fun hn => ?_⟩⟩
    obtain ⟨b, off, spot⟩ := a
    have hspot : spot = none := by simpa [Addr.add] using World.cell?_spot (hcell 0 (by omega))
    subst hspot
    have hb : b < W.heap.size := by
      have := World.block_lt_of_cell? W _ (hcell 0 (by omega))
      simpa [Addr.add] using this
    refine ⟨b, off, rfl, hb, fun k x hx => ?_⟩
    rw [← hbs] at hx
    have hk : k < len0 := by
      have := (List.getElem?_eq_some_iff.1 hx).1
      simp at this; omega
    have hc := hcell k (by omega)
    rw [add_plain] at hc
    rw [hc]
    simp only [List.getElem?_map, List.getElem?_take, hk, if_true] at hx
    obtain ⟨s, hs, rfl⟩ := Option.map_eq_some_iff.1 hx
    simp [List.getD, hs]
end Go.Proofs.YtpncmmdjkcdemaaGreatDoor
