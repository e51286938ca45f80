/- Bytes that came in. No condition. -/
import Derived.Laws.IdiomStrings
import Derived.Test.YtccknookhkahbaaGreatOpen
import Derived.Test.YtccknookhkahbaaGreatZero
namespace Go.Proofs.YtccknookhkahbaaGreat
open Go.RowKit

/-- The cells of a block, and that they may be written. -/
structure CellsOf (w : World) (g n : Nat) (xs : List Value) : Prop where
  len : xs.length = n
  lt : g < w.heap.size
  cell : ∀ k x, xs[k]? = some x → w.cell? ⟨g, k, none⟩ = some x
  frozen : ∀ k, k < n → w.frozen? ⟨g, k, none⟩ = false
theorem CellsOf.set {w : World} {g n i : Nat} {xs : List Value} (h : CellsOf w g n xs) (hi : i < n) (u : Value) : CellsOf (w.setCell ⟨g, i, none⟩ u) g n (xs.set i u) := by
  refine ⟨by simp [h.len], by simpa using h.lt, fun k x hx => ?_, fun k hk => (World.frozen?_setCell _ _ _ _).trans (h.frozen k hk)⟩
  obtain ⟨y, hy⟩ := get_some (l := xs) (n := i) (by rw [h.len]; exact hi)
  by_cases hk : k = i
  · subst hk
    rw [World.cell?_setCell_same _ _ _ (h.cell k y hy)]
    rw [List.getElem?_set, if_pos rfl, if_pos (by rw [h.len]; exact hi)] at hx
    exact hx
  · rw [World.cell?_setCell_other _ _ _ _ (fun e => hk (by injection e with _ e2; exact e2.symm))]
    rw [List.getElem?_set, if_neg (fun e => hk e.symm)] at hx
    exact h.cell k x hx
theorem CellsOf.below {w w' : World} {g n B : Nat} {xs : List Value} (h : CellsOf w g n xs) (hb : Below B w w') (hB : g < B) : CellsOf w' g n xs :=
  ⟨h.len, Nat.lt_of_lt_of_le h.lt hb.size, fun k x hx => (hb.cell (p := ⟨g, k, none⟩) hB).trans (h.cell k x hx), fun k hk => (hb.frozen (p := ⟨g, k, none⟩) hB).trans (h.frozen k hk)⟩
theorem CellsOf.drew {w : World} {g n : Nat} {xs : List Value} (h : CellsOf w g n xs) : CellsOf w.drew g n xs := ⟨h.len, h.lt, h.cell, h.frozen⟩
theorem CellsOf.rowAt {w : World} {g n : Nat} {xs : List Value} (h : CellsOf w g n xs) (hn : n ≤ 140737488351232) : RowAt w (some ⟨g, 0, none⟩) n xs :=
  ⟨h.len, hn, fun _ => ⟨g, 0, rfl, h.lt, fun k x hx => by rw [Nat.zero_add]; exact h.cell k x hx⟩⟩
theorem grown_setCell {a w : World} {g i : Nat} (h : a.grownBy w (some g)) (u : Value) : a.grownBy (w.setCell ⟨g, i, none⟩ u) (some g) :=
  grown_trans h ⟨rfl, rfl, rfl, by simp, fun k hk hr => Below.heap_setCell _ _ _ _ (fun e => hr (by rw [show k = g from e]))⟩
theorem grown_drew {a w : World} {row : Option Nat} (h : a.grownBy w row) : a.grownBy w.drew row := ⟨h.os, h.tape, h.output, h.size, h.block⟩

/-- '[]byte(s)'. -/
theorem wpList_convb {P : Program} {w : World} {ops : Array Oper} {rest : List Oper} {o : Oper} {a : Act} {Q : Exit → Act → World → Prop}
    (hg : o.guard = none) (x : Operand) (S D E : TypeId) (hop : o.op = Op.convert S D x) (hs : P.underlying S = some .string) (hd : P.underlying D = some (.slice E)) (he : P.underlying E = some (.int .u8))
    (s : ByteArray) (hx : a.eval x = .string s)
    (hK : ∀ w1 c, CellsOf w1 w.heap.size s.size (byteVals s.data.toList) → Below w.heap.size w w1 → wpList P ops Q rest (a.put o.dst (.slice (some ⟨w.heap.size, 0, none⟩) s.size c)) w1) :
    wpList P ops Q (o :: rest) a w := by
  refine wpList_plain hg fun K hK' => ?_
  have hrun := run_bytes_of_string (P := P) w S D E s hs hd he
  obtain ⟨c, hc⟩ : ∃ c, c = grownCap w s.size 0 E := ⟨_, rfl⟩
  rw [← hc] at hrun
  have hcell : ∀ k, ((w.drew.alloc (.cells (bytesRow s c) E ((bytesRow s c).size, (bytesRow s c).size + 1)))).cell? ⟨w.heap.size, k, none⟩ = (bytesRow s c)[k]? := fun k => by
    unfold World.cell?
    rw [show (w.drew.alloc (.cells (bytesRow s c) E ((bytesRow s c).size, (bytesRow s c).size + 1))).heap[w.heap.size]? = some (.cells (bytesRow s c) E ((bytesRow s c).size, (bytesRow s c).size + 1)) from heap_alloc_new w.drew _]
    rfl
  have hfr : ∀ k, k < (bytesRow s c).size → ((w.drew.alloc (.cells (bytesRow s c) E ((bytesRow s c).size, (bytesRow s c).size + 1)))).frozen? ⟨w.heap.size, k, none⟩ = false := fun k hk => by
    unfold World.frozen?
    rw [show (w.drew.alloc (.cells (bytesRow s c) E ((bytesRow s c).size, (bytesRow s c).size + 1))).heap[w.heap.size]? = some (.cells (bytesRow s c) E ((bytesRow s c).size, (bytesRow s c).size + 1)) from heap_alloc_new w.drew _]
    simp; omega
  have hsz : s.size ≤ (bytesRow s c).size := by simp [bytesRow]
  have hC : CellsOf (w.drew.alloc (.cells (bytesRow s c) E ((bytesRow s c).size, (bytesRow s c).size + 1))) w.heap.size s.size (byteVals s.data.toList) := by
    refine ⟨by simp [byteVals], by simp, fun k x hx => ?_, fun k hk => hfr k (by omega)⟩
    rw [hcell]
    have hk : k < s.data.size := by have := (List.getElem?_eq_some_iff.1 hx).1; simpa [byteVals] using this
    unfold bytesRow
    rw [Array.getElem?_append_left (by simpa using hk)]
    simp only [byteVals, List.getElem?_map, Array.getElem?_toList] at hx
    rw [Array.getElem?_map]
    exact hx
  have hB : Below w.heap.size w (w.drew.alloc (.cells (bytesRow s c) E ((bytesRow s c).size, (bytesRow s c).size + 1))) := ((Below.refl _ _).drew).alloc (Nat.le_refl _) _
  unfold Oper.wp
  simp [execOp, hop, hx, hrun, Result.andThen]
  exact hK' _ _ (hK _ c hC hB)

/-! Words from their end. -/
def revAt (l : List UInt8) (k p : Nat) : UInt8 := if p < k ∨ l.length ≤ p + k then l.getD (l.length - 1 - p) 0 else l.getD p 0
def revTo (l : List UInt8) (k : Nat) : List UInt8 := (List.range l.length).map (revAt l k)
theorem revTo_len (l : List UInt8) (k : Nat) : (revTo l k).length = l.length := by simp [revTo]
theorem revTo_get (l : List UInt8) (k : Nat) {p : Nat} (h : p < l.length) : (revTo l k)[p]? = some (revAt l k p) := by simp [revTo, h]
theorem getD_get {l : List UInt8} {p : Nat} (h : p < l.length) : l.getD p 0 = l[p] := by rw [List.getD_eq_getElem?_getD, List.getElem?_eq_getElem h]; rfl
theorem revTo_zero (l : List UInt8) : revTo l 0 = l := by
  refine List.ext_getElem (revTo_len l 0) fun p h1 h2 => ?_
  have e : (revTo l 0)[p] = revAt l 0 p := by simp [revTo]
  rw [e, revAt, if_neg (by omega), getD_get h2]
theorem revTo_end {l : List UInt8} {k : Nat} (h : l.length ≤ 2 * k + 1) : revTo l k = l.reverse := by
  refine List.ext_getElem (by simp [revTo]) fun p h1 h2 => ?_
  rw [revTo_len] at h1
  have e : (revTo l k)[p]'(by rw [revTo_len]; exact h1) = revAt l k p := by simp [revTo]
  rw [e, List.getElem_reverse, revAt]
  by_cases hc : p < k ∨ l.length ≤ p + k
  · rw [if_pos hc, getD_get (by omega)]
  · rw [if_neg hc, getD_get h1]
    congr 1; omega
theorem byteVals_get {l : List UInt8} {k : Nat} {c : UInt8} (h : l[k]? = some c) : (byteVals l)[k]? = some (.int .u8 (c.toNat : Int)) := by simp [byteVals, h]
theorem byteVals_set (l : List UInt8) (i : Nat) (c : UInt8) : (byteVals l).set i (.int .u8 (c.toNat : Int)) = byteVals (l.set i c) := by simp [byteVals, List.map_set]
theorem revTo_step {l : List UInt8} {k m : Nat} (hm : k + m + 1 = l.length) (hk : k < m) : ((revTo l k).set k (revAt l k m)).set m (revAt l k k) = revTo l (k + 1) := by
  refine List.ext_getElem (by simp [revTo]) fun p h1 h2 => ?_
  rw [revTo_len] at h2
  have e : (revTo l (k + 1))[p]'(by rw [revTo_len]; exact h2) = revAt l (k + 1) p := by simp [revTo]
  rw [e, List.getElem_set, List.getElem_set]
  by_cases h3 : m = p
  · subst h3
    rw [if_pos rfl, revAt, revAt, if_neg (by omega), if_pos (by omega)]
    congr 1; omega
  · rw [if_neg h3]
    by_cases h4 : k = p
    · subst h4
      rw [if_pos rfl, revAt, revAt, if_neg (by omega), if_pos (by omega)]
      congr 1; omega
    · rw [if_neg h4]
      have e2 : (revTo l k)[p]'(by rw [revTo_len]; exact h2) = revAt l k p := by simp [revTo]
      rw [e2, revAt, revAt]
      by_cases h5 : p < k ∨ l.length ≤ p + k
      · rw [if_pos h5, if_pos (by omega)]
      · rw [if_neg h5, if_neg (by omega)]
end Go.Proofs.YtccknookhkahbaaGreat
namespace Go.Proofs.YtccknookhkahbaaGreat
open Go.ChangeShapes Go.WideShapes Go.ChangeAt Go.RowKit
open Go.ChangeMaps (open_string shut_string)

def I64b (x : Int) : Prop := -9223372036854775808 ≤ x ∧ x ≤ 9223372036854775807
def IntsIn (W : World) (v : Value) : Prop := ∃ a n c xs, v = .slice a n c ∧ RowAt W a n (intVals xs) ∧ n * 8 ≤ 140737488355328 ∧ ∀ x ∈ xs, I64b x
theorem cellsIntV : Tryz.prog.cellsOf 3 = 1 := by kernel_rfl
theorem bytesIntV : Tryz.prog.bytesOf 3 = 8 := by kernel_rfl
theorem infoIntV : (Tryz.prog.info? 3).map (fun i => (i.zero, i.size, i.bytes)) = some (some (.int .i64 0), 1, 8) := by kernel_rfl
set_option maxRecDepth 100000 in
theorem open_intsV {H : Type} {enc : TypeId × Value → H} {W : World} {base : Nat} {v : Value} {d : DataW H} {p : List MemPlace} {ws : List Nat}
    (hval : Value.okWide Tryz.prog W .any base 36 v) (h : DataW.Trod enc Tryz.prog W 0 (fun _ => true) true 36 v d p)
    (hm : ∀ x ∈ d.weights Tryz.prog 36, x ∈ ws) (hall : ws.all (· ≤ reachBytes) = true) : IntsIn W v := by
  obtain ⟨a0, len0, cap0, rfl⟩ := okWide_slice Tryz.underlying36 hval
  obtain ⟨fuel, hf⟩ := h
  rcases open_ints Tryz.underlying36 Tryz.underlying3 cellsIntV hf with ⟨hcs, hx⟩ | ⟨a, len, cap, zs, hcs, _, hl, hm2, hz, hx, hcell, hwz⟩
  · simp [Value.cells] at hcs
    obtain ⟨rfl, rfl, rfl⟩ := hcs
    exact ⟨none, 0, 0, [], rfl, ⟨rfl, by omega, fun h => by omega⟩, by omega, fun s hs => by simp at hs⟩
  · simp [Value.cells] at hcs
    obtain ⟨rfl, rfl, rfl⟩ := hcs
    simp only [Prod.mk.injEq] at hx
    obtain ⟨rfl, rfl⟩ := hx
    simp only [if_true] at hz
    have hre : len0 * 8 ≤ 140737488351232 := by
      have h1 := hm ((len0 + (zs.length - len0)) * Tryz.prog.bytesOf 3) (by simp [DataW.weights, Tryz.underlying36, lits, hz, hl])
      have h2 := List.all_eq_true.1 hall _ h1
      rw [bytesIntV] at h2
      have h2 := of_decide_eq_true h2; simp only [reachBytes] at h2
      omega
    refine ⟨some a, len0, cap0, zs.take len0, rfl, ⟨by simp [intVals]; omega, by omega, fun hn => ?_⟩, by omega, fun s hs => bounds_i64 (hwz s (List.mem_of_mem_take hs))⟩
    obtain ⟨b, off, spot⟩ := a
    have hspot : spot = none := by simpa [Addr.add] using World.cell?_spot (hcell 0 (by omega))
    subst hspot
    have hb : b < W.heap.size := by
      have := World.block_lt_of_cell? W _ (hcell 0 (by omega))
      simpa [Addr.add] using this
    refine ⟨b, off, rfl, hb, fun k x hx => ?_⟩
    have hk : k < len0 := by
      have := (List.getElem?_eq_some_iff.1 hx).1
      simp [intVals] at this; omega
    have hc := hcell k (by omega)
    rw [add_plain] at hc
    rw [hc]
    simp only [intVals, List.getElem?_map, List.getElem?_take, hk, if_true] at hx
    obtain ⟨s, hs, rfl⟩ := Option.map_eq_some_iff.1 hx
    simp [List.getD, hs]
end Go.Proofs.YtccknookhkahbaaGreat
namespace Go.Proofs.YtccknookhkahbaaGreat
open Go.ChangeShapes Go.WideShapes Go.ChangeAt Go.RowKit
open Go.ChangeMaps (open_string shut_string)

/-- A slice of bytes that came in. -/
def BytesIn (W : World) (v : Value) : Prop := ∃ a n c bs, v = .slice a n c ∧ RowAt W a n (byteVals bs)
theorem cellsU8V : Tryz.prog.cellsOf 5 = 1 := by kernel_rfl
theorem bytesU8V : Tryz.prog.bytesOf 5 = 1 := by kernel_rfl
theorem bytes_of_ints : ∀ {zs : List Int}, (∀ z ∈ zs, (Lit.int .u8 z).wf = true) → ∃ bs : List UInt8, zs.map (Value.int .u8) = byteVals bs
  | [], _ => ⟨[], rfl⟩
  | z :: zs, h => by
    obtain ⟨bs, hb⟩ := bytes_of_ints (zs := zs) fun x hx => h x (List.mem_cons_of_mem _ hx)
    have hz := h z (List.mem_cons_self ..)
    have hz2 : 0 ≤ z ∧ z ≤ 255 := by simpa [Lit.wf, IntKind.min, IntKind.max, IntKind.bits, IntKind.signed] using hz
    refine ⟨UInt8.ofNat z.toNat :: bs, ?_⟩
    have hzz : ((UInt8.ofNat z.toNat).toNat : Int) = z := by rw [UInt8.toNat_ofNat']; omega
    simp only [List.map_cons, hb, byteVals, hzz]
set_option maxRecDepth 100000 in
theorem open_bytes {H : Type} {enc : TypeId × Value → H} {W : World} {base : Nat} {v : Value} {d : DataW H} {p : List MemPlace} {ws : List Nat}
    (hval : Value.okWide Tryz.prog W .any base 22 v) (h : DataW.Trod enc Tryz.prog W 0 (fun _ => true) true 22 v d p)
    (hm : ∀ x ∈ d.weights Tryz.prog 22, x ∈ ws) (hall : ws.all (· ≤ reachBytes) = true) : BytesIn W v := by
  obtain ⟨a0, len0, cap0, rfl⟩ := okWide_slice Tryz.underlying22 hval
  obtain ⟨fuel, hf⟩ := h
  rcases open_ints Tryz.underlying22 Tryz.underlying5 cellsU8V hf with ⟨hcs, hx⟩ | ⟨a, len, cap, zs, hcs, _, hl, hm2, hz, hx, hcell, hwz⟩
  · simp [Value.cells] at hcs
    obtain ⟨rfl, rfl, rfl⟩ := hcs
    exact ⟨none, 0, 0, [], rfl, ⟨rfl, by omega, fun h => by omega⟩⟩
  · simp [Value.cells] at hcs
    obtain ⟨rfl, rfl, rfl⟩ := hcs
    simp only [Prod.mk.injEq] at hx
    obtain ⟨rfl, rfl⟩ := hx
    simp only [if_true] at hz
    have hre : len0 ≤ 140737488351232 := by
      have h1 := hm ((len0 + (zs.length - len0)) * Tryz.prog.bytesOf 5) (by simp [DataW.weights, Tryz.underlying22, lits, hz, hl])
      have h2 := List.all_eq_true.1 hall _ h1
      rw [bytesU8V] at h2
      have h2 := of_decide_eq_true h2; simp only [reachBytes] at h2
      omega
    obtain ⟨bs, hbs⟩ := bytes_of_ints (zs := zs.take len0) fun z hz => hwz z (List.mem_of_mem_take hz)
    refine ⟨some a, len0, cap0, bs, rfl, ⟨by rw [← hbs]; simp; omega, by omega, fun hn => ?_⟩⟩
    obtain ⟨b, off, spot⟩ := a
    have hspot : spot = none := by simpa [Addr.add] using World.cell?_spot (hcell 0 (by omega))
    subst hspot
    have hb : b < W.heap.size := by
      have := World.block_lt_of_cell? W _ (hcell 0 (by omega))
      simpa [Addr.add] using this
    refine ⟨b, off, rfl, hb, fun k x hx => ?_⟩
    rw [← hbs] at hx
    have hk : k < len0 := by
      have := (List.getElem?_eq_some_iff.1 hx).1
      simp at this; omega
    have hc := hcell k (by omega)
    rw [add_plain] at hc
    rw [hc]
    simp only [List.getElem?_map, List.getElem?_take, hk, if_true] at hx
    obtain ⟨s, hs, rfl⟩ := Option.map_eq_some_iff.1 hx
    simp [List.getD, hs]
end Go.Proofs.YtccknookhkahbaaGreat
