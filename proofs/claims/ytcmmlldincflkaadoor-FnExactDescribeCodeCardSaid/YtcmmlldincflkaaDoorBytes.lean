/- Rows of bytes made of texts; words from their end. Conditions: sizes within the reach. -/
import Derived.Test.YtcmmlldincflkaaDoorOpen
import Derived.Test.YtcmmlldincflkaaDoorZero
import Derived.Laws.IdiomStrings
namespace Go.Proofs.YtcmmlldincflkaaDoor
open Go.RowKit

/-- The cells of a block, and that they may be written. -/
structure CellsOf (w : World) (g n : Nat) (xs : List Value) : Prop where
  len : xs.length = n
  lt : g < w.heap.size
  cell : ∀ k x, xs[k]? = some x → w.cell? ⟨g, k, none⟩ = some x
  frozen : ∀ k, k < n → w.frozen? ⟨g, k, none⟩ = false
theorem CellsOf.set {w : World} {g n i : Nat} {xs : List Value} (h : CellsOf w g n xs) (hi : i < n) (u : Value) : CellsOf (w.setCell ⟨g, i, none⟩ u) g n (xs.set i u) := by
  refine ⟨by simp [h.len], by simpa using h.lt, fun k x hx => ?_, fun k hk => (World.frozen?_setCell _ _ _ _).trans (h.frozen k hk)⟩
  obtain ⟨y, hy⟩ := get_some (l := xs) (n := i) (by rw [h.len]; exact hi)
  by_cases hk : k = i
  · subst hk
    rw [World.cell?_setCell_same _ _ _ (h.cell k y hy)]
    rw [List.getElem?_set, if_pos rfl, if_pos (by rw [h.len]; exact hi)] at hx
    exact hx
  · rw [World.cell?_setCell_other _ _ _ _ (fun e => hk (by injection e with _ e2; exact e2.symm))]
    rw [List.getElem?_set, if_neg (fun e => hk e.symm)] at hx
    exact h.cell k x hx
theorem CellsOf.below {w w' : World} {g n B : Nat} {xs : List Value} (h : CellsOf w g n xs) (hb : Below B w w') (hB : g < B) : CellsOf w' g n xs :=
  ⟨h.len, Nat.lt_of_lt_of_le h.lt hb.size, fun k x hx => (hb.cell (p := ⟨g, k, none⟩) hB).trans (h.cell k x hx), fun k hk => (hb.frozen (p := ⟨g, k, none⟩) hB).trans (h.frozen k hk)⟩
theorem CellsOf.drew {w : World} {g n : Nat} {xs : List Value} (h : CellsOf w g n xs) : CellsOf w.drew g n xs := ⟨h.len, h.lt, h.cell, h.frozen⟩
theorem CellsOf.rowAt {w : World} {g n : Nat} {xs : List Value} (h : CellsOf w g n xs) (hn : n ≤ 140737488351232) : RowAt w (some ⟨g, 0, none⟩) n xs :=
  ⟨h.len, hn, fun _ => ⟨g, 0, rfl, h.lt, fun k x hx => by rw [Nat.zero_add]; exact h.cell k x hx⟩⟩
theorem grown_setCell {a w : World} {g i : Nat} (h : a.grownBy w (some g)) (u : Value) : a.grownBy (w.setCell ⟨g, i, none⟩ u) (some g) :=
  grown_trans h ⟨rfl, rfl, rfl, by simp, fun k hk hr => Below.heap_setCell _ _ _ _ (fun e => hr (by rw [show k = g from e]))⟩
theorem grown_drew {a w : World} {row : Option Nat} (h : a.grownBy w row) : a.grownBy w.drew row := ⟨h.os, h.tape, h.output, h.size, h.block⟩

/-- '[]byte(s)'. -/
theorem wpList_convb {P : Program} {w : World} {ops : Array Oper} {rest : List Oper} {o : Oper} {a : Act} {Q : Exit → Act → World → Prop}
    (hg : o.guard = none) (x : Operand) (S D E : TypeId) (hop : o.op = Op.convert S D x) (hs : P.underlying S = some .string) (hd : P.underlying D = some (.slice E)) (he : P.underlying E = some (.int .u8))
    (s : ByteArray) (hx : a.eval x = .string s)
    (hK : ∀ w1 c, CellsOf w1 w.heap.size s.size (byteVals s.data.toList) → Below w.heap.size w w1 → wpList P ops Q rest (a.put o.dst (.slice (some ⟨w.heap.size, 0, none⟩) s.size c)) w1) :
    wpList P ops Q (o :: rest) a w := by
  refine wpList_plain hg fun K hK' => ?_
  have hrun := run_bytes_of_string (P := P) w S D E s hs hd he
  obtain ⟨c, hc⟩ : ∃ c, c = grownCap w s.size 0 E := ⟨_, rfl⟩
  rw [← hc] at hrun
  have hcell : ∀ k, ((w.drew.alloc (.cells (bytesRow s c) E ((bytesRow s c).size, (bytesRow s c).size + 1)))).cell? ⟨w.heap.size, k, none⟩ = (bytesRow s c)[k]? := fun k => by
    unfold World.cell?
    rw [show (w.drew.alloc (.cells (bytesRow s c) E ((bytesRow s c).size, (bytesRow s c).size + 1))).heap[w.heap.size]? = some (.cells (bytesRow s c) E ((bytesRow s c).size, (bytesRow s c).size + 1)) from heap_alloc_new w.drew _]
    rfl
  have hfr : ∀ k, k < (bytesRow s c).size → ((w.drew.alloc (.cells (bytesRow s c) E ((bytesRow s c).size, (bytesRow s c).size + 1)))).frozen? ⟨w.heap.size, k, none⟩ = false := fun k hk => by
    unfold World.frozen?
    rw [show (w.drew.alloc (.cells (bytesRow s c) E ((bytesRow s c).size, (bytesRow s c).size + 1))).heap[w.heap.size]? = some (.cells (bytesRow s c) E ((bytesRow s c).size, (bytesRow s c).size + 1)) from heap_alloc_new w.drew _]
    simp; omega
  have hsz : s.size ≤ (bytesRow s c).size := by simp [bytesRow]
  have hC : CellsOf (w.drew.alloc (.cells (bytesRow s c) E ((bytesRow s c).size, (bytesRow s c).size + 1))) w.heap.size s.size (byteVals s.data.toList) := by
    refine ⟨by simp [byteVals], by simp, fun k x hx => ?_, fun k hk => hfr k (by omega)⟩
    rw [hcell]
    have hk : k < s.data.size := by have := (List.getElem?_eq_some_iff.1 hx).1; simpa [byteVals] using this
    unfold bytesRow
    rw [Array.getElem?_append_left (by simpa using hk)]
    simp only [byteVals, List.getElem?_map, Array.getElem?_toList] at hx
    rw [Array.getElem?_map]
    exact hx
  have hB : Below w.heap.size w (w.drew.alloc (.cells (bytesRow s c) E ((bytesRow s c).size, (bytesRow s c).size + 1))) := ((Below.refl _ _).drew).alloc (Nat.le_refl _) _
  unfold Oper.wp
  simp [execOp, hop, hx, hrun, Result.andThen]
  exact hK' _ _ (hK _ c hC hB)

/-! Words from their end. -/
def revAt (l : List UInt8) (k p : Nat) : UInt8 := if p < k ∨ l.length ≤ p + k then l.getD (l.length - 1 - p) 0 else l.getD p 0
def revTo (l : List UInt8) (k : Nat) : List UInt8 := (List.range l.length).map (revAt l k)
theorem revTo_len (l : List UInt8) (k : Nat) : (revTo l k).length = l.length := by simp [revTo]
theorem revTo_get (l : List UInt8) (k : Nat) {p : Nat} (h : p < l.length) : (revTo l k)[p]? = some (revAt l k p) := by simp [revTo, h]
theorem getD_get {l : List UInt8} {p : Nat} (h : p < l.length) : l.getD p 0 = l[p] := by rw [List.getD_eq_getElem?_getD, List.getElem?_eq_getElem h]; rfl
theorem revTo_zero (l : List UInt8) : revTo l 0 = l := by
  refine List.ext_getElem (revTo_len l 0) fun p h1 h2 => ?_
  have e : (revTo l 0)[p] = revAt l 0 p := by simp [revTo]
  rw [e, revAt, if_neg (by omega), getD_get h2]
theorem revTo_end {l : List UInt8} {k : Nat} (h : l.length ≤ 2 * k + 1) : revTo l k = l.reverse := by
  refine List.ext_getElem (by simp [revTo]) fun p h1 h2 => ?_
  rw [revTo_len] at h1
  have e : (revTo l k)[p]'(by rw [revTo_len]; exact h1) = revAt l k p := by simp [revTo]
  rw [e, List.getElem_reverse, revAt]
  by_cases hc : p < k ∨ l.length ≤ p + k
  · rw [if_pos hc, getD_get (by omega)]
  · rw [if_neg hc, getD_get h1]
    congr 1; omega
theorem byteVals_get {l : List UInt8} {k : Nat} {c : UInt8} (h : l[k]? = some c) : (byteVals l)[k]? = some (.int .u8 (c.toNat : Int)) := by simp [byteVals, h]
theorem byteVals_set (l : List UInt8) (i : Nat) (c : UInt8) : (byteVals l).set i (.int .u8 (c.toNat : Int)) = byteVals (l.set i c) := by simp [byteVals, List.map_set]
theorem revTo_step {l : List UInt8} {k m : Nat} (hm : k + m + 1 = l.length) (hk : k < m) : ((revTo l k).set k (revAt l k m)).set m (revAt l k k) = revTo l (k + 1) := by
  refine List.ext_getElem (by simp [revTo]) fun p h1 h2 => ?_
  rw [revTo_len] at h2
  have e : (revTo l (k + 1))[p]'(by rw [revTo_len]; exact h2) = revAt l (k + 1) p := by simp [revTo]
  rw [e, List.getElem_set, List.getElem_set]
  by_cases h3 : m = p
  · subst h3
    rw [if_pos rfl, revAt, revAt, if_neg (by omega), if_pos (by omega)]
    congr 1; omega
  · rw [if_neg h3]
    by_cases h4 : k = p
    · subst h4
      rw [if_pos rfl, revAt, revAt, if_neg (by omega), if_pos (by omega)]
      congr 1; omega
    · rw [if_neg h4]
      have e2 : (revTo l k)[p]'(by rw [revTo_len]; exact h2) = revAt l k p := by simp [revTo]
      rw [e2, revAt, revAt]
      by_cases h5 : p < k ∨ l.length ≤ p + k
      · rw [if_pos h5, if_pos (by omega)]
      · rw [if_neg h5, if_neg (by omega)]

theorem infoU8c : (Tryd.prog.info? 5).map (fun i => (i.zero, i.size, i.bytes)) = some (some (.int .u8 0), 1, 1) := by kernel_rfl
end Go.Proofs.YtcmmlldincflkaaDoor
