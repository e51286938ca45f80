/- Sources of words: a word leads to no end iff it has no source; mirrors and exchanges keep this. Plain law. No condition. -/
import Derived.Laws.IdiomStrings
import Derived.Test.YtpfeflhcbcgbfaaGreatDoorIntsIn
import Derived.Test.YtpfeflhcbcgbfaaGreatDoorZero
import Derived.Test.YtpfeflhcbcgbfaaGreatDoorSrch
import Derived.Test.YtpfeflhcbcgbfaaGreatDoorNumber
namespace Go.Proofs.YtpfeflhcbcgbfaaGreatDoor
open Go.RowKit

/-- The cells of a block, and that they may be written. -/
structure CellsOf (w : World) (g n : Nat) (xs : List Value) : Prop where
  len : xs.length = n
  lt : g < w.heap.size
  cell : ∀ k x, xs[k]? = some x → w.cell? ⟨g, k, none⟩ = some x
  frozen : ∀ k, k < n → w.frozen? ⟨g, k, none⟩ = false
theorem CellsOf.set {w : World} {g n i : Nat} {xs : List Value} (h : CellsOf w g n xs) (hi : i < n) (u : Value) : CellsOf (w.setCell ⟨g, i, none⟩ u) g n (xs.set i u) := by
  refine ⟨by simp [h.len], by simpa using h.lt, fun k x hx => ?_, fun k hk => (World.frozen?_setCell _ _ _ _).trans (h.frozen k hk)⟩
  obtain ⟨y, hy⟩ := get_some (l := xs) (n := i) (by rw [h.len]; exact hi)
  by_cases hk : k = i
  · subst hk
    rw [World.cell?_setCell_same _ _ _ (h.cell k y hy)]
    rw [List.getElem?_set, if_pos rfl, if_pos (by rw [h.len]; exact hi)] at hx
    exact hx
  · rw [World.cell?_setCell_other _ _ _ _ (fun e => hk (by injection e with _ e2; exact e2.symm))]
    rw [List.getElem?_set, if_neg (fun e => hk e.symm)] at hx
    exact h.cell k x hx
theorem CellsOf.below {w w' : World} {g n B : Nat} {xs : List Value} (h : CellsOf w g n xs) (hb : Below B w w') (hB : g < B) : CellsOf w' g n xs :=
  ⟨h.len, Nat.lt_of_lt_of_le h.lt hb.size, fun k x hx => (hb.cell (p := ⟨g, k, none⟩) hB).trans (h.cell k x hx), fun k hk => (hb.frozen (p := ⟨g, k, none⟩) hB).trans (h.frozen k hk)⟩
theorem CellsOf.drew {w : World} {g n : Nat} {xs : List Value} (h : CellsOf w g n xs) : CellsOf w.drew g n xs := ⟨h.len, h.lt, h.cell, h.frozen⟩
theorem CellsOf.rowAt {w : World} {g n : Nat} {xs : List Value} (h : CellsOf w g n xs) (hn : n ≤ 140737488351232) : RowAt w (some ⟨g, 0, none⟩) n xs :=
  ⟨h.len, hn, fun _ => ⟨g, 0, rfl, h.lt, fun k x hx => by rw [Nat.zero_add]; exact h.cell k x hx⟩⟩
theorem grown_setCell {a w : World} {g i : Nat} (h : a.grownBy w (some g)) (u : Value) : a.grownBy (w.setCell ⟨g, i, none⟩ u) (some g) :=
  grown_trans h ⟨rfl, rfl, rfl, by simp, fun k hk hr => Below.heap_setCell _ _ _ _ (fun e => hr (by rw [show k = g from e]))⟩
theorem grown_drew {a w : World} {row : Option Nat} (h : a.grownBy w row) : a.grownBy w.drew row := ⟨h.os, h.tape, h.output, h.size, h.block⟩

/-- '[]byte(s)'. -/
theorem wpList_convb {P : Program} {w : World} {ops : Array Oper} {rest : List Oper} {o : Oper} {a : Act} {Q : Exit → Act → World → Prop}
    (hg : o.guard = none) (x : Operand) (S D E : TypeId) (hop : o.op = Op.convert S D x) (hs : P.underlying S = some .string) (hd : P.underlying D = some (.slice E)) (he : P.underlying E = some (.int .u8))
    (s : ByteArray) (hx : a.eval x = .string s)
    (hK : ∀ w1 c, CellsOf w1 w.heap.size s.size (byteVals s.data.toList) → Below w.heap.size w w1 → wpList P ops Q rest (a.put o.dst (.slice (some ⟨w.heap.size, 0, none⟩) s.size c)) w1) :
    wpList P ops Q (o :: rest) a w := by
  refine wpList_plain hg fun K hK' => ?_
  have hrun := run_bytes_of_string (P := P) w S D E s hs hd he
  obtain ⟨c, hc⟩ : ∃ c, c = grownCap w s.size 0 E := ⟨_, rfl⟩
  rw [← hc] at hrun
  have hcell : ∀ k, ((w.drew.alloc (.cells (bytesRow s c) E ((bytesRow s c).size, (bytesRow s c).size + 1)))).cell? ⟨w.heap.size, k, none⟩ = (bytesRow s c)[k]? := fun k => by
    unfold World.cell?
    rw [show (w.drew.alloc (.cells (bytesRow s c) E ((bytesRow s c).size, (bytesRow s c).size + 1))).heap[w.heap.size]? = some (.cells (bytesRow s c) E ((bytesRow s c).size, (bytesRow s c).size + 1)) from heap_alloc_new w.drew _]
    rfl
  have hfr : ∀ k, k < (bytesRow s c).size → ((w.drew.alloc (.cells (bytesRow s c) E ((bytesRow s c).size, (bytesRow s c).size + 1)))).frozen? ⟨w.heap.size, k, none⟩ = false := fun k hk => by
    unfold World.frozen?
    rw [show (w.drew.alloc (.cells (bytesRow s c) E ((bytesRow s c).size, (bytesRow s c).size + 1))).heap[w.heap.size]? = some (.cells (bytesRow s c) E ((bytesRow s c).size, (bytesRow s c).size + 1)) from heap_alloc_new w.drew _]
    simp; omega
  have hsz : s.size ≤ (bytesRow s c).size := by simp [bytesRow]
  have hC : CellsOf (w.drew.alloc (.cells (bytesRow s c) E ((bytesRow s c).size, (bytesRow s c).size + 1))) w.heap.size s.size (byteVals s.data.toList) := by
    refine ⟨by simp [byteVals], by simp, fun k x hx => ?_, fun k hk => hfr k (by omega)⟩
    rw [hcell]
    have hk : k < s.data.size := by have := (List.getElem?_eq_some_iff.1 hx).1; simpa [byteVals] using this
    unfold bytesRow
    rw [Array.getElem?_append_left (by simpa using hk)]
    simp only [byteVals, List.getElem?_map, Array.getElem?_toList] at hx
    rw [Array.getElem?_map]
    exact hx
  have hB : Below w.heap.size w (w.drew.alloc (.cells (bytesRow s c) E ((bytesRow s c).size, (bytesRow s c).size + 1))) := ((Below.refl _ _).drew).alloc (Nat.le_refl _) _
  unfold Oper.wp
  simp [execOp, hop, hx, hrun, Result.andThen]
  exact hK' _ _ (hK _ c hC hB)

/-! Words from their end. -/
def revAt (l : List UInt8) (k p : Nat) : UInt8 := if p < k ∨ l.length ≤ p + k then l.getD (l.length - 1 - p) 0 else l.getD p 0
def revTo (l : List UInt8) (k : Nat) : List UInt8 := (List.range l.length).map (revAt l k)
theorem revTo_len (l : List UInt8) (k : Nat) : (revTo l k).length = l.length := by simp [revTo]
theorem revTo_get (l : List UInt8) (k : Nat) {p : Nat} (h : p < l.length) : (revTo l k)[p]? = some (revAt l k p) := by simp [revTo, h]
theorem getD_get {l : List UInt8} {p : Nat} (h : p < l.length) : l.getD p 0 = l[p] := by rw [List.getD_eq_getElem?_getD, List.getElem?_eq_getElem h]; rfl
theorem revTo_zero (l : List UInt8) : revTo l 0 = l := by
  refine List.ext_getElem (revTo_len l 0) fun p h1 h2 => ?_
  have e : (revTo l 0)[p] = revAt l 0 p := by simp [revTo]
  rw [e, revAt, if_neg (by omega), getD_get h2]
theorem revTo_end {l : List UInt8} {k : Nat} (h : l.length ≤ 2 * k + 1) : revTo l k = l.reverse := by
  refine List.ext_getElem (by simp [revTo]) fun p h1 h2 => ?_
  rw [revTo_len] at h1
  have e : (revTo l k)[p]'(by rw [revTo_len]; exact h1) = revAt l k p := by simp [revTo]
  rw [e, List.getElem_reverse, revAt]
  by_cases hc : p < k ∨ l.length ≤ p + k
  · rw [if_pos hc, getD_get (by omega)]
  · rw [if_neg hc, getD_get h1]
    congr 1; omega
theorem byteVals_get {l : List UInt8} {k : Nat} {c : UInt8} (h : l[k]? = some c) : (byteVals l)[k]? = some (.int .u8 (c.toNat : Int)) := by simp [byteVals, h]
theorem byteVals_set (l : List UInt8) (i : Nat) (c : UInt8) : (byteVals l).set i (.int .u8 (c.toNat : Int)) = byteVals (l.set i c) := by simp [byteVals, List.map_set]
theorem revTo_step {l : List UInt8} {k m : Nat} (hm : k + m + 1 = l.length) (hk : k < m) : ((revTo l k).set k (revAt l k m)).set m (revAt l k k) = revTo l (k + 1) := by
  refine List.ext_getElem (by simp [revTo]) fun p h1 h2 => ?_
  rw [revTo_len] at h2
  have e : (revTo l (k + 1))[p]'(by rw [revTo_len]; exact h2) = revAt l (k + 1) p := by simp [revTo]
  rw [e, List.getElem_set, List.getElem_set]
  by_cases h3 : m = p
  · subst h3
    rw [if_pos rfl, revAt, revAt, if_neg (by omega), if_pos (by omega)]
    congr 1; omega
  · rw [if_neg h3]
    by_cases h4 : k = p
    · subst h4
      rw [if_pos rfl, revAt, revAt, if_neg (by omega), if_pos (by omega)]
      congr 1; omega
    · rw [if_neg h4]
      have e2 : (revTo l k)[p]'(by rw [revTo_len]; exact h2) = revAt l k p := by simp [revTo]
      rw [e2, revAt, revAt]
      by_cases h5 : p < k ∨ l.length ≤ p + k
      · rw [if_pos h5, if_pos (by omega)]
      · rw [if_neg h5, if_neg (by omega)]

theorem infoU8c : (Tryz.prog.info? 5).map (fun i => (i.zero, i.size, i.bytes)) = some (some (.int .u8 0), 1, 1) := by kernel_rfl
end Go.Proofs.YtpfeflhcbcgbfaaGreatDoor
namespace Go.Proofs.YtpfeflhcbcgbfaaGreatDoor
open Go.RowKit

/-- The letters that a function gives. -/
def outB (f : Nat → UInt8) (m : Nat) : List UInt8 := (List.range m).map f
theorem outB_succ (f : Nat → UInt8) (m : Nat) : byteVals (outB f (m + 1)) = byteVals (outB f m) ++ [.int .u8 ((f m).toNat : Int)] := by simp [outB, byteVals, List.range_succ]
theorem outB_len (f : Nat → UInt8) (m : Nat) : (outB f m).length = m := by simp [outB]
theorem outB_ext {f g : Nat → UInt8} {m : Nat} (h : ∀ i, i < m → f i = g i) : outB f m = outB g m := List.map_congr_left fun i hi => h i (List.mem_range.1 hi)
/-- A value that gives letters to words: called with the word number i it returns f i. -/
def Gives (F : FuncId) (cap : Value) (k n : Nat) (f : Nat → UInt8) (W : World) : Prop :=
  ∀ i w, i < k ^ n → Below W.heap.size W w → Calls Tryz.prog F #[.string (wdB k n i), cap] w fun e w' => e = .returned (.int .u8 ((f i).toNat : Int)) ∧ Below w.heap.size w w'

/-- What a mirrored code gives to the word number i. -/
def mirB (o : ByteArray) (k n i : Nat) : UInt8 := giveB o (idxOf k (wAt k n i).reverse)
theorem lets_rev {k : Int} {l : List UInt8} (h : lets k l = true) : lets k l.reverse = true := by unfold lets at *; rw [List.all_reverse]; exact h
def mirOut (o : ByteArray) (k n : Nat) : ByteArray := ⟨(outB (mirB o k n) (k ^ n)).toArray⟩
end Go.Proofs.YtpfeflhcbcgbfaaGreatDoor
namespace Go.Proofs.YtpfeflhcbcgbfaaGreatDoor
open Go.RowKit

/-- A code and whether there is one. -/
def codeR (b : Bool) (k n : Int) (o : ByteArray) : Value := .tuple #[.agg #[.int .i64 (if b then k else 0), .int .i64 (if b then n else 0), .string (if b then o else ⟨#[]⟩)], .bool b]
def mirC (k n : Int) (o : ByteArray) : Value := codeR (isCode k n o) k n (mirOut o k.toNat n.toNat)
end Go.Proofs.YtpfeflhcbcgbfaaGreatDoor
namespace Go.Proofs.YtpfeflhcbcgbfaaGreatDoor
open Go.RowKit

def swB (c : UInt8) : UInt8 := if c = 97 then 98 else 97
theorem lets2_mem {l : List UInt8} (h : lets 2 l = true) {j : Nat} {c : UInt8} (hc : l[j]? = some c) : c = 97 ∨ c = 98 := by
  have := List.all_eq_true.1 h c (List.mem_of_getElem? hc)
  rw [inB_iff] at this
  have h2 : c.toNat = 97 ∨ c.toNat = 98 := by omega
  rcases h2 with h2 | h2
  · left; exact UInt8.toNat_inj.1 h2
  · right; exact UInt8.toNat_inj.1 h2
theorem swB_nat {c : UInt8} (h : c = 97 ∨ c = 98) : ((swB c).toNat : Int) = 195 - (c.toNat : Int) := by rcases h with rfl | rfl <;> rfl
theorem swB_lets (l : List UInt8) : lets 2 (l.map swB) = true := by
  unfold lets
  rw [List.all_eq_true]
  intro c hc
  obtain ⟨d, _, rfl⟩ := List.mem_map.1 hc
  unfold swB
  split <;> decide
def swTo (l : List UInt8) (j : Nat) : List UInt8 := (l.take j).map swB ++ l.drop j
theorem swTo_zero (l : List UInt8) : swTo l 0 = l := by simp [swTo]
theorem swTo_all (l : List UInt8) : swTo l l.length = l.map swB := by simp [swTo]
theorem swTo_get {l : List UInt8} {j : Nat} {c : UInt8} (h : l[j]? = some c) : (swTo l j)[j]? = some c := by
  have hj := (List.getElem?_eq_some_iff.1 h).1
  unfold swTo
  rw [List.getElem?_append_right (by simp; omega)]
  simp [List.length_take, Nat.min_eq_left (Nat.le_of_lt hj), h]
theorem swTo_step {l : List UInt8} {j : Nat} {c : UInt8} (h : l[j]? = some c) : (swTo l j).set j (swB c) = swTo l (j + 1) := by
  have hj := (List.getElem?_eq_some_iff.1 h).1
  have h3 : ((l.take j).map swB).length = j := by simp; omega
  unfold swTo
  rw [List.set_append_right _ _ (by omega), h3, Nat.sub_self, List.take_add_one, h]
  have hd : l.drop j = l[j]'hj :: l.drop (j + 1) := List.drop_eq_getElem_cons hj
  rw [hd, List.set_cons_zero]; simp

/-- What an exchanged code gives to the word number i. -/
def exB (o : ByteArray) (n i : Nat) : UInt8 := swB (giveB o (idxOf 2 ((wAt 2 n i).map swB)))
theorem idx2_bd (n i : Nat) : idxOf 2 ((wAt 2 n i).map swB) < 2 ^ n := by
  have := idx_bd (k := 2) (swB_lets (wAt 2 n i)) (by decide)
  simpa [wAt_len] using this
theorem give2 {o : ByteArray} {q : Nat} (hl : lets 2 o.data.toList = true) (hq : q < o.size) : giveB o q = 97 ∨ giveB o q = 98 := by
  rw [giveB_at hq]; exact lets2_mem hl (byte_at o q hq)
def exOut (o : ByteArray) (n : Nat) : ByteArray := ⟨(outB (exB o n) (2 ^ n)).toArray⟩
end Go.Proofs.YtpfeflhcbcgbfaaGreatDoor
namespace Go.Proofs.YtpfeflhcbcgbfaaGreatDoor
open Go.RowKit

theorem idxOf_snocS (k : Nat) (l : List UInt8) (c : UInt8) : idxOf k (l ++ [c]) = idxOf k l * k + (c.toNat - 97) := by simp [idxOf, List.foldl_append]
theorem foldl_idxS (k : Nat) : ∀ (l : List UInt8) (s : Nat), l.foldl (fun a c => a * k + (c.toNat - 97)) s = s * k ^ l.length + idxOf k l
  | [], s => by simp [idxOf]
  | c :: l, s => by
    show l.foldl _ (s * k + (c.toNat - 97)) = _
    rw [foldl_idxS k l, show idxOf k (c :: l) = (0 * k + (c.toNat - 97)) * k ^ l.length + idxOf k l from foldl_idxS k l _, List.length_cons, Nat.pow_succ, Nat.zero_mul, Nat.zero_add, Nat.add_mul, Nat.mul_assoc, Nat.mul_comm k, Nat.add_assoc]
theorem idxOf_appendS (k : Nat) (a b : List UInt8) : idxOf k (a ++ b) = idxOf k a * k ^ b.length + idxOf k b := by
  show (a ++ b).foldl _ 0 = _
  rw [List.foldl_append]
  exact foldl_idxS k b (idxOf k a)
theorem snoc_ind {α : Type} {P : List α → Prop} (h0 : P []) (h1 : ∀ l c, P l → P (l ++ [c])) (l : List α) : P l := by
  rw [← List.reverse_reverse l]
  induction l.reverse with
  | nil => exact h0
  | cons c l ih => rw [List.reverse_cons]; exact h1 _ _ ih
def LW (L : Nat) (l : List UInt8) : Prop := ∀ c ∈ l, ∃ a, a < L ∧ c = letB a
theorem LW.app {L : Nat} {a b : List UInt8} (ha : LW L a) (hb : LW L b) : LW L (a ++ b) := fun c hc => (List.mem_append.1 hc).elim (ha c) (hb c)
theorem LW.take {L : Nat} {l : List UInt8} (h : LW L l) (j : Nat) : LW L (l.take j) := fun c hc => h c (List.mem_of_mem_take hc)
theorem LW.drop {L : Nat} {l : List UInt8} (h : LW L l) (j : Nat) : LW L (l.drop j) := fun c hc => h c (List.mem_of_mem_drop hc)
theorem LW.lt {L : Nat} (hL : L ≤ 3) : ∀ {l : List UInt8}, LW L l → idxOf L l < L ^ l.length := fun {l} => by
  refine snoc_ind (P := fun l => LW L l → idxOf L l < L ^ l.length) ?_ ?_ l
  · intro _; simp [idxOf]
  · intro l c ih h
    have h1 := ih (fun d hd => h d (List.mem_append_left _ hd))
    obtain ⟨a, ha, hc⟩ := h c (by simp)
    rw [idxOf_snocS, List.length_append, List.length_singleton, Nat.pow_succ, hc, letB_sub (by omega)]
    have := Nat.mul_le_mul_right L (show idxOf L l + 1 ≤ L ^ l.length by omega)
    rw [Nat.succ_mul] at this
    omega
theorem wAt_LW {L : Nat} (hL : 0 < L) : ∀ n x, LW L (wAt L n x)
  | 0, _ => fun c hc => by cases hc
  | n + 1, x => (wAt_LW hL n (x / L)).app fun c hc => ⟨x % L, Nat.mod_lt _ hL, by simpa using hc⟩
theorem idx_wAtL {L : Nat} (hL : 0 < L) (hL3 : L ≤ 3) : ∀ n x, x < L ^ n → idxOf L (wAt L n x) = x
  | 0, x, h => by simp at h; subst h; rfl
  | n + 1, x, h => by
    have h1 : x / L < L ^ n := Nat.div_lt_of_lt_mul (by rw [Nat.pow_succ, Nat.mul_comm] at h; exact h)
    have h2 := Nat.mod_lt x hL
    show idxOf L (wAt L n (x / L) ++ [letB (x % L)]) = x
    rw [idxOf_snocS, idx_wAtL hL hL3 n _ h1, letB_sub (by omega), Nat.mul_comm]
    exact Nat.div_add_mod x L
/-- A word's source: what a code of the width e + 1 takes to it. -/
structure Src (o : ByteArray) (L e : Nat) (w V : List UInt8) : Prop where
  len : V.length = w.length + e
  lets : LW L V
  img : ∀ i, i < w.length → giveB o (idxOf L ((V.drop i).take (e + 1))) = w.getD i 0
theorem Src.shorter {o : ByteArray} {L e : Nat} {w V : List UInt8} {c : UInt8} (h : Src o L e (w ++ [c]) V) : Src o L e w (V.take (w.length + e)) := by
  have hl := h.len
  rw [List.length_append, List.length_singleton] at hl
  refine ⟨by rw [List.length_take]; omega, h.lets.take _, fun i hi => ?_⟩
  have h1 := h.img i (by simp; omega)
  rw [List.getD_eq_getElem?_getD, List.getElem?_append_left hi, ← List.getD_eq_getElem?_getD] at h1
  rw [← h1]
  congr 2
  rw [List.drop_take, List.take_take]
  congr 1
  omega
theorem reach_src {o : ByteArray} {L e : Nat} (hL : 0 < L) (hL3 : L ≤ 3) (w : List UInt8) : LW L w → ∀ j, ((reachW (fun s a => stepS o L (L ^ e) s a) (2 ^ L ^ e - 1) w).testBit j = true ↔ ∃ V, Src o L e w V ∧ idxOf L (V.drop w.length) = j) := by
  refine snoc_ind (P := fun w => LW L w → ∀ j, ((reachW (fun s a => stepS o L (L ^ e) s a) (2 ^ L ^ e - 1) w).testBit j = true ↔ ∃ V, Src o L e w V ∧ idxOf L (V.drop w.length) = j)) ?_ ?_ w
  · intro _ j
    show (2 ^ L ^ e - 1).testBit j = true ↔ _
    rw [Nat.testBit_two_pow_sub_one, decide_eq_true_eq]
    constructor
    · intro hj
      exact ⟨wAt L e j, ⟨by simp [wAt_len], wAt_LW hL e j, fun i hi => by cases hi⟩, by simpa using idx_wAtL hL hL3 e j hj⟩
    · rintro ⟨V, hV, hj⟩
      have := LW.lt hL3 hV.lets
      rw [hV.len] at this
      simp at this hj
      omega
  · intro w c ih hw j
    have ih := ih (fun d hd => hw d (List.mem_append_left _ hd))
    obtain ⟨a, ha, hc⟩ := hw c (by simp)
    rw [reachW_snoc, hc, letB_sub (by omega)]
    show (stV o L (L ^ e) a _ (L ^ e)).testBit j = true ↔ _
    rw [stV_bit]
    constructor
    · rintro ⟨v, y, hv, hy, hs, hg, hm⟩
      obtain ⟨V, hV, hd⟩ := (ih v).1 hs
      have hVd : (V.drop w.length).length = e := by rw [List.length_drop, hV.len]; omega
      have hy2 : (letB y).toNat - 97 = y := letB_sub (by omega)
      have hdrop : (V ++ [letB y]).drop w.length = V.drop w.length ++ [letB y] := by rw [List.drop_append_of_le_length (by rw [hV.len]; omega)]
      have hidx : idxOf L ((V ++ [letB y]).drop w.length) = v * L + y := by rw [hdrop, idxOf_snocS, hd, hy2]
      refine ⟨V ++ [letB y], ⟨by simp [hV.len]; omega, hV.lets.app fun d hd => ⟨y, hy, by simpa using hd⟩, fun i hi => ?_⟩, ?_⟩
      · by_cases hiw : i < w.length
        · rw [List.getD_eq_getElem?_getD, List.getElem?_append_left hiw, ← List.getD_eq_getElem?_getD, ← hV.img i hiw]
          congr 2
          rw [List.drop_append_of_le_length (by rw [hV.len]; omega), List.take_append_of_le_length (by rw [List.length_drop, hV.len]; omega)]
        · obtain rfl : i = w.length := by simp at hi; omega
          rw [List.take_of_length_le (by rw [hdrop]; simp [hVd]), hidx, hg, List.getD_eq_getElem?_getD, List.getElem?_append_right (Nat.le_refl _)]
          simp
      · rw [List.length_append, List.length_singleton, ← List.drop_drop]
        have hle : ((V ++ [letB y]).drop w.length).length = e + 1 := by rw [hdrop]; simp [hVd]
        cases hh : (V ++ [letB y]).drop w.length with
        | nil => rw [hh] at hle; simp at hle
        | cons d t =>
          rw [hh] at hidx hle
          have h1 := idxOf_appendS L [d] t
          have ht : t.length = e := by simpa using hle
          have h2 := LW.lt hL3 (l := t) (fun z hz => (hV.lets.app (fun d hd => ⟨y, hy, by simpa using hd⟩) : LW L (V ++ [letB y])) z (List.mem_of_mem_drop (i := w.length) (by rw [hh]; exact List.mem_cons_of_mem _ hz)))
          rw [ht] at h1 h2
          rw [show [d] ++ t = d :: t from rfl, hidx] at h1
          show idxOf L t = j
          rw [← hm, h1, Nat.add_comm, Nat.add_mul_mod_self_right, Nat.mod_eq_of_lt h2]
    · rintro ⟨V, hV, hj⟩
      have hl := hV.len
      rw [List.length_append, List.length_singleton] at hl
      have hs := hV.shorter
      have hle : (V.drop w.length).length = e + 1 := by rw [List.length_drop]; omega
      have hV' : (V.take (w.length + e)).drop w.length = (V.drop w.length).take e := by rw [List.drop_take]; congr 1; omega
      obtain ⟨z, hz⟩ : ∃ z, (V.drop w.length).drop e = [z] := List.length_eq_one_iff.1 (by rw [List.length_drop, hle]; omega)
      have hsplit : V.drop w.length = (V.drop w.length).take e ++ [z] := by rw [← hz, List.take_append_drop]
      obtain ⟨y, hy, hzy⟩ := hV.lets z (List.mem_of_mem_drop (i := w.length) (by rw [hsplit]; simp))
      have hidx : idxOf L (V.drop w.length) = idxOf L ((V.take (w.length + e)).drop w.length) * L + y := by
        conv => lhs; rw [hsplit]
        rw [idxOf_snocS, hzy, letB_sub (by omega), hV']
      have hvlt : idxOf L ((V.take (w.length + e)).drop w.length) < L ^ e := by
        have := LW.lt hL3 (hs.lets.drop w.length)
        rwa [List.length_drop, List.length_take, show min (w.length + e) V.length - w.length = e by omega] at this
      have himg := hV.img w.length (by simp)
      rw [List.take_of_length_le (by rw [hle]; exact Nat.le_refl _), List.getD_eq_getElem?_getD, List.getElem?_append_right (Nat.le_refl _), Nat.sub_self, List.getElem?_cons_zero, Option.getD_some, hidx] at himg
      refine ⟨_, y, hvlt, hy, (ih _).2 ⟨_, hs, rfl⟩, himg, ?_⟩
      rw [← hj, List.length_append, List.length_singleton, ← List.drop_drop, ← hidx]
      cases hh : V.drop w.length with
      | nil => rw [hh] at hle; simp at hle
      | cons d t =>
        rw [hh] at hle
        have h1 := idxOf_appendS L [d] t
        have ht : t.length = e := by simpa using hle
        have h2 := LW.lt hL3 (l := t) (fun q hq => hV.lets q (List.mem_of_mem_drop (i := w.length) (by rw [hh]; exact List.mem_cons_of_mem _ hq)))
        rw [ht] at h1 h2
        show idxOf L ([d] ++ t) % L ^ e = idxOf L t
        rw [h1, Nat.add_comm, Nat.add_mul_mod_self_right, Nat.mod_eq_of_lt h2]
/-- Each word has a source. -/
def OntoP (o : ByteArray) (L e : Nat) : Prop := ∀ w, LW L w → ∃ V, Src o L e w V
theorem reach_zero {o : ByteArray} {L e : Nat} (hL : 0 < L) (hL3 : L ≤ 3) {w : List UInt8} (hw : LW L w) : reachW (fun s a => stepS o L (L ^ e) s a) (2 ^ L ^ e - 1) w ≠ 0 ↔ ∃ V, Src o L e w V := by
  constructor
  · intro h
    refine Classical.byContradiction fun hne => h ?_
    refine Nat.eq_of_testBit_eq fun j => ?_
    rw [Nat.zero_testBit]
    cases hj : (reachW (fun s a => stepS o L (L ^ e) s a) (2 ^ L ^ e - 1) w).testBit j
    · rfl
    · obtain ⟨V, hV, _⟩ := (reach_src hL hL3 w hw j).1 hj
      exact absurd ⟨V, hV⟩ hne
  · rintro ⟨V, hV⟩ h0
    have := (reach_src hL hL3 w hw _).2 ⟨V, hV, rfl⟩
    rw [h0, Nat.zero_testBit] at this
    cases this
theorem rev_win {V : List UInt8} {m e i : Nat} (hl : V.length = m + e) (hi : i < m) : (V.reverse.drop i).take (e + 1) = ((V.drop (m - 1 - i)).take (e + 1)).reverse := by
  rw [List.drop_reverse, List.take_reverse, List.drop_take]
  congr 1
  rw [List.length_take]
  congr 1
  · omega
  · congr 1; omega
theorem src_mirror {o o' : ByteArray} {L e : Nat} (h : ∀ W, LW L W → W.length = e + 1 → giveB o' (idxOf L W) = giveB o (idxOf L W.reverse)) {w V : List UInt8} (hV : Src o' L e w V) : Src o L e w.reverse V.reverse := by
  refine ⟨by simpa using hV.len, fun c hc => hV.lets c (by simpa using hc), fun i hi => ?_⟩
  have hi' : i < w.length := by simpa using hi
  rw [rev_win hV.len hi', ← h _ ((hV.lets.drop _).take _) (by rw [List.length_take, List.length_drop, hV.len]; omega), hV.img _ (by omega)]
  rw [List.getD_eq_getElem?_getD, List.getD_eq_getElem?_getD, List.getElem?_reverse hi']
theorem onto_mirror1 {o o' : ByteArray} {L e : Nat} (h : ∀ W, LW L W → W.length = e + 1 → giveB o' (idxOf L W) = giveB o (idxOf L W.reverse)) (hO : OntoP o' L e) : OntoP o L e := fun w hw => by
  obtain ⟨V, hV⟩ := hO w.reverse fun c hc => hw c (by simpa using hc)
  have := src_mirror h hV
  rw [List.reverse_reverse] at this
  exact ⟨_, this⟩
theorem onto_mirror {o o' : ByteArray} {L e : Nat} (h : ∀ W, LW L W → W.length = e + 1 → giveB o' (idxOf L W) = giveB o (idxOf L W.reverse)) : OntoP o' L e ↔ OntoP o L e :=
  ⟨onto_mirror1 h, onto_mirror1 fun W hW hl => by
    have := h W.reverse (fun c hc => hW c (by simpa using hc)) (by simpa using hl)
    rw [List.reverse_reverse] at this
    exact this.symm⟩
theorem LW2 {l : List UInt8} (h : LW 2 l) {c : UInt8} (hc : c ∈ l) : c = 97 ∨ c = 98 := by
  obtain ⟨a, ha, e⟩ := h c hc
  rcases (by omega : a = 0 ∨ a = 1) with rfl | rfl
  · exact .inl e
  · exact .inr e
theorem swB_swB {c : UInt8} (h : c = 97 ∨ c = 98) : swB (swB c) = c := by rcases h with rfl | rfl <;> decide
theorem LW_sw (l : List UInt8) : LW 2 (l.map swB) := fun c hc => by
  obtain ⟨d, _, rfl⟩ := List.mem_map.1 hc
  unfold swB
  split
  · exact ⟨1, by omega, rfl⟩
  · exact ⟨0, by omega, rfl⟩
theorem map_sw_sw {l : List UInt8} (h : LW 2 l) : (l.map swB).map swB = l := by
  rw [List.map_map]
  conv => rhs; rw [← List.map_id l]
  exact List.map_congr_left fun c hc => swB_swB (LW2 h hc)
theorem src_swap {o o' : ByteArray} {e : Nat} (h : ∀ W, LW 2 W → W.length = e + 1 → giveB o' (idxOf 2 W) = swB (giveB o (idxOf 2 (W.map swB))) ∧ (giveB o (idxOf 2 (W.map swB)) = 97 ∨ giveB o (idxOf 2 (W.map swB)) = 98)) {w V : List UInt8} (hV : Src o' 2 e w V) : Src o 2 e (w.map swB) (V.map swB) := by
  refine ⟨by simpa using hV.len, LW_sw V, fun i hi => ?_⟩
  have hi' : i < w.length := by simpa using hi
  have hl : ((V.drop i).take (e + 1)).length = e + 1 := by rw [List.length_take, List.length_drop, hV.len]; omega
  obtain ⟨h1, h2⟩ := h _ ((hV.lets.drop i).take (e + 1)) hl
  rw [← List.map_drop, ← List.map_take, ← swB_swB h2, ← h1, hV.img i hi']
  rw [List.getD_eq_getElem?_getD, List.getD_eq_getElem?_getD, List.getElem?_map, List.getElem?_eq_getElem hi']
  rfl
theorem onto_swap1 {o o' : ByteArray} {e : Nat} (h : ∀ W, LW 2 W → W.length = e + 1 → giveB o' (idxOf 2 W) = swB (giveB o (idxOf 2 (W.map swB))) ∧ (giveB o (idxOf 2 (W.map swB)) = 97 ∨ giveB o (idxOf 2 (W.map swB)) = 98)) (hO : OntoP o' 2 e) : OntoP o 2 e := fun w hw => by
  obtain ⟨V, hV⟩ := hO (w.map swB) (LW_sw w)
  have := src_swap h hV
  rw [map_sw_sw hw] at this
  exact ⟨_, this⟩
theorem onto_swap {o o' : ByteArray} {e : Nat} (h : ∀ W, LW 2 W → W.length = e + 1 → giveB o' (idxOf 2 W) = swB (giveB o (idxOf 2 (W.map swB))) ∧ (giveB o (idxOf 2 (W.map swB)) = 97 ∨ giveB o (idxOf 2 (W.map swB)) = 98)) : OntoP o' 2 e ↔ OntoP o 2 e :=
  ⟨onto_swap1 h, onto_swap1 fun W hW hl => by
    obtain ⟨h1, h2⟩ := h (W.map swB) (LW_sw W) (by simpa using hl)
    rw [map_sw_sw hW] at h1 h2
    refine ⟨by rw [h1, swB_swB h2], ?_⟩
    rw [h1]
    rcases h2 with h2 | h2 <;> rw [h2] <;> decide⟩
def LiveE (E : Nat → Nat → Prop) (M i : Nat) : Prop := ∃ T : Nat → Prop, T i ∧ ∀ q, T q → q < M ∧ (∃ r, E q r ∧ T r) ∧ ∃ r, E r q ∧ T r
/-- What follows what, by a code. -/
def StepIs (o : ByteArray) (k S : Nat) (E : Nat → Nat → Prop) : Prop := ∀ p q, p < S * S → (E p q ↔ ∃ x y, x < k ∧ y < k ∧ giveB o (p / S * k + x) = giveB o (p % S * k + y) ∧ q = (p / S * k + x) % S * S + (p % S * k + y) % S)
theorem LW.rev {L : Nat} {l : List UInt8} (h : LW L l) : LW L l.reverse := fun c hc => h c (by simpa using hc)
theorem wAt_idxL {L : Nat} (hL : 0 < L) (hL3 : L ≤ 3) : ∀ (n : Nat) (l : List UInt8), l.length = n → LW L l → wAt L n (idxOf L l) = l := fun n l => by
  refine snoc_ind (P := fun l => ∀ n, l.length = n → LW L l → wAt L n (idxOf L l) = l) ?_ ?_ l n
  · intro n hn _; subst hn; rfl
  · intro l c ih n hn h
    subst hn
    obtain ⟨a, ha, hc⟩ := h c (by simp)
    rw [List.length_append, List.length_singleton]
    show wAt L l.length (idxOf L (l ++ [c]) / L) ++ [letB (idxOf L (l ++ [c]) % L)] = _
    rw [idxOf_snocS, hc, letB_sub (by omega), show (idxOf L l * L + a) / L = idxOf L l by rw [Nat.add_comm, Nat.add_mul_div_right _ _ hL, Nat.div_eq_of_lt ha, Nat.zero_add], show (idxOf L l * L + a) % L = a by rw [Nat.add_comm, Nat.add_mul_mod_self_right, Nat.mod_eq_of_lt ha], ih _ rfl fun d hd => h d (List.mem_append_left _ hd)]
/-- The number of a word read from its end. -/
def rvN (k e u : Nat) : Nat := idxOf k (wAt k e u).reverse
theorem rvN_lt {k e : Nat} (hk : 0 < k) (hk3 : k ≤ 3) (u : Nat) : rvN k e u < k ^ e := by
  have := LW.lt hk3 (wAt_LW hk e u).rev
  rwa [List.length_reverse, wAt_len] at this
theorem rvN_rvN {k e u : Nat} (hk : 0 < k) (hk3 : k ≤ 3) (hu : u < k ^ e) : rvN k e (rvN k e u) = u := by
  unfold rvN
  rw [wAt_idxL hk hk3 e _ (by rw [List.length_reverse, wAt_len]) (wAt_LW hk e u).rev, List.reverse_reverse, idx_wAtL hk hk3 e u hu]
/-- A window: from the end u by the letter x to the end behind, and the same from the back. -/
theorem win_back {k e u x : Nat} (hk : 0 < k) (hk3 : k ≤ 3) (_he : 0 < e) (hu : u < k ^ e) (hx : x < k) : ∃ (W : List UInt8) (h : Nat), LW k W ∧ W.length = e + 1 ∧ h < k ∧ idxOf k W = u * k + x ∧ idxOf k W.reverse = rvN k e ((u * k + x) % k ^ e) * k + h ∧ (rvN k e ((u * k + x) % k ^ e) * k + h) % k ^ e = rvN k e u := by
  have hlx : LW k [letB x] := fun c hc => ⟨x, hx, by simpa using hc⟩
  have hW := (wAt_LW hk e u).app hlx
  have hi : idxOf k (wAt k e u ++ [letB x]) = u * k + x := by rw [idxOf_snocS, idx_wAtL hk hk3 e u hu, letB_sub (by omega)]
  have hlen : (wAt k e u ++ [letB x]).length = e + 1 := by simp [wAt_len]
  obtain ⟨d, t, hdt⟩ : ∃ d t, wAt k e u ++ [letB x] = d :: t := by
    cases hh : wAt k e u ++ [letB x] with
    | nil => rw [hh] at hlen; simp at hlen
    | cons d t => exact ⟨d, t, rfl⟩
  have htl : t.length = e := by rw [hdt] at hlen; simpa using hlen
  have hdW : LW k (d :: t) := by rw [← hdt]; exact hW
  obtain ⟨h, hh, hd⟩ := hdW d (by simp)
  have htW : LW k t := fun c hc => hdW c (List.mem_cons_of_mem _ hc)
  have hmod : (u * k + x) % k ^ e = idxOf k t := by
    have h1 := idxOf_appendS k [d] t
    rw [htl, show [d] ++ t = d :: t from rfl, ← hdt, hi] at h1
    have h2 := LW.lt hk3 htW
    rw [htl] at h2
    rw [h1, Nat.add_comm, Nat.add_mul_mod_self_right, Nat.mod_eq_of_lt h2]
  have hrv : rvN k e ((u * k + x) % k ^ e) = idxOf k t.reverse := by
    unfold rvN
    rw [hmod, wAt_idxL hk hk3 e t htl htW]
  have hrev : idxOf k (wAt k e u ++ [letB x]).reverse = rvN k e ((u * k + x) % k ^ e) * k + h := by
    rw [hdt, List.reverse_cons, idxOf_snocS, ← hrv, hd, letB_sub (by omega)]
  refine ⟨_, h, hW, hlen, hh, hi, hrev, ?_⟩
  rw [← hrev, List.reverse_append]
  show idxOf k ([letB x] ++ (wAt k e u).reverse) % k ^ e = _
  have h1 := idxOf_appendS k [letB x] (wAt k e u).reverse
  rw [List.length_reverse, wAt_len] at h1
  rw [h1, Nat.add_comm, Nat.add_mul_mod_self_right, Nat.mod_eq_of_lt]
  · rfl
  · exact rvN_lt hk hk3 u
def prN (k e p : Nat) : Nat := rvN k e (p / k ^ e) * k ^ e + rvN k e (p % k ^ e)
theorem prN_parts {k e : Nat} (hk : 0 < k) (hk3 : k ≤ 3) (p : Nat) : prN k e p / k ^ e = rvN k e (p / k ^ e) ∧ prN k e p % k ^ e = rvN k e (p % k ^ e) ∧ prN k e p < k ^ e * k ^ e := by
  have h1 := rvN_lt (e := e) hk hk3 (p / k ^ e)
  have h2 := rvN_lt (e := e) hk hk3 (p % k ^ e)
  unfold prN
  refine ⟨by rw [Nat.add_comm, Nat.add_mul_div_right _ _ (by omega), Nat.div_eq_of_lt h2, Nat.zero_add], by rw [Nat.add_comm, Nat.add_mul_mod_self_right, Nat.mod_eq_of_lt h2], ?_⟩
  have := Nat.mul_le_mul_right (k ^ e) (show rvN k e (p / k ^ e) + 1 ≤ k ^ e by omega)
  rw [Nat.succ_mul] at this
  omega
theorem edge_back {o o' : ByteArray} {k e : Nat} {E E' : Nat → Nat → Prop} (hk : 0 < k) (hk3 : k ≤ 3) (he : 0 < e) (h : ∀ W, LW k W → W.length = e + 1 → giveB o' (idxOf k W) = giveB o (idxOf k W.reverse)) (hE : StepIs o k (k ^ e) E) (hE' : StepIs o' k (k ^ e) E') {p q : Nat} (hp : p < k ^ e * k ^ e) (hpq : E' p q) : E (prN k e q) (prN k e p) := by
  have hS : 0 < k ^ e := Nat.pow_pos hk
  obtain ⟨x, y, hx, hy, hg, hq⟩ := (hE' p q hp).1 hpq
  have hu : p / k ^ e < k ^ e := Nat.div_lt_of_lt_mul hp
  have hv : p % k ^ e < k ^ e := Nat.mod_lt _ hS
  obtain ⟨W1, h1, a1, a2, a3, a4, a5, a6⟩ := win_back hk hk3 he hu hx
  obtain ⟨W2, h2, b1, b2, b3, b4, b5, b6⟩ := win_back hk hk3 he hv hy
  have hqd : q / k ^ e = (p / k ^ e * k + x) % k ^ e := by rw [hq, Nat.add_comm, Nat.add_mul_div_right _ _ hS, Nat.div_eq_of_lt (Nat.mod_lt _ hS), Nat.zero_add]
  have hqm : q % k ^ e = (p % k ^ e * k + y) % k ^ e := by rw [hq, Nat.add_comm, Nat.add_mul_mod_self_right, Nat.mod_mod]
  obtain ⟨c1, c2, c3⟩ := prN_parts hk hk3 q
  refine (hE _ _ c3).2 ⟨h1, h2, a3, b3, ?_, ?_⟩
  · rw [c1, c2, hqd, hqm, ← a5, ← b5, ← h W1 a1 a2, ← h W2 b1 b2, a4, b4, hg]
  · rw [c1, c2, hqd, hqm, a6, b6]; rfl
theorem live_back {o o' : ByteArray} {k e : Nat} {E E' : Nat → Nat → Prop} (hk : 0 < k) (hk3 : k ≤ 3) (he : 0 < e) (h : ∀ W, LW k W → W.length = e + 1 → giveB o' (idxOf k W) = giveB o (idxOf k W.reverse)) (hE : StepIs o k (k ^ e) E) (hE' : StepIs o' k (k ^ e) E') {p : Nat} (hl : LiveE E' (k ^ e * k ^ e) p) : LiveE E (k ^ e * k ^ e) (prN k e p) := by
  obtain ⟨T, ht, hT⟩ := hl
  refine ⟨fun z => ∃ t, T t ∧ z = prN k e t, ⟨p, ht, rfl⟩, fun z ⟨t, htt, hz⟩ => ?_⟩
  subst hz
  obtain ⟨h1, ⟨r, hr, htr⟩, s, hs, hts⟩ := hT t htt
  exact ⟨(prN_parts hk hk3 t).2.2, ⟨_, edge_back hk hk3 he h hE hE' (hT s hts).1 hs, s, hts, rfl⟩, _, edge_back hk hk3 he h hE hE' h1 hr, r, htr, rfl⟩
/-- Only pairs of equal ends lie on a way that is infinite in both directions: kept under mirrors. -/
theorem diag_back {o o' : ByteArray} {k e : Nat} {E E' : Nat → Nat → Prop} (hk : 0 < k) (hk3 : k ≤ 3) (he : 0 < e) (h : ∀ W, LW k W → W.length = e + 1 → giveB o' (idxOf k W) = giveB o (idxOf k W.reverse)) (hE : StepIs o k (k ^ e) E) (hE' : StepIs o' k (k ^ e) E')
    (hO : ∀ p, p < k ^ e * k ^ e → LiveE E (k ^ e * k ^ e) p → p / k ^ e = p % k ^ e) : ∀ p, p < k ^ e * k ^ e → LiveE E' (k ^ e * k ^ e) p → p / k ^ e = p % k ^ e := fun p hp hl => by
  obtain ⟨c1, c2, c3⟩ := prN_parts (e := e) hk hk3 p
  have h1 := hO _ c3 (live_back hk hk3 he h hE hE' hl)
  rw [c1, c2] at h1
  have h2 := congrArg (rvN k e) h1
  rwa [rvN_rvN hk hk3 (Nat.div_lt_of_lt_mul hp), rvN_rvN hk hk3 (Nat.mod_lt _ (Nat.pow_pos hk))] at h2
end Go.Proofs.YtpfeflhcbcgbfaaGreatDoor
