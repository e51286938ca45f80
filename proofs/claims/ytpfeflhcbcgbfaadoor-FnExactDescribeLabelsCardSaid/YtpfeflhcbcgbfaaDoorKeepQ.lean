/- What a trimmed graph's making leaves in memory. No condition. -/
import Derived.Deep.Slices
import Derived.Deep.Strs
import Derived.Test.YtpfeflhcbcgbfaaDoorSrch
import Derived.Test.YtpfeflhcbcgbfaaDoorIntsIn
import Derived.Test.YtpfeflhcbcgbfaaDoorZero
import Derived.Test.YtpfeflhcbcgbfaaDoorIter
import Derived.Test.YtpfeflhcbcgbfaaDoorLabP
import Derived.Test.YtpfeflhcbcgbfaaDoorBoxC
namespace Go.Proofs.YtpfeflhcbcgbfaaDoor
open Go.ChangeShapes Go.WideShapes Go.ChangeAt Go.RowKit
open Go.ChangeMaps (open_string shut_string)

/-- What a session says. -/
structure Ses where
  rows : List (List Int)
  l : Int
  ss : List ByteArray
  k : Int
  q : Int
  o : ByteArray
structure SesFit (s : Ses) : Prop where
  rows : s.rows.length * 24 ≤ 140737488355328
  row : ∀ r ∈ s.rows, r.length * 8 ≤ 140737488355328
  ss : s.ss.length * 16 ≤ 140737488355328
  sz : ∀ x ∈ s.ss, x.size ≤ maxLen
  o : s.o.size ≤ maxLen
/-- A session as it reads. -/
def SesAt (W : World) (v : Value) (s : Ses) : Prop :=
  ∃ a c b d, v = .agg #[.slice a s.rows.length c, .int .i64 s.l, .slice b s.ss.length d, .int .i64 s.k, .int .i64 s.q, .string s.o] ∧ TabAt W a s.rows.length s.rows ∧ RowAt W b s.ss.length (strVals s.ss)
theorem SesAt.below {B : Nat} {w w' : World} {v : Value} {s : Ses} (h : SesAt w v s) (hb : Below B w w') (hB : w.heap.size ≤ B) : SesAt w' v s := by
  obtain ⟨a, c, b, d, e, h1, h2⟩ := h
  exact ⟨a, c, b, d, e, h1.below hb hB, h2.below hb hB⟩
def SesIn (W : World) (v : Value) : Prop := ∃ s, SesAt W v s ∧ SesFit s
theorem cellsSliceI : Tryd.prog.cellsOf 41 = 1 := by kernel_rfl
theorem cellsSliceII : Tryd.prog.cellsOf 59 = 1 := by kernel_rfl
theorem cellsSliceS : Tryd.prog.cellsOf 42 = 1 := by kernel_rfl
theorem bytesSliceI : Tryd.prog.bytesOf 41 = 24 := by kernel_rfl
theorem cellsInt1 : Tryd.prog.cellsOf 3 = 1 := by kernel_rfl
theorem plain_of {W : World} {a : Addr} {v : Value} (h : W.cell? (a.add 0) = some v) : ∃ b off, a = ⟨b, off, none⟩ ∧ b < W.heap.size := by
  obtain ⟨b, off, spot⟩ := a
  have hspot : spot = none := by simpa [Addr.add] using World.cell?_spot h
  subst hspot
  exact ⟨b, off, rfl, by have := World.block_lt_of_cell? W _ h; simpa [Addr.add] using this⟩
theorem weightsAll_mem {H : Type} {P : Program} {e : TypeId} {d : DataW H} {x : Nat} : ∀ {l : List (DataW H)}, d ∈ l → x ∈ d.weights P e → x ∈ DataW.weightsAll P e l
  | a :: r, hd, hx => by
    rw [DataW.weightsAll, List.mem_append]
    rcases List.mem_cons.1 hd with rfl | h
    · exact .inl hx
    · exact .inr (weightsAll_mem h hx)
set_option maxRecDepth 100000 in
theorem ints_in {H : Type} {enc : TypeId × Value → H} {W : World} {v : Value} {fuel : Nat} {y : DataW H × List MemPlace} {ws : List Nat}
    (hf : DataW.trod enc Tryd.prog W 0 (fun _ => true) true fuel 41 [v] = some y)
    (hm : ∀ x ∈ y.1.weights Tryd.prog 41, x ∈ ws) (hall : ws.all (· ≤ reachBytes) = true) : ∃ a c xs, v = .slice a xs.length c ∧ RowAt W a xs.length (intVals xs) ∧ xs.length * 8 ≤ 140737488355328 := by
  rcases open_ints Tryd.underlying41 Tryd.underlying3 cellsIntV hf with ⟨hcs, hx⟩ | ⟨a, len, cap, zs, hcs, _, hl, hm2, hz, hx, hcell, hwz⟩
  · simp at hcs
    exact ⟨none, 0, [], hcs, ⟨rfl, by simp, fun h => by simp at h⟩, by simp⟩
  · simp at hcs
    subst hx
    simp only [if_true] at hz
    have hre : len * 8 ≤ 140737488351232 := by
      have h1 := hm ((len + (zs.length - len)) * Tryd.prog.bytesOf 3) (by simp [DataW.weights, Tryd.underlying41, lits, hz, hl])
      have h2 := List.all_eq_true.1 hall _ h1
      rw [bytesIntV] at h2
      have h2 := of_decide_eq_true h2; simp only [reachBytes] at h2
      omega
    have hl2 : (zs.take len).length = len := by simp; omega
    refine ⟨some a, cap, zs.take len, by rw [hl2]; exact hcs, ?_, by rw [hl2]; omega⟩
    rw [hl2]
    refine ⟨by simp [intVals]; omega, by omega, fun hn => ?_⟩
    obtain ⟨b, off, rfl, hb⟩ := plain_of (hcell 0 (by omega))
    refine ⟨b, off, rfl, hb, fun k x hx => ?_⟩
    have hk : k < len := by
      have := (List.getElem?_eq_some_iff.1 hx).1
      simp [intVals] at this; omega
    have hc := hcell k (by omega)
    rw [add_plain] at hc
    rw [hc]
    simp only [intVals, List.getElem?_map, List.getElem?_take, hk, if_true] at hx
    obtain ⟨s, hs, rfl⟩ := Option.map_eq_some_iff.1 hx
    simp [List.getD, hs]
set_option maxRecDepth 100000 in
theorem strs_in {H : Type} {enc : TypeId × Value → H} {W : World} {v : Value} {fuel : Nat} {y : DataW H × List MemPlace} {ws : List Nat}
    (hf : DataW.trod enc Tryd.prog W 0 (fun _ => true) true fuel 42 [v] = some y)
    (hm : ∀ x ∈ y.1.weights Tryd.prog 42, x ∈ ws) (hall : ws.all (· ≤ reachBytes) = true) : ∃ a c ss, v = .slice a ss.length c ∧ RowAt W a ss.length (strVals ss) ∧ ss.length * 16 ≤ 140737488355328 ∧ ∀ s ∈ ss, s.size ≤ maxLen := by
  rcases open_strings Tryd.underlying42 Tryd.underlying9 cellsStr hf with ⟨hcs, hx⟩ | ⟨a, len, cap, ss, hcs, _, hl, hm2, hz, hx, hcell, hsz⟩
  · simp at hcs
    exact ⟨none, 0, [], hcs, ⟨rfl, by simp, fun h => by simp at h⟩, by simp, fun s hs => by simp at hs⟩
  · simp at hcs
    subst hx
    simp only [if_true] at hz
    have hre : len * 16 ≤ 140737488351232 := by
      have h1 := hm ((len + (ss.length - len)) * Tryd.prog.bytesOf 9) (by simp [DataW.weights, Tryd.underlying42, strs, hz, hl])
      have h2 := List.all_eq_true.1 hall _ h1
      rw [bytesStr] at h2
      have h2 := of_decide_eq_true h2; simp only [reachBytes] at h2
      omega
    have hl2 : (ss.take len).length = len := by simp; omega
    refine ⟨some a, cap, ss.take len, by rw [hl2]; exact hcs, ?_, by rw [hl2]; omega, fun s hs => hsz s (List.mem_of_mem_take hs)⟩
    rw [hl2]
    refine ⟨by simp [strVals]; omega, by omega, fun hn => ?_⟩
    obtain ⟨b, off, rfl, hb⟩ := plain_of (hcell 0 (by omega))
    refine ⟨b, off, rfl, hb, fun k x hx => ?_⟩
    have hk : k < len := by
      have := (List.getElem?_eq_some_iff.1 hx).1
      simp [strVals] at this; omega
    have hc := hcell k (by omega)
    rw [add_plain] at hc
    rw [hc]
    simp only [strVals, List.getElem?_map, List.getElem?_take, hk, if_true] at hx
    obtain ⟨s, hs, rfl⟩ := Option.map_eq_some_iff.1 hx
    simp [List.getD, hs]
set_option maxRecDepth 100000 in
theorem rows_in {H : Type} {enc : TypeId × Value → H} {W : World} {v : Value} {fuel : Nat} {y : DataW H × List MemPlace} {ws : List Nat}
    (hf : DataW.trod enc Tryd.prog W 0 (fun _ => true) true fuel 59 [v] = some y)
    (hm : ∀ x ∈ y.1.weights Tryd.prog 59, x ∈ ws) (hall : ws.all (· ≤ reachBytes) = true) : ∃ a c rows, v = .slice a rows.length c ∧ TabAt W a rows.length rows ∧ rows.length * 24 ≤ 140737488355328 ∧ ∀ r ∈ rows, r.length * 8 ≤ 140737488355328 := by
  rcases Go.Deep.open_slice1 Tryd.underlying59 cellsSliceI hf with ⟨hcs, hx⟩ | ⟨a, len, cap, m, n, V, D, Pl, hcs, _, hl, hm2, hmm, hx, hcell⟩
  · simp at hcs
    exact ⟨none, 0, [], hcs, ⟨[], ⟨rfl, by simp, fun h => by simp at h⟩, rfl, fun i x r hx => by simp at hx⟩, by simp, fun s hs => by simp at hs⟩
  · simp at hcs
    subst hx
    simp only [if_true] at hmm
    subst hmm
    have hre : len * 24 ≤ 140737488351232 := by
      have h1 := hm ((len + (m - len)) * Tryd.prog.bytesOf 41) (by simp [DataW.weights, Tryd.underlying59])
      have h2 := List.all_eq_true.1 hall _ h1
      rw [bytesSliceI] at h2
      have h2 := of_decide_eq_true h2; simp only [reachBytes] at h2
      omega
    obtain ⟨Z, hZ⟩ := Go.Deep.choose_lt (α := List Int) (n := len) (p := fun i xs => ∃ a' c', V i = .slice a' xs.length c' ∧ RowAt W a' xs.length (intVals xs) ∧ xs.length * 8 ≤ 140737488355328) (fun i hi => by
      obtain ⟨a', c', xs, h1, h2, h3⟩ := ints_in (ws := ws) (hcell i (by omega)).2 (fun x hx => hm x (by
        simp only [DataW.weights, Tryd.underlying59]
        exact List.mem_cons_of_mem _ (List.mem_append_left _ (weightsAll_mem (List.mem_map.2 ⟨i, List.mem_range.2 hi, rfl⟩) hx)))) hall
      exact ⟨xs, a', c', h1, h2, h3⟩)
    have hl2 : ((List.range len).map Z).length = len := by simp
    refine ⟨some a, _, (List.range len).map Z, by rw [hl2]; exact hcs, ?_, by rw [hl2]; omega, fun r hr => ?_⟩
    · rw [hl2]
      refine ⟨(List.range len).map V, ⟨by simp, by omega, fun hn => ?_⟩, by simp, fun i x r hx hr => ?_⟩
      · obtain ⟨b, off, rfl, hb⟩ := plain_of (hcell 0 (by omega)).1
        refine ⟨b, off, rfl, hb, fun k x hx => ?_⟩
        have hk : k < len := by simpa using (List.getElem?_eq_some_iff.1 hx).1
        have hc := (hcell k (by omega)).1
        rw [add_plain] at hc
        rw [hc]
        simpa [hk] using hx
      · have hi : i < len := by simpa using (List.getElem?_eq_some_iff.1 hx).1
        simp only [List.getElem?_map, List.getElem?_range hi, Option.map_some, Option.some.injEq] at hx hr
        subst hx hr
        obtain ⟨a', c', h1, h2, _⟩ := hZ i hi
        exact ⟨a', c', h1, h2⟩
    · obtain ⟨i, hi, rfl⟩ := List.mem_map.1 hr
      obtain ⟨_, _, _, _, h3⟩ := hZ i (List.mem_range.1 hi)
      exact h3
end Go.Proofs.YtpfeflhcbcgbfaaDoor
namespace Go.Proofs.YtpfeflhcbcgbfaaDoor
open Go.RowKit

/-- What is left of a size: a number up to L, or -1. -/
def SzP (L : Nat) (w : World) (e : Ending) (w' : World) : Prop :=
  ∃ r : Int, e = .returned (.int .i64 r) ∧ (r = -1 ∨ ∃ m : Nat, r = (m : Int) ∧ m ≤ L) ∧ Below w.heap.size w w'
/-- A table of the call's own, whatever its rows share among themselves. -/
def TabOwn (T1 T0 : TypeId) (w : World) (base : Nat) (v : Value) (n : Nat) (rows : List (List Int)) : Prop :=
  rows.length = n ∧ ∃ xs, w.ownsRow base T1 1 v n xs ∧ ∀ (i : Nat) (x : Value) (r : List Int), xs[i]? = some x → rows[i]? = some r → w.ownsRow base T0 1 x r.length (intVals r)
theorem own_setB {wr : World} {B e s n b : Nat} {v : Value} {xs : List Value} (h : wr.ownsRow B e s v n xs) (hb : b < B) (q : Nat) (y : Value) : (wr.setCell ⟨b, q, none⟩ y).ownsRow B e s v n xs :=
  h.kept (row := some b) ⟨rfl, rfl, rfl, by simp, fun p hq hr => Below.heap_setCell _ _ _ _ (fun e => hr (by rw [show p = b from e]))⟩ (by
    cases hv : v.ownBlock with
    | none => exact .inl rfl
    | some q =>
      refine .inr fun e => ?_
      injection e with e
      have := (h.lt q hv).1
      omega)
theorem TabOwn.set {T1 T0 : TypeId} {w : World} {base n b : Nat} {v : Value} {rows : List (List Int)} (h : TabOwn T1 T0 w base v n rows) (hb : b < base) (q : Nat) (y : Value) : TabOwn T1 T0 (w.setCell ⟨b, q, none⟩ y) base v n rows := by
  obtain ⟨hl, xs, h1, h2⟩ := h
  exact ⟨hl, xs, own_setB h1 hb _ _, fun i x r hx hr => own_setB (h2 i x r hx hr) hb _ _⟩
theorem TabOwn.below {T1 T0 : TypeId} {w w' : World} {base n : Nat} {v : Value} {rows : List (List Int)} (h : TabOwn T1 T0 w base v n rows) (hb : Below w.heap.size w w') : TabOwn T1 T0 w' base v n rows := by
  obtain ⟨hl, xs, h1, h2⟩ := h
  exact ⟨hl, xs, owns_below h1 hb, fun i x r hx hr => owns_below (h2 i x r hx hr) hb⟩
theorem TabOwn.base {T1 T0 : TypeId} {w : World} {base base' n : Nat} {v : Value} {rows : List (List Int)} (h : TabOwn T1 T0 w base v n rows) (hb : base' ≤ base) : TabOwn T1 T0 w base' v n rows := by
  obtain ⟨hl, xs, h1, h2⟩ := h
  exact ⟨hl, xs, owns_base h1 hb, fun i x r hx hr => owns_base (h2 i x r hx hr) hb⟩
theorem TabOwn.at_ {T1 T0 : TypeId} {w : World} {base n c : Nat} {a : Option Addr} {rows : List (List Int)} (h : TabOwn T1 T0 w base (.slice a n c) n rows) (hlim : n ≤ 140737488351232) (hs : ∀ r ∈ rows, r.length * 8 ≤ 140737488355328) : TabAt w a n rows := by
  obtain ⟨hl, xs, h1, h2⟩ := h
  obtain ⟨q, c2, he, hra⟩ := owns_rowAt h1 hlim
  injection he with e1 _ e2
  subst e1 e2
  exact ⟨xs, hra, by have := hra.len; rw [hl]; exact this, fun i x r hx hr => owns_rowAt (h2 i x r hx hr) (by have := hs r (List.mem_of_getElem? hr); omega)⟩
theorem infoSliceI : (Tryd.prog.info? 41).map (fun i => (i.zero, i.size, i.bytes)) = some (some (.slice none 0 0), 1, 24) := by kernel_rfl
end Go.Proofs.YtpfeflhcbcgbfaaDoor
namespace Go.Proofs.YtpfeflhcbcgbfaaDoor
open Go.RowKit

theorem owns_at {w w' : World} {base e size D : Nat} {v : Value} {n : Nat} {xs : List Value} (h : w.ownsRow base e size v n xs) (hb : Below D w w') (hv : ∀ g, v.ownBlock = some g → g < D) : w'.ownsRow base e size v n xs := by
  obtain ⟨h1, h2⟩ := h
  refine ⟨h1, ?_⟩
  rcases h2 with h2 | ⟨g, cap, cur, rfl, hg, hh, r⟩
  · exact Or.inl h2
  · exact Or.inr ⟨g, cap, cur, rfl, hg, by rw [hb.block g (hv g rfl)]; exact hh, r⟩
/-- The boxes of the graph, of the result and of the graph under way, the row of names, the arcs. -/
structure KeepQ (T1 T3 : TypeId) (w wr : World) (bL bR bN bO D : Nat) (A0 A1 : Array Value) (S : Nat) (nums : List Value) (x0 x1 : Value) (v : Value) (m : Nat) (A : List Value) : Prop where
  bel : Below w.heap.size w wr
  ord : w.heap.size ≤ bL ∧ bL < bR ∧ bR < bN ∧ bN < bO ∧ bO < D
  sz : D ≤ wr.heap.size
  b0 : BoxC wr bL A0
  b1 : BoxC wr bR A1
  num : wr.ownsRow bN T1 1 (.slice (some ⟨bN, 0, none⟩) S S) S nums
  b3 : BoxC wr bO #[x0, x1, v]
  own : wr.ownsRow D T3 3 v m A
section
variable {T1 T3 : TypeId} {w wr w' : World} {bL bR bN bO D S m : Nat} {A0 A1 : Array Value} {nums A : List Value} {x0 x1 v : Value}
theorem KeepQ.below (h : KeepQ T1 T3 w wr bL bR bN bO D A0 A1 S nums x0 x1 v m A) (hb : Below wr.heap.size wr w') : KeepQ T1 T3 w w' bL bR bN bO D A0 A1 S nums x0 x1 v m A :=
  ⟨h.bel.trans (hb.mono h.bel.size), h.ord, Nat.le_trans h.sz hb.size, h.b0.below hb, h.b1.below hb, owns_below h.num hb, h.b3.below hb, owns_below h.own hb⟩
theorem KeepQ.setNum (h : KeepQ T1 T3 w wr bL bR bN bO D A0 A1 S nums x0 x1 v m A) (i : Nat) (u : Value) : KeepQ T1 T3 w (wr.setCell ⟨bN, i, none⟩ u) bL bR bN bO D A0 A1 S (nums.set i u) x0 x1 v m A := by
  have ho := h.ord
  exact ⟨h.bel.setCell (by show w.heap.size ≤ bN; omega) _, ho, by simpa using h.sz, h.b0.other (by omega) _, h.b1.other (by omega) _, (h.num.stored i u).1, h.b3.other (by omega) _, own_setB h.own (by omega) _ _⟩
theorem KeepQ.setQ (h : KeepQ T1 T3 w wr bL bR bN bO D A0 A1 S nums x0 x1 v m A) (u : Value) : KeepQ T1 T3 w (wr.setCell ⟨bO, 1, none⟩ u) bL bR bN bO D A0 A1 S nums x0 u v m A := by
  have ho := h.ord
  have hn : wr.grownBy (wr.setCell ⟨bO, 1, none⟩ u) (some bO) := ⟨rfl, rfl, rfl, by simp, fun p hq hr => Below.heap_setCell _ _ _ _ (fun e => hr (by rw [show p = bO from e]))⟩
  exact ⟨h.bel.setCell (by show w.heap.size ≤ bO; omega) _, ho, by simpa using h.sz, h.b0.other (by omega) _, h.b1.other (by omega) _, h.num.kept hn (.inr (by simp [Value.ownBlock]; omega)), h.b3.set1 _, own_setB h.own (by omega) _ _⟩
theorem KeepQ.app {w1 : World} {v' : Value} {m' : Nat} {A' : List Value} (h : KeepQ T1 T3 w wr bL bR bN bO D A0 A1 S nums x0 x1 v m A) (hb : Below D wr w1) (ho1 : w1.ownsRow D T3 3 v' m' A') : KeepQ T1 T3 w (w1.setCell ⟨bO, 2, none⟩ v') bL bR bN bO D A0 A1 S nums x0 x1 v' m' A' := by
  have ho := h.ord
  have hn : w1.grownBy (w1.setCell ⟨bO, 2, none⟩ v') (some bO) := ⟨rfl, rfl, rfl, by simp, fun p hq hr => Below.heap_setCell _ _ _ _ (fun e => hr (by rw [show p = bO from e]))⟩
  have hb2 : Below w.heap.size w w1 := h.bel.trans (hb.mono (by omega))
  have hnum : w1.ownsRow bN T1 1 (.slice (some ⟨bN, 0, none⟩) S S) S nums := owns_at h.num hb (by rintro g ⟨⟩; show bN < D; omega)
  exact ⟨hb2.setCell (by show w.heap.size ≤ bO; omega) _, ho, by simpa using Nat.le_trans h.sz hb.size, (h.b0.at_ hb (by omega)).other (by omega) _, (h.b1.at_ hb (by omega)).other (by omega) _, hnum.kept hn (.inr (by simp [Value.ownBlock]; omega)), (h.b3.at_ hb (by omega)).set2 _, own_setB ho1 (by omega) _ _⟩
end
/-- The names of the first i states. -/
def numV (K : Nat → Bool) (S i : Nat) : List Value := (List.range S).map fun j => .int .i64 ((if K j = true ∧ j < i then numTo K j else 0 : Nat) : Int)
theorem numV_len (K : Nat → Bool) (S i : Nat) : (numV K S i).length = S := by simp [numV]
theorem numV_get {K : Nat → Bool} {S i j : Nat} (h : j < S) : (numV K S i)[j]? = some (.int .i64 ((if K j = true ∧ j < i then numTo K j else 0 : Nat) : Int)) := by simp [numV, h]
theorem numV_zero (K : Nat → Bool) (S : Nat) : numV K S 0 = (madeCells (Value.int .i64 0).cells (S * 1)).toList := by
  rw [made_zeros]
  unfold numV intVals
  rw [List.map_replicate]
  refine List.ext_getElem (by simp) fun i h1 h2 => by simp
theorem numV_yes {K : Nat → Bool} {S i : Nat} (h : K i = true) (hi : i < S) : (numV K S i).set i (.int .i64 ((numTo K i : Nat) : Int)) = numV K S (i + 1) := by
  refine List.ext_getElem (by simp [numV]) fun j h1 h2 => ?_
  rw [List.getElem_set]
  simp only [numV, List.getElem_map, List.getElem_range]
  by_cases e : i = j
  · subst e
    rw [if_pos rfl, if_pos ⟨h, by omega⟩]
  · rw [if_neg e]
    by_cases k : K j = true ∧ j < i
    · rw [if_pos k, if_pos ⟨k.1, by omega⟩]
    · rw [if_neg k, if_neg (fun e2 => k ⟨e2.1, by omega⟩)]
theorem numV_no {K : Nat → Bool} {S i : Nat} (h : K i = false) : numV K S (i + 1) = numV K S i := by
  unfold numV
  refine List.map_congr_left fun j _ => ?_
  by_cases e : j = i
  · subst e
    rw [if_neg (by rw [h]; simp), if_neg (by rw [h]; simp)]
  · by_cases k : K j = true ∧ j < i
    · rw [if_pos k, if_pos ⟨k.1, by omega⟩]
    · rw [if_neg k, if_neg (fun e2 => k ⟨e2.1, by omega⟩)]
end Go.Proofs.YtpfeflhcbcgbfaaDoor
