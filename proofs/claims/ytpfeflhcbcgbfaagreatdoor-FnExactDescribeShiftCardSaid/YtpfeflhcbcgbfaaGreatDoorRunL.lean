/- The labelled graph of run lengths: both functions. Conditions: bounds of at most 7. -/
import Derived.Deep.RegionHeld3
import Derived.Test.YtpfeflhcbcgbfaaGreatDoorIntsIn
import Derived.Test.YtpfeflhcbcgbfaaGreatDoorAppN
import Derived.Test.YtpfeflhcbcgbfaaGreatDoorNumber
namespace Go.Proofs.YtpfeflhcbcgbfaaGreatDoor
open Go.RowKit

theorem three_get {xs : List Int} {n j : Nat} (hl : xs.length = n * 3) (hj : j < n) : ∃ x y z, xs[j * 3]? = some x ∧ xs[j * 3 + 1]? = some y ∧ xs[j * 3 + 2]? = some z := by
  obtain ⟨x, hx⟩ := get_some (l := xs) (n := j * 3) (by omega)
  obtain ⟨y, hy⟩ := get_some (l := xs) (n := j * 3 + 1) (by omega)
  obtain ⟨z, hz⟩ := get_some (l := xs) (n := j * 3 + 2) (by omega)
  exact ⟨x, y, z, hx, hy, hz⟩
/-- The three cells of an element. -/
def Cell3 (w : World) (b o : Nat) (x y z : Int) : Prop := w.cell? ⟨b, o, none⟩ = some (.int .i64 x) ∧ w.cell? ⟨b, o + 1, none⟩ = some (.int .i64 y) ∧ w.cell? ⟨b, o + 2, none⟩ = some (.int .i64 z)
theorem Cell3.below {B : Nat} {w w' : World} {b o : Nat} {x y z : Int} (h : Cell3 w b o x y z) (hb : Below B w w') (hB : b < B) : Cell3 w' b o x y z :=
  ⟨(hb.cell (p := ⟨b, o, none⟩) hB).trans h.1, (hb.cell (p := ⟨b, o + 1, none⟩) hB).trans h.2.1, (hb.cell (p := ⟨b, o + 2, none⟩) hB).trans h.2.2⟩
theorem row3 {w : World} {b off n : Nat} {xs : List Int} {j : Nat} (hc : ∀ k v, (intVals xs)[k]? = some v → w.cell? ⟨b, off + k, none⟩ = some v) (hl : xs.length = n * 3) (hj : j < n) : ∃ x y z, Cell3 w b (off + j * 3) x y z ∧ xs[j * 3]? = some x ∧ xs[j * 3 + 1]? = some y ∧ xs[j * 3 + 2]? = some z := by
  obtain ⟨x, y, z, hx, hy, hz⟩ := three_get hl hj
  refine ⟨x, y, z, ⟨hc _ _ (intVals_get hx), ?_, ?_⟩, hx, hy, hz⟩
  · have := hc _ _ (intVals_get hy); rwa [← Nat.add_assoc] at this
  · have := hc _ _ (intVals_get hz); rwa [← Nat.add_assoc] at this
theorem marked_three {xs : List Value} {k n j : Nat} (hl : xs.length = n * 3) (hj : j < n) :
    (((marked (marks k (n * 3)) xs (j * 3)).set (j * 3) (.int .i64 ((k : Int) + j * 3))).set (j * 3 + 1) (.int .i64 ((k : Int) + j * 3 + 1))).set (j * 3 + 2) (.int .i64 ((k : Int) + j * 3 + 2)) = marked (marks k (n * 3)) xs ((j + 1) * 3) := by
  rw [marked_step (xs := xs) (ms := marks k (n * 3)) (n := n * 3) (j := j * 3) (u := .int .i64 ((k : Int) + j * 3)) hl (marks_len k _) (by omega) (by rw [marks_get (by omega)]; simp)]
  rw [marked_step (xs := xs) (ms := marks k (n * 3)) (n := n * 3) (j := j * 3 + 1) (u := .int .i64 ((k : Int) + j * 3 + 1)) hl (marks_len k _) (by omega) (by rw [marks_get (by omega)]; simp; omega)]
  rw [marked_step (xs := xs) (ms := marks k (n * 3)) (n := n * 3) (j := j * 3 + 1 + 1) (u := .int .i64 ((k : Int) + j * 3 + 2)) hl (marks_len k _) (by omega) (by rw [marks_get (by omega)]; simp; omega)]
  congr 1
  omega
end Go.Proofs.YtpfeflhcbcgbfaaGreatDoor
namespace Go.Proofs.YtpfeflhcbcgbfaaGreatDoor
open Go.RowKit

/-- The arcs of the first j states, three numbers each. -/
def arcsN (d k : Nat) : Nat → List Int
  | 0 => []
  | j + 1 => arcsN d k j ++ (if j < k then [(j : Int), (j : Int) + 1, 0] else []) ++ (if d ≤ j then [(j : Int), 0, 1] else [])
def arcsC (d k : Nat) : Nat → Nat
  | 0 => 0
  | j + 1 => arcsC d k j + (if j < k then 1 else 0) + (if d ≤ j then 1 else 0)
theorem arcs_len (d k : Nat) : ∀ j, (arcsN d k j).length = arcsC d k j * 3
  | 0 => rfl
  | j + 1 => by
    have := arcs_len d k j
    unfold arcsN arcsC
    rw [List.length_append, List.length_append, this]
    split <;> split <;> simp <;> omega
theorem arcsC_le (d k : Nat) : ∀ j, arcsC d k j ≤ 2 * j
  | 0 => Nat.le_refl _
  | j + 1 => by
    have := arcsC_le d k j
    unfold arcsC
    split <;> split <;> omega
theorem intVals_app (a b : List Int) : intVals (a ++ b) = intVals a ++ intVals b := by simp [intVals]
/-- An arc appended to arcs of the call's own. -/
theorem wpList_appA {P : Program} {wr : World} {ops : Array Oper} {rest : List Oper} {o : Oper} {a : Act} {Q : Exit → Act → World → Prop}
    (hg : o.guard = none) (s x : Operand) (t : TypeId) (hop : o.op = Op.call { callee := Callee.builtin Builtin.append, args := #[s, x], argTypes := #[t, t] })
    (B : Nat) (e : TypeId) (h1 : P.underlying t = some (.slice e)) (hinfo : (P.info? e).map (fun i => (i.zero, i.size, i.bytes)) = some (some (.agg #[.int .i64 0, .int .i64 0, .int .i64 0]), 3, 24))
    (v : Value) (m : Nat) (xs : List Int) (x0 x1 x2 : Int) (hown : wr.ownsRow B e 3 v m (intVals xs)) (hs : a.eval s = v) (H : Nat) (hH : wr.heap.size = H) (hx : a.eval x = .slice (some ⟨H, 0, none⟩) 1 1)
    (hlim : m ≤ 1000000) (hB : B ≤ wr.heap.size)
    (hK : ∀ g' c' w1, w1.ownsRow B e 3 (.slice (some ⟨g', 0, none⟩) (m + 1) c') (m + 1) (intVals (xs ++ [x0, x1, x2])) → Below B wr w1 → wpList P ops Q rest (a.put o.dst (.slice (some ⟨g', 0, none⟩) (m + 1) c')) w1) :
    wpList P ops Q (o :: rest) a (wr.alloc (.cells #[.int .i64 x0, .int .i64 x1, .int .i64 x2] e)) := by
  subst hH
  obtain ⟨i, hi, hz, hz1, hz2⟩ := info_parts hinfo
  refine wpList_append_own _ hg s x t hop B e i _ 3 24 h1 hi hz hz1 hz2 rfl (by decide) v m (intVals xs) hs (hown.alloc _) ⟨wr.heap.size, 0, none⟩ 1 1 (intVals [x0, x1, x2]) hx rfl ?_ (by intro u hu; obtain ⟨x, _, rfl⟩ := List.mem_map.1 hu; rfl) (by unfold maxLen; omega) (by omega) (by simp; omega) ?_
  · intro j y hj
    have hjl := (List.getElem?_eq_some_iff.1 hj).1
    have ha : (⟨wr.heap.size, 0, none⟩ : Addr).add j = ⟨wr.heap.size, j, none⟩ := by
      unfold Addr.add
      split
      · rename_i h0; subst h0; rfl
      · simp
    rw [ha, World.cell?_alloc_at _ _ _ _ rfl]
    rw [← hj]
    simp [intVals]
  · intro v' w1 hown' hgrow hiff
    have hne : v' ≠ .slice none 0 0 := fun e => by have := (hiff.1 e).2; omega
    obtain ⟨g', c', rfl⟩ : ∃ g' c', v' = .slice (some ⟨g', 0, none⟩) (m + 1) c' := by
      rcases hown'.2 with ⟨h0, _⟩ | ⟨g, cap, cur, he, _⟩
      · exact absurd h0 hne
      · exact ⟨g, cap, he⟩
    exact hK g' c' w1 (by rw [intVals_app]; exact hown') (((Below.refl _ _).alloc hB _).grown hgrow (by simp; omega) (fun k hk => (hown.lt k hk).1))
theorem own_set {wr : World} {B e s n b : Nat} {v : Value} {xs : List Value} (h : wr.ownsRow B e s v n xs) (hb : b < B) (q : Nat) (y : Value) : (wr.setCell ⟨b, q, none⟩ y).ownsRow B e s v n xs :=
  h.kept (row := some b) ⟨rfl, rfl, rfl, by simp, fun p hq hr => Below.heap_setCell _ _ _ _ (fun e => hr (by rw [show p = b from e]))⟩ (by
    cases hv : v.ownBlock with
    | none => exact .inl rfl
    | some q =>
      refine .inr fun e => ?_
      injection e with e
      have := (h.lt q hv).1
      omega)
end Go.Proofs.YtpfeflhcbcgbfaaGreatDoor
