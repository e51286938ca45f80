/- The labelled graph of run lengths: both functions. Conditions: bounds of at most 7. -/
import Derived.Deep.RegionHeld3
import Derived.Test.YtpfeflhcbcgbfaaDoorIntsIn
import Derived.Test.YtpfeflhcbcgbfaaDoorAppK
import Derived.Test.YtpfeflhcbcgbfaaDoorNumber
namespace Go.Proofs.YtpfeflhcbcgbfaaDoor
open Go.RowKit

theorem three_get {xs : List Int} {n j : Nat} (hl : xs.length = n * 3) (hj : j < n) : ∃ x y z, xs[j * 3]? = some x ∧ xs[j * 3 + 1]? = some y ∧ xs[j * 3 + 2]? = some z := by
  obtain ⟨x, hx⟩ := get_some (l := xs) (n := j * 3) (by omega)
  obtain ⟨y, hy⟩ := get_some (l := xs) (n := j * 3 + 1) (by omega)
  obtain ⟨z, hz⟩ := get_some (l := xs) (n := j * 3 + 2) (by omega)
  exact ⟨x, y, z, hx, hy, hz⟩
/-- The three cells of an element. -/
def Cell3 (w : World) (b o : Nat) (x y z : Int) : Prop := w.cell? ⟨b, o, none⟩ = some (.int .i64 x) ∧ w.cell? ⟨b, o + 1, none⟩ = some (.int .i64 y) ∧ w.cell? ⟨b, o + 2, none⟩ = some (.int .i64 z)
theorem Cell3.below {B : Nat} {w w' : World} {b o : Nat} {x y z : Int} (h : Cell3 w b o x y z) (hb : Below B w w') (hB : b < B) : Cell3 w' b o x y z :=
  ⟨(hb.cell (p := ⟨b, o, none⟩) hB).trans h.1, (hb.cell (p := ⟨b, o + 1, none⟩) hB).trans h.2.1, (hb.cell (p := ⟨b, o + 2, none⟩) hB).trans h.2.2⟩
theorem row3 {w : World} {b off n : Nat} {xs : List Int} {j : Nat} (hc : ∀ k v, (intVals xs)[k]? = some v → w.cell? ⟨b, off + k, none⟩ = some v) (hl : xs.length = n * 3) (hj : j < n) : ∃ x y z, Cell3 w b (off + j * 3) x y z ∧ xs[j * 3]? = some x ∧ xs[j * 3 + 1]? = some y ∧ xs[j * 3 + 2]? = some z := by
  obtain ⟨x, y, z, hx, hy, hz⟩ := three_get hl hj
  refine ⟨x, y, z, ⟨hc _ _ (intVals_get hx), ?_, ?_⟩, hx, hy, hz⟩
  · have := hc _ _ (intVals_get hy); rwa [← Nat.add_assoc] at this
  · have := hc _ _ (intVals_get hz); rwa [← Nat.add_assoc] at this
theorem eqArc_c (x y z : Int) (w : World) :
    Calls Tryd.prog 61 #[.agg #[.int .i64 x, .int .i64 y, .int .i64 z], .agg #[.int .i64 x, .int .i64 y, .int .i64 z]] w fun e w' => e = .returned (.bool true) ∧ Below w.heap.size w w' := by
  go_enter Tryd.func61, Tryd.ntmps61
  go_wp2
  go_ret
  exact ⟨rfl, ((Below.refl _ _).alloc (Nat.le_refl _) _).alloc (by simp) _⟩
set_option maxHeartbeats 1000000 in
theorem eqArcS_c (a b : Option Addr) (n c d : Nat) (xs : List Int) (w : World) (hn : n ≤ 1048576) (ha : RowAt w a (n * 3) (intVals xs)) (hb : RowAt w b (n * 3) (intVals xs)) :
    Calls Tryd.prog 31 #[.slice a n c, .slice b n d] w fun e w' => e = .returned (.bool true) ∧ Below w.heap.size w w' := by
  obtain ⟨hl, hlim, hat⟩ := ha
  obtain ⟨_, _, hbt⟩ := hb
  have hlen := hid (show xs.length = n * 3 by simpa [intVals] using hl)
  have HA := hid hat
  have HB := hid hbt
  clear hl hlim hat hbt
  go_enter Tryd.func31, Tryd.ntmps31
  go_wp2
  go_loopw [5] (fun i wr => ∃ k : Nat, k ≤ n ∧ i = .int .i64 k ∧ Below w.heap.size w wr) (fun i _ => n - (intOf i).toNat)
  case atStart => exact ⟨0, by omega, rfl, Below.refl _ _⟩
  case round =>
    obtain ⟨k, hk, rfl, hbel⟩ := hrel
    by_cases hlt : k < n
    · obtain ⟨b1, off1, rfl, hb1, hc1⟩ := HA.out (by omega)
      obtain ⟨b2, off2, rfl, hb2, hc2⟩ := HB.out (by omega)
      obtain ⟨x, y, z, h1, hx, hy, hz⟩ := row3 hc1 hlen.out hlt
      obtain ⟨x', y', z', h2, hx', hy', hz'⟩ := row3 hc2 hlen.out hlt
      obtain rfl : x = x' := Option.some.inj (hx.symm.trans hx')
      obtain rfl : y = y' := Option.some.inj (hy.symm.trans hy')
      obtain rfl : z = z' := Option.some.inj (hz.symm.trans hz')
      have H1 := hid (h1.below hbel hb1)
      have H2 := hid (h2.below hbel hb2)
      have hb1' : b1 < wr.heap.size := Nat.lt_of_lt_of_le hb1 hbel.size
      have hb2' : b2 < wr.heap.size := Nat.lt_of_lt_of_le hb2 hbel.size
      have HK := hid (fun (V : World) (hV : Below wr.heap.size wr V) => show V.cell? ⟨b1, off1 + k * 3, none⟩ = some (.int .i64 x) ∧ V.cell? ⟨b1, off1 + k * 3 + 1, none⟩ = some (.int .i64 y) ∧ V.cell? ⟨b1, off1 + k * 3 + 2, none⟩ = some (.int .i64 z) ∧ V.cell? ⟨b2, off2 + k * 3, none⟩ = some (.int .i64 x) ∧ V.cell? ⟨b2, off2 + k * 3 + 1, none⟩ = some (.int .i64 y) ∧ V.cell? ⟨b2, off2 + k * 3 + 2, none⟩ = some (.int .i64 z) ∧ Below wr.heap.size wr V from by
        have q1 := H1.out.below hV hb1'
        have q2 := H2.out.below hV hb2'
        exact ⟨q1.1, q1.2.1, q1.2.2, q2.1, q2.2.1, q2.2.2, hV⟩)
      have hbZ : Below wr.heap.size wr wr.drew := (Below.refl _ _).drew
      have HE := hid (fun w => eqArc_c x y z w)
      clear hx hy hz hx' hy' hz' hc1 hc2 h1 h2
      go_wp2
      go_region_held3 (fun V => V.cell? ⟨b1, off1 + k * 3, none⟩ = some (.int .i64 x) ∧ V.cell? ⟨b1, off1 + k * 3 + 1, none⟩ = some (.int .i64 y) ∧ V.cell? ⟨b1, off1 + k * 3 + 2, none⟩ = some (.int .i64 z) ∧ V.cell? ⟨b2, off2 + k * 3, none⟩ = some (.int .i64 x) ∧ V.cell? ⟨b2, off2 + k * 3 + 1, none⟩ = some (.int .i64 y) ∧ V.cell? ⟨b2, off2 + k * 3 + 2, none⟩ = some (.int .i64 z) ∧ Below wr.heap.size wr V)
        (first | with_reducible exact HK.out _ hbZ)
        (first | (go_at_call 61; refine (HE.out _).mono ?_; rintro e w3 ⟨rfl, hb3⟩; have hbZ := hbZ.trans (hb3.mono hbZ.size)))
      go_wp2
      go_roundw
      case rel => exact ⟨k + 1, by omega, by go_num, hbel.trans (hbZ.mono hbel.size)⟩
      case measure => simp [intOf]; omega
    · go_wp2
      go_ret
      exact ⟨rfl, hbel⟩
theorem marked_three {xs : List Value} {k n j : Nat} (hl : xs.length = n * 3) (hj : j < n) :
    (((marked (marks k (n * 3)) xs (j * 3)).set (j * 3) (.int .i64 ((k : Int) + j * 3))).set (j * 3 + 1) (.int .i64 ((k : Int) + j * 3 + 1))).set (j * 3 + 2) (.int .i64 ((k : Int) + j * 3 + 2)) = marked (marks k (n * 3)) xs ((j + 1) * 3) := by
  rw [marked_step (xs := xs) (ms := marks k (n * 3)) (n := n * 3) (j := j * 3) (u := .int .i64 ((k : Int) + j * 3)) hl (marks_len k _) (by omega) (by rw [marks_get (by omega)]; simp)]
  rw [marked_step (xs := xs) (ms := marks k (n * 3)) (n := n * 3) (j := j * 3 + 1) (u := .int .i64 ((k : Int) + j * 3 + 1)) hl (marks_len k _) (by omega) (by rw [marks_get (by omega)]; simp; omega)]
  rw [marked_step (xs := xs) (ms := marks k (n * 3)) (n := n * 3) (j := j * 3 + 1 + 1) (u := .int .i64 ((k : Int) + j * 3 + 2)) hl (marks_len k _) (by omega) (by rw [marks_get (by omega)]; simp; omega)]
  congr 1
  omega
end Go.Proofs.YtpfeflhcbcgbfaaDoor
namespace Go.Proofs.YtpfeflhcbcgbfaaDoor
open Go.RowKit

/-- The arcs of the first j states, three numbers each. -/
def arcsN (d k : Nat) : Nat → List Int
  | 0 => []
  | j + 1 => arcsN d k j ++ (if j < k then [(j : Int), (j : Int) + 1, 0] else []) ++ (if d ≤ j then [(j : Int), 0, 1] else [])
def arcsC (d k : Nat) : Nat → Nat
  | 0 => 0
  | j + 1 => arcsC d k j + (if j < k then 1 else 0) + (if d ≤ j then 1 else 0)
theorem arcs_len (d k : Nat) : ∀ j, (arcsN d k j).length = arcsC d k j * 3
  | 0 => rfl
  | j + 1 => by
    have := arcs_len d k j
    unfold arcsN arcsC
    rw [List.length_append, List.length_append, this]
    split <;> split <;> simp <;> omega
theorem arcsC_le (d k : Nat) : ∀ j, arcsC d k j ≤ 2 * j
  | 0 => Nat.le_refl _
  | j + 1 => by
    have := arcsC_le d k j
    unfold arcsC
    split <;> split <;> omega
theorem infoArc : (Tryd.prog.info? 53).map (fun i => (i.zero, i.size, i.bytes)) = some (some (.agg #[.int .i64 0, .int .i64 0, .int .i64 0]), 3, 24) := by kernel_rfl
theorem intVals_app (a b : List Int) : intVals (a ++ b) = intVals a ++ intVals b := by simp [intVals]
/-- An arc appended to arcs of the call's own. -/
theorem wpList_appA {P : Program} {wr : World} {ops : Array Oper} {rest : List Oper} {o : Oper} {a : Act} {Q : Exit → Act → World → Prop}
    (hg : o.guard = none) (s x : Operand) (t : TypeId) (hop : o.op = Op.call { callee := Callee.builtin Builtin.append, args := #[s, x], argTypes := #[t, t] })
    (B : Nat) (e : TypeId) (h1 : P.underlying t = some (.slice e)) (hinfo : (P.info? e).map (fun i => (i.zero, i.size, i.bytes)) = some (some (.agg #[.int .i64 0, .int .i64 0, .int .i64 0]), 3, 24))
    (v : Value) (m : Nat) (xs : List Int) (x0 x1 x2 : Int) (hown : wr.ownsRow B e 3 v m (intVals xs)) (hs : a.eval s = v) (H : Nat) (hH : wr.heap.size = H) (hx : a.eval x = .slice (some ⟨H, 0, none⟩) 1 1)
    (hlim : m ≤ 1000000) (hB : B ≤ wr.heap.size)
    (hK : ∀ g' c' w1, w1.ownsRow B e 3 (.slice (some ⟨g', 0, none⟩) (m + 1) c') (m + 1) (intVals (xs ++ [x0, x1, x2])) → Below B wr w1 → wpList P ops Q rest (a.put o.dst (.slice (some ⟨g', 0, none⟩) (m + 1) c')) w1) :
    wpList P ops Q (o :: rest) a (wr.alloc (.cells #[.int .i64 x0, .int .i64 x1, .int .i64 x2] e)) := by
  subst hH
  obtain ⟨i, hi, hz, hz1, hz2⟩ := info_parts hinfo
  refine wpList_append_own _ hg s x t hop B e i _ 3 24 h1 hi hz hz1 hz2 rfl (by decide) v m (intVals xs) hs (hown.alloc _) ⟨wr.heap.size, 0, none⟩ 1 1 (intVals [x0, x1, x2]) hx rfl ?_ (by intro u hu; obtain ⟨x, _, rfl⟩ := List.mem_map.1 hu; rfl) (by unfold maxLen; omega) (by omega) (by simp; omega) ?_
  · intro j y hj
    have hjl := (List.getElem?_eq_some_iff.1 hj).1
    have ha : (⟨wr.heap.size, 0, none⟩ : Addr).add j = ⟨wr.heap.size, j, none⟩ := by
      unfold Addr.add
      split
      · rename_i h0; subst h0; rfl
      · simp
    rw [ha, World.cell?_alloc_at _ _ _ _ rfl]
    rw [← hj]
    simp [intVals]
  · intro v' w1 hown' hgrow hiff
    have hne : v' ≠ .slice none 0 0 := fun e => by have := (hiff.1 e).2; omega
    obtain ⟨g', c', rfl⟩ : ∃ g' c', v' = .slice (some ⟨g', 0, none⟩) (m + 1) c' := by
      rcases hown'.2 with ⟨h0, _⟩ | ⟨g, cap, cur, he, _⟩
      · exact absurd h0 hne
      · exact ⟨g, cap, he⟩
    exact hK g' c' w1 (by rw [intVals_app]; exact hown') (((Below.refl _ _).alloc hB _).grown hgrow (by simp; omega) (fun k hk => (hown.lt k hk).1))
/-- The state of the loop: the box of the graph and the box of the result. -/
structure RunSt (w wr : World) (k n : Nat) (xs : List Int) (v : Value) : Prop where
  size : w.heap.size + 2 ≤ wr.heap.size
  os : Below w.heap.size w wr
  r0 : wr.cell? ⟨w.heap.size, 0, none⟩ = some (.int .i64 0)
  r1 : wr.cell? ⟨w.heap.size, 1, none⟩ = some (.int .i64 0)
  r2 : wr.cell? ⟨w.heap.size, 2, none⟩ = some (.slice none 0 0)
  f0 : wr.frozen? ⟨w.heap.size, 0, none⟩ = false
  f1 : wr.frozen? ⟨w.heap.size, 1, none⟩ = false
  f2 : wr.frozen? ⟨w.heap.size, 2, none⟩ = false
  c0 : wr.cell? ⟨w.heap.size + 1, 0, none⟩ = some (.int .i64 2)
  c1 : wr.cell? ⟨w.heap.size + 1, 1, none⟩ = some (.int .i64 ((k : Int) + 1))
  g2 : wr.frozen? ⟨w.heap.size + 1, 2, none⟩ = false
  c2 : wr.cell? ⟨w.heap.size + 1, 2, none⟩ = some v
  own : wr.ownsRow (w.heap.size + 2) 53 3 v n (intVals xs)
theorem RunSt.step {w wr w1 : World} {k n n' : Nat} {xs xs' : List Int} {v v' : Value} (h : RunSt w wr k n xs v) (hb : Below (w.heap.size + 2) wr w1) (hown : w1.ownsRow (w.heap.size + 2) 53 3 v' n' (intVals xs')) : RunSt w (w1.setCell ⟨w.heap.size + 1, 2, none⟩ v') k n' xs' v' := by
  have hs := hb.size
  have hsz := h.size
  have cell : ∀ b o v, b < w.heap.size + 2 → (b ≠ w.heap.size + 1 ∨ o ≠ 2) → wr.cell? ⟨b, o, none⟩ = some v → (w1.setCell ⟨w.heap.size + 1, 2, none⟩ v').cell? ⟨b, o, none⟩ = some v := fun b o v hlt hne hc => by
    rw [World.cell?_setCell_other _ _ _ _ (fun e => by injection e with e1 e2; rcases hne with h | h; exact h e1.symm; exact h e2.symm)]
    exact (hb.cell (p := ⟨b, o, none⟩) hlt).trans hc
  have fro : ∀ b o, b < w.heap.size + 2 → wr.frozen? ⟨b, o, none⟩ = false → (w1.setCell ⟨w.heap.size + 1, 2, none⟩ v').frozen? ⟨b, o, none⟩ = false := fun b o hlt hc => by
    rw [World.frozen?_setCell]
    exact (hb.frozen (p := ⟨b, o, none⟩) hlt).trans hc
  have hcv := h.c2
  refine ⟨by simp; omega, (h.os.trans (hb.mono (by omega))).setCell (by simp) _, cell _ _ _ (by omega) (.inl (by omega)) h.r0, cell _ _ _ (by omega) (.inl (by omega)) h.r1, cell _ _ _ (by omega) (.inl (by omega)) h.r2, fro _ _ (by omega) h.f0, fro _ _ (by omega) h.f1, fro _ _ (by omega) h.f2, cell _ _ _ (by omega) (.inr (by omega)) h.c0, cell _ _ _ (by omega) (.inr (by omega)) h.c1, fro _ _ (by omega) h.g2, ?_, ?_⟩
  · exact World.cell?_setCell_same _ _ _ ((hb.cell (p := ⟨w.heap.size + 1, 2, none⟩) (by show w.heap.size + 1 < _; omega)).trans hcv)
  · exact hown.kept (row := some (w.heap.size + 1)) ⟨rfl, rfl, rfl, by simp, fun q hq hr => Below.heap_setCell _ _ _ _ (fun e => hr (by rw [show q = w.heap.size + 1 from e]))⟩ (by
      cases hv : v'.ownBlock with
      | none => exact .inl rfl
      | some q =>
        refine .inr fun e => ?_
        injection e with e
        have := (hown.lt q hv).1
        omega)
theorem own_set {wr : World} {B e s n b : Nat} {v : Value} {xs : List Value} (h : wr.ownsRow B e s v n xs) (hb : b < B) (q : Nat) (y : Value) : (wr.setCell ⟨b, q, none⟩ y).ownsRow B e s v n xs :=
  h.kept (row := some b) ⟨rfl, rfl, rfl, by simp, fun p hq hr => Below.heap_setCell _ _ _ _ (fun e => hr (by rw [show p = b from e]))⟩ (by
    cases hv : v.ownBlock with
    | none => exact .inl rfl
    | some q =>
      refine .inr fun e => ?_
      injection e with e
      have := (h.lt q hv).1
      omega)
def RunPost (d k : Nat) (w : World) (e : Ending) (w' : World) : Prop :=
  ∃ v, e = .returned (.tuple #[.agg #[.int .i64 2, .int .i64 ((k : Int) + 1), v], .bool true]) ∧ w'.ownsRow w.heap.size 53 3 v (arcsC d k (k + 1)) (intVals (arcsN d k (k + 1))) ∧ Below w.heap.size w w'
end Go.Proofs.YtpfeflhcbcgbfaaDoor
