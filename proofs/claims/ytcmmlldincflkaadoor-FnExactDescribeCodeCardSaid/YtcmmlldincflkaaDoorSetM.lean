/- Maps from numbers to bools that a call keeps to itself, as sets; lists of a number and a text. Plain laws and laws on operations. -/
import Derived.Deep.RegionHeld3
import Derived.Test.YtcmmlldincflkaaDoorOpen
import Derived.Test.YtcmmlldincflkaaDoorAppN
import Derived.Test.YtcmmlldincflkaaDoorBox
import Derived.Test.YtcmmlldincflkaaDoorCode
import Derived.Test.YtcmmlldincflkaaDoorOrbit
import Derived.Test.YtcmmlldincflkaaDoorOrpL
import Derived.Test.YtcmmlldincflkaaDoorSrc
namespace Go.Proofs.YtcmmlldincflkaaDoor
open Go.RowKit

theorem three_get {xs : List Int} {n j : Nat} (hl : xs.length = n * 3) (hj : j < n) : ∃ x y z, xs[j * 3]? = some x ∧ xs[j * 3 + 1]? = some y ∧ xs[j * 3 + 2]? = some z := by
  obtain ⟨x, hx⟩ := get_some (l := xs) (n := j * 3) (by omega)
  obtain ⟨y, hy⟩ := get_some (l := xs) (n := j * 3 + 1) (by omega)
  obtain ⟨z, hz⟩ := get_some (l := xs) (n := j * 3 + 2) (by omega)
  exact ⟨x, y, z, hx, hy, hz⟩
/-- The three cells of an element. -/
def Cell3 (w : World) (b o : Nat) (x y z : Int) : Prop := w.cell? ⟨b, o, none⟩ = some (.int .i64 x) ∧ w.cell? ⟨b, o + 1, none⟩ = some (.int .i64 y) ∧ w.cell? ⟨b, o + 2, none⟩ = some (.int .i64 z)
theorem Cell3.below {B : Nat} {w w' : World} {b o : Nat} {x y z : Int} (h : Cell3 w b o x y z) (hb : Below B w w') (hB : b < B) : Cell3 w' b o x y z :=
  ⟨(hb.cell (p := ⟨b, o, none⟩) hB).trans h.1, (hb.cell (p := ⟨b, o + 1, none⟩) hB).trans h.2.1, (hb.cell (p := ⟨b, o + 2, none⟩) hB).trans h.2.2⟩
theorem row3 {w : World} {b off n : Nat} {xs : List Int} {j : Nat} (hc : ∀ k v, (intVals xs)[k]? = some v → w.cell? ⟨b, off + k, none⟩ = some v) (hl : xs.length = n * 3) (hj : j < n) : ∃ x y z, Cell3 w b (off + j * 3) x y z ∧ xs[j * 3]? = some x ∧ xs[j * 3 + 1]? = some y ∧ xs[j * 3 + 2]? = some z := by
  obtain ⟨x, y, z, hx, hy, hz⟩ := three_get hl hj
  refine ⟨x, y, z, ⟨hc _ _ (intVals_get hx), ?_, ?_⟩, hx, hy, hz⟩
  · have := hc _ _ (intVals_get hy); rwa [← Nat.add_assoc] at this
  · have := hc _ _ (intVals_get hz); rwa [← Nat.add_assoc] at this
theorem marked_three {xs : List Value} {k n j : Nat} (hl : xs.length = n * 3) (hj : j < n) :
    (((marked (marks k (n * 3)) xs (j * 3)).set (j * 3) (.int .i64 ((k : Int) + j * 3))).set (j * 3 + 1) (.int .i64 ((k : Int) + j * 3 + 1))).set (j * 3 + 2) (.int .i64 ((k : Int) + j * 3 + 2)) = marked (marks k (n * 3)) xs ((j + 1) * 3) := by
  rw [marked_step (xs := xs) (ms := marks k (n * 3)) (n := n * 3) (j := j * 3) (u := .int .i64 ((k : Int) + j * 3)) hl (marks_len k _) (by omega) (by rw [marks_get (by omega)]; simp)]
  rw [marked_step (xs := xs) (ms := marks k (n * 3)) (n := n * 3) (j := j * 3 + 1) (u := .int .i64 ((k : Int) + j * 3 + 1)) hl (marks_len k _) (by omega) (by rw [marks_get (by omega)]; simp; omega)]
  rw [marked_step (xs := xs) (ms := marks k (n * 3)) (n := n * 3) (j := j * 3 + 1 + 1) (u := .int .i64 ((k : Int) + j * 3 + 2)) hl (marks_len k _) (by omega) (by rw [marks_get (by omega)]; simp; omega)]
  congr 1
  omega
end Go.Proofs.YtcmmlldincflkaaDoor
namespace Go.Proofs.YtcmmlldincflkaaDoor
open Go.RowKit

/-- The arcs of the first j states, three numbers each. -/
def arcsN (d k : Nat) : Nat → List Int
  | 0 => []
  | j + 1 => arcsN d k j ++ (if j < k then [(j : Int), (j : Int) + 1, 0] else []) ++ (if d ≤ j then [(j : Int), 0, 1] else [])
def arcsC (d k : Nat) : Nat → Nat
  | 0 => 0
  | j + 1 => arcsC d k j + (if j < k then 1 else 0) + (if d ≤ j then 1 else 0)
theorem arcs_len (d k : Nat) : ∀ j, (arcsN d k j).length = arcsC d k j * 3
  | 0 => rfl
  | j + 1 => by
    have := arcs_len d k j
    unfold arcsN arcsC
    rw [List.length_append, List.length_append, this]
    split <;> split <;> simp <;> omega
theorem arcsC_le (d k : Nat) : ∀ j, arcsC d k j ≤ 2 * j
  | 0 => Nat.le_refl _
  | j + 1 => by
    have := arcsC_le d k j
    unfold arcsC
    split <;> split <;> omega
theorem intVals_app (a b : List Int) : intVals (a ++ b) = intVals a ++ intVals b := by simp [intVals]
/-- An arc appended to arcs of the call's own. -/
theorem wpList_appA {P : Program} {wr : World} {ops : Array Oper} {rest : List Oper} {o : Oper} {a : Act} {Q : Exit → Act → World → Prop}
    (hg : o.guard = none) (s x : Operand) (t : TypeId) (hop : o.op = Op.call { callee := Callee.builtin Builtin.append, args := #[s, x], argTypes := #[t, t] })
    (B : Nat) (e : TypeId) (h1 : P.underlying t = some (.slice e)) (hinfo : (P.info? e).map (fun i => (i.zero, i.size, i.bytes)) = some (some (.agg #[.int .i64 0, .int .i64 0, .int .i64 0]), 3, 24))
    (v : Value) (m : Nat) (xs : List Int) (x0 x1 x2 : Int) (hown : wr.ownsRow B e 3 v m (intVals xs)) (hs : a.eval s = v) (H : Nat) (hH : wr.heap.size = H) (hx : a.eval x = .slice (some ⟨H, 0, none⟩) 1 1)
    (hlim : m ≤ 1000000) (hB : B ≤ wr.heap.size)
    (hK : ∀ g' c' w1, w1.ownsRow B e 3 (.slice (some ⟨g', 0, none⟩) (m + 1) c') (m + 1) (intVals (xs ++ [x0, x1, x2])) → Below B wr w1 → wpList P ops Q rest (a.put o.dst (.slice (some ⟨g', 0, none⟩) (m + 1) c')) w1) :
    wpList P ops Q (o :: rest) a (wr.alloc (.cells #[.int .i64 x0, .int .i64 x1, .int .i64 x2] e)) := by
  subst hH
  obtain ⟨i, hi, hz, hz1, hz2⟩ := info_parts hinfo
  refine wpList_append_own _ hg s x t hop B e i _ 3 24 h1 hi hz hz1 hz2 rfl (by decide) v m (intVals xs) hs (hown.alloc _) ⟨wr.heap.size, 0, none⟩ 1 1 (intVals [x0, x1, x2]) hx rfl ?_ (by intro u hu; obtain ⟨x, _, rfl⟩ := List.mem_map.1 hu; rfl) (by unfold maxLen; omega) (by omega) (by simp; omega) ?_
  · intro j y hj
    have hjl := (List.getElem?_eq_some_iff.1 hj).1
    have ha : (⟨wr.heap.size, 0, none⟩ : Addr).add j = ⟨wr.heap.size, j, none⟩ := by
      unfold Addr.add
      split
      · rename_i h0; subst h0; rfl
      · simp
    rw [ha, World.cell?_alloc_at _ _ _ _ rfl]
    rw [← hj]
    simp [intVals]
  · intro v' w1 hown' hgrow hiff
    have hne : v' ≠ .slice none 0 0 := fun e => by have := (hiff.1 e).2; omega
    obtain ⟨g', c', rfl⟩ : ∃ g' c', v' = .slice (some ⟨g', 0, none⟩) (m + 1) c' := by
      rcases hown'.2 with ⟨h0, _⟩ | ⟨g, cap, cur, he, _⟩
      · exact absurd h0 hne
      · exact ⟨g, cap, he⟩
    exact hK g' c' w1 (by rw [intVals_app]; exact hown') (((Below.refl _ _).alloc hB _).grown hgrow (by simp; omega) (fun k hk => (hown.lt k hk).1))
theorem own_set {wr : World} {B e s n b : Nat} {v : Value} {xs : List Value} (h : wr.ownsRow B e s v n xs) (hb : b < B) (q : Nat) (y : Value) : (wr.setCell ⟨b, q, none⟩ y).ownsRow B e s v n xs :=
  h.kept (row := some b) ⟨rfl, rfl, rfl, by simp, fun p hq hr => Below.heap_setCell _ _ _ _ (fun e => hr (by rw [show p = b from e]))⟩ (by
    cases hv : v.ownBlock with
    | none => exact .inl rfl
    | some q =>
      refine .inr fun e => ?_
      injection e with e
      have := (h.lt q hv).1
      omega)
end Go.Proofs.YtcmmlldincflkaaDoor
namespace Go.Proofs.YtcmmlldincflkaaDoor
open Go.RowKit

theorem own_set2 {wr : World} {B e s n b : Nat} {v : Value} {xs : List Value} (h : wr.ownsRow B e s v n xs) (hb : ∀ q, v.ownBlock = some q → q ≠ b) (q : Nat) (y : Value) : (wr.setCell ⟨b, q, none⟩ y).ownsRow B e s v n xs :=
  h.kept (row := some b) ⟨rfl, rfl, rfl, by simp, fun p hq hr => Below.heap_setCell _ _ _ _ (fun e => hr (by rw [show p = b from e]))⟩ (by
    cases hv : v.ownBlock with
    | none => exact .inl rfl
    | some q => exact .inr fun e => hb q hv (by injection e))
theorem owns_rowAt3 {w : World} {base e s : Nat} {a : Option Addr} {n c : Nat} {xs : List Value} (h : w.ownsRow base e s (.slice a n c) n xs) (hlim : n * s ≤ 140737488351232) : RowAt w a (n * s) xs := by
  have hl := h.1
  rcases h.2 with ⟨h1, h0⟩ | ⟨g, cap, cur, h1, hb, hg, hnc, hcm, hcs, htake⟩
  · refine ⟨by simpa using hl, hlim, fun h => by subst h0; simp at h⟩
  · simp only [Value.slice.injEq, true_and] at h1
    obtain ⟨rfl, rfl⟩ := h1
    refine ⟨by simpa using hl, hlim, fun hn => ⟨g, 0, rfl, (Array.getElem?_eq_some_iff.1 hg).1, fun k x hx => ?_⟩⟩
    rw [cell_of_row w g (0 + k) cur e (0, 0) hg]
    rw [← htake, List.getElem?_take] at hx
    split at hx
    · simpa using hx
    · cases hx
end Go.Proofs.YtcmmlldincflkaaDoor
namespace Go.Proofs.YtcmmlldincflkaaDoor
open Go.RowKit

theorem pbool_inv {H : Type} {P : Program} {e : TypeId} (he : P.underlying e = some .bool) {v : Value} {z : DataW H × List MemPlace} (h : plainElem P e v = some z) : ∃ x, v = .bool x ∧ z = (.lit (.bool x), []) := by
  unfold plainElem at h
  rw [he] at h
  cases v <;> simp at h
  subst h
  exact ⟨_, rfl, rfl⟩
/-- The set of some numbers, as a map's datum. -/
def setD (xs : List Nat) : DataW Unit := xs.foldl (fun (D : DataW Unit) (s : Nat) => D.put (.int .i64 (s : Int)) (.lit (.bool true))) (.map [])
theorem setD_snoc (xs : List Nat) (s : Nat) : setD (xs ++ [s]) = (setD xs).put (.int .i64 (s : Int)) (.lit (.bool true)) := by simp [setD, List.foldl_append]
theorem setD_isMap (xs : List Nat) : Maps.IsMap (setD xs) := by
  refine snoc_ind (P := fun xs => Maps.IsMap (setD xs)) ⟨[], rfl⟩ ?_ xs
  intro l c h
  rw [setD_snoc]
  exact h.put _ _
theorem keyInt (x : Int) : WideAt.IsKeyLit (.int .i64 x) := trivial
theorem setD_at (xs : List Nat) (s : Nat) : (setD xs).atKey (.int .i64 (s : Int)) (.lit (.bool false)) = .lit (.bool (decide (s ∈ xs))) := by
  refine snoc_ind (P := fun xs => (setD xs).atKey (.int .i64 (s : Int)) (.lit (.bool false)) = .lit (.bool (decide (s ∈ xs)))) ?_ ?_ xs
  · simp [setD, DataW.atKey]
  · intro l c h
    rw [setD_snoc]
    by_cases e : c = s
    · subst e
      rw [Maps.atKey_put_same (setD_isMap l) (keyInt _)]
      simp
    · rw [Maps.atKey_put_other (by intro e2; injection e2 with _ e2; omega), h]
      simp [show ¬ s = c from fun h => e h.symm]
/-- 'm[k]' of such a map, as an equation. -/
theorem look_set {P : Program} {w : World} {t k e : TypeId} (K : Maps.Keyed P k) (hk : P.underlying k = some (.int .i64)) (ht : P.underlying t = some (.map k e)) (he : P.underlying e = some .bool) (hz : (zeroValue e).run P w = .ok (.bool false) w) {b n : Nat} {xs : List Nat} (h : w.ownsMap P k (plainElem P e) b n (setD xs)) {s : Nat} (hs : s ≤ 1000000) :
    (Instr.lookup t (.map (some b)) (.int .i64 (s : Int)) false).run P w = .ok (.bool (decide (s ∈ xs))) w := by
  obtain ⟨v, ps, h1, h2⟩ := h.lookup K ht hz (plainElem_bool he false) (Maps.keyOf_int_mk hk (wf_small s hs))
  obtain ⟨x, rfl, hx⟩ := pbool_inv he h2
  simp only [Prod.mk.injEq] at hx
  rw [setD_at] at hx
  obtain ⟨hx, _⟩ := hx
  injection hx with hx
  injection hx with hx
  rw [h1, hx]
/-- 'map[K]V{k: v}' at the operation. -/
theorem wpList_insert_own {H : Type} {P : Program} (w : World) {ops : Array Oper} {rest : List Oper} {o : Oper} {a : Act} {Q : Exit → Act → World → Prop}
    (hg : o.guard = none) (m x v : Operand) (t : TypeId) (hop : o.op = Op.insert t m x v)
    (k e : TypeId) (K : Maps.Keyed P k) (ht : P.underlying t = some (.map k e)) (R : Value → Option (DataW H × List MemPlace)) (b n : Nat) (D : DataW H)
    (hm : a.eval m = .map (some b)) (hown : w.ownsMap P k R b n D) (hn : n < maxLen) (key val : Value) (kl : Lit) (hx : a.eval x = key) (hv : a.eval v = val) (hkey : keyOf P k key = some kl)
    (d : DataW H) (ps : List MemPlace) (hval : R val = some (d, ps))
    (hK : ∀ w', w'.ownsMap P k R b (n + 1) (D.put kl d) → w.grownBy w' (some b) → wpList P ops Q rest (a.put o.dst undef) w') :
    wpList P ops Q (o :: rest) a w := by
  refine wpList_plain hg fun K' hK' => ?_
  obtain ⟨w', hrun, r1, r2⟩ := hown.update K ht hn hkey hval
  unfold Oper.wp
  simp [execOp, hop, hm, hx, hv, hrun, Result.andThen]
  exact hK' _ _ (hK w' r1 r2)
/-- Pairs of a number and a text, two cells each. -/
def pairsV (ys : List (Nat × List UInt8)) : List Value := ys.flatMap fun p => [.int .i64 (p.1 : Int), .string (wordB p.2)]
theorem pairsV_len (ys : List (Nat × List UInt8)) : (pairsV ys).length = ys.length * 2 := by
  induction ys with
  | nil => rfl
  | cons p ys ih => simp only [pairsV, List.flatMap_cons, List.length_append, List.length_cons, List.length_nil] at ih ⊢; omega
theorem pairsV_snoc (ys : List (Nat × List UInt8)) (p : Nat × List UInt8) : pairsV (ys ++ [p]) = pairsV ys ++ [.int .i64 (p.1 : Int), .string (wordB p.2)] := by simp [pairsV]
theorem pairsV_get {p : Nat × List UInt8} : ∀ {ys : List (Nat × List UInt8)} {k : Nat}, ys[k]? = some p → (pairsV ys)[k * 2]? = some (.int .i64 (p.1 : Int)) ∧ (pairsV ys)[k * 2 + 1]? = some (.string (wordB p.2))
  | [], k, h => by simp at h
  | q :: ys, 0, h => by
    simp at h
    subst h
    exact ⟨rfl, rfl⟩
  | q :: ys, k + 1, h => by
    have ih := pairsV_get (ys := ys) (k := k) (by simpa using h)
    have e : pairsV (q :: ys) = .int .i64 (q.1 : Int) :: .string (wordB q.2) :: pairsV ys := by simp [pairsV]
    rw [e, show (k + 1) * 2 = k * 2 + 1 + 1 by omega]
    exact ⟨ih.1, ih.2⟩
/-- A pair appended to pairs of the call's own. -/
theorem wpList_app2P {P : Program} {wr : World} {ops : Array Oper} {rest : List Oper} {o : Oper} {a : Act} {Q : Exit → Act → World → Prop}
    (hg : o.guard = none) (s x : Operand) (t : TypeId) (hop : o.op = Op.call { callee := Callee.builtin Builtin.append, args := #[s, x], argTypes := #[t, t] })
    (B : Nat) (e : TypeId) (bytes : Nat) (h1 : P.underlying t = some (.slice e)) (hinfo : (P.info? e).map (fun i => (i.zero, i.size, i.bytes)) = some (some (.agg #[.int .i64 0, .string ⟨#[]⟩]), 2, bytes))
    (v : Value) (m : Nat) (ys : List (Nat × List UInt8)) (p : Nat × List UInt8) (x0 x1 : Value) (hx0 : x0 = .int .i64 (p.1 : Int)) (hx1 : x1 = .string (wordB p.2)) (hown : wr.ownsRow B e 2 v m (pairsV ys)) (hs : a.eval s = v) (hx : a.eval x = .slice (some ⟨wr.heap.size, 0, none⟩) 1 1)
    (hlim : (m + 1) * bytes ≤ 140737488355328) (hlim2 : (m + 1) * 2 ≤ maxLen) (hB : B ≤ wr.heap.size)
    (hK : ∀ v' w1, w1.ownsRow B e 2 v' (m + 1) (pairsV (ys ++ [p])) → wr.grownBy w1 v.ownBlock → wpList P ops Q rest (a.put o.dst v') w1) :
    wpList P ops Q (o :: rest) a (wr.alloc (.cells #[x0, x1] e)) := by
  subst hx0
  subst hx1
  obtain ⟨i, hi, hz, hz1, hz2⟩ := info_parts hinfo
  refine wpList_append_own _ hg s x t hop B e i _ 2 bytes h1 hi hz hz1 hz2 rfl (by decide) v m (pairsV ys) hs (hown.alloc _) ⟨wr.heap.size, 0, none⟩ 1 1 [.int .i64 (p.1 : Int), .string (wordB p.2)] hx rfl ?_ (by intro u hu; simp at hu; rcases hu with rfl | rfl <;> rfl) (by omega) hlim (by simp; omega) ?_
  · intro j y hj
    have ha : (⟨wr.heap.size, 0, none⟩ : Addr).add j = ⟨wr.heap.size, j, none⟩ := by
      unfold Addr.add
      split
      · rename_i h0; subst h0; rfl
      · simp
    rw [ha, World.cell?_alloc_at _ _ _ _ rfl]
    rw [← hj]
    simp
  · intro v' w1 hown' hgrow _
    exact hK v' w1 (by rw [pairsV_snoc]; exact hown') (grown_trans (World.grownBy_alloc _ _ _) hgrow)
theorem grown_map {w w' : World} {P : Program} {k : TypeId} {R : Value → Option (DataW Unit × List MemPlace)} {b n : Nat} {D : DataW Unit} {row : Option Nat} (h : w.ownsMap P k R b n D) (hg : w.grownBy w' row) (hne : some b ≠ row) : w'.ownsMap P k R b n D := by
  obtain ⟨es, clock, h1, h2⟩ := h
  exact ⟨es, clock, by rw [hg.block b (Array.getElem?_eq_some_iff.1 h1).1 hne]; exact h1, h2⟩
end Go.Proofs.YtcmmlldincflkaaDoor
