/- The state of a search with a map of names: the boxes, the sets, the map, the arcs. No condition. -/
import Derived.Test.YtpfeflhcbcgbfaaDoorSetM
import Derived.Test.YtpfeflhcbcgbfaaDoorResA
import Derived.Test.YtpfeflhcbcgbfaaDoorBoxC
import Derived.Test.YtpfeflhcbcgbfaaDoorKeepQ
import Derived.Test.YtpfeflhcbcgbfaaDoorResC
namespace Go.Proofs.YtpfeflhcbcgbfaaDoor
open Go.RowKit

def nameD (l : List Nat) : DataW Unit := l.zipIdx.foldl (fun (D : DataW Unit) (p : Nat × Nat) => D.put (.int .i64 (p.1 : Int)) (.lit (.int .i64 (p.2 : Int)))) (.map [])
theorem nameD_snoc (l : List Nat) (s : Nat) : nameD (l ++ [s]) = (nameD l).put (.int .i64 (s : Int)) (.lit (.int .i64 (l.length : Int))) := by
  simp [nameD, List.zipIdx_append, List.foldl_append]
theorem nameD_isMap (l : List Nat) : Maps.IsMap (nameD l) := by
  refine snoc_ind (P := fun l => Maps.IsMap (nameD l)) ⟨[], rfl⟩ ?_ l
  intro l c h
  rw [nameD_snoc]
  exact h.put _ _
theorem nameD_has (l : List Nat) (s : Nat) : Maps.has (nameD l) (.int .i64 (s : Int)) = decide (s ∈ l) := by
  refine snoc_ind (P := fun l => Maps.has (nameD l) (.int .i64 (s : Int)) = decide (s ∈ l)) ?_ ?_ l
  · simp [nameD, Maps.has]
  · intro l c h
    rw [nameD_snoc]
    by_cases e : c = s
    · subst e
      rw [Maps.has_put_same (nameD_isMap l) (keyInt _)]
      simp
    · rw [Maps.has_put_other (by intro e2; injection e2 with _ e2; omega), h]
      simp [show ¬ s = c from fun h => e h.symm]
theorem posOf_more {x : Nat} (c : Nat) : ∀ {l : List Nat}, x ∈ l → posOf x (l ++ [c]) = posOf x l
  | y :: l, h => by
    show (if y = x then 0 else posOf x (l ++ [c]) + 1) = if y = x then 0 else posOf x l + 1
    by_cases e : y = x
    · rw [if_pos e, if_pos e]
    · rw [if_neg e, if_neg e, posOf_more c (l := l) (by rcases List.mem_cons.1 h with h | h; exact absurd h.symm e; exact h)]
theorem posOf_last {x : Nat} : ∀ {l : List Nat}, x ∉ l → posOf x (l ++ [x]) = l.length
  | [], _ => by simp [posOf]
  | y :: l, h => by
    show (if y = x then 0 else posOf x (l ++ [x]) + 1) = _
    rw [if_neg (fun e => h (by rw [e]; exact List.mem_cons_self)), posOf_last (l := l) (fun e => h (List.mem_cons_of_mem _ e))]
    rfl
theorem nameD_at (l : List Nat) (s : Nat) : l.Nodup → s ∈ l → (nameD l).atKey (.int .i64 (s : Int)) (.lit (.int .i64 0)) = .lit (.int .i64 (posOf s l : Nat)) := by
  refine snoc_ind (P := fun l => l.Nodup → s ∈ l → (nameD l).atKey (.int .i64 (s : Int)) (.lit (.int .i64 0)) = .lit (.int .i64 (posOf s l : Nat))) ?_ ?_ l
  · intro _ h; simp at h
  · intro l c h hn hm
    have hn2 := List.nodup_append.1 hn
    rw [nameD_snoc]
    by_cases e : c = s
    · subst e
      rw [Maps.atKey_put_same (nameD_isMap l) (keyInt _), posOf_last (fun h3 => hn2.2.2 c h3 c (by simp) rfl)]
    · have hml : s ∈ l := by
        rcases List.mem_append.1 hm with h3 | h3
        · exact h3
        · simp at h3; exact absurd h3.symm e
      rw [Maps.atKey_put_other (by intro e2; injection e2 with _ e2; omega), h hn2.1 hml, posOf_more c hml]
/-- 'v, ok := m[k]' of such a map, as an equation. -/
theorem look_name_ok {P : Program} {w : World} {t k e : TypeId} (K : Maps.Keyed P k) (hk : P.underlying k = some (.int .i64)) (ht : P.underlying t = some (.map k e)) (he : P.underlying e = some (.int .i64)) (hz : (zeroValue e).run P w = .ok (.int .i64 0) w) {b n : Nat} {l : List Nat} (h : w.ownsMap P k (plainElem P e) b n (nameD l)) {s : Nat} (hs : s ≤ 1000000) :
    ∃ u : Int, (Instr.lookup t (.map (some b)) (.int .i64 (s : Int)) true).run P w = .ok (.tuple #[.int .i64 u, .bool (decide (s ∈ l))]) w := by
  obtain ⟨v, ps, h1, h2⟩ := h.look_ok K ht hz (plainElem_int he (by decide)) (Maps.keyOf_int_mk hk (wf_small s hs))
  obtain ⟨x, rfl, hx, _⟩ := plainElem_int_inv he h2
  exact ⟨x, by rw [h1, nameD_has]⟩
/-- 'm[k]' of such a map, as an equation. -/
theorem look_name {P : Program} {w : World} {t k e : TypeId} (K : Maps.Keyed P k) (hk : P.underlying k = some (.int .i64)) (ht : P.underlying t = some (.map k e)) (he : P.underlying e = some (.int .i64)) (hz : (zeroValue e).run P w = .ok (.int .i64 0) w) {b n : Nat} {l : List Nat} (h : w.ownsMap P k (plainElem P e) b n (nameD l)) {s : Nat} (hs : s ≤ 1000000) (hn : l.Nodup) (hm : s ∈ l) :
    (Instr.lookup t (.map (some b)) (.int .i64 (s : Int)) false).run P w = .ok (.int .i64 (posOf s l : Nat)) w := by
  obtain ⟨c, h1, h2, _⟩ := h.lookup_int K ht he hz (Maps.keyOf_int_mk hk (wf_small s hs))
  rw [nameD_at l s hn hm] at h2
  injection h2 with h2
  injection h2 with _ h2
  rw [h1, h2]
theorem owns_ne2 {w : World} {base base' e e' s s' n m : Nat} {v v' : Value} {xs ys : List Value} (h : w.ownsRow base e s v n xs) (h' : w.ownsRow base' e' s' v' m ys) (hne : e ≠ e') : v.ownBlock = none ∨ v.ownBlock ≠ v'.ownBlock := by
  rcases h.2 with ⟨rfl, _⟩ | ⟨g, cap, cur, rfl, _, hg, _⟩
  · exact Or.inl rfl
  · refine Or.inr ?_
    rcases h'.2 with ⟨rfl, _⟩ | ⟨g', cap', cur', rfl, _, hg', _⟩
    · simp [Value.ownBlock]
    · intro hh
      simp only [Value.ownBlock, Option.some.injEq] at hh
      subst hh
      rw [hg] at hg'
      simp at hg'
      exact hne hg'.2
theorem own_map_neN {w : World} {P : Program} {k e B s n m : Nat} {R : Value → Option (DataW Unit × List MemPlace)} {b : Nat} {D : DataW Unit} {v : Value} {xs : List Value} (h : w.ownsRow B e s v n xs) (h' : w.ownsMap P k R b m D) : v.ownBlock ≠ some b := by
  intro hv
  obtain ⟨es, clock, h1, _⟩ := h'
  rcases h.2 with ⟨rfl, _⟩ | ⟨g, cap, cur, rfl, _, hg, _⟩
  · cases hv
  · simp only [Value.ownBlock, Option.some.injEq] at hv
    subst hv
    rw [hg] at h1
    cases h1
theorem box_map_ne {w : World} {P : Program} {k n : Nat} {R : Value → Option (DataW Unit × List MemPlace)} {b q : Nat} {D : DataW Unit} {x y z : Value} (h : BoxC w q #[x, y, z]) (h' : w.ownsMap P k R b n D) : b ≠ q := by
  intro e
  subst e
  obtain ⟨es, clock, h1, _⟩ := h'
  have h2 := h.cell 0
  simp [World.cell?, h1] at h2
end Go.Proofs.YtpfeflhcbcgbfaaDoor
namespace Go.Proofs.YtpfeflhcbcgbfaaDoor
open Go.RowKit

theorem own_setQ {wr : World} {B e s n b : Nat} {v : Value} {xs : List Value} (h : wr.ownsRow B e s v n xs) (hb : v.ownBlock ≠ some b) (q : Nat) (y : Value) : (wr.setCell ⟨b, q, none⟩ y).ownsRow B e s v n xs :=
  h.kept (row := some b) ⟨rfl, rfl, rfl, by simp, fun p hq hr => Below.heap_setCell _ _ _ _ (fun e => hr (by rw [show p = b from e]))⟩ (Or.inr hb)
/-- An arc appended to arcs of the call's own, and what else stays. -/
theorem wpList_appA2 {P : Program} {wr : World} {ops : Array Oper} {rest : List Oper} {o : Oper} {a : Act} {Q : Exit → Act → World → Prop}
    (hg : o.guard = none) (s x : Operand) (t : TypeId) (hop : o.op = Op.call { callee := Callee.builtin Builtin.append, args := #[s, x], argTypes := #[t, t] })
    (B : Nat) (e : TypeId) (h1 : P.underlying t = some (.slice e)) (hinfo : (P.info? e).map (fun i => (i.zero, i.size, i.bytes)) = some (some (.agg #[.int .i64 0, .int .i64 0, .int .i64 0]), 3, 24))
    (v : Value) (m : Nat) (xs : List Value) (x0 x1 x2 : Int) (hown : wr.ownsRow B e 3 v m xs) (hs : a.eval s = v) (H : Nat) (hH : wr.heap.size = H) (hx : a.eval x = .slice (some ⟨H, 0, none⟩) 1 1)
    (hlim : m ≤ 1000000) (hB : B ≤ wr.heap.size)
    (hK : ∀ g' c' w1, w1.ownsRow B e 3 (.slice (some ⟨g', 0, none⟩) (m + 1) c') (m + 1) (xs ++ [.int .i64 x0, .int .i64 x1, .int .i64 x2]) → wr.grownBy w1 v.ownBlock → wpList P ops Q rest (a.put o.dst (.slice (some ⟨g', 0, none⟩) (m + 1) c')) w1) :
    wpList P ops Q (o :: rest) a (wr.alloc (.cells #[.int .i64 x0, .int .i64 x1, .int .i64 x2] e)) := by
  subst hH
  obtain ⟨i, hi, hz, hz1, hz2⟩ := info_parts hinfo
  refine wpList_append_own _ hg s x t hop B e i _ 3 24 h1 hi hz hz1 hz2 rfl (by decide) v m xs hs (hown.alloc _) ⟨wr.heap.size, 0, none⟩ 1 1 (intVals [x0, x1, x2]) hx rfl ?_ (by intro u hu; obtain ⟨x, _, rfl⟩ := List.mem_map.1 hu; rfl) (by unfold maxLen; omega) (by omega) (by simp; omega) ?_
  · intro j y hj
    have ha : (⟨wr.heap.size, 0, none⟩ : Addr).add j = ⟨wr.heap.size, j, none⟩ := by
      unfold Addr.add
      split
      · rename_i h0; subst h0; rfl
      · simp
    rw [ha, World.cell?_alloc_at _ _ _ _ rfl]
    rw [← hj]
    simp [intVals]
  · intro v' w1 hown' hgrow hiff
    have hne : v' ≠ .slice none 0 0 := fun e => by have := (hiff.1 e).2; omega
    obtain ⟨g', c', rfl⟩ : ∃ g' c', v' = .slice (some ⟨g', 0, none⟩) (m + 1) c' := by
      rcases hown'.2 with ⟨h0, _⟩ | ⟨g, cap, cur, he, _⟩
      · exact absurd h0 hne
      · exact ⟨g, cap, he⟩
    exact hK g' c' w1 hown' (grown_trans (World.grownBy_alloc _ _ _) hgrow)
/-- Where the search stands in the memory. -/
structure NameM (w w5 wr : World) (bR mb bO : Nat) (A1 : Array Value) (x0 x1 sv : Value) (l lm : List Nat) (v : Value) (m : Nat) (A : List Value) : Prop where
  bel : Below w.heap.size w wr
  bel5 : Below w5.heap.size w5 wr
  ord : w.heap.size ≤ bR ∧ bR < w5.heap.size ∧ w5.heap.size ≤ mb ∧ w5.heap.size ≤ bO ∧ mb < bO ∧ w.heap.size ≤ w5.heap.size
  b1 : BoxC wr bR A1
  b3 : BoxC wr bO #[x0, x1, v]
  sets : wr.ownsRow w5.heap.size 3 1 sv l.length (intVals (natI l))
  svne : sv.ownBlock ≠ some bO
  map : wr.ownsMap Tryd.prog 3 (plainElem Tryd.prog 3) mb lm.length (nameD lm)
  own : wr.ownsRow (bO + 1) 53 3 v m A
section
variable {w w5 wr w' : World} {bR mb bO m : Nat} {A1 : Array Value} {x0 x1 sv v : Value} {l lm : List Nat} {A : List Value}
theorem NameM.below (h : NameM w w5 wr bR mb bO A1 x0 x1 sv l lm v m A) (hb : Below wr.heap.size wr w') : NameM w w5 w' bR mb bO A1 x0 x1 sv l lm v m A :=
  ⟨h.bel.trans (hb.mono h.bel.size), h.bel5.trans (hb.mono h.bel5.size), h.ord, h.b1.below hb, h.b3.below hb, owns_below h.sets hb, h.svne, owns_map_below h.map hb, owns_below h.own hb⟩
theorem NameM.put (h : NameM w w5 wr bR mb bO A1 x0 x1 sv l lm v m A) {s : Nat} (hm : w'.ownsMap Tryd.prog 3 (plainElem Tryd.prog 3) mb (lm.length + 1) ((nameD lm).put (.int .i64 (s : Int)) (.lit (.int .i64 (lm.length : Int))))) (hg : wr.grownBy w' (some mb)) : NameM w w5 w' bR mb bO A1 x0 x1 sv l (lm ++ [s]) v m A := by
  have ho := h.ord
  refine ⟨h.bel.grown hg h.bel.size (by rintro q ⟨⟩; omega), h.bel5.grown hg h.bel5.size (by rintro q ⟨⟩; omega), ho, h.b1.keep hg (by intro e; injection e with e; omega), h.b3.keep hg (by intro e; injection e with e; omega), h.sets.kept hg (Or.inr (own_map_neN h.sets h.map)), h.svne, ?_, h.own.kept hg (Or.inr (own_map_neN h.own h.map))⟩
  rw [nameD_snoc, List.length_append]
  exact hm
theorem NameM.app (h : NameM w w5 wr bR mb bO A1 x0 x1 sv l lm v m A) {s : Nat} {sv' : Value} (hs : w'.ownsRow w5.heap.size 3 1 sv' (l.length + 1) (intVals (natI l) ++ [.int .i64 (s : Int)])) (hg : wr.grownBy w' sv.ownBlock) (hor : ∀ g, sv'.ownBlock = some g → sv.ownBlock = some g ∨ wr.heap.size ≤ g) : NameM w w5 w' bR mb bO A1 x0 x1 sv' (l ++ [s]) lm v m A := by
  have ho := h.ord
  refine ⟨h.bel.grown hg h.bel.size (fun k hk => by have := (h.sets.lt k hk).1; omega), h.bel5.grown hg h.bel5.size (fun k hk => (h.sets.lt k hk).1), ho, h.b1.keep hg (fun e => by have := (h.sets.lt _ e).1; omega), h.b3.keep hg h.svne, ?_, ?_, grown_map h.map hg (fun e => own_map_neN h.sets h.map e.symm), h.own.kept hg (owns_ne2 h.own h.sets (by decide))⟩
  · rw [List.length_append, natI_snoc]
    simpa [intVals] using hs
  · intro e
    rcases hor _ e with h1 | h1
    · exact h.svne h1
    · have := h.b3.lt; omega
theorem NameM.arc (h : NameM w w5 wr bR mb bO A1 x0 x1 sv l lm v m A) {v' : Value} {m' : Nat} {A' : List Value} (hs : w'.ownsRow (bO + 1) 53 3 v' m' A') (hg : wr.grownBy w' v.ownBlock) : NameM w w5 (w'.setCell ⟨bO, 2, none⟩ v') bR mb bO A1 x0 x1 sv l lm v' m' A' := by
  have ho := h.ord
  have hb := h.bel.grown hg h.bel.size (fun k hk => by have := (h.own.lt k hk).1; omega)
  have hb5 := h.bel5.grown hg h.bel5.size (fun k hk => by have := (h.own.lt k hk).1; omega)
  have h1 := h.b1.keep hg (fun e => by have := (h.own.lt _ e).1; omega)
  have h3 := h.b3.keep hg (fun e => by have := (h.own.lt _ e).1; omega)
  have h4 := h.sets.kept hg (owns_ne2 h.sets h.own (by decide))
  have h5 := grown_map h.map hg (fun e => own_map_neN h.own h.map e.symm)
  exact ⟨hb.setCell (by show w.heap.size ≤ bO; omega) _, hb5.setCell (by show w5.heap.size ≤ bO; omega) _, ho, h1.other (by omega) _, h3.set2 _, own_setQ h4 h.svne _ _, h.svne, h5.setCell (by show mb ≠ bO; omega) _, own_setB hs (by omega) _ _⟩
theorem NameM.set1 (h : NameM w w5 wr bR mb bO A1 x0 x1 sv l lm v m A) (u : Value) : NameM w w5 (wr.setCell ⟨bO, 1, none⟩ u) bR mb bO A1 x0 u sv l lm v m A := by
  have ho := h.ord
  exact ⟨h.bel.setCell (by show w.heap.size ≤ bO; omega) _, h.bel5.setCell (by show w5.heap.size ≤ bO; omega) _, ho, h.b1.other (by omega) _, h.b3.set1 _, own_setQ h.sets h.svne _ _, h.svne, h.map.setCell (by show mb ≠ bO; omega) _, own_setB h.own (by omega) _ _⟩
end
end Go.Proofs.YtpfeflhcbcgbfaaDoor
