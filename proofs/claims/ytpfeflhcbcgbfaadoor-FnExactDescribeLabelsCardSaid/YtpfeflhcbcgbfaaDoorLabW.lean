/- Labelled graphs: both sides' tests of validity and of being resolving. Conditions: the arcs lie in memory. -/
import Derived.Test.YtpfeflhcbcgbfaaDoorLabP
import Derived.Test.YtpfeflhcbcgbfaaDoorLabQ
import Derived.Test.YtpfeflhcbcgbfaaDoorRunL
namespace Go.Proofs.YtpfeflhcbcgbfaaDoor
open Go.RowKit

/-- Where a letter leads from a state. -/
def tgtN (G : List (Nat × Nat × Nat)) (p x : Nat) : Option Nat := (G.find? fun a => decide (a.1 = p ∧ a.2.2 = x)).map (·.2.1)
def alikeB (r : Nat → Nat → Bool) : Option Nat → Option Nat → Bool | none, none => true | some a, some b => r a b | _, _ => false
/-- States alike after some rounds. -/
def relN (G : List (Nat × Nat × Nat)) (L : Nat) : Nat → Nat → Nat → Bool
  | 0, _, _ => true
  | t + 1, p, q => relN G L t p q && (List.range L).all fun x => alikeB (relN G L t) (tgtN G p x) (tgtN G q x)
structure EqR (r : Nat → Nat → Bool) : Prop where
  refl : ∀ p, r p p = true
  symm : ∀ p q, r p q = true → r q p = true
  trans : ∀ p q s, r p q = true → r q s = true → r p s = true
theorem alike_refl {r : Nat → Nat → Bool} (h : EqR r) : ∀ a, alikeB r a a = true | none => rfl | some a => h.refl a
theorem alike_symm {r : Nat → Nat → Bool} (h : EqR r) : ∀ a b, alikeB r a b = true → alikeB r b a = true
  | none, none, _ => rfl
  | some a, some b, e => h.symm a b e
  | none, some _, e => by cases e
  | some _, none, e => by cases e
theorem alike_trans {r : Nat → Nat → Bool} (h : EqR r) : ∀ a b c, alikeB r a b = true → alikeB r b c = true → alikeB r a c = true
  | none, none, none, _, _ => rfl
  | some a, some b, some c, e, f => h.trans a b c e f
  | none, some _, _, e, _ => by cases e
  | some _, none, _, e, _ => by cases e
  | none, none, some _, _, f => by cases f
  | some _, some _, none, _, f => by cases f
theorem relN_eqR (G : List (Nat × Nat × Nat)) (L : Nat) : ∀ t, EqR (relN G L t)
  | 0 => ⟨fun _ => rfl, fun _ _ _ => rfl, fun _ _ _ _ _ => rfl⟩
  | t + 1 => by
    have ih := relN_eqR G L t
    refine ⟨fun p => ?_, fun p q h => ?_, fun p q s h k => ?_⟩
    · unfold relN
      rw [ih.refl p, Bool.true_and, List.all_eq_true]
      exact fun x _ => alike_refl ih _
    · unfold relN at h ⊢
      rw [Bool.and_eq_true, List.all_eq_true] at h ⊢
      exact ⟨ih.symm _ _ h.1, fun x hx => alike_symm ih _ _ (h.2 x hx)⟩
    · unfold relN at h k ⊢
      rw [Bool.and_eq_true, List.all_eq_true] at h k ⊢
      exact ⟨ih.trans _ _ _ h.1 k.1, fun x hx => alike_trans ih _ _ _ (h.2 x hx) (k.2 x hx)⟩
theorem relN_less {G : List (Nat × Nat × Nat)} {L t p q : Nat} (h : relN G L (t + 1) p q = true) : relN G L t p q = true := by
  unfold relN at h
  rw [Bool.and_eq_true] at h
  exact h.1
/-- The least state in a state's class. -/
def repN (r : Nat → Nat → Bool) (p : Nat) : Nat := ((List.range p).find? fun q => r p q).getD p
theorem find_range {f : Nat → Bool} : ∀ {p q : Nat}, (List.range p).find? f = some q → q < p ∧ f q = true ∧ ∀ j, j < q → f j = false := by
  intro p q h
  rw [List.find?_range_eq_some] at h
  obtain ⟨h1, h2, h3⟩ := h
  exact ⟨List.mem_range.1 h2, h1, fun j hj => by simpa using h3 j hj⟩
theorem repN_facts {r : Nat → Nat → Bool} (h : EqR r) (p : Nat) : repN r p ≤ p ∧ r p (repN r p) = true ∧ ∀ j, j < repN r p → r p j = false := by
  unfold repN
  cases hf : (List.range p).find? fun q => r p q with
  | none =>
    rw [List.find?_eq_none] at hf
    exact ⟨Nat.le_refl _, h.refl p, fun j hj => by have := hf j (List.mem_range.2 hj); simpa using this⟩
  | some q =>
    obtain ⟨h1, h2, h3⟩ := find_range hf
    exact ⟨Nat.le_of_lt h1, h2, h3⟩
theorem repN_of {r : Nat → Nat → Bool} (h : EqR r) {p q : Nat} (h1 : r p q = true) (h2 : ∀ j, j < q → r p j = false) : repN r p = q := by
  obtain ⟨_, k2, k3⟩ := repN_facts h p
  rcases Nat.lt_trichotomy (repN r p) q with e | e | e
  · rw [h2 _ e] at k2; cases k2
  · exact e
  · rw [k3 _ e] at h1; cases h1
theorem repN_eq {r : Nat → Nat → Bool} (h : EqR r) {p q : Nat} : repN r p = repN r q ↔ r p q = true := by
  obtain ⟨_, p2, p3⟩ := repN_facts h p
  obtain ⟨_, q2, q3⟩ := repN_facts h q
  constructor
  · intro e
    exact h.trans _ _ _ p2 (h.symm _ _ (by rw [e]; exact q2))
  · intro e
    refine repN_of h (h.trans _ _ _ e q2) fun j hj => ?_
    cases hb : r p j
    · rfl
    · have := h.trans _ _ _ (h.symm _ _ e) hb
      rw [q3 j hj] at this; cases this
def isRep (r : Nat → Nat → Bool) (p : Nat) : Bool := decide (repN r p = p)
theorem repN_rep {r : Nat → Nat → Bool} (h : EqR r) (p : Nat) : repN r (repN r p) = repN r p := (repN_eq h).2 (h.symm _ _ (repN_facts h p).2.1)
/-- The number of a state's class. -/
def clsN (r : Nat → Nat → Bool) (p : Nat) : Nat := numTo (isRep r) (repN r p)
theorem clsN_eq {r : Nat → Nat → Bool} (h : EqR r) {p q : Nat} : clsN r p = clsN r q ↔ r p q = true := by
  constructor
  · intro e
    refine (repN_eq h).1 ?_
    unfold clsN at e
    rcases Nat.lt_trichotomy (repN r p) (repN r q) with g | g | g
    · have := numTo_lt (K := isRep r) g (by unfold isRep; rw [decide_eq_true_eq]; exact repN_rep h p)
      omega
    · exact g
    · have := numTo_lt (K := isRep r) g (by unfold isRep; rw [decide_eq_true_eq]; exact repN_rep h q)
      omega
  · intro e
    unfold clsN
    rw [(repN_eq h).2 e]
/-- Nothing changes any more. -/
def stabN (G : List (Nat × Nat × Nat)) (L S t : Nat) : Prop := ∀ p q, p < S → q < S → relN G L t p q = true → relN G L (t + 1) p q = true
theorem stab_rel {G : List (Nat × Nat × Nat)} {L S t : Nat} (hG : ∀ a ∈ G, a.2.1 < S) (h : stabN G L S t) : ∀ j p q, p < S → q < S → relN G L t p q = true → relN G L (t + j) p q = true
  | 0, _, _, _, _, e => e
  | j + 1, p, q, hp, hq, e => by
    have h1 := h p q hp hq e
    show relN G L ((t + j) + 1) p q = true
    unfold relN at h1 ⊢
    rw [Bool.and_eq_true, List.all_eq_true] at h1 ⊢
    refine ⟨stab_rel hG h j p q hp hq e, fun x hx => ?_⟩
    have h2 := h1.2 x hx
    have key : ∀ p b, tgtN G p x = some b → b < S := fun p b hb => by
      unfold tgtN at hb
      obtain ⟨a, ha, rfl⟩ := Option.map_eq_some_iff.1 hb
      exact hG a (List.mem_of_find?_eq_some ha)
    cases ha : tgtN G p x with
    | none => rw [ha] at h2; cases hb : tgtN G q x with
      | none => rfl
      | some b => rw [hb] at h2; cases h2
    | some a => rw [ha] at h2; cases hb : tgtN G q x with
      | none => rw [hb] at h2; cases h2
      | some b => rw [hb] at h2; exact stab_rel hG h j a b (key p a ha) (key q b hb) h2
theorem rel_back {G : List (Nat × Nat × Nat)} {L t p q : Nat} : ∀ j, relN G L (t + j) p q = true → relN G L t p q = true
  | 0, e => e
  | j + 1, e => rel_back j (relN_less (t := t + j) e)
/-- The number of classes. -/
def cntN (G : List (Nat × Nat × Nat)) (L S t : Nat) : Nat := numTo (isRep (relN G L t)) S
theorem rep_ext {r q : Nat → Nat → Bool} (hr : EqR r) (hq : EqR q) {S : Nat} (h : ∀ a b, a < S → b < S → (r a b = true ↔ q a b = true)) {p : Nat} (hp : p < S) : repN r p = repN q p := by
  obtain ⟨k1, k2, k3⟩ := repN_facts hq p
  refine repN_of hr ((h p _ hp (by omega)).2 k2) fun j hj => ?_
  cases hb : r p j
  · rfl
  · have := (h p j hp (by omega)).1 hb
    rw [k3 j hj] at this; cases this
theorem cnt_same {G : List (Nat × Nat × Nat)} {L S t u : Nat} (hG : ∀ a ∈ G, a.2.1 < S) (h : stabN G L S t) (k : stabN G L S u) : cntN G L S t = cntN G L S u := by
  have key : ∀ t u, t ≤ u → stabN G L S t → cntN G L S t = cntN G L S u := by
    intro t u htu h
    refine numTo_ext fun p hp => ?_
    unfold isRep
    rw [rep_ext (relN_eqR G L t) (relN_eqR G L u) (S := S) (fun a b ha hb => ?_) hp]
    obtain ⟨j, rfl⟩ := Nat.exists_eq_add_of_le htu
    exact ⟨stab_rel hG h j a b ha hb, rel_back j⟩
  rcases Nat.le_total t u with e | e
  · exact key t u e h
  · exact (key u t e k).symm
/-- A round that changes something makes more classes. -/
theorem cnt_more {G : List (Nat × Nat × Nat)} {L S t : Nat} (h : ¬ stabN G L S t) : cntN G L S t < cntN G L S (t + 1) := by
  have hT := relN_eqR G L t
  have hU := relN_eqR G L (t + 1)
  have hsub : ∀ p, isRep (relN G L t) p = true → isRep (relN G L (t + 1)) p = true := fun p hp => by
    unfold isRep at hp ⊢
    rw [decide_eq_true_eq] at hp ⊢
    obtain ⟨k1, _, k3⟩ := repN_facts hT p
    refine repN_of hU (hU.refl p) fun j hj => ?_
    cases hb : relN G L (t + 1) p j
    · rfl
    · have := relN_less hb
      rw [k3 j (by omega)] at this; cases this
  have hex : ∃ p, p < S ∧ isRep (relN G L (t + 1)) p = true ∧ isRep (relN G L t) p = false := by
    refine Classical.byContradiction fun hn => h fun p q hp hq e => ?_
    have all : ∀ p, p < S → repN (relN G L (t + 1)) p = repN (relN G L t) p := fun p hp => by
      obtain ⟨k1, k2, k3⟩ := repN_facts hU p
      have hr : isRep (relN G L (t + 1)) (repN (relN G L (t + 1)) p) = true := by
        unfold isRep; rw [decide_eq_true_eq]; exact repN_rep hU p
      cases hb : isRep (relN G L t) (repN (relN G L (t + 1)) p)
      · exact absurd ⟨_, by omega, hr, hb⟩ hn
      · unfold isRep at hb
        rw [decide_eq_true_eq] at hb
        rw [← hb]
        exact (repN_eq hT).2 (hT.symm _ _ (relN_less k2))
    refine (repN_eq hU).1 ?_
    rw [all p hp, all q hq]
    exact (repN_eq hT).2 e
  obtain ⟨p, hp, h1, h2⟩ := hex
  unfold cntN numTo
  have := filter_less (K := isRep (relN G L (t + 1))) (L := isRep (relN G L t)) (M := S) hsub hp h1 h2
  exact this
theorem cnt_le (G : List (Nat × Nat × Nat)) (L S t : Nat) : cntN G L S t ≤ S := numTo_le _ _
theorem stab_cls {G : List (Nat × Nat × Nat)} {L S t : Nat} : stabN G L S t ↔ ∀ p, p < S → clsN (relN G L t) p = clsN (relN G L (t + 1)) p := by
  have hT := relN_eqR G L t
  have hU := relN_eqR G L (t + 1)
  constructor
  · intro h p hp
    unfold clsN
    have hrep : ∀ p, p < S → repN (relN G L t) p = repN (relN G L (t + 1)) p := fun p hp => rep_ext hT hU (S := S) (fun a b ha hb => ⟨h a b ha hb, relN_less⟩) hp
    rw [hrep p hp]
    refine numTo_ext fun j hj => ?_
    have := (repN_facts hU p).1
    unfold isRep
    rw [hrep j (by omega)]
  · intro h p q hp hq e
    refine (clsN_eq hU).1 ?_
    rw [← h p hp, ← h q hq]
    exact (clsN_eq hT).2 e
theorem stab_rep {G : List (Nat × Nat × Nat)} {L S t : Nat} : stabN G L S t ↔ ∀ p, p < S → repN (relN G L t) p = repN (relN G L (t + 1)) p := by
  have hT := relN_eqR G L t
  have hU := relN_eqR G L (t + 1)
  constructor
  · intro h p hp
    exact rep_ext hT hU (S := S) (fun a b ha hb => ⟨h a b ha hb, relN_less⟩) hp
  · intro h p q hp hq e
    refine (repN_eq hU).1 ?_
    rw [← h p hp, ← h q hq]
    exact (repN_eq hT).2 e
end Go.Proofs.YtpfeflhcbcgbfaaDoor
namespace Go.Proofs.YtpfeflhcbcgbfaaDoor
open Go.RowKit

/-- A cell row of arcs. -/
theorem arc_row {w : World} {b off k : Nat} {A : List (Int × Int × Int)} {a : Int × Int × Int} (hc : ∀ k v, (arcVals A)[k]? = some v → w.cell? ⟨b, off + k, none⟩ = some v) (h : A[k]? = some a) : Cell3 w b (off + k * 3) a.1 a.2.1 a.2.2 := by
  obtain ⟨h0, h1, h2⟩ := arcVals_get h
  have c1 := hc _ _ h1
  have c2 := hc _ _ h2
  rw [← Nat.add_assoc] at c1 c2
  exact ⟨hc _ _ h0, c1, c2⟩
theorem befB_iff {a b : Int × Int × Int} : befB a b = true ↔ a.1 < b.1 ∨ (a.1 = b.1 ∧ (a.2.2 < b.2.2 ∨ (a.2.2 = b.2.2 ∧ a.2.1 < b.2.1))) := by unfold befB; rw [decide_eq_true_eq]
set_option maxHeartbeats 1000000 in
theorem l14Before_c (a b : Int × Int × Int) (w : World) :
    Calls Tryd.prog 33 #[.agg #[.int .i64 a.1, .int .i64 a.2.1, .int .i64 a.2.2], .agg #[.int .i64 b.1, .int .i64 b.2.1, .int .i64 b.2.2]] w fun e w' => e = .returned (.bool (befB a b)) ∧ Below w.heap.size w w' := by
  obtain ⟨f, t, l⟩ := a
  obtain ⟨f', t', l'⟩ := b
  have hB : Below w.heap.size w ((w.alloc (.cells #[.int .i64 f, .int .i64 t, .int .i64 l] 53)).alloc (.cells #[.int .i64 f', .int .i64 t', .int .i64 l'] 53)) := ((Below.refl _ _).alloc (Nat.le_refl _) _).alloc (by simp) _
  unfold befB
  show Calls Tryd.prog 33 #[.agg #[.int .i64 f, .int .i64 t, .int .i64 l], .agg #[.int .i64 f', .int .i64 t', .int .i64 l']] w fun e w' => e = .returned (.bool (decide (f < f' ∨ (f = f' ∧ (l < l' ∨ (l = l' ∧ t < t')))))) ∧ Below w.heap.size w w'
  by_cases h1 : f = f'
  · subst h1
    have g1 : (f != f) = false := by simp
    by_cases h2 : l = l'
    · subst h2
      have g2 : (l != l) = false := by simp
      go_enter Tryd.func33, Tryd.ntmps33
      go_wp2
      go_ret
      exact ⟨ret_bool (by first | (simp; done) | (simp; omega)), hB⟩
    · have g2 : (l != l') = true := by simp [h2]
      go_enter Tryd.func33, Tryd.ntmps33
      go_wp2
      go_ret
      exact ⟨ret_bool (by first | (simp; done) | (simp; omega)), hB⟩
  · have g1 : (f != f') = true := by simp [h1]
    go_enter Tryd.func33, Tryd.ntmps33
    go_wp2
    go_ret
    exact ⟨ret_bool (by first | (simp; done) | (simp; omega)), hB⟩
def cmpI (x y : Int) : Int := if x < y then -1 else if y < x then 1 else 0
theorem cmpCompare_c (x y : Int) (w : World) : Calls Tryd.prog 69 #[.int .i64 x, .int .i64 y] w fun e w' => e = .returned (.int .i64 (cmpI x y)) ∧ w = w' := by
  have hx : (x != x) = false := by simp
  have hy : (y != y) = false := by simp
  unfold cmpI
  by_cases h1 : x < y
  · go_enter Tryd.func69, Tryd.ntmps69
    go_wp2
    go_ret
    exact ⟨rfl, rfl⟩
  · by_cases h2 : y < x
    · go_enter Tryd.func69, Tryd.ntmps69
      go_wp2
      go_ret
      exact ⟨rfl, rfl⟩
    · go_enter Tryd.func69, Tryd.ntmps69
      go_wp2
      go_ret
      exact ⟨rfl, rfl⟩
def orI (x y z : Int) : Int := if x = 0 then (if y = 0 then z else y) else x
set_option maxHeartbeats 1000000 in
theorem cmpOr_c (x y z : Int) (g : Nat) (w : World) (h : w.cell? ⟨g, 0, none⟩ = some (.int .i64 x) ∧ w.cell? ⟨g, 1, none⟩ = some (.int .i64 y) ∧ w.cell? ⟨g, 2, none⟩ = some (.int .i64 z)) :
    Calls Tryd.prog 68 #[.slice (some ⟨g, 0, none⟩) 3 3] w fun e w' => e = .returned (.int .i64 (orI x y z)) ∧ w = w' := by
  obtain ⟨h0, h1, h2⟩ := h
  unfold orI
  by_cases hx : x = 0
  · have gx : (x != 0) = false := by simp [hx]
    by_cases hy : y = 0
    · have gy : (y != 0) = false := by simp [hy]
      by_cases hz : z = 0
      · have gz : (z != 0) = false := by simp [hz]
        go_enter Tryd.func68, Tryd.ntmps68
        go_wp2
        refine wp_loop_rounds 4 ?_
        rw [rounds_succ]
        go_wp2
        rw [rounds_succ]
        go_wp2
        rw [rounds_succ]
        go_wp2
        rw [rounds_succ]
        go_wp2
        go_ret
        exact ⟨ret_int (by simp [hx, hy, hz]), rfl⟩
      · have gz : (z != 0) = true := by simp [hz]
        go_enter Tryd.func68, Tryd.ntmps68
        go_wp2
        refine wp_loop_rounds 4 ?_
        rw [rounds_succ]
        go_wp2
        rw [rounds_succ]
        go_wp2
        rw [rounds_succ]
        go_wp2
        go_ret
        exact ⟨ret_int (by simp [hx, hy]), rfl⟩
    · have gy : (y != 0) = true := by simp [hy]
      go_enter Tryd.func68, Tryd.ntmps68
      go_wp2
      refine wp_loop_rounds 4 ?_
      rw [rounds_succ]
      go_wp2
      rw [rounds_succ]
      go_wp2
      go_ret
      exact ⟨ret_int (by simp [hx, hy]), rfl⟩
  · have gx : (x != 0) = true := by simp [hx]
    go_enter Tryd.func68, Tryd.ntmps68
    go_wp2
    refine wp_loop_rounds 4 ?_
    rw [rounds_succ]
    go_wp2
    go_ret
    exact ⟨ret_int (by simp [hx]), rfl⟩
def cmpA (a b : Int × Int × Int) : Int := orI (cmpI a.1 b.1) (cmpI a.2.2 b.2.2) (cmpI a.2.1 b.2.1)
theorem cmpA_neg {a b : Int × Int × Int} : 0 ≤ cmpA a b ↔ befB a b = false := by
  unfold cmpA orI cmpI befB
  rw [decide_eq_false_iff_not]
  repeat' split
  all_goals omega
set_option maxHeartbeats 1000000 in
theorem compareArcs_c (a b : Int × Int × Int) (w : World) :
    Calls Tryd.prog 45 #[.agg #[.int .i64 a.1, .int .i64 a.2.1, .int .i64 a.2.2], .agg #[.int .i64 b.1, .int .i64 b.2.1, .int .i64 b.2.2]] w fun e w' => e = .returned (.int .i64 (cmpA a b)) ∧ Below w.heap.size w w' := by
  obtain ⟨f, t, l⟩ := a
  obtain ⟨f', t', l'⟩ := b
  unfold cmpA
  have HF := hid (fun w => cmpCompare_c f f' w)
  have HT := hid (fun w => cmpCompare_c t t' w)
  have HL := hid (fun w => cmpCompare_c l l' w)
  obtain ⟨x, hx⟩ : ∃ x, x = cmpI f f' := ⟨_, rfl⟩
  obtain ⟨y, hy⟩ : ∃ y, y = cmpI l l' := ⟨_, rfl⟩
  obtain ⟨z, hz⟩ : ∃ z, z = cmpI t t' := ⟨_, rfl⟩
  show Calls Tryd.prog 45 #[.agg #[.int .i64 f, .int .i64 t, .int .i64 l], .agg #[.int .i64 f', .int .i64 t', .int .i64 l']] w fun e w' => e = .returned (.int .i64 (orI (cmpI f f') (cmpI l l') (cmpI t t'))) ∧ Below w.heap.size w w'
  rw [← hx, ← hy, ← hz]
  rw [← hx] at HF
  rw [← hy] at HL
  rw [← hz] at HT
  clear hx hy hz
  obtain ⟨W1, hW1⟩ : ∃ W1, W1 = (w.alloc (.cells #[.int .i64 f, .int .i64 t, .int .i64 l] 53)).alloc (.cells #[.int .i64 f', .int .i64 t', .int .i64 l'] 53) := ⟨_, rfl⟩
  have hB : Below w.heap.size w W1 := by rw [hW1]; exact ((Below.refl _ _).alloc (Nat.le_refl _) _).alloc (by simp) _
  have HX := hid (show (W1.cell? ⟨w.heap.size, 0, none⟩ = some (.int .i64 f) ∧ W1.cell? ⟨w.heap.size, 1, none⟩ = some (.int .i64 t) ∧ W1.cell? ⟨w.heap.size, 2, none⟩ = some (.int .i64 l)) ∧ (W1.cell? ⟨w.heap.size + 1, 0, none⟩ = some (.int .i64 f') ∧ W1.cell? ⟨w.heap.size + 1, 1, none⟩ = some (.int .i64 t') ∧ W1.cell? ⟨w.heap.size + 1, 2, none⟩ = some (.int .i64 l')) ∧ w.heap.size + 1 < W1.heap.size from by
    obtain ⟨⟨h1, _⟩, ⟨h2, _⟩, h4, _⟩ := box2 (Below.refl ((w.alloc (.cells #[.int .i64 f, .int .i64 t, .int .i64 l] 53)).alloc (.cells #[.int .i64 f', .int .i64 t', .int .i64 l'] 53)).heap.size _)
    rw [hW1]
    exact ⟨⟨h1 0, h1 1, h1 2⟩, ⟨h2 0, h2 1, h2 2⟩, h4⟩)
  have hz := HX.out.2.2
  have HK := hid (fun (V : World) (hV : Below W1.heap.size W1 V) => show V.cell? ⟨w.heap.size, 0, none⟩ = some (.int .i64 f) ∧ V.cell? ⟨w.heap.size, 1, none⟩ = some (.int .i64 t) ∧ V.cell? ⟨w.heap.size, 2, none⟩ = some (.int .i64 l) ∧ V.cell? ⟨w.heap.size + 1, 0, none⟩ = some (.int .i64 f') ∧ V.cell? ⟨w.heap.size + 1, 1, none⟩ = some (.int .i64 t') ∧ V.cell? ⟨w.heap.size + 1, 2, none⟩ = some (.int .i64 l') ∧ Below W1.heap.size W1 V from by
    obtain ⟨⟨x0, x1, x2⟩, ⟨y0, y1, y2⟩, _⟩ := HX.out
    have hz0 : w.heap.size < W1.heap.size := by omega
    exact ⟨(hV.cell (p := ⟨w.heap.size, 0, none⟩) hz0).trans x0, (hV.cell (p := ⟨w.heap.size, 1, none⟩) hz0).trans x1, (hV.cell (p := ⟨w.heap.size, 2, none⟩) hz0).trans x2, (hV.cell (p := ⟨w.heap.size + 1, 0, none⟩) hz).trans y0, (hV.cell (p := ⟨w.heap.size + 1, 1, none⟩) hz).trans y1, (hV.cell (p := ⟨w.heap.size + 1, 2, none⟩) hz).trans y2, hV⟩)
  have HO := hid (fun (V : World) => cmpOr_c x y z V.heap.size (V.alloc (.cells #[.int .i64 x, .int .i64 y, .int .i64 z] 3)).drew ⟨World.cell?_alloc_at _ _ _ _ rfl, World.cell?_alloc_at _ _ _ _ rfl, World.cell?_alloc_at _ _ _ _ rfl⟩)
  have hbZ : Below W1.heap.size W1 (W1.alloc (.cells #[.int .i64 x, .int .i64 y, .int .i64 z] 3)).drew := ((Below.refl _ _).alloc (Nat.le_refl _) _).drew
  have hbY : Below W1.heap.size W1 W1.drew := (Below.refl _ _).drew
  have HW := hid hW1
  have HB := hid hB
  clear hW1 hB
  go_enter Tryd.func45, Tryd.ntmps45
  go_wp2
  rw [← HW.out]
  go_region_held3 (fun V => V.cell? ⟨w.heap.size, 0, none⟩ = some (.int .i64 f) ∧ V.cell? ⟨w.heap.size, 1, none⟩ = some (.int .i64 t) ∧ V.cell? ⟨w.heap.size, 2, none⟩ = some (.int .i64 l) ∧ V.cell? ⟨w.heap.size + 1, 0, none⟩ = some (.int .i64 f') ∧ V.cell? ⟨w.heap.size + 1, 1, none⟩ = some (.int .i64 t') ∧ V.cell? ⟨w.heap.size + 1, 2, none⟩ = some (.int .i64 l') ∧ Below W1.heap.size W1 V)
    (first | with_reducible exact HK.out _ hbY | with_reducible exact HK.out _ hbZ)
    (first | (go_at_call_of 69 f; refine (HF.out _).mono ?_; rintro e w3 ⟨rfl, rfl⟩) | (go_at_call_of 69 l; refine (HL.out _).mono ?_; rintro e w3 ⟨rfl, rfl⟩) | (go_at_call_of 69 t; refine (HT.out _).mono ?_; rintro e w3 ⟨rfl, rfl⟩) | (go_at_call 68; refine (HO.out _).mono ?_; rintro e w3 ⟨rfl, rfl⟩))
  go_wp2
  go_ret
  exact ⟨rfl, HB.out.trans (hbZ.mono HB.out.size)⟩
theorem lab_box {w V : World} {L S : Int} {v : Value} {T : TypeId} (hV : Below (w.heap.size + 1) (w.alloc (.cells #[.int .i64 L, .int .i64 S, v] T)) V) : (V.cell? ⟨w.heap.size, 0, none⟩ = some (.int .i64 L) ∧ V.cell? ⟨w.heap.size, 1, none⟩ = some (.int .i64 S) ∧ V.cell? ⟨w.heap.size, 2, none⟩ = some v) ∧ w.heap.size < V.heap.size ∧ Below w.heap.size w V := by
  refine ⟨⟨(box_kept hV 0).1, (box_kept hV 1).1, (box_kept hV 2).1⟩, ?_, ((Below.refl _ _).alloc (Nat.le_refl _) _).trans (hV.mono (by omega))⟩
  have := hV.size
  simp at this
  omega
/-- What arcs are there while a function reads them. -/
theorem arcs_at {w W2 : World} {a : Option Addr} {n : Nat} {A : List (Int × Int × Int)} (hr : RowAt w a (n * 3) (arcVals A)) (hb : Below w.heap.size w W2) : A.length = n ∧ ∀ k x, A[k]? = some x → ∃ b off, a = some ⟨b, off, none⟩ ∧ b < W2.heap.size ∧ ∀ V, Below W2.heap.size W2 V → Cell3 V b (off + k * 3) x.1 x.2.1 x.2.2 := by
  have hl := hr.len
  rw [arcVals_len] at hl
  refine ⟨by omega, fun k x hx => ?_⟩
  obtain ⟨b, off, rfl, hlt, hc⟩ := hr.at_ (by have := (List.getElem?_eq_some_iff.1 hx).1; omega)
  exact ⟨b, off, rfl, Nat.lt_of_lt_of_le hlt hb.size, fun V hV => (arc_row hc hx).below (hb.trans (hV.mono hb.size)) hlt⟩
theorem inB_wrap {x S : Int} : inB x 0 (S + 1 - 1) = inB x 0 S := by rw [Int.add_sub_cancel]
end Go.Proofs.YtpfeflhcbcgbfaaDoor
