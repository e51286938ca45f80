/- Labelled graphs: the classes of states, the reference's numbers. Conditions: a valid labelled graph, its arcs in memory. -/
import Derived.Deep.LoopGhost
import Derived.Test.YtpfeflhcbcgbfaaDoorAlkW
import Derived.Test.YtpfeflhcbcgbfaaDoorKeepQ
namespace Go.Proofs.YtpfeflhcbcgbfaaDoor
open Go.RowKit

theorem alike_congr {r s : Nat → Nat → Bool} {S : Nat} (h : ∀ a b, a < S → b < S → r a b = s a b) : ∀ x y : Option Nat, (∀ a, x = some a → a < S) → (∀ b, y = some b → b < S) → alikeB r x y = alikeB s x y
  | none, none, _, _ => rfl
  | none, some _, _, _ => rfl
  | some _, none, _, _ => rfl
  | some a, some b, h1, h2 => h a b (h1 a rfl) (h2 b rfl)
/-- The test of all letters, said by the states alike so far. -/
theorem alTo_rel {cls : List Int} {G : List (Nat × Nat × Nat)} {L S t : Nat} (hG : LabG L S G) (h : ∀ a b, a < S → b < S → clR cls a b = relN G L t a b) (p q : Nat) : ∀ k, alTo cls G p q k = (List.range k).all fun x => alikeB (relN G L t) (tgtN G p x) (tgtN G q x)
  | 0 => rfl
  | k + 1 => by
    show (alTo cls G p q k && _) = _
    rw [alTo_rel hG h p q k, alike_congr h _ _ (fun a e => tgtN_lt hG e) (fun b e => tgtN_lt hG e), List.range_succ, List.all_append]
    simp
theorem rel_step {cls : List Int} {G : List (Nat × Nat × Nat)} {L S t : Nat} (hG : LabG L S G) (h : ∀ a b, a < S → b < S → clR cls a b = relN G L t a b) {p q : Nat} (hp : p < S) (hq : q < S) : (clR cls p q && alTo cls G p q L) = relN G L (t + 1) p q := by
  rw [alTo_rel hG h, h p q hp hq]
  rfl
/-- The least states alike, and the classes' numbers, as lists. -/
def repL (r : Nat → Nat → Bool) (S : Nat) : List Int := (List.range S).map fun p => ((repN r p : Nat) : Int)
def clsL (r : Nat → Nat → Bool) (S : Nat) : List Int := (List.range S).map fun p => ((clsN r p : Nat) : Int)
theorem repL_len (r : Nat → Nat → Bool) (S : Nat) : (repL r S).length = S := by simp [repL]
theorem clsL_len (r : Nat → Nat → Bool) (S : Nat) : (clsL r S).length = S := by simp [clsL]
theorem repL_get {r : Nat → Nat → Bool} {S p : Nat} (h : p < S) : (repL r S).getD p 0 = ((repN r p : Nat) : Int) := by simp [repL, List.getD_eq_getElem?_getD, h]
theorem clsL_get {r : Nat → Nat → Bool} {S p : Nat} (h : p < S) : (clsL r S).getD p 0 = ((clsN r p : Nat) : Int) := by simp [clsL, List.getD_eq_getElem?_getD, h]
theorem clR_rep {r : Nat → Nat → Bool} (h : EqR r) {S a b : Nat} (ha : a < S) (hb : b < S) : clR (repL r S) a b = r a b := by
  unfold clR
  rw [repL_get ha, repL_get hb, Bool.eq_iff_iff, decide_eq_true_iff, ← repN_eq h]
  omega
theorem clR_cls {r : Nat → Nat → Bool} (h : EqR r) {S a b : Nat} (ha : a < S) (hb : b < S) : clR (clsL r S) a b = r a b := by
  unfold clR
  rw [clsL_get ha, clsL_get hb, Bool.eq_iff_iff, decide_eq_true_iff, ← clsN_eq h]
  omega
theorem rep_zero (p : Nat) (G : List (Nat × Nat × Nat)) (L : Nat) : repN (relN G L 0) p = 0 := by
  have h := relN_eqR G L 0
  exact repN_of h rfl (fun j hj => by omega)
/-- The search downward for a state alike. -/
def seenB (r : Nat → Nat → Bool) (p j : Nat) : Bool := (List.range p).any fun q => decide (j ≤ q) && r q p
def nxtV (r : Nat → Nat → Bool) (p j : Nat) : Nat := if seenB r p j = true then repN r p else p
theorem seenB_iff {r : Nat → Nat → Bool} {p j : Nat} : seenB r p j = true ↔ ∃ q, q < p ∧ j ≤ q ∧ r q p = true := by
  unfold seenB
  rw [List.any_eq_true]
  constructor
  · rintro ⟨q, hq, h⟩
    rw [Bool.and_eq_true, decide_eq_true_iff] at h
    exact ⟨q, List.mem_range.1 hq, h.1, h.2⟩
  · rintro ⟨q, hq, h1, h2⟩
    exact ⟨q, List.mem_range.2 hq, by rw [Bool.and_eq_true, decide_eq_true_iff]; exact ⟨h1, h2⟩⟩
theorem nxtV_top (r : Nat → Nat → Bool) (p : Nat) : nxtV r p p = p := by
  unfold nxtV
  rw [if_neg]
  rw [seenB_iff]
  rintro ⟨q, h1, h2, _⟩
  omega
theorem nxtV_hit {r : Nat → Nat → Bool} (h : EqR r) {p j : Nat} (hj : j < p) (e : r j p = true) : nxtV r p j = repN r j := by
  unfold nxtV
  rw [if_pos (seenB_iff.2 ⟨j, hj, Nat.le_refl _, e⟩)]
  exact ((repN_eq h).2 e).symm
theorem nxtV_miss {r : Nat → Nat → Bool} {p j : Nat} (e : r j p = false) : nxtV r p j = nxtV r p (j + 1) := by
  have hs : seenB r p j = seenB r p (j + 1) := by
    rw [Bool.eq_iff_iff, seenB_iff, seenB_iff]
    constructor
    · rintro ⟨q, h1, h2, h3⟩
      refine ⟨q, h1, ?_, h3⟩
      rcases Nat.eq_or_lt_of_le h2 with h4 | h4
      · subst h4
        rw [e] at h3
        cases h3
      · exact h4
    · rintro ⟨q, h1, h2, h3⟩
      exact ⟨q, h1, by omega, h3⟩
  unfold nxtV
  rw [hs]
theorem nxtV_end {r : Nat → Nat → Bool} (h : EqR r) (p : Nat) : nxtV r p 0 = repN r p := by
  unfold nxtV
  by_cases hs : seenB r p 0 = true
  · rw [if_pos hs]
  · rw [if_neg hs]
    obtain ⟨h1, h2, _⟩ := repN_facts h p
    rcases Nat.eq_or_lt_of_le h1 with h4 | h4
    · exact h4.symm
    · exact absurd (seenB_iff.2 ⟨repN r p, h4, Nat.zero_le _, h.symm _ _ h2⟩) hs
end Go.Proofs.YtpfeflhcbcgbfaaDoor
namespace Go.Proofs.YtpfeflhcbcgbfaaDoor
open Go.RowKit

def metB (r : Nat → Nat → Bool) (p j : Nat) : Bool := (List.range j).any fun q => r p q
def fndV (r : Nat → Nat → Bool) (p j : Nat) : Int := if metB r p j = true then (clsN r p : Nat) else -1
theorem metB_succ (r : Nat → Nat → Bool) (p j : Nat) : metB r p (j + 1) = (metB r p j || r p j) := by simp [metB, List.range_succ]
theorem fndV_zero (r : Nat → Nat → Bool) (p : Nat) : fndV r p 0 = -1 := rfl
theorem fndV_hit {r : Nat → Nat → Bool} (h : EqR r) {p j : Nat} (e : r p j = true) : fndV r p (j + 1) = (clsN r j : Nat) := by
  unfold fndV
  rw [metB_succ, e, Bool.or_true, if_pos rfl, (clsN_eq h).2 e]
theorem fndV_miss {r : Nat → Nat → Bool} {p j : Nat} (e : r p j = false) : fndV r p (j + 1) = fndV r p j := by
  unfold fndV
  rw [metB_succ, e, Bool.or_false]
theorem metB_rep {r : Nat → Nat → Bool} (h : EqR r) (p : Nat) : metB r p p = !isRep r p := by
  obtain ⟨h1, h2, h3⟩ := repN_facts h p
  rw [Bool.eq_iff_iff, metB, List.any_eq_true]
  unfold isRep
  rw [Bool.not_eq_true', decide_eq_false_iff_not]
  constructor
  · rintro ⟨q, hq, e⟩ e2
    have := h3 q (by rw [e2]; exact List.mem_range.1 hq)
    rw [e] at this
    cases this
  · intro e
    exact ⟨repN r p, List.mem_range.2 (by omega), h2⟩
theorem fndV_end {r : Nat → Nat → Bool} (h : EqR r) (p : Nat) : fndV r p p = if isRep r p = true then -1 else ((clsN r p : Nat) : Int) := by
  unfold fndV
  rw [metB_rep h]
  cases isRep r p <;> simp
theorem clsN_new {r : Nat → Nat → Bool} {p : Nat} (e : isRep r p = true) : clsN r p = numTo (isRep r) p := by
  unfold isRep at e
  rw [decide_eq_true_iff] at e
  unfold clsN
  rw [e]
theorem clsL_succ (r : Nat → Nat → Bool) (p : Nat) : clsL r (p + 1) = clsL r p ++ [((clsN r p : Nat) : Int)] := by simp [clsL, List.range_succ]
theorem fndV_neg (r : Nat → Nat → Bool) (p j : Nat) : fndV r p j = -1 ∨ 0 ≤ fndV r p j := by
  unfold fndV
  split
  · right; omega
  · left; rfl
end Go.Proofs.YtpfeflhcbcgbfaaDoor
namespace Go.Proofs.YtpfeflhcbcgbfaaDoor
open Go.RowKit

/-- The row of the next round: done below p, v at p. -/
def nxS (r : Nat → Nat → Bool) (S p v : Nat) : List Int := (List.range S).map fun i => if i < p then ((repN r i : Nat) : Int) else if i = p then ((v : Nat) : Int) else 0
theorem nxS_len (r : Nat → Nat → Bool) (S p v : Nat) : (nxS r S p v).length = S := by simp [nxS]
theorem nxS_zero (r : Nat → Nat → Bool) (S : Nat) : intVals (nxS r S 0 0) = (madeCells (Value.int .i64 0).cells (S * 1)).toList := by
  rw [made_zeros]
  refine congrArg intVals ?_
  unfold nxS
  refine List.ext_getElem (by simp) fun i h1 h2 => ?_
  simp
theorem nxS_set {r : Nat → Nat → Bool} {S p v u : Nat} : (intVals (nxS r S p v)).set p (.int .i64 ((u : Nat) : Int)) = intVals (nxS r S p u) := by
  refine List.ext_getElem (by simp [nxS, intVals]) fun j h1 h2 => ?_
  rw [List.getElem_set]
  simp only [nxS, intVals, List.getElem_map, List.getElem_range]
  by_cases e : p = j
  · subst e; simp
  · rw [if_neg e]
    by_cases k : j < p
    · simp [k]
    · simp [k, show ¬ j = p by omega]
theorem nxS_next (r : Nat → Nat → Bool) (S p : Nat) : nxS r S p (repN r p) = nxS r S (p + 1) 0 := by
  unfold nxS
  refine List.map_congr_left fun i _ => ?_
  by_cases h : i < p
  · rw [if_pos h, if_pos (by omega)]
  · rw [if_neg h]
    by_cases e : i = p
    · subst e; rw [if_pos rfl, if_pos (by omega)]
    · rw [if_neg e, if_neg (by omega)]
      split <;> rfl
theorem nxS_end (r : Nat → Nat → Bool) (S v : Nat) : nxS r S S v = repL r S := by
  unfold nxS repL
  refine List.map_congr_left fun i hi => ?_
  rw [if_pos (List.mem_range.1 hi)]
theorem nxS_low {r : Nat → Nat → Bool} {S p v q : Nat} (h : q < p) (hp : p < S) : (nxS r S p v)[q]? = some ((repN r q : Nat) : Int) := by
  unfold nxS
  rw [List.getElem?_map, List.getElem?_range (by omega)]
  simp [h]
theorem nxS_at {r : Nat → Nat → Bool} {S p v : Nat} (hp : p < S) : (nxS r S p v)[p]? = some ((v : Nat) : Int) := by
  unfold nxS
  rw [List.getElem?_map, List.getElem?_range hp]
  simp
/-- Whether two rows differ ahead of j. -/
def difTo (a b : List Int) (j : Nat) : Bool := (List.range j).any fun i => !decide (a.getD i 0 = b.getD i 0)
theorem difTo_succ (a b : List Int) (j : Nat) : difTo a b (j + 1) = (difTo a b j || !decide (a.getD j 0 = b.getD j 0)) := by simp [difTo, List.range_succ]
theorem difTo_no {a b : List Int} {S : Nat} : difTo a b S = false ↔ ∀ i, i < S → a.getD i 0 = b.getD i 0 := by
  unfold difTo
  rw [List.any_eq_false]
  constructor
  · intro h i hi
    have := h i (List.mem_range.2 hi)
    simpa using this
  · intro h i hi
    have := h i (List.mem_range.1 hi)
    simp only [Bool.not_eq_true, Bool.not_eq_false', decide_eq_true_eq]
    exact this
theorem dif_rep {G : List (Nat × Nat × Nat)} {L S t : Nat} : difTo (repL (relN G L (t + 1)) S) (repL (relN G L t) S) S = false ↔ stabN G L S t := by
  rw [difTo_no, stab_rep]
  constructor
  · intro h p hp
    have := h p hp
    rw [repL_get hp, repL_get hp] at this
    omega
  · intro h p hp
    rw [repL_get hp, repL_get hp, h p hp]
theorem dif_cls {G : List (Nat × Nat × Nat)} {L S t : Nat} : difTo (clsL (relN G L t) S) (clsL (relN G L (t + 1)) S) S = false ↔ stabN G L S t := by
  rw [difTo_no, stab_cls]
  constructor
  · intro h p hp
    have := h p hp
    rw [clsL_get hp, clsL_get hp] at this
    omega
  · intro h p hp
    rw [clsL_get hp, clsL_get hp, h p hp]
theorem rep_stab {G : List (Nat × Nat × Nat)} {L S t : Nat} (h : stabN G L S t) : repL (relN G L (t + 1)) S = repL (relN G L t) S := by
  unfold repL
  exact List.map_congr_left fun p hp => by rw [(stab_rep.1 h p (List.mem_range.1 hp)).symm]
theorem cnt_grow {G : List (Nat × Nat × Nat)} {L S t k : Nat} (h : ¬ stabN G L S t) (hk : S + 1 - cntN G L S t ≤ k) : S + 1 - cntN G L S (t + 1) < k := by
  have h1 := cnt_more h
  have h2 := cnt_le G L S (t + 1)
  omega
end Go.Proofs.YtpfeflhcbcgbfaaDoor
namespace Go.Proofs.YtpfeflhcbcgbfaaDoor
open Go.RowKit

def ClsPost (f : (Nat → Nat → Bool) → Nat → List Int) (L S : Nat) (G : List (Nat × Nat × Nat)) (w : World) (e : Ending) (w' : World) : Prop :=
  ∃ t g c : Nat, stabN G L S t ∧ e = .returned (.slice (some ⟨g, 0, none⟩) S c) ∧ w'.ownsRow w.heap.size 3 1 (.slice (some ⟨g, 0, none⟩) S c) S (intVals (f (relN G L t) S)) ∧ Below w.heap.size w w'
theorem own_drewN {w : World} {base e size n : Nat} {v : Value} {xs : List Value} (h : w.ownsRow base e size v n xs) (m : Nat) : (w.drewN m).ownsRow base e size v n xs := h
theorem relN_comm (G : List (Nat × Nat × Nat)) (L t p q : Nat) : relN G L t p q = relN G L t q p := by
  rw [Bool.eq_iff_iff]
  exact ⟨(relN_eqR G L t).symm p q, (relN_eqR G L t).symm q p⟩
theorem repL_made (G : List (Nat × Nat × Nat)) (L S : Nat) : intVals (repL (relN G L 0) S) = (madeCells (Value.int .i64 0).cells (S * 1)).toList := by
  rw [← nxS_zero (relN G L 0) S]
  refine congrArg intVals ?_
  unfold repL nxS
  refine List.map_congr_left fun i _ => ?_
  rw [rep_zero, if_neg (by omega)]
  split <;> rfl
set_option maxHeartbeats 4000000 in
set_option maxRecDepth 100000 in
theorem l15Classes_c (L S : Nat) (a : Option Addr) (n c : Nat) (G : List (Nat × Nat × Nat)) (w : World) (hr : RowAt w a (n * 3) (arcVals (arcN G))) (hG : LabG L S G) (hn : n ≤ 1048576) :
    Calls Tryd.prog 39 #[.agg #[.int .i64 L, .int .i64 S, .slice a n c]] w (ClsPost repL L S G w) := by
  have HAL := hid (fun (W : World) (cl : Option Addr) (cc : Nat) (cls : List Int) (p q : Nat) (hW : Below w.heap.size w W) (hcl : RowAt W cl S (intVals cls)) (hcs : cls.length = S) (hp : p < S) (hq : q < S) => l15Alike_c L S a n c G cl cc cls p q W (hr.below hW (Nat.le_refl _)) hG hn hcl hcs hp hq)
  have HBX := hid (fun (V : World) (hV : Below (w.heap.size + 1) (w.alloc (.cells #[.int .i64 L, .int .i64 S, .slice a n c] 29)) V) => lab_box hV)
  obtain ⟨W2, hW2⟩ : ∃ W2, W2 = w.alloc (.cells #[.int .i64 L, .int .i64 S, .slice a n c] 29) := ⟨_, rfl⟩
  have hB : Below w.heap.size w W2 := by rw [hW2]; exact (Below.refl _ _).alloc (Nat.le_refl _) _
  have hsz : W2.heap.size = w.heap.size + 1 := by rw [hW2]; simp
  rw [← hW2, ← hsz] at HBX
  have hS1 := hG.s1
  have hS12 := hG.s12
  have HRS := hid (fun (t p q : Nat) (hp : p < S) (hq : q < S) => rel_step hG (cls := repL (relN G L t) S) (t := t) (fun a b ha hb => clR_rep (relN_eqR G L t) ha hb) hp hq)
  obtain ⟨ti, hi, hz, hz1, hz2⟩ := info_parts infoIntZ
  unfold ClsPost
  clear hr hG
  have HB := hid hB
  go_enter Tryd.func39, Tryd.ntmps39
  go_wp2_with (first | (at_make; refine wpList_make_full _ rfl _ _ 41 rfl (w.heap.size + 1) 3 ti (.int .i64 0) 1 Tryd.underlying41 hi hz hz1 .i64 .i64 _ _ S rfl rfl rfl rfl (by rw [hz2]; omega) (by unfold maxLen; omega) (by simp) ?_; intro w1 hown1 hgr1; rw [← hW2] at hgr1 hown1; rw [← hsz] at hown1; have hb1 : Below W2.heap.size W2 w1 := (Below.refl _ _).grown hgr1 (Nat.le_refl _) (by intro k h; cases h); obtain ⟨⟨p0, p1, p2⟩, _⟩ := HBX.out w1 hb1))
  rw [← repL_made G L S] at hown1
  have HO1 := hid hown1
  have HB1 := hid hb1
  first | rw [← hW2] | skip
  clear hown1 hgr1 hb1 hW2 p0 p1 p2 hB
  go_loopg [3, 4] (S + 1) (fun k cls ch wr => ∃ (t g c' : Nat) (b : Bool), cls = .slice (some ⟨g, 0, none⟩) S c' ∧ ch = .bool b ∧ wr.ownsRow W2.heap.size 3 1 (.slice (some ⟨g, 0, none⟩) S c') S (intVals (repL (relN G L t) S)) ∧ Below W2.heap.size W2 wr ∧ Hid ((b = true ∧ S + 1 - cntN G L S t ≤ k) ∨ (b = false ∧ stabN G L S t)))
  case atStart => exact ⟨0, W2.heap.size, S, true, by rw [hsz], rfl, HO1.out, HB1.out, hid (.inl ⟨rfl, by omega⟩)⟩
  case round =>
    clear HO1 HB1
    obtain ⟨t, g, c', b, rfl, rfl, hown, hbel, HE⟩ := hrel
    cases b
    · have HS := hid (show stabN G L S t from by
        rcases HE.out with ⟨h, _⟩ | ⟨_, h⟩
        · cases h
        · exact h)
      have HO := hid hown
      have HBE := hid hbel
      clear hown hbel HE
      go_wp2
      go_ret
      exact ⟨t, g, c', HS.out, rfl, owns_base HO.out HB.out.size, HB.out.trans (HBE.out.mono HB.out.size)⟩
    · have HK := hid (show S + 1 - cntN G L S t ≤ gk from by
        rcases HE.out with ⟨_, h⟩ | ⟨h, _⟩
        · exact h
        · cases h)
      have HC1 := hid (fun h => cnt_grow (G := G) (L := L) (S := S) (t := t) h HK.out)
      have HC2 := hid (show 0 < gk from by have := HK.out; have := cnt_le G L S t; omega)
      have HD := hid (dif_rep (G := G) (L := L) (S := S) (t := t))
      have HST := hid (fun h => rep_stab (G := G) (L := L) (S := S) (t := t) h)
      have HRT := hid (HRS.out t)
      have HEQ := hid (relN_eqR G L (t + 1))
      have HCM := hid (relN_comm G L (t + 1))
      obtain ⟨R, hR⟩ : ∃ R, R = relN G L (t + 1) := ⟨_, rfl⟩
      obtain ⟨cls, hcls⟩ : ∃ cls, cls = repL (relN G L t) S := ⟨_, rfl⟩
      have HR := hid hR
      have HCLS := hid hcls
      have hcl := hid (show cls.length = S by rw [hcls, repL_len])
      rw [← hR] at HEQ HCM HD HRT HST
      rw [← hcls] at hown HD HRT HST
      have HO := hid hown
      have HBE := hid hbel
      have hBw := hbel.size
      have hgl : g < wr.heap.size := (hown.lt g rfl).2
      obtain ⟨⟨p0, p1, p2⟩, _⟩ := HBX.out wr hbel
      clear hown hbel HE hR hcls HK HRS
      obtain ⟨wo, rfl⟩ : ∃ wo, wo = wr := ⟨_, rfl⟩
      go_wp2_with (first | (at_make; refine wpList_make_full _ rfl _ _ 41 rfl W2.heap.size 3 ti (.int .i64 0) 1 Tryd.underlying41 hi hz hz1 .i64 .i64 _ _ S rfl rfl rfl rfl (by rw [hz2]; omega) (by unfold maxLen; omega) hBw ?_; intro w3 hown3 hgr3; have hb3 : Below wo.heap.size wo w3 := (Below.refl _ _).grown hgr3 (Nat.le_refl _) (by intro k h; cases h); have hbel3 := HBE.out.trans (hb3.mono hBw); obtain ⟨⟨p0, p1, p2⟩, _⟩ := HBX.out w3 hbel3))
      rw [← nxS_zero R S] at hown3
      have HN3 := hid hown3
      have HO3 := hid (owns_below HO.out hb3)
      have HB3 := hid hbel3
      clear hown3 hgr3 hb3 hbel3 p0 p1 p2 HO HBE
      obtain ⟨gN, hgN⟩ : ∃ gN, gN = wo.heap.size := ⟨_, rfl⟩
      rw [← hgN] at HN3 hgl hBw
      rw [← hgN]
      have hne : ¬ (g = gN) := by omega
      have HGN := hid hgN
      clear hgN
      go_loopw [6] (fun i wr => ∃ p : Nat, p ≤ S ∧ i = .int .i64 p ∧ wr.ownsRow W2.heap.size 3 1 (.slice (some ⟨gN, 0, none⟩) S S) S (intVals (nxS R S p 0)) ∧ wr.ownsRow W2.heap.size 3 1 (.slice (some ⟨g, 0, none⟩) S c') S (intVals cls) ∧ Below W2.heap.size W2 wr) (fun i _ => S - (intOf i).toNat)
      case atStart => exact ⟨0, by omega, rfl, HN3.out, HO3.out, HB3.out⟩
      case round =>
        clear HN3 HO3 HB3
        obtain ⟨p, hp, rfl, hnx, hcw, hbel⟩ := hrel
        obtain ⟨⟨p0, p1, p2⟩, _⟩ := HBX.out wr hbel
        by_cases hlt : p < S
        · have hpi : (p : Int) < (S : Int) := by omega
          have hnc := (hnx.cellAt p (by omega)).trans (intVals_get (nxS_at hlt))
          have hnf := hnx.frozenAt p
          have hst := hnx.stored p (.int .i64 (p : Int))
          rw [nxS_set] at hst
          have HN1 := hid hst.1
          have HO1 := hid (hcw.kept hst.2 (.inr (by simp [Value.ownBlock]; omega)))
          have HB1 := hid (hbel.grown hst.2 hbel.size (by rintro k ⟨⟩; exact hBw))
          clear hnx hcw hst hbel
          go_wp2
          go_loopw [7] (fun i wr => ∃ (j : Nat) (x : Int), j ≤ p ∧ i = .int .i64 x ∧ Hid (x = (j : Int) - 1) ∧ wr.ownsRow W2.heap.size 3 1 (.slice (some ⟨gN, 0, none⟩) S S) S (intVals (nxS R S p (nxtV R p j))) ∧ wr.ownsRow W2.heap.size 3 1 (.slice (some ⟨g, 0, none⟩) S c') S (intVals cls) ∧ Below W2.heap.size W2 wr) (fun i _ => (intOf i + 1).toNat)
          case atStart => exact ⟨p, (p : Int) - 1, by omega, by go_num, hid rfl, by rw [nxtV_top]; exact HN1.out, HO1.out, HB1.out⟩
          case round =>
            clear HN1 HO1 HB1 p0 p1 p2
            obtain ⟨j, x, hj, rfl, HX, hnx, hcw, hbel⟩ := hrel
            obtain ⟨⟨p0, p1, p2⟩, _⟩ := HBX.out wr hbel
            cases j with
            | zero =>
              obtain rfl : x = -1 := by have := HX.out; omega
              rw [nxtV_end HEQ.out, nxS_next] at hnx
              have HN1 := hid hnx
              have HO1 := hid hcw
              have HB1 := hid hbel
              clear hnx hcw hbel
              go_wp2
              go_roundw
              case rel => exact ⟨p + 1, by omega, by go_num, HN1.out, HO1.out, HB1.out⟩
              case measure => simp [intOf] <;> omega
            | succ q =>
              obtain rfl : x = (q : Int) := by have := HX.out; omega
              have hqS : q < S := by omega
              have hqi : (q : Int) < (S : Int) := by omega
              obtain ⟨yq, hyq⟩ := get_some (l := cls) (n := q) (by rw [hcl.out]; omega)
              obtain ⟨yp, hyp⟩ := get_some (l := cls) (n := p) (by rw [hcl.out]; omega)
              have hcq := (hcw.cellAt q (by omega)).trans (intVals_get hyq)
              have hcp := (hcw.cellAt p (by omega)).trans (intVals_get hyp)
              have hglr : g < wr.heap.size := (hcw.lt g rfl).2
              have HN1 := hid hnx
              have HO1 := hid hcw
              have HB1 := hid hbel
              have HRQ := hid (HRT.out p q hlt hqS)
              have HHIT := hid (fun h : R p q = true => nxtV_hit HEQ.out (p := p) (j := q) (by omega) (by rw [HCM.out]; exact h))
              have HMISS := hid (fun h : R p q = false => nxtV_miss (r := R) (p := p) (j := q) (by rw [HCM.out]; exact h))
              have HCE := hid (show clR cls p q = decide (yp = yq) from by unfold clR; rw [List.getD_eq_getElem?_getD, List.getD_eq_getElem?_getD, hyp, hyq]; rfl)
              clear hyq hyp hnx hcw hbel HX
              by_cases e : yq = yp
              · have HRQ := hid (show R p q = alTo cls G p q L from by rw [← HRQ.out, HCE.out, decide_eq_true e.symm]; rfl)
                obtain ⟨ar, hrr⟩ : ∃ ar : Option Addr, ar = some ⟨g, 0, none⟩ := ⟨_, rfl⟩
                have HAP := hid (fun (V : World) (hV : Below wr.heap.size wr V) => by
                  obtain ⟨a', c'', he, hra⟩ := owns_rowAt (owns_below HO1.out hV) (by omega)
                  simp only [Value.slice.injEq, true_and] at he
                  obtain ⟨rfl, rfl⟩ := he
                  exact HAL.out V (some ⟨g, 0, none⟩) c' cls p q (HB.out.trans ((HB1.out.trans (hV.mono HB1.out.size)).mono HB.out.size)) hra hcl.out hlt hqS)
                obtain ⟨Z, hZ⟩ : ∃ Z, Z = alTo cls G p q L := ⟨_, rfl⟩
                rw [← hZ] at HAP HRQ
                clear hZ hrr HCE ar
                subst e
                have hbZ : Below wr.heap.size wr wr.drew := (Below.refl _ _).drew
                have HKK := hid (fun (V : World) (hV : Below wr.heap.size wr V) => show V.cell? ⟨w.heap.size, 0, none⟩ = some (.int .i64 L) ∧ V.cell? ⟨w.heap.size, 1, none⟩ = some (.int .i64 S) ∧ V.cell? ⟨w.heap.size, 2, none⟩ = some (.slice a n c) ∧ V.cell? ⟨g, q, none⟩ = some (.int .i64 yq) ∧ V.cell? ⟨g, p, none⟩ = some (.int .i64 yq) ∧ Below wr.heap.size wr V from by
                  obtain ⟨⟨q0, q1, q2⟩, _⟩ := HBX.out V (HB1.out.trans (hV.mono HB1.out.size))
                  exact ⟨q0, q1, q2, (hV.cell (p := ⟨g, q, none⟩) hglr).trans hcq, (hV.cell (p := ⟨g, p, none⟩) hglr).trans hcp, hV⟩)
                go_wp2
                go_region_held3 (fun V => V.cell? ⟨w.heap.size, 0, none⟩ = some (.int .i64 L) ∧ V.cell? ⟨w.heap.size, 1, none⟩ = some (.int .i64 S) ∧ V.cell? ⟨w.heap.size, 2, none⟩ = some (.slice a n c) ∧ V.cell? ⟨g, q, none⟩ = some (.int .i64 yq) ∧ V.cell? ⟨g, p, none⟩ = some (.int .i64 yq) ∧ Below wr.heap.size wr V)
                  (first | with_reducible exact HKK.out _ hbZ)
                  (first | (go_at_call 64; refine (HAP.out _ hbZ).mono ?_; rintro e w3 ⟨rfl, hb3⟩; have hbZ := hbZ.trans (hb3.mono hbZ.size)))
                all_goals
                  have HN2 := hid (owns_below HN1.out hbZ)
                  have HO2 := hid (owns_below HO1.out hbZ)
                  have HB2 := hid (HB1.out.trans (hbZ.mono HB1.out.size))
                  clear HN1 HO1 HB1 HKK HAP p0 p1 p2 hcq hcp hb3
                  cases Z with
                  | false =>
                    have HM := hid (HMISS.out HRQ.out)
                    clear HMISS HHIT HRQ
                    go_wp2
                    go_roundw
                    case rel => exact ⟨q, (q : Int) - 1, by omega, by go_num, hid rfl, by rw [HM.out]; exact HN2.out, HO2.out, HB2.out⟩
                    case measure => simp [intOf] <;> omega
                  | true =>
                    have HM := hid (HHIT.out HRQ.out)
                    clear HMISS HHIT HRQ
                    have hnc := (HN2.out.cellAt p (by omega)).trans (intVals_get (nxS_at hlt))
                    have hnq := (HN2.out.cellAt q (by omega)).trans (intVals_get (nxS_low (show q < p by omega) hlt))
                    have hnf := HN2.out.frozenAt p
                    have hst := HN2.out.stored p (.int .i64 ((repN R q : Nat) : Int))
                    rw [nxS_set] at hst
                    have HN3 := hid hst.1
                    have HO3 := hid (HO2.out.kept hst.2 (.inr (by simp [Value.ownBlock]; omega)))
                    have HB3 := hid (HB2.out.grown hst.2 HB2.out.size (by rintro k ⟨⟩; exact hBw))
                    clear hst HN2 HO2 HB2
                    obtain ⟨rq, hrq⟩ : ∃ rq, rq = repN R q := ⟨_, rfl⟩
                    rw [← hrq] at hnq HN3 HO3 HB3 HM
                    clear hrq
                    go_wp2
                    go_roundw
                    case rel => exact ⟨q, (q : Int) - 1, by omega, by go_num, hid rfl, by rw [HM.out]; exact HN3.out, HO3.out, HB3.out⟩
                    case measure => simp [intOf] <;> omega
              · have HM := hid (HMISS.out (by rw [← HRQ.out, HCE.out, decide_eq_false (fun h => e h.symm)]; rfl))
                have ge : (yq == yp) = false := by simpa using e
                have ge2 : decide (yq = yp) = false := decide_eq_false e
                clear HRQ HHIT HMISS HCE
                go_wp2
                go_quiet (fail)
                go_wp2
                go_roundw
                case rel => exact ⟨q, (q : Int) - 1, by omega, by go_num, hid rfl, by rw [HM.out]; exact own_drewN HN1.out _, own_drewN HO1.out _, below_drewN HB1.out _⟩
                case measure => simp [intOf] <;> omega
        · obtain rfl : p = S := by omega
          rw [nxS_end] at hnx
          have HN1 := hid hnx
          have HO1 := hid hcw
          have HB1 := hid hbel
          clear hnx hcw hbel
          go_wp2
          go_loopw [4, 8] (fun ch i wr => ∃ j : Nat, j ≤ p ∧ i = .int .i64 j ∧ ch = .bool (difTo (repL R p) cls j) ∧ wr.ownsRow W2.heap.size 3 1 (.slice (some ⟨gN, 0, none⟩) p p) p (intVals (repL R p)) ∧ Hid (wr.ownsRow W2.heap.size 3 1 (.slice (some ⟨g, 0, none⟩) p c') p (intVals cls)) ∧ Below W2.heap.size W2 wr) (fun _ i _ => p - (intOf i).toNat)
          case atStart => exact ⟨0, by omega, rfl, rfl, HN1.out, hid HO1.out, HB1.out⟩
          case round =>
            clear HN1 HO1 HB1 p0 p1 p2
            obtain ⟨j, hj, rfl, rfl, hnx, HO1, hbel⟩ := hrel
            obtain ⟨⟨p0, p1, p2⟩, _⟩ := HBX.out wr hbel
            by_cases hlj : j < p
            · have hji : (j : Int) < (p : Int) := by omega
              obtain ⟨yc, hyc⟩ := get_some (l := cls) (n := j) (by rw [hcl.out]; omega)
              obtain ⟨yn, hyn⟩ := get_some (l := repL R p) (n := j) (by rw [repL_len]; omega)
              have hcc := (HO1.out.cellAt j (by omega)).trans (intVals_get hyc)
              have hcn := (hnx.cellAt j (by omega)).trans (intVals_get hyn)
              have HDS := hid (show difTo (repL R p) cls (j + 1) = (difTo (repL R p) cls j || !decide (yn = yc)) from by rw [difTo_succ, List.getD_eq_getElem?_getD, List.getD_eq_getElem?_getD, hyn, hyc]; rfl)
              have HN1 := hid hnx
              have HB1 := hid hbel
              obtain ⟨b, hb⟩ : ∃ b, b = difTo (repL R p) cls j := ⟨_, rfl⟩
              rw [← hb] at HDS
              rw [← hb]
              clear hyc hyn hnx hbel hb
              cases b with
              | true =>
                have HDS := hid (show difTo (repL R p) cls (j + 1) = true from HDS.out)
                go_wp2
                go_quiet (fail)
                go_wp2
                go_roundw
                case rel => exact ⟨j + 1, by omega, by go_num, by rw [HDS.out], own_drewN HN1.out _, hid (own_drewN HO1.out _), below_drewN HB1.out _⟩
                case measure => simp [intOf] <;> omega
              | false =>
                by_cases e : yn = yc
                · have HDT := hid (show difTo (repL R p) cls (j + 1) = false from by rw [HDS.out, decide_eq_true e]; rfl)
                  clear HDS
                  subst e
                  have ge : (yn != yn) = false := by simp
                  go_wp2
                  go_quiet (fail)
                  go_wp2
                  go_roundw
                  case rel => exact ⟨j + 1, by omega, by go_num, by rw [HDT.out], own_drewN HN1.out _, hid (own_drewN HO1.out _), below_drewN HB1.out _⟩
                  case measure => simp [intOf] <;> omega
                · have HDS := hid (show difTo (repL R p) cls (j + 1) = true from by rw [HDS.out, decide_eq_false e]; rfl)
                  have ge : (yn != yc) = true := by simpa using e
                  have ge2 : decide (yn = yc) = false := decide_eq_false e
                  go_wp2
                  go_quiet (fail)
                  go_wp2
                  go_roundw
                  case rel => exact ⟨j + 1, by omega, by go_num, by rw [HDS.out], own_drewN HN1.out _, hid (own_drewN HO1.out _), below_drewN HB1.out _⟩
                  case measure => simp [intOf] <;> omega
            · obtain rfl : j = p := by omega
              have HN1 := hid hnx
              have HB1 := hid hbel
              obtain ⟨b, hb⟩ : ∃ b, b = difTo (repL R j) cls j := ⟨_, rfl⟩
              rw [← hb] at HD
              rw [← hb]
              clear hnx hbel hb HO1
              cases b with
              | true =>
                have HNS := hid (show ¬ stabN G L j t from fun h => by have := HD.out.2 h; cases this)
                have HC := hid (HC1.out HNS.out)
                go_wp2
                go_roundg (j + 1 - cntN G L j (t + 1))
                case measure => exact HC.out
                case rel => exact ⟨t + 1, gN, j, true, rfl, rfl, by rw [← HR.out]; exact HN1.out, HB1.out, hid (.inl ⟨rfl, Nat.le_refl _⟩)⟩
              | false =>
                have HS := hid (HD.out.1 rfl)
                go_wp2
                go_roundg 0
                case measure => exact HC2.out
                case rel => exact ⟨t, gN, j, false, rfl, rfl, by rw [← HCLS.out, ← HST.out HS.out]; exact HN1.out, HB1.out, hid (.inr ⟨rfl, HS.out⟩)⟩
end Go.Proofs.YtpfeflhcbcgbfaaDoor
