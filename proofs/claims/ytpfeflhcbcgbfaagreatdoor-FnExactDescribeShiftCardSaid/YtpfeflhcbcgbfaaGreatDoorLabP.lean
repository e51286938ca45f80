/- Labelled graphs as plain lists of arcs: when they are valid, where letters lead, what is left when they are trimmed. Plain laws, no program. -/
import Derived.Test.YtpfeflhcbcgbfaaGreatDoorKeptS
import Derived.Test.YtpfeflhcbcgbfaaGreatDoorMat
namespace Go.Proofs.YtpfeflhcbcgbfaaGreatDoor
open Go.RowKit

def edg (rows : List (List Int)) (p q : Nat) : Prop := (q : Int) ∈ rows.getD p []
/-- Numbers that lie in a set in which each has a follower and a forerunner. -/
def LiveG (rows : List (List Int)) (M i : Nat) : Prop := ∃ T : Nat → Prop, T i ∧ ∀ q, T q → q < M ∧ (∃ r, edg rows q r ∧ T r) ∧ ∃ r, edg rows r q ∧ T r
def liv (K : Nat → Bool) (x : Int) : Bool := K x.toNat
def bhB (K : Nat → Bool) (rows : List (List Int)) (k i p : Nat) : Bool := K p && (if p < k then (rows.getD p []).any (liv K) else if p = k then ((rows.getD p []).take i).any (liv K) else false)
def ahB (K : Nat → Bool) (rows : List (List Int)) (k i q : Nat) : Bool := K q && ((List.range k).any (fun p => K p && (rows.getD p []).any fun e => decide (e = (q : Int))) || (K k && ((rows.getD k []).take i).any fun e => decide (e = (q : Int))))
theorem bh_start (K : Nat → Bool) (rows : List (List Int)) (p : Nat) : bhB K rows 0 0 p = false := by
  unfold bhB
  rw [if_neg (by omega)]
  by_cases h : p = 0 <;> simp [h]
theorem ah_start (K : Nat → Bool) (rows : List (List Int)) (q : Nat) : ahB K rows 0 0 q = false := by simp [ahB]
theorem bh_next (K : Nat → Bool) {rows : List (List Int)} {k : Nat} {r : List Int} (hr : rows[k]? = some r) (p : Nat) : bhB K rows k r.length p = bhB K rows (k + 1) 0 p := by
  have e : rows.getD k [] = r := by rw [List.getD_eq_getElem?_getD, hr]; rfl
  unfold bhB
  by_cases h1 : p < k
  · rw [if_pos h1, if_pos (by omega)]
  · by_cases h2 : p = k
    · subst h2
      rw [if_neg h1, if_pos rfl, if_pos (by omega), e, List.take_length]
    · rw [if_neg h1, if_neg h2, if_neg (by omega)]
      by_cases h3 : p = k + 1
      · rw [if_pos h3]; simp
      · rw [if_neg h3]
theorem ah_next (K : Nat → Bool) {rows : List (List Int)} {k : Nat} {r : List Int} (hr : rows[k]? = some r) (q : Nat) : ahB K rows k r.length q = ahB K rows (k + 1) 0 q := by
  have e : rows.getD k [] = r := by rw [List.getD_eq_getElem?_getD, hr]; rfl
  unfold ahB
  rw [e, List.take_length, List.range_succ, List.any_append, List.any_cons, List.any_nil, Bool.or_false, e, List.take_zero, List.any_nil, Bool.and_false, Bool.or_false]
theorem take_any {α : Type} {r : List α} {i : Nat} {x : α} (h : r[i]? = some x) (f : α → Bool) : (r.take (i + 1)).any f = ((r.take i).any f || f x) := by
  rw [List.take_add_one, h, List.any_append]; simp
theorem bh_yes {K : Nat → Bool} {rows : List (List Int)} {k i x : Nat} {r : List Int} (hr : rows[k]? = some r) (hx : r[i]? = some (x : Int)) (hk : K k = true) (hkx : K x = true) (p : Nat) :
    (if p = k then true else bhB K rows k i p) = bhB K rows k (i + 1) p := by
  have e : rows.getD k [] = r := by rw [List.getD_eq_getElem?_getD, hr]; rfl
  unfold bhB
  by_cases h2 : p = k
  · subst h2
    rw [if_pos rfl, if_neg (by omega), if_pos rfl, e, take_any hx, show liv K (x : Int) = true from hkx, hk]; simp
  · rw [if_neg h2, if_neg h2, if_neg h2]
theorem ah_yes {K : Nat → Bool} {rows : List (List Int)} {k i x : Nat} {r : List Int} (hr : rows[k]? = some r) (hx : r[i]? = some (x : Int)) (hk : K k = true) (hkx : K x = true) (q : Nat) :
    (if q = x then true else ahB K rows k i q) = ahB K rows k (i + 1) q := by
  have e : rows.getD k [] = r := by rw [List.getD_eq_getElem?_getD, hr]; rfl
  unfold ahB
  rw [e, take_any hx]
  by_cases h2 : q = x
  · subst h2
    rw [if_pos rfl, hk, hkx]; simp
  · rw [if_neg h2, show decide ((x : Int) = (q : Int)) = false by simp; omega, Bool.or_false]
theorem bh_no {K : Nat → Bool} {rows : List (List Int)} {k i x : Nat} {r : List Int} (hr : rows[k]? = some r) (hx : r[i]? = some (x : Int)) (h : (K k && K x) = false) (p : Nat) : bhB K rows k i p = bhB K rows k (i + 1) p := by
  have e : rows.getD k [] = r := by rw [List.getD_eq_getElem?_getD, hr]; rfl
  unfold bhB
  by_cases h2 : p = k
  · subst h2
    rw [if_neg (Nat.lt_irrefl p), if_pos rfl, if_neg (Nat.lt_irrefl p), if_pos rfl, e, take_any hx, show liv K (x : Int) = K x from rfl]
    cases hk : K p
    · rfl
    · rw [hk, Bool.true_and] at h
      rw [h, Bool.or_false]
  · rw [if_neg h2, if_neg h2]
theorem ah_no {K : Nat → Bool} {rows : List (List Int)} {k i x : Nat} {r : List Int} (hr : rows[k]? = some r) (hx : r[i]? = some (x : Int)) (h : (K k && K x) = false) (q : Nat) : ahB K rows k i q = ahB K rows k (i + 1) q := by
  have e : rows.getD k [] = r := by rw [List.getD_eq_getElem?_getD, hr]; rfl
  unfold ahB
  rw [e, take_any hx]
  by_cases h2 : q = x
  · subst h2
    cases hk : K q
    · rfl
    · rw [hk, Bool.and_true] at h
      rw [h, Bool.false_and, Bool.false_and]
  · rw [show decide ((x : Int) = (q : Int)) = false by simp; omega, Bool.or_false]
theorem bh_end {K : Nat → Bool} {rows : List (List Int)} {M p : Nat} (hrow : ∀ (i : Nat) (r : List Int), rows[i]? = some r → ∀ x ∈ r, 0 ≤ x ∧ x < (M : Int)) (hp : p < M) : bhB K rows M 0 p = true ↔ K p = true ∧ ∃ r, edg rows p r ∧ K r = true := by
  unfold bhB edg
  rw [if_pos hp, Bool.and_eq_true, List.any_eq_true]
  refine and_congr Iff.rfl ⟨fun ⟨x, hx, h⟩ => ?_, fun ⟨r, hr, h⟩ => ⟨_, hr, h⟩⟩
  cases hg : rows[p]? with
  | none => rw [List.getD_eq_getElem?_getD, hg] at hx; cases hx
  | some r =>
    have e : rows.getD p [] = r := by rw [List.getD_eq_getElem?_getD, hg]; rfl
    have hb := hrow p r hg x (by rw [← e]; exact hx)
    exact ⟨x.toNat, by rw [show ((x.toNat : Nat) : Int) = x by omega]; exact hx, h⟩
theorem ah_end {K : Nat → Bool} {rows : List (List Int)} {M q : Nat} : ahB K rows M 0 q = true ↔ K q = true ∧ ∃ r, r < M ∧ edg rows r q ∧ K r = true := by
  unfold ahB edg
  rw [Bool.and_eq_true, List.take_zero, List.any_nil, Bool.and_false, Bool.or_false, List.any_eq_true]
  refine and_congr Iff.rfl ⟨fun ⟨x, hx, h⟩ => ?_, fun ⟨r, hr, h, hk⟩ => ⟨r, List.mem_range.2 hr, ?_⟩⟩
  · rw [Bool.and_eq_true, List.any_eq_true] at h
    obtain ⟨h1, y, hy, h2⟩ := h
    rw [decide_eq_true_eq] at h2
    exact ⟨x, List.mem_range.1 hx, by rw [← h2]; exact hy, h1⟩
  · rw [Bool.and_eq_true, List.any_eq_true]
    exact ⟨hk, _, h, by simp⟩
/-! What is struck in a round. -/
def chH (K H : Nat → Bool) (r : Nat) : Bool := (List.range r).any fun i => K i && !H i
theorem chH_succ (K H : Nat → Bool) (r : Nat) : chH K H (r + 1) = (chH K H r || (K r && !H r)) := by simp [chH, List.range_succ]
theorem chH_no {K H : Nat → Bool} {M : Nat} (h : chH K H M = false) {i : Nat} (hi : i < M) (hk : K i = true) : H i = true := by
  cases hh : H i
  · have : chH K H M = true := by
      unfold chH
      rw [List.any_eq_true]
      exact ⟨i, List.mem_range.2 hi, by simp [hk, hh]⟩
    rw [h] at this; cases this
  · rfl
theorem chH_yes {K H : Nat → Bool} {M : Nat} (h : chH K H M = true) : ∃ i, i < M ∧ K i = true ∧ H i = false := by
  unfold chH at h
  rw [List.any_eq_true] at h
  obtain ⟨i, hi, h2⟩ := h
  simp at h2
  exact ⟨i, List.mem_range.1 hi, h2⟩
def LivePost (rows : List (List Int)) (M : Nat) (w : World) (e : Ending) (w' : World) : Prop :=
  ∃ v K, e = .returned v ∧ w'.ownsRow w.heap.size 4 1 v M (boolVals (rowB K M)) ∧ Below w.heap.size w w' ∧ (∀ i, i < M → (K i = true ↔ LiveG rows M i))
/-- What is left when nothing more is struck. -/
theorem live_end {K : Nat → Bool} {rows : List (List Int)} {M : Nat} (hrow : ∀ (i : Nat) (r : List Int), rows[i]? = some r → ∀ x ∈ r, 0 ≤ x ∧ x < (M : Int)) (hlen : rows.length = M) (h1 : ∀ i, i < M → LiveG rows M i → K i = true)
    (h2 : ∀ i, i < M → K i = true → (bhB K rows M 0 i && ahB K rows M 0 i) = true) : ∀ i, i < M → (K i = true ↔ LiveG rows M i) := by
  intro i hi
  refine ⟨fun hk => ⟨fun j => j < M ∧ K j = true, ⟨hi, hk⟩, fun q hq => ⟨hq.1, ?_, ?_⟩⟩, h1 i hi⟩
  · have h3 := h2 q hq.1 hq.2
    rw [Bool.and_eq_true, bh_end hrow hq.1] at h3
    obtain ⟨⟨_, r, hr, hkr⟩, _⟩ := h3
    refine ⟨r, hr, ?_, hkr⟩
    unfold edg at hr
    cases hg : rows[q]? with
    | none => rw [List.getD_eq_getElem?_getD, hg] at hr; cases hr
    | some r' =>
      have e : rows.getD q [] = r' := by rw [List.getD_eq_getElem?_getD, hg]; rfl
      have := hrow q r' hg _ (by rw [← e]; exact hr)
      omega
  · have h3 := h2 q hq.1 hq.2
    rw [Bool.and_eq_true, ah_end] at h3
    obtain ⟨_, _, r, hr, he, hkr⟩ := h3
    exact ⟨r, he, hr, hkr⟩
theorem live_step {K : Nat → Bool} {rows : List (List Int)} {M : Nat} (hrow : ∀ (i : Nat) (r : List Int), rows[i]? = some r → ∀ x ∈ r, 0 ≤ x ∧ x < (M : Int)) (h1 : ∀ i, i < M → LiveG rows M i → K i = true) :
    ∀ i, i < M → LiveG rows M i → (K i && (bhB K rows M 0 i && ahB K rows M 0 i)) = true := by
  intro i hi hl
  have hk := h1 i hi hl
  obtain ⟨T, ht, hT⟩ := hl
  have hin : ∀ q, T q → K q = true := fun q hq => h1 q (hT q hq).1 ⟨T, hq, hT⟩
  obtain ⟨_, ⟨r, hr, htr⟩, ⟨s, hs, hts⟩⟩ := hT i ht
  rw [Bool.and_eq_true, Bool.and_eq_true, bh_end hrow hi, ah_end]
  exact ⟨hk, ⟨hk, r, hr, hin r htr⟩, hk, s, (hT s hts).1, hs, hin s hts⟩
end Go.Proofs.YtpfeflhcbcgbfaaGreatDoor
namespace Go.Proofs.YtpfeflhcbcgbfaaGreatDoor
open Go.RowKit

/-! Arcs as cells. -/
def arcVals (A : List (Int × Int × Int)) : List Value := A.flatMap fun a => [.int .i64 a.1, .int .i64 a.2.1, .int .i64 a.2.2]
def arcN (G : List (Nat × Nat × Nat)) : List (Int × Int × Int) := G.map fun a => ((a.1 : Int), (a.2.1 : Int), (a.2.2 : Int))
theorem arcVals_len (A : List (Int × Int × Int)) : (arcVals A).length = A.length * 3 := by
  induction A with
  | nil => rfl
  | cons p ys ih => simp only [arcVals, List.flatMap_cons, List.length_append, List.length_cons, List.length_nil] at ih ⊢; omega
theorem arcVals_snoc (A : List (Int × Int × Int)) (p : Int × Int × Int) : arcVals (A ++ [p]) = arcVals A ++ [.int .i64 p.1, .int .i64 p.2.1, .int .i64 p.2.2] := by simp [arcVals]
theorem arcVals_get {p : Int × Int × Int} : ∀ {A : List (Int × Int × Int)} {k : Nat}, A[k]? = some p → (arcVals A)[k * 3]? = some (.int .i64 p.1) ∧ (arcVals A)[k * 3 + 1]? = some (.int .i64 p.2.1) ∧ (arcVals A)[k * 3 + 2]? = some (.int .i64 p.2.2)
  | [], k, h => by simp at h
  | q :: ys, 0, h => by
    simp at h
    subst h
    exact ⟨rfl, rfl, rfl⟩
  | q :: ys, k + 1, h => by
    have ih := arcVals_get (A := ys) (k := k) (by simpa using h)
    have e : arcVals (q :: ys) = .int .i64 q.1 :: .int .i64 q.2.1 :: .int .i64 q.2.2 :: arcVals ys := by simp [arcVals]
    rw [e, show (k + 1) * 3 = k * 3 + 1 + 1 + 1 by omega]
    exact ⟨ih.1, ih.2.1, ih.2.2⟩
theorem arcN_get {G : List (Nat × Nat × Nat)} {k : Nat} {a : Nat × Nat × Nat} (h : G[k]? = some a) : (arcN G)[k]? = some ((a.1 : Int), (a.2.1 : Int), (a.2.2 : Int)) := by simp [arcN, h]
theorem arcN_len (G : List (Nat × Nat × Nat)) : (arcN G).length = G.length := by simp [arcN]
theorem arcN_snoc (G : List (Nat × Nat × Nat)) (a : Nat × Nat × Nat) : arcN (G ++ [a]) = arcN G ++ [((a.1 : Int), (a.2.1 : Int), (a.2.2 : Int))] := by simp [arcN]

/-! When a labelled graph is valid. -/
def befB (a b : Int × Int × Int) : Bool := decide (a.1 < b.1 ∨ (a.1 = b.1 ∧ (a.2.2 < b.2.2 ∨ (a.2.2 = b.2.2 ∧ a.2.1 < b.2.1))))
def arcOkB (L S : Int) (a : Int × Int × Int) : Bool := inB a.1 0 (S - 1) && inB a.2.1 0 (S - 1) && inB a.2.2 0 (L - 1)
def arcAt (A : List (Int × Int × Int)) (k : Nat) : Int × Int × Int := A.getD k (0, 0, 0)
def arcStep (L S : Int) (A : List (Int × Int × Int)) (k : Nat) : Bool := arcOkB L S (arcAt A k) && (k == 0 || befB (arcAt A (k - 1)) (arcAt A k))
def arcsTo (L S : Int) (A : List (Int × Int × Int)) : Nat → Bool | 0 => true | k + 1 => arcsTo L S A k && arcStep L S A k
def labsB (L S : Int) (A : List (Int × Int × Int)) : Bool := inB L 1 3 && inB S 1 12 && arcsTo L S A A.length
theorem arcsTo_stop {L S : Int} {A : List (Int × Int × Int)} {k : Nat} (h : arcStep L S A k = false) : ∀ j, arcsTo L S A (k + 1 + j) = false
  | 0 => by show (arcsTo L S A k && arcStep L S A k) = false; rw [h]; simp
  | j + 1 => by show (arcsTo L S A (k + 1 + j) && _) = false; rw [arcsTo_stop h j]; rfl
theorem arcsTo_all {L S : Int} {A : List (Int × Int × Int)} : ∀ {n : Nat}, arcsTo L S A n = true → ∀ k, k < n → arcStep L S A k = true
  | 0, _, k, hk => by omega
  | n + 1, h, k, hk => by
    unfold arcsTo at h
    rw [Bool.and_eq_true] at h
    by_cases e : k = n
    · subst e; exact h.2
    · exact arcsTo_all h.1 k (by omega)
theorem arcAt_get {A : List (Int × Int × Int)} {k : Nat} {a : Int × Int × Int} (h : A[k]? = some a) : arcAt A k = a := by unfold arcAt; rw [List.getD_eq_getElem?_getD, h]; rfl
/-- A valid labelled graph with k letters and s states. -/
structure LabG (k s : Nat) (G : List (Nat × Nat × Nat)) : Prop where
  k1 : 1 ≤ k
  k3 : k ≤ 3
  s1 : 1 ≤ s
  s12 : s ≤ 12
  arc : ∀ a ∈ G, a.1 < s ∧ a.2.1 < s ∧ a.2.2 < k
theorem labs_some {L S : Int} {A : List (Int × Int × Int)} (h : labsB L S A = true) : ∃ (k s : Nat) (G : List (Nat × Nat × Nat)), L = (k : Int) ∧ S = (s : Int) ∧ A = arcN G ∧ LabG k s G := by
  unfold labsB at h
  simp only [Bool.and_eq_true] at h
  obtain ⟨⟨h1, h2⟩, h3⟩ := h
  rw [inB_iff] at h1 h2
  have hall : ∀ a ∈ A, (0 ≤ a.1 ∧ a.1 ≤ S - 1) ∧ (0 ≤ a.2.1 ∧ a.2.1 ≤ S - 1) ∧ 0 ≤ a.2.2 ∧ a.2.2 ≤ L - 1 := by
    intro a ha
    obtain ⟨i, hi⟩ := List.mem_iff_getElem?.1 ha
    have := arcsTo_all h3 i (List.getElem?_eq_some_iff.1 hi).1
    unfold arcStep arcOkB at this
    rw [arcAt_get hi] at this
    simp only [Bool.and_eq_true, inB_iff] at this
    exact ⟨this.1.1.1, this.1.1.2, this.1.2⟩
  refine ⟨L.toNat, S.toNat, A.map fun a => (a.1.toNat, a.2.1.toNat, a.2.2.toNat), by omega, by omega, ?_, ⟨by omega, by omega, by omega, by omega, fun a ha => ?_⟩⟩
  · unfold arcN
    rw [List.map_map]
    symm
    conv => rhs; rw [← List.map_id A]
    refine List.map_congr_left fun a ha => ?_
    obtain ⟨p1, p2, p3⟩ := hall a ha
    simp only [Function.comp]
    rw [show ((a.1.toNat : Nat) : Int) = a.1 by omega, show ((a.2.1.toNat : Nat) : Int) = a.2.1 by omega, show ((a.2.2.toNat : Nat) : Int) = a.2.2 by omega]
    rfl
  · obtain ⟨b, hb, rfl⟩ := List.mem_map.1 ha
    obtain ⟨p1, p2, p3⟩ := hall b hb
    simp only
    omega

/-! Where letters lead. -/
def stpTo (G : List (Nat × Nat × Nat)) (set x : Nat) : Nat → Nat
  | 0 => 0
  | k + 1 => match G[k]? with
    | none => stpTo G set x k
    | some a => if a.2.2 = x ∧ set / 2 ^ a.1 % 2 = 1 then stpTo G set x k ||| 2 ^ a.2.1 else stpTo G set x k
def stp (G : List (Nat × Nat × Nat)) (set x : Nat) : Nat := stpTo G set x G.length
theorem stpTo_yes {G : List (Nat × Nat × Nat)} {set x k : Nat} {a : Nat × Nat × Nat} (h : G[k]? = some a) (h1 : a.2.2 = x ∧ set / 2 ^ a.1 % 2 = 1) : stpTo G set x (k + 1) = stpTo G set x k ||| 2 ^ a.2.1 := by
  conv => lhs; unfold stpTo
  rw [h]; simp only; rw [if_pos h1]
theorem stpTo_no {G : List (Nat × Nat × Nat)} {set x k : Nat} {a : Nat × Nat × Nat} (h : G[k]? = some a) (h1 : ¬ (a.2.2 = x ∧ set / 2 ^ a.1 % 2 = 1)) : stpTo G set x (k + 1) = stpTo G set x k := by
  conv => lhs; unfold stpTo
  rw [h]; simp only; rw [if_neg h1]
theorem stpTo_lt {G : List (Nat × Nat × Nat)} {set x s : Nat} (h : ∀ a ∈ G, a.2.1 < s) : ∀ k, stpTo G set x k < 2 ^ s
  | 0 => Nat.two_pow_pos s
  | k + 1 => by
    unfold stpTo
    cases hg : G[k]? with
    | none => exact stpTo_lt h k
    | some a =>
      simp only
      split
      · exact Nat.or_lt_two_pow (stpTo_lt h k) (Nat.pow_lt_pow_right (by omega) (h a (List.mem_of_getElem? hg)))
      · exact stpTo_lt h k
theorem stp_lt {G : List (Nat × Nat × Nat)} {set x k s : Nat} (h : LabG k s G) : stp G set x < 2 ^ s := stpTo_lt (fun a ha => (h.arc a ha).2.1) _
theorem two_pow12 {s : Nat} (h : s ≤ 12) : 2 ^ s ≤ 4096 := Nat.le_trans (Nat.pow_le_pow_right (n := 2) (by omega) h) (show (2 : Nat) ^ 12 ≤ 4096 by decide)
/-- The set to which a word leads. -/
def rdTo (G : List (Nat × Nat × Nat)) (set : Nat) (w : List UInt8) : Nat → Nat
  | 0 => set
  | i + 1 => stp G (rdTo G set w i) ((w.getD i 0).toNat - 97)
theorem rdTo_lt {G : List (Nat × Nat × Nat)} {set k s : Nat} (h : LabG k s G) (hs : set < 2 ^ s) (w : List UInt8) : ∀ i, rdTo G set w i < 2 ^ s
  | 0 => hs
  | _ + 1 => stp_lt h

/-! What is left when a graph is trimmed. -/
def numTo (K : Nat → Bool) (i : Nat) : Nat := ((List.range i).filter K).length
theorem numTo_yes {K : Nat → Bool} {i : Nat} (h : K i = true) : numTo K (i + 1) = numTo K i + 1 := by simp [numTo, List.range_succ, List.filter_append, h]
theorem numTo_no {K : Nat → Bool} {i : Nat} (h : K i = false) : numTo K (i + 1) = numTo K i := by simp [numTo, List.range_succ, List.filter_append, h]
theorem numTo_le (K : Nat → Bool) (i : Nat) : numTo K i ≤ i := by have := List.length_filter_le K (List.range i); rwa [List.length_range] at this
theorem numTo_mono (K : Nat → Bool) {i j : Nat} (h : i ≤ j) : numTo K i ≤ numTo K j := by
  induction h with
  | refl => exact Nat.le_refl _
  | step h ih =>
    refine Nat.le_trans ih ?_
    rename_i m
    cases hk : K m
    · rw [numTo_no hk]; exact Nat.le_refl _
    · rw [numTo_yes hk]; omega
theorem numTo_lt {K : Nat → Bool} {i j : Nat} (h : i < j) (hk : K i = true) : numTo K i < numTo K j := by
  have := numTo_mono K (show i + 1 ≤ j from h)
  rw [numTo_yes hk] at this
  omega
def keepArc (K : Nat → Bool) (a : Nat × Nat × Nat) : Bool := K a.1 && K a.2.1
def keepG (K : Nat → Bool) (G : List (Nat × Nat × Nat)) : List (Nat × Nat × Nat) := (G.filter (keepArc K)).map fun a => (numTo K a.1, numTo K a.2.1, a.2.2)
theorem keepG_yes {K : Nat → Bool} {G : List (Nat × Nat × Nat)} {k : Nat} {a : Nat × Nat × Nat} (h : G[k]? = some a) (hk : keepArc K a = true) : keepG K (G.take (k + 1)) = keepG K (G.take k) ++ [(numTo K a.1, numTo K a.2.1, a.2.2)] := by
  rw [List.take_add_one, h]; simp [keepG, hk]
theorem keepG_no {K : Nat → Bool} {G : List (Nat × Nat × Nat)} {k : Nat} {a : Nat × Nat × Nat} (h : G[k]? = some a) (hk : keepArc K a = false) : keepG K (G.take (k + 1)) = keepG K (G.take k) := by
  rw [List.take_add_one, h]; simp [keepG, hk]
theorem keepG_len (K : Nat → Bool) (G : List (Nat × Nat × Nat)) : (keepG K G).length ≤ G.length := by unfold keepG; rw [List.length_map]; exact List.length_filter_le _ _
theorem keepG_lab {K : Nat → Bool} {G : List (Nat × Nat × Nat)} {k s : Nat} (h : LabG k s G) (h0 : numTo K s ≠ 0) : LabG k (numTo K s) (keepG K G) :=
  ⟨h.k1, h.k3, by omega, Nat.le_trans (numTo_le K s) h.s12, fun a ha => by
    obtain ⟨b, hb, rfl⟩ := List.mem_map.1 ha
    obtain ⟨hb1, hb2⟩ := List.mem_filter.1 hb
    unfold keepArc at hb2
    rw [Bool.and_eq_true] at hb2
    obtain ⟨p1, p2, p3⟩ := h.arc b hb1
    exact ⟨numTo_lt p1 hb2.1, numTo_lt p2 hb2.2, p3⟩⟩
theorem numTo_ext {K L : Nat → Bool} {i : Nat} (h : ∀ j, j < i → K j = L j) : numTo K i = numTo L i := by
  unfold numTo
  rw [List.filter_congr fun j hj => h j (List.mem_range.1 hj)]
theorem keepG_ext {K L : Nat → Bool} {G : List (Nat × Nat × Nat)} {k s : Nat} (h : LabG k s G) (he : ∀ j, j < s → K j = L j) : keepG K G = keepG L G := by
  unfold keepG
  rw [List.filter_congr (q := keepArc L) fun a ha => by
    unfold keepArc
    rw [he _ (h.arc a ha).1, he _ (h.arc a ha).2.1]]
  refine List.map_congr_left fun a ha => ?_
  obtain ⟨p1, p2, _⟩ := h.arc a (List.mem_filter.1 ha).1
  rw [numTo_ext (K := K) (L := L) fun j hj => he j (by omega), numTo_ext (K := K) (L := L) (i := a.2.1) fun j hj => he j (by omega)]

/-! The ways of a graph as rows. -/
def edgN (G : List (Nat × Nat × Nat)) (i j : Nat) : Prop := ∃ l, (i, j, l) ∈ G
def rowsG (G : List (Nat × Nat × Nat)) (s : Nat) : List (List Int) := (List.range s).map fun i => (G.filter fun a => decide (a.1 = i)).map fun a => (a.2.1 : Int)
theorem rowsG_get {G : List (Nat × Nat × Nat)} {s i : Nat} (h : i < s) : (rowsG G s)[i]? = some ((G.filter fun a => decide (a.1 = i)).map fun a => (a.2.1 : Int)) := by simp [rowsG, h]
theorem rowsG_edg {G : List (Nat × Nat × Nat)} {s i j : Nat} (h : i < s) : edg (rowsG G s) i j ↔ edgN G i j := by
  unfold edg edgN
  rw [List.getD_eq_getElem?_getD, rowsG_get h]
  simp only [Option.getD_some, List.mem_map, List.mem_filter, decide_eq_true_eq]
  constructor
  · rintro ⟨a, ⟨h1, rfl⟩, h2⟩
    exact ⟨a.2.2, by rw [show j = a.2.1 by omega]; exact h1⟩
  · rintro ⟨l, hl⟩
    exact ⟨_, ⟨hl, rfl⟩, rfl⟩
/-- What lives depends on the ways alone. -/
theorem live_ways {R Q : List (List Int)} {M : Nat} (h : ∀ i j, i < M → j < M → (edg R i j ↔ edg Q i j)) {i : Nat} (hl : LiveG R M i) : LiveG Q M i := by
  obtain ⟨T, ht, hT⟩ := hl
  refine ⟨T, ht, fun q hq => ?_⟩
  obtain ⟨h1, ⟨r, hr, htr⟩, ⟨u, hu, htu⟩⟩ := hT q hq
  exact ⟨h1, ⟨r, (h q r h1 (hT r htr).1).1 hr, htr⟩, ⟨u, (h u q (hT u htu).1 h1).1 hu, htu⟩⟩
end Go.Proofs.YtpfeflhcbcgbfaaGreatDoor
