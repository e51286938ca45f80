/- Labelled graphs, plain laws: the sets that are reached from all states, the shortest word that leads to one state. No program. -/
import Derived.Test.YtpfeflhcbcgbfaaGreatDoorLabP
import Derived.Test.YtpfeflhcbcgbfaaGreatDoorIns
namespace Go.Proofs.YtpfeflhcbcgbfaaGreatDoor
open Go.RowKit

/-! Sets and arcs between them. -/
def posOf (x : Nat) : List Nat → Nat | [] => 0 | y :: l => if y = x then 0 else posOf x l + 1
theorem posOf_lt {x : Nat} : ∀ {l : List Nat}, x ∈ l → posOf x l < l.length
  | y :: l, h => by
    unfold posOf
    by_cases e : y = x
    · rw [if_pos e]; simp
    · rw [if_neg e]
      have := posOf_lt (l := l) (by rcases List.mem_cons.1 h with h | h; exact absurd h.symm e; exact h)
      simp; exact this
theorem posOf_at {x : Nat} : ∀ {l : List Nat}, x ∈ l → l[posOf x l]? = some x
  | y :: l, h => by
    unfold posOf
    by_cases e : y = x
    · rw [if_pos e, e]; rfl
    · rw [if_neg e]
      exact posOf_at (l := l) (by rcases List.mem_cons.1 h with h | h; exact absurd h.symm e; exact h)
theorem posOf_of {x i : Nat} {l : List Nat} (hn : l.Nodup) (h : l[i]? = some x) : posOf x l = i := by
  have hm := List.mem_of_getElem? h
  have h2 := posOf_at hm
  have hi := (List.getElem?_eq_some_iff.1 h).1
  exact (List.getElem?_inj hi hn).1 (h.trans h2.symm) |>.symm
abbrev RsS := List Nat × List (Nat × Nat × Nat)
def rsLet (G : List (Nat × Nat × Nat)) (k set x : Nat) (st : RsS) : RsS :=
  if stp G set x = 0 then st else if stp G set x ∈ st.1 then (st.1, st.2 ++ [(k, posOf (stp G set x) st.1, x)]) else (st.1 ++ [stp G set x], st.2 ++ [(k, st.1.length, x)])
def rsX (G : List (Nat × Nat × Nat)) (k set : Nat) (st : RsS) : Nat → RsS | 0 => st | x + 1 => rsLet G k set x (rsX G k set st x)
def rsK (G : List (Nat × Nat × Nat)) (L full : Nat) : Nat → RsS | 0 => ([full], []) | k + 1 => match (rsK G L full k).1[k]? with | none => rsK G L full k | some set => rsX G k set (rsK G L full k) L
theorem rsK_step {G : List (Nat × Nat × Nat)} {L full k set : Nat} (h : (rsK G L full k).1[k]? = some set) : rsK G L full (k + 1) = rsX G k set (rsK G L full k) L := by
  conv => lhs; unfold rsK
  rw [h]
theorem rsK_stop {G : List (Nat × Nat × Nat)} {L full k : Nat} (h : (rsK G L full k).1.length ≤ k) : ∀ j, rsK G L full (k + j) = rsK G L full k
  | 0 => rfl
  | j + 1 => by
    show rsK G L full ((k + j) + 1) = _
    have ih := rsK_stop h j
    conv => lhs; unfold rsK
    rw [ih, List.getElem?_eq_none (by omega)]
/-- What holds at every stage. -/
structure RsOk (L N k x : Nat) (st : RsS) : Prop where
  new : st.1.Nodup
  pos : ∀ s ∈ st.1, 0 < s ∧ s < N
  arc : ∀ a ∈ st.2, (a.1 < k ∨ (a.1 = k ∧ a.2.2 < x)) ∧ a.1 < st.1.length ∧ a.2.1 < st.1.length ∧ a.2.2 < L
  sort : st.2.Pairwise fun a b => a.1 < b.1 ∨ (a.1 = b.1 ∧ a.2.2 < b.2.2)
theorem RsOk.let_ {G : List (Nat × Nat × Nat)} {L N k x set : Nat} {st : RsS} (h : RsOk L N k x st) (hx : x < L) (hk : k < st.1.length) (hN : stp G set x < N) : RsOk L N k (x + 1) (rsLet G k set x st) ∧ ∃ l, (rsLet G k set x st).1 = st.1 ++ l := by
  unfold rsLet
  by_cases h0 : stp G set x = 0
  · rw [if_pos h0]
    exact ⟨⟨h.new, h.pos, fun a ha => by have := h.arc a ha; omega, h.sort⟩, [], by simp⟩
  · rw [if_neg h0]
    by_cases hm : stp G set x ∈ st.1
    · rw [if_pos hm]
      have hp := posOf_lt hm
      refine ⟨⟨h.new, h.pos, fun a ha => ?_, ?_⟩, [], by simp⟩
      · show _ ∧ a.1 < st.1.length ∧ a.2.1 < st.1.length ∧ _
        rcases List.mem_append.1 ha with ha | ha
        · have := h.arc a ha; omega
        · simp at ha; subst ha; exact ⟨.inr ⟨rfl, by simp⟩, hk, hp, hx⟩
      · rw [List.pairwise_append]
        exact ⟨h.sort, by simp, fun a ha b hb => by
          simp at hb; subst hb
          rcases (h.arc a ha).1 with h1 | h1
          · exact .inl h1
          · exact .inr h1⟩
    · rw [if_neg hm]
      refine ⟨⟨?_, fun s hs => ?_, fun a ha => ?_, ?_⟩, [stp G set x], rfl⟩
      · rw [List.nodup_append]
        exact ⟨h.new, by simp, fun a ha b hb => by simp at hb; subst hb; exact fun e => hm (e ▸ ha)⟩
      · rcases List.mem_append.1 hs with hs | hs
        · exact h.pos s hs
        · simp at hs; subst hs; exact ⟨by omega, hN⟩
      · show _ ∧ _ < (st.1 ++ [stp G set x]).length ∧ _ < (st.1 ++ [stp G set x]).length ∧ _
        rw [List.length_append]
        rcases List.mem_append.1 ha with ha | ha
        · have := h.arc a ha; simp; omega
        · simp at ha; subst ha; exact ⟨.inr ⟨rfl, by simp⟩, by simp; omega, by simp, hx⟩
      · show (st.2 ++ _).Pairwise _
        rw [List.pairwise_append]
        exact ⟨h.sort, by simp, fun a ha b hb => by
          simp at hb; subst hb
          rcases (h.arc a ha).1 with h1 | h1
          · exact .inl h1
          · exact .inr h1⟩
theorem RsOk.xs {G : List (Nat × Nat × Nat)} {L N k set : Nat} {st : RsS} (h : RsOk L N k 0 st) (hk : k < st.1.length) (hN : ∀ x, stp G set x < N) : ∀ x, x ≤ L → RsOk L N k x (rsX G k set st x) ∧ ∃ l, (rsX G k set st x).1 = st.1 ++ l
  | 0, _ => ⟨h, [], by simp [rsX]⟩
  | x + 1, hx => by
    obtain ⟨h1, l, hl⟩ := RsOk.xs h hk hN x (by omega)
    obtain ⟨h2, m, hm⟩ := h1.let_ (G := G) (set := set) (by omega) (by rw [hl]; simp; omega) (hN x)
    exact ⟨h2, l ++ m, by show (rsLet G k set x _).1 = _; rw [hm, hl, List.append_assoc]⟩
theorem RsOk.next {L N k : Nat} {st : RsS} (h : RsOk L N k L st) : RsOk L N (k + 1) 0 st := ⟨h.new, h.pos, fun a ha => by have := h.arc a ha; omega, h.sort⟩
theorem rsK_ok {G : List (Nat × Nat × Nat)} {L N full : Nat} (hf : 0 < full ∧ full < N) (hN : ∀ set x, stp G set x < N) : ∀ k, RsOk L N k 0 (rsK G L full k) ∧ ∃ l, (rsK G L full (k + 1)).1 = (rsK G L full k).1 ++ l
  | 0 => by
    have h0 : RsOk L N 0 0 (rsK G L full 0) := ⟨by simp [rsK], fun s hs => by simp [rsK] at hs; subst hs; exact hf, fun a ha => by simp [rsK] at ha, by simp [rsK]⟩
    exact ⟨h0, by rw [rsK_step (set := full) rfl]; exact (h0.xs (by simp [rsK]) (hN _) L (Nat.le_refl _)).2⟩
  | k + 1 => by
    obtain ⟨h1, _⟩ := rsK_ok (L := L) hf hN k
    have h2 : RsOk L N (k + 1) 0 (rsK G L full (k + 1)) := by
      cases hg : (rsK G L full k).1[k]? with
      | none =>
        rw [rsK_stop (k := k) (by rw [List.getElem?_eq_none_iff] at hg; exact hg) 1]
        exact ⟨h1.new, h1.pos, fun a ha => by have := h1.arc a ha; omega, h1.sort⟩
      | some set =>
        rw [rsK_step hg]
        exact (h1.xs (List.getElem?_eq_some_iff.1 hg).1 (hN _) L (Nat.le_refl _)).1.next
    refine ⟨h2, ?_⟩
    cases hg : (rsK G L full (k + 1)).1[k + 1]? with
    | none => exact ⟨[], by rw [rsK_stop (k := k + 1) (by rw [List.getElem?_eq_none_iff] at hg; exact hg) 1]; simp⟩
    | some set => rw [rsK_step hg]; exact (h2.xs (List.getElem?_eq_some_iff.1 hg).1 (hN _) L (Nat.le_refl _)).2
theorem rsK_len {G : List (Nat × Nat × Nat)} {L N full : Nat} (hf : 0 < full ∧ full < N) (hN : ∀ set x, stp G set x < N) (k j : Nat) : (rsK G L full k).1.length ≤ (rsK G L full (k + j)).1.length := by
  induction j with
  | zero => exact Nat.le_refl _
  | succ j ih =>
    obtain ⟨l, hl⟩ := (rsK_ok (L := L) hf hN (k + j)).2
    refine Nat.le_trans ih ?_
    show _ ≤ (rsK G L full ((k + j) + 1)).1.length
    rw [hl, List.length_append]
    omega
theorem RsOk.few {L N k x : Nat} {st : RsS} (h : RsOk L N k x st) : st.1.length ≤ N := by
  have := nodup_le st.1 (List.range N) h.new fun s hs => List.mem_range.2 (h.pos s hs).2
  simpa using this
/-- The labelled graph of sets, if there are at most twelve. -/
def resAll (G : List (Nat × Nat × Nat)) (L full : Nat) : RsS := rsK G L full 4096
def resO (G : List (Nat × Nat × Nat)) (L full : Nat) : Option (Nat × List (Nat × Nat × Nat)) := if (resAll G L full).1.length ≤ 12 then some ((resAll G L full).1.length, (resAll G L full).2) else none
theorem resAll_at {G : List (Nat × Nat × Nat)} {L full k : Nat} (h : (rsK G L full k).1.length ≤ k) (hk : k ≤ 4096) : resAll G L full = rsK G L full k := by
  have := rsK_stop h (4096 - k)
  rw [show k + (4096 - k) = 4096 by omega] at this
  exact this
theorem resO_none {G : List (Nat × Nat × Nat)} {L N full k : Nat} (hf : 0 < full ∧ full < N) (hN : ∀ set x, stp G set x < N) (hk : k ≤ 4096) (h : 12 < (rsK G L full k).1.length) : resO G L full = none := by
  have := rsK_len (L := L) hf hN k (4096 - k)
  rw [show k + (4096 - k) = 4096 by omega] at this
  unfold resO resAll
  rw [if_neg (by omega)]
/-- Arcs in the order of their beginnings and letters, none twice. -/
def SortG (G : List (Nat × Nat × Nat)) : Prop := G.Pairwise fun a b => a.1 < b.1 ∨ (a.1 = b.1 ∧ a.2.2 < b.2.2)
theorem resO_lab {G A : List (Nat × Nat × Nat)} {L N full n : Nat} (hL : 1 ≤ L ∧ L ≤ 3) (hf : 0 < full ∧ full < N) (hN : ∀ set x, stp G set x < N) (h : resO G L full = some (n, A)) : LabG L n A ∧ SortG A := by
  unfold resO at h
  have hok := (rsK_ok (L := L) hf hN 4096).1
  by_cases h12 : (resAll G L full).1.length ≤ 12
  · rw [if_pos h12] at h
    injection h with h
    injection h with h1 h2
    subst h1 h2
    have h1 : 1 ≤ (resAll G L full).1.length := by
      have h1 := rsK_len (L := L) hf hN 0 4096
      have h2 : (rsK G L full 0).1.length = 1 := rfl
      rw [h2, Nat.zero_add] at h1
      exact h1
    exact ⟨⟨hL.1, hL.2, h1, h12, fun a ha => (hok.arc a ha).2⟩, hok.sort⟩
  · rw [if_neg h12] at h; cases h

/-! The shortest word to one state. -/
def onlyB (s : Nat) : Bool := (List.range 12).any fun p => decide (s = 2 ^ p)

def syLet (G : List (Nat × Nat × Nat)) (p : Nat × List UInt8) (x : Nat) (ys : List (Nat × List UInt8)) : List (Nat × List UInt8) :=
  if stp G p.1 x = 0 ∨ stp G p.1 x ∈ ys.map (·.1) then ys else ys ++ [(stp G p.1 x, p.2 ++ [letB x])]
def syX (G : List (Nat × Nat × Nat)) (p : Nat × List UInt8) (ys : List (Nat × List UInt8)) : Nat → List (Nat × List UInt8) | 0 => ys | x + 1 => syLet G p x (syX G p ys x)
def syK (G : List (Nat × Nat × Nat)) (L full : Nat) : Nat → List (Nat × List UInt8)
  | 0 => [(full, [])]
  | k + 1 => match (syK G L full k)[k]? with | none => syK G L full k | some p => if p.2.length < 16 then syX G p (syK G L full k) L else syK G L full k
structure SyOk (N : Nat) (ys : List (Nat × List UInt8)) : Prop where
  new : (ys.map (·.1)).Nodup
  pos : ∀ p ∈ ys, 0 < p.1 ∧ p.1 < N ∧ p.2.length ≤ 16
theorem SyOk.let_ {G : List (Nat × Nat × Nat)} {N x : Nat} {p : Nat × List UInt8} {ys : List (Nat × List UInt8)} (h : SyOk N ys) (hp : p.2.length < 16) (hN : stp G p.1 x < N) : SyOk N (syLet G p x ys) ∧ ∃ l, syLet G p x ys = ys ++ l := by
  unfold syLet
  by_cases h0 : stp G p.1 x = 0 ∨ stp G p.1 x ∈ ys.map (·.1)
  · rw [if_pos h0]
    exact ⟨h, [], by simp⟩
  · rw [if_neg h0]
    refine ⟨⟨?_, fun q hq => ?_⟩, _, rfl⟩
    · rw [List.map_append, List.nodup_append]
      exact ⟨h.new, by simp, fun a ha b hb => by simp at hb; subst hb; exact fun e => h0 (.inr (e ▸ ha))⟩
    · rcases List.mem_append.1 hq with hq | hq
      · exact h.pos q hq
      · simp at hq
        subst hq
        exact ⟨by show 0 < stp G p.1 x; omega, hN, by simp; omega⟩
theorem SyOk.xs {G : List (Nat × Nat × Nat)} {N : Nat} {p : Nat × List UInt8} {ys : List (Nat × List UInt8)} (h : SyOk N ys) (hp : p.2.length < 16) (hN : ∀ x, stp G p.1 x < N) : ∀ x, SyOk N (syX G p ys x) ∧ ∃ l, syX G p ys x = ys ++ l
  | 0 => ⟨h, [], by simp [syX]⟩
  | x + 1 => by
    obtain ⟨h1, l, hl⟩ := SyOk.xs h hp hN x
    obtain ⟨h2, m, hm⟩ := h1.let_ (G := G) hp (hN x)
    exact ⟨h2, l ++ m, by show syLet G p x _ = _; rw [hm, hl, List.append_assoc]⟩
theorem syK_step {G : List (Nat × Nat × Nat)} {L full k : Nat} {p : Nat × List UInt8} (h : (syK G L full k)[k]? = some p) : syK G L full (k + 1) = if p.2.length < 16 then syX G p (syK G L full k) L else syK G L full k := by
  conv => lhs; unfold syK
  rw [h]
theorem syK_stop {G : List (Nat × Nat × Nat)} {L full k : Nat} (h : (syK G L full k).length ≤ k) : ∀ j, syK G L full (k + j) = syK G L full k
  | 0 => rfl
  | j + 1 => by
    show syK G L full ((k + j) + 1) = _
    have ih := syK_stop h j
    conv => lhs; unfold syK
    rw [ih, List.getElem?_eq_none (by omega)]
theorem syK_ok {G : List (Nat × Nat × Nat)} {L N full : Nat} (hf : 0 < full ∧ full < N) (hN : ∀ set x, stp G set x < N) : ∀ k, SyOk N (syK G L full k) ∧ ∃ l, syK G L full (k + 1) = syK G L full k ++ l := by
  have next : ∀ k, SyOk N (syK G L full k) → SyOk N (syK G L full (k + 1)) ∧ ∃ l, syK G L full (k + 1) = syK G L full k ++ l := by
    intro k h
    cases hg : (syK G L full k)[k]? with
    | none =>
      rw [syK_stop (k := k) (by rw [List.getElem?_eq_none_iff] at hg; exact hg) 1]
      exact ⟨h, [], by simp⟩
    | some p =>
      rw [syK_step hg]
      by_cases h16 : p.2.length < 16
      · rw [if_pos h16]; exact h.xs h16 (hN _) L
      · rw [if_neg h16]; exact ⟨h, [], by simp⟩
  intro k
  have all : ∀ k, SyOk N (syK G L full k) := fun k => by
    induction k with
    | zero => exact ⟨by simp [syK], fun p hp => by simp [syK] at hp; subst hp; exact ⟨hf.1, hf.2, by simp⟩⟩
    | succ k ih => exact (next k ih).1
  exact ⟨all k, (next k (all k)).2⟩
theorem SyOk.few {N : Nat} {ys : List (Nat × List UInt8)} (h : SyOk N ys) : ys.length ≤ N := by
  have := nodup_le (ys.map (·.1)) (List.range N) h.new fun s hs => by
    obtain ⟨p, hp, rfl⟩ := List.mem_map.1 hs
    exact List.mem_range.2 (h.pos p hp).2.1
  simpa using this
theorem syK_more {G : List (Nat × Nat × Nat)} {L N full : Nat} (hf : 0 < full ∧ full < N) (hN : ∀ set x, stp G set x < N) (k j : Nat) : ∃ l, syK G L full (k + j) = syK G L full k ++ l := by
  induction j with
  | zero => exact ⟨[], by simp⟩
  | succ j ih =>
    obtain ⟨l, hl⟩ := ih
    obtain ⟨m, hm⟩ := (syK_ok (L := L) hf hN (k + j)).2
    exact ⟨l ++ m, by show syK G L full ((k + j) + 1) = _; rw [hm, hl, List.append_assoc]⟩
/-- The shortest word to one state, if there is one. -/
def syO (G : List (Nat × Nat × Nat)) (L full : Nat) : Option (List UInt8) := ((syK G L full 4096).find? fun p => onlyB p.1).map (·.2)
theorem find_first {α : Type} {f : α → Bool} : ∀ {l : List α} {k : Nat} {x : α}, l[k]? = some x → f x = true → (∀ (j : Nat) (y : α), j < k → l[j]? = some y → f y = false) → l.find? f = some x
  | [], k, x, h, _, _ => by simp at h
  | y :: l, 0, x, h, hx, _ => by
    simp at h
    subst h
    simp [hx]
  | y :: l, k + 1, x, h, hx, hb => by
    rw [List.find?_cons_of_neg (by rw [hb 0 y (by omega) rfl]; simp)]
    exact find_first (l := l) (k := k) (by simpa using h) hx fun j z hj hz => hb (j + 1) z (by omega) (by simpa using hz)
theorem find_never {α : Type} {f : α → Bool} {l : List α} (h : ∀ (j : Nat) (y : α), l[j]? = some y → f y = false) : l.find? f = none := by
  rw [List.find?_eq_none]
  intro x hx
  obtain ⟨j, hj⟩ := List.mem_iff_getElem?.1 hx
  rw [h j x hj]; simp
theorem syO_some {G : List (Nat × Nat × Nat)} {L N full k : Nat} {p : Nat × List UInt8} (hf : 0 < full ∧ full < N) (hN : ∀ set x, stp G set x < N) (hk : k ≤ 4096) (h : (syK G L full k)[k]? = some p) (hp : onlyB p.1 = true) (hb : ∀ j q, j < k → (syK G L full k)[j]? = some q → onlyB q.1 = false) : syO G L full = some p.2 := by
  obtain ⟨l, hl⟩ := syK_more (L := L) hf hN k (4096 - k)
  rw [show k + (4096 - k) = 4096 by omega] at hl
  have hkl := (List.getElem?_eq_some_iff.1 h).1
  unfold syO
  rw [hl, find_first (k := k) (x := p) (by rw [List.getElem?_append_left hkl]; exact h) hp fun j q hj hq => hb j q hj (by rwa [List.getElem?_append_left (by omega)] at hq)]
  rfl
theorem syO_none {G : List (Nat × Nat × Nat)} {L full k : Nat} (hk : k ≤ 4096) (h : (syK G L full k).length ≤ k) (hb : ∀ j q, j < k → (syK G L full k)[j]? = some q → onlyB q.1 = false) : syO G L full = none := by
  have := syK_stop h (4096 - k)
  rw [show k + (4096 - k) = 4096 by omega] at this
  unfold syO
  rw [this, find_never fun j q hq => hb j q (by have := (List.getElem?_eq_some_iff.1 hq).1; omega) hq]
  rfl
end Go.Proofs.YtpfeflhcbcgbfaaGreatDoor
