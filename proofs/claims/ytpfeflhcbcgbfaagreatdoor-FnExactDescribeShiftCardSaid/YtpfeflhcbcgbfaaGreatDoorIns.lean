/- A value put into an ascending list, once: plain laws. No condition. -/
import Derived.Lib.SlicesCompact
namespace Go.Proofs.YtpfeflhcbcgbfaaGreatDoor
open Go.Lib Go.Sort

theorem nodup_le {α : Type} [DecidableEq α] : ∀ (l m : List α), l.Nodup → (∀ x ∈ l, x ∈ m) → l.length ≤ m.length
  | [], _, _, _ => Nat.zero_le _
  | x :: l, m, hd, hs => by
    have hx : x ∈ m := hs x (by simp)
    rw [List.nodup_cons] at hd
    have h1 := nodup_le l (m.erase x) hd.2 (fun y hy => (List.mem_erase_of_ne (fun e : y = x => hd.1 (by rw [← e]; exact hy))).2 (hs y (by simp [hy])))
    rw [List.length_erase_of_mem hx] at h1
    have : 0 < m.length := List.length_pos_of_mem hx
    simp
    omega
theorem nodup_eq {α : Type} [DecidableEq α] {l m : List α} (hl : l.Nodup) (hm : m.Nodup) (h : ∀ x, x ∈ l ↔ x ∈ m) : l.length = m.length :=
  Nat.le_antisymm (nodup_le l m hl fun x hx => (h x).1 hx) (nodup_le m l hm fun x hx => (h x).2 hx)
/-- Of a list in order what is kept are its different values. -/
theorem compactUp_facts {α : Type} [Inhabited α] [DecidableEq α] (le : α → α → Prop) (hanti : ∀ a b, le a b → le b a → a = b) (d : Array α) (hs : ∀ i j, i < j → j < d.size → le d[i]! d[j]!) :
    ∀ m, m ≤ d.size → (compactUpTo d m).Nodup ∧ ∀ x, x ∈ compactUpTo d m ↔ ∃ j, j < m ∧ d[j]! = x
  | 0, _ => by simp [compactUpTo]
  | m + 1, hm => by
    obtain ⟨h1, h2⟩ := compactUp_facts le hanti d hs m (by omega)
    rw [compactUpTo_succ]
    cases hk : keeps d m
    · have hz : m ≠ 0 ∧ d[m]! = d[m - 1]! := by
        unfold keeps at hk
        rw [decide_eq_false_iff_not] at hk
        refine ⟨fun e => hk (Or.inl e), Classical.byContradiction fun e => hk (Or.inr e)⟩
      simp only [Bool.false_eq_true, if_false, List.append_nil]
      refine ⟨h1, fun x => (h2 x).trans ⟨?_, ?_⟩⟩
      · rintro ⟨j, hj, e⟩; exact ⟨j, by omega, e⟩
      · rintro ⟨j, hj, e⟩
        rcases Nat.lt_or_ge j m with h | h
        · exact ⟨j, h, e⟩
        · obtain rfl : j = m := by omega
          exact ⟨j - 1, by omega, by rw [← hz.2]; exact e⟩
    · have hnew : ∀ j, j < m → d[j]! ≠ d[m]! := by
        intro j hj e
        unfold keeps at hk
        rw [decide_eq_true_eq] at hk
        rcases hk with hk | hk
        · omega
        · apply hk
          rcases Nat.lt_or_ge j (m - 1) with h | h
          · have a := hs j (m - 1) h (by omega)
            have b := hs (m - 1) m (by omega) (by omega)
            rw [e] at a
            exact hanti _ _ a b
          · obtain rfl : j = m - 1 := by omega
            exact e.symm
      simp only [if_true]
      refine ⟨List.nodup_append.2 ⟨h1, by simp, fun a ha b hb => ?_⟩, fun x => ?_⟩
      · simp at hb
        obtain ⟨j, hj, e⟩ := (h2 a).1 ha
        rw [hb, ← e]
        exact hnew j hj
      · rw [List.mem_append, h2 x, List.mem_singleton]
        constructor
        · rintro (⟨j, hj, e⟩ | e)
          · exact ⟨j, by omega, e⟩
          · exact ⟨m, by omega, e.symm⟩
        · rintro ⟨j, hj, e⟩
          rcases Nat.lt_or_ge j m with h | h
          · exact Or.inl ⟨j, h, e⟩
          · obtain rfl : j = m := by omega
            exact Or.inr e.symm
theorem compact_facts {α : Type} [Inhabited α] [DecidableEq α] (le : α → α → Prop) (hanti : ∀ a b, le a b → le b a → a = b) (zs : List α) (hs : zs.Pairwise le) :
    (compact zs).Nodup ∧ ∀ x, x ∈ compact zs ↔ x ∈ zs := by
  have h := compactUp_facts le hanti zs.toArray (fun i j hij hj => by
    have hj' : j < zs.length := by simpa using hj
    rw [getElem!_pos _ i (by simp; omega), getElem!_pos _ j hj]
    exact List.pairwise_iff_getElem.1 hs i j (by omega) hj' hij) zs.length (by simp)
  refine ⟨h.1, fun x => (h.2 x).trans ?_⟩
  rw [List.mem_iff_getElem]
  constructor
  · rintro ⟨j, hj, e⟩
    rw [getElem!_pos _ j (by simpa using hj)] at e
    exact ⟨j, hj, by simpa using e⟩
  · rintro ⟨j, hj, e⟩
    refine ⟨j, hj, ?_⟩
    rw [getElem!_pos _ j (by simpa using hj)]
    simpa using e
/-- Sorted, then without what comes again: each value once. -/
def distinct (ss : List (List UInt8)) : List (List UInt8) := compact (ss.mergeSort fun x y => decide (x ≤ y))
theorem distinct_facts (ss : List (List UInt8)) : (distinct ss).Nodup ∧ ∀ x, x ∈ distinct ss ↔ x ∈ ss := by
  have hp := List.pairwise_mergeSort (le := fun x y : List UInt8 => decide (x ≤ y)) (fun a b c h1 h2 => by
    rw [decide_eq_true_eq] at *; exact List.le_trans h1 h2) (fun a b => by
    rw [Bool.or_eq_true, decide_eq_true_eq, decide_eq_true_eq]; exact List.le_total a b) ss
  have h := compact_facts (fun a b : List UInt8 => decide (a ≤ b) = true) (fun a b h1 h2 => by
    rw [decide_eq_true_eq] at *; exact List.le_antisymm h1 h2) _ hp
  exact ⟨h.1, fun x => (h.2 x).trans List.mem_mergeSort⟩
def distinctI (zs : List Int) : List Int := compact (zs.mergeSort fun x y => decide (x ≤ y))
theorem distinctI_facts (zs : List Int) : (distinctI zs).Nodup ∧ ∀ x, x ∈ distinctI zs ↔ x ∈ zs := by
  have hp := List.pairwise_mergeSort (le := fun x y : Int => decide (x ≤ y)) (fun a b c h1 h2 => by
    rw [decide_eq_true_eq] at *; omega) (fun a b => by
    rw [Bool.or_eq_true, decide_eq_true_eq, decide_eq_true_eq]; omega) zs
  have h := compact_facts (fun a b : Int => decide (a ≤ b) = true) (fun a b h1 h2 => by
    rw [decide_eq_true_eq] at *; omega) _ hp
  exact ⟨h.1, fun x => (h.2 x).trans List.mem_mergeSort⟩
end Go.Proofs.YtpfeflhcbcgbfaaGreatDoor
namespace Go.Proofs.YtpfeflhcbcgbfaaGreatDoor
open Go.Lib Go.Sort

/-- What is asked of an order. -/
structure Ord {α : Type} (lt : α → α → Bool) : Prop where
  irr : ∀ a, lt a a = false
  tr : ∀ a b c, lt a b = true → lt b c = true → lt a c = true
  tot : ∀ a b, lt a b = false → lt b a = false → a = b
theorem Ord.asym {α : Type} {lt : α → α → Bool} (h : Ord lt) {a b : α} (h1 : lt a b = true) : lt b a = false := by
  cases h2 : lt b a
  · rfl
  · have := h.tr a b a h1 h2; rw [h.irr] at this; cases this
def Asc {α : Type} (lt : α → α → Bool) (l : List α) : Prop := l.Pairwise fun a b => lt a b = true
section
variable {α : Type} (lt : α → α → Bool)
def atI0 (xs : List α) (x : α) : Nat := (xs.takeWhile fun y => lt y x).length
variable {lt}
theorem atI0_eq : ∀ {xs : List α} {x : α} {q : Nat}, (xs.take q).all (fun y => lt y x) = true → (∀ y, xs[q]? = some y → lt y x = false) → q ≤ xs.length → atI0 lt xs x = q
  | [], x, q, _, _, h => by simp at h; subst h; rfl
  | y :: xs, x, 0, _, h2, _ => by simp [atI0, h2 y rfl]
  | y :: xs, x, q + 1, h1, h2, h3 => by
    simp only [List.take_succ_cons, List.all_cons, Bool.and_eq_true] at h1
    have := atI0_eq (xs := xs) (x := x) (q := q) h1.2 (fun z hz => h2 z (by simpa using hz)) (by simpa using h3)
    simp [atI0, h1.1] at this ⊢
    exact this
theorem atI0_le (xs : List α) (x : α) : atI0 lt xs x ≤ xs.length := (List.takeWhile_sublist _).length_le
theorem mem_takeWhile_imp {p : α → Bool} : ∀ {xs : List α} {y : α}, y ∈ xs.takeWhile p → p y = true
  | [], _, h => by cases h
  | z :: xs, y, h => by
    rw [List.takeWhile_cons] at h
    split at h
    · rename_i hz
      rcases List.mem_cons.1 h with e | h
      · rw [e]; exact hz
      · exact mem_takeWhile_imp h
    · cases h
theorem take_atI0 (xs : List α) (x : α) : xs.take (atI0 lt xs x) = xs.takeWhile fun y => lt y x := by
  have := List.takeWhile_append_dropWhile (p := fun y => lt y x) (l := xs)
  conv => lhs; arg 2; rw [← this]
  exact List.take_left' rfl
theorem drop_atI0 (xs : List α) (x : α) : xs.drop (atI0 lt xs x) = xs.dropWhile fun y => lt y x := by
  have := List.takeWhile_append_dropWhile (p := fun y => lt y x) (l := xs)
  conv => lhs; arg 2; rw [← this]
  exact List.drop_left' rfl
theorem dropWhile_head {p : α → Bool} : ∀ {xs : List α} {y : α} {ys : List α}, xs.dropWhile p = y :: ys → p y = false
  | [], _, _, h => by cases h
  | z :: xs, y, ys, h => by
    rw [List.dropWhile_cons] at h
    split at h
    · exact dropWhile_head h
    · rename_i hz
      cases h
      simpa using hz
/-- Two ascending lists of the same values are one. -/
theorem asc_eq (O : Ord lt) : ∀ {l m : List α}, Asc lt l → Asc lt m → (∀ x, x ∈ l ↔ x ∈ m) → l = m
  | [], [], _, _, _ => rfl
  | [], y :: m, _, _, h => absurd ((h y).2 (by simp)) (by simp)
  | x :: l, [], _, _, h => absurd ((h x).1 (by simp)) (by simp)
  | x :: l, y :: m, hl, hm, h => by
    have hl2 := List.pairwise_cons.1 hl
    have hm2 := List.pairwise_cons.1 hm
    have hxy : x = y := by
      refine O.tot x y ?_ ?_
      · rcases List.mem_cons.1 ((h y).2 (by simp)) with e | hy
        · rw [← e]; exact O.irr _
        · rcases List.mem_cons.1 ((h x).1 (by simp)) with e | hx
          · rw [e]; exact O.irr _
          · exact O.asym (hm2.1 x hx)
      · rcases List.mem_cons.1 ((h x).1 (by simp)) with e | hx
        · rw [e]; exact O.irr _
        · rcases List.mem_cons.1 ((h y).2 (by simp)) with e | hy
          · rw [e]; exact O.irr _
          · exact O.asym (hl2.1 y hy)
    subst hxy
    rw [asc_eq O hl2.2 hm2.2 fun z => ?_]
    constructor
    · intro hz
      rcases List.mem_cons.1 ((h z).1 (by simp [hz])) with e | hz2
      · have := hl2.1 z hz; rw [e, O.irr] at this; cases this
      · exact hz2
    · intro hz
      rcases List.mem_cons.1 ((h z).2 (by simp [hz])) with e | hz2
      · have := hm2.1 z hz; rw [e, O.irr] at this; cases this
      · exact hz2
end
section
variable {α : Type} [DecidableEq α] (lt : α → α → Bool)
def ins (xs : List α) (x : α) : List α := if xs[atI0 lt xs x]? = some x then xs else xs.take (atI0 lt xs x) ++ x :: xs.drop (atI0 lt xs x)
variable {lt}
theorem ins_mem {xs : List α} {x y : α} : y ∈ ins lt xs x ↔ y = x ∨ y ∈ xs := by
  unfold ins
  split
  · rename_i h
    exact ⟨Or.inr, fun hy => hy.elim (fun e => by rw [e]; exact List.mem_of_getElem? h) id⟩
  · rw [List.mem_append, List.mem_cons]
    rw [show (y ∈ xs) ↔ (y ∈ xs.take (atI0 lt xs x) ∨ y ∈ xs.drop (atI0 lt xs x)) by rw [← List.mem_append, List.take_append_drop]]
    constructor
    · rintro (h | h | h)
      · exact Or.inr (Or.inl h)
      · exact Or.inl h
      · exact Or.inr (Or.inr h)
    · rintro (h | h | h)
      · exact Or.inr (Or.inl h)
      · exact Or.inl h
      · exact Or.inr (Or.inr h)
theorem ins_asc (O : Ord lt) {xs : List α} {x : α} (h : Asc lt xs) : Asc lt (ins lt xs x) := by
  unfold ins
  split
  · exact h
  · rename_i hne
    have hs := List.takeWhile_append_dropWhile (p := fun y => lt y x) (l := xs)
    rw [take_atI0, drop_atI0]
    have h0 : xs[atI0 lt xs x]? = (xs.dropWhile fun y => lt y x).head? := by rw [← drop_atI0, List.head?_drop]
    unfold Asc at h
    rw [← hs, List.pairwise_append] at h
    obtain ⟨ha, hb, hab⟩ := h
    have hx1 : ∀ y ∈ xs.takeWhile (fun y => lt y x), lt y x = true := fun y hy => mem_takeWhile_imp (p := fun y => lt y x) hy
    have hx2 : ∀ y ∈ xs.dropWhile (fun y => lt y x), lt x y = true := by
      intro y hy
      match hd : xs.dropWhile (fun y => lt y x), hb with
      | [], _ => rw [hd] at hy; cases hy
      | z :: zs, hb =>
        have hz := dropWhile_head hd
        have hxz : lt x z = true := by
          cases hc : lt x z
          · have := O.tot _ _ hz hc
            exact absurd (by rw [h0, hd, this]; rfl) hne
          · rfl
        rw [hd] at hy
        rcases List.mem_cons.1 hy with e | hy
        · rw [e]; exact hxz
        · exact O.tr _ _ _ hxz ((List.pairwise_cons.1 hb).1 y hy)
    unfold Asc
    rw [List.pairwise_append, List.pairwise_cons]
    refine ⟨ha, ⟨hx2, hb⟩, fun a ha2 b hb2 => ?_⟩
    rcases List.mem_cons.1 hb2 with e | hb2
    · rw [e]; exact hx1 a ha2
    · exact hab a ha2 b hb2
/-- All values of a list put in, one behind another. -/
def insAll (lt : α → α → Bool) (xs : List α) : List α := xs.foldl (ins lt) []
theorem insAll_snoc (xs : List α) (x : α) : insAll lt (xs ++ [x]) = ins lt (insAll lt xs) x := by simp [insAll]
theorem foldl_ins (O : Ord lt) : ∀ (xs : List α) (l : List α), Asc lt l → Asc lt (xs.foldl (ins lt) l) ∧ ∀ x, x ∈ xs.foldl (ins lt) l ↔ x ∈ xs ∨ x ∈ l
  | [], l, h => ⟨h, fun x => by simp⟩
  | y :: xs, l, h => by
    obtain ⟨h1, h2⟩ := foldl_ins O xs (ins lt l y) (ins_asc O h)
    refine ⟨h1, fun x => (h2 x).trans ?_⟩
    rw [ins_mem, List.mem_cons]
    constructor
    · rintro (h | h | h)
      · exact Or.inl (Or.inr h)
      · exact Or.inl (Or.inl h)
      · exact Or.inr h
    · rintro ((h | h) | h)
      · exact Or.inr (Or.inl h)
      · exact Or.inl h
      · exact Or.inr (Or.inr h)
theorem insAll_facts (O : Ord lt) (xs : List α) : Asc lt (insAll lt xs) ∧ ∀ x, x ∈ insAll lt xs ↔ x ∈ xs := by
  obtain ⟨h1, h2⟩ := foldl_ins O xs [] List.Pairwise.nil
  exact ⟨h1, fun x => (h2 x).trans (by simp)⟩
theorem ins_len (xs : List α) (x : α) : (ins lt xs x).length ≤ xs.length + 1 := by
  unfold ins
  split
  · omega
  · have := atI0_le (lt := lt) xs x
    simp
    omega
theorem insAll_len (O : Ord lt) (xs : List α) : (insAll lt xs).length ≤ xs.length := by
  obtain ⟨h1, h2⟩ := insAll_facts O xs
  refine nodup_le _ _ ?_ fun x hx => (h2 x).1 hx
  rw [List.nodup_iff_pairwise_ne]
  exact h1.imp fun hab e => by rw [e, O.irr] at hab; cases hab
/-- What is kept of a list in order is ascending. -/
theorem compactUp_mem [Inhabited α] (d : Array α) : ∀ m x, x ∈ compactUpTo d m → ∃ j, j < m ∧ d[j]! = x
  | 0, x, h => by simp [compactUpTo] at h
  | m + 1, x, h => by
    rw [compactUpTo_succ, List.mem_append] at h
    rcases h with h | h
    · obtain ⟨j, hj, e⟩ := compactUp_mem d m x h
      exact ⟨j, by omega, e⟩
    · split at h
      · simp at h; exact ⟨m, by omega, h.symm⟩
      · cases h
theorem compactUp_le [Inhabited α] (le : α → α → Prop) (d : Array α) (hs : ∀ i j, i < j → j < d.size → le d[i]! d[j]!) : ∀ m, m ≤ d.size → (compactUpTo d m).Pairwise le
  | 0, _ => by simp [compactUpTo]
  | m + 1, hm => by
    rw [compactUpTo_succ, List.pairwise_append]
    refine ⟨compactUp_le le d hs m (by omega), by split <;> simp, fun a ha b hb => ?_⟩
    split at hb
    · simp at hb
      obtain ⟨j, hj, e⟩ := compactUp_mem d m a ha
      rw [hb, ← e]
      exact hs j m hj (by omega)
    · cases hb
theorem compact_asc [Inhabited α] (O : Ord lt) (le : α → α → Prop) (hle : ∀ a b, le a b → lt b a = false) (zs : List α) (hs : zs.Pairwise le) : Asc lt (compact zs) ∧ ∀ x, x ∈ compact zs ↔ x ∈ zs := by
  have hf := compact_facts (fun a b => le a b) (fun a b h1 h2 => O.tot a b (hle _ _ h2) (hle _ _ h1)) zs hs
  have hp : (compact zs).Pairwise le := compactUp_le le zs.toArray (fun i j hij hj => by
    have hj' : j < zs.length := by simpa using hj
    rw [getElem!_pos _ i (by simp; omega), getElem!_pos _ j hj]
    exact List.pairwise_iff_getElem.1 hs i j (by omega) hj' hij) zs.length (by simp)
  refine ⟨?_, hf.2⟩
  have hn := hf.1
  rw [List.nodup_iff_pairwise_ne] at hn
  unfold Asc
  refine (hp.and hn).imp fun {a b} h => ?_
  obtain ⟨h1, h2⟩ := h
  cases hc : lt a b
  · exact absurd (O.tot a b hc (hle _ _ h1)) h2
  · rfl
end
/-! The two orders. -/
def ltI (a b : Int) : Bool := decide (a < b)
theorem ordI : Ord ltI := ⟨fun a => by simp [ltI], fun a b c h1 h2 => by simp [ltI] at *; omega, fun a b h1 h2 => by simp [ltI] at *; omega⟩
def ltL (a b : List UInt8) : Bool := decide (a < b)
theorem ordL : Ord ltL := ⟨fun a => by simp [ltL], fun a b c h1 h2 => by simp only [ltL, decide_eq_true_eq] at *; exact List.lt_trans h1 h2, fun a b h1 h2 => by
  simp only [ltL, decide_eq_false_iff_not] at *
  exact List.le_antisymm (List.not_lt.1 h2) (List.not_lt.1 h1)⟩
theorem distinctI_asc (zs : List Int) : Asc ltI (distinctI zs) ∧ ∀ x, x ∈ distinctI zs ↔ x ∈ zs := by
  have hp := List.pairwise_mergeSort (le := fun x y : Int => decide (x ≤ y)) (fun a b c h1 h2 => by
    rw [decide_eq_true_eq] at *; omega) (fun a b => by
    rw [Bool.or_eq_true, decide_eq_true_eq, decide_eq_true_eq]; omega) zs
  have h := compact_asc ordI (fun a b : Int => decide (a ≤ b) = true) (fun a b h1 => by
    simp [ltI] at *; omega) _ hp
  exact ⟨h.1, fun x => (h.2 x).trans List.mem_mergeSort⟩
theorem distinct_asc (ss : List (List UInt8)) : Asc ltL (distinct ss) ∧ ∀ x, x ∈ distinct ss ↔ x ∈ ss := by
  have hp := List.pairwise_mergeSort (le := fun x y : List UInt8 => decide (x ≤ y)) (fun a b c h1 h2 => by
    rw [decide_eq_true_eq] at *; exact List.le_trans h1 h2) (fun a b => by
    rw [Bool.or_eq_true, decide_eq_true_eq, decide_eq_true_eq]; exact List.le_total a b) ss
  have h := compact_asc ordL (fun a b : List UInt8 => decide (a ≤ b) = true) (fun a b h1 => by
    simp only [ltL, decide_eq_true_eq, decide_eq_false_iff_not] at *
    exact fun h2 => absurd (List.not_lt.2 h1) (by simpa using h2)) _ hp
  exact ⟨h.1, fun x => (h.2 x).trans List.mem_mergeSort⟩
theorem insAll_distinctI (zs ys : List Int) (h : ∀ x, x ∈ zs ↔ x ∈ ys) : insAll ltI zs = distinctI ys :=
  asc_eq ordI (insAll_facts ordI zs).1 (distinctI_asc ys).1 fun x => ((insAll_facts ordI zs).2 x).trans ((h x).trans ((distinctI_asc ys).2 x).symm)
theorem insAll_distinct (zs : List (List UInt8)) : insAll ltL zs = distinct zs :=
  asc_eq ordL (insAll_facts ordL zs).1 (distinct_asc zs).1 fun x => ((insAll_facts ordL zs).2 x).trans ((distinct_asc zs).2 x).symm
end Go.Proofs.YtpfeflhcbcgbfaaGreatDoor
