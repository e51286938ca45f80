/- The search for the shortest word without a source: where it stops. Plain law. No condition. -/
import Derived.Test.YtcmmlldincflkaaDoorSrch
import Derived.Test.YtcmmlldincflkaaDoorIns
namespace Go.Proofs.YtcmmlldincflkaaDoor
open Go.RowKit

theorem srchIn_more {st : Nat → Nat → Nat} {p : Nat × List UInt8} {xs ys : List (Nat × List UInt8)} {r : List UInt8} {a : Nat} (h : srchIn st p xs a = (some r, ys)) : ∀ j, srchIn st p xs (a + j) = (some r, ys)
  | 0 => h
  | j + 1 => by
    show srchIn st p xs ((a + j) + 1) = _
    rw [srchIn, srchIn_more h j]
theorem srchTo_step {st : Nat → Nat → Nat} {K full k : Nat} {ys : List (Nat × List UInt8)} {p : Nat × List UInt8} (h : srchTo st K full k = (none, ys)) (hp : ys[k]? = some p) : srchTo st K full (k + 1) = srchIn st p ys K := by
  rw [srchTo, h]
  simp only [hp]
theorem srchTo_some {st : Nat → Nat → Nat} {K full k : Nat} {ys : List (Nat × List UInt8)} {r : List UInt8} (h : srchTo st K full k = (some r, ys)) : ∀ j, srchTo st K full (k + j) = (some r, ys)
  | 0 => h
  | j + 1 => by
    show srchTo st K full ((k + j) + 1) = _
    rw [srchTo, srchTo_some h j]
theorem srchTo_stop {st : Nat → Nat → Nat} {K full k : Nat} {ys : List (Nat × List UInt8)} (h : srchTo st K full k = (none, ys)) (hk : ys.length ≤ k) : ∀ j, srchTo st K full (k + j) = (none, ys)
  | 0 => h
  | j + 1 => by
    show srchTo st K full ((k + j) + 1) = _
    rw [srchTo, srchTo_stop h hk j]
    simp only [List.getElem?_eq_none (show ys.length ≤ k + j by omega)]
/-- What the search finds. -/
def srchAll (st : Nat → Nat → Nat) (K full : Nat) : Option (List UInt8) := (srchTo st K full 600).1
theorem srchAll_some {st : Nat → Nat → Nat} {K full k : Nat} {ys : List (Nat × List UInt8)} {r : List UInt8} (h : srchTo st K full k = (some r, ys)) (hk : k ≤ 600) : srchAll st K full = some r := by
  have := srchTo_some h (600 - k)
  rw [show k + (600 - k) = 600 by omega] at this
  unfold srchAll; rw [this]
theorem srchAll_none {st : Nat → Nat → Nat} {K full k : Nat} {ys : List (Nat × List UInt8)} (h : srchTo st K full k = (none, ys)) (hk : ys.length ≤ k) (hk6 : k ≤ 600) : srchAll st K full = none := by
  have := srchTo_stop h hk (600 - k)
  rw [show k + (600 - k) = 600 by omega] at this
  unfold srchAll; rw [this]
theorem srchOk_len {st : Nat → Nat → Nat} {K full N : Nat} {ys : List (Nat × List UInt8)} (h : SrchOk st K full ys) (hf : full < N) (hs : ∀ s a, st s a < N) : ys.length ≤ N := by
  have h1 : ∀ x ∈ ys.map (·.1), x ∈ List.range N := fun x hx => by
    obtain ⟨p, hp, rfl⟩ := List.mem_map.1 hx
    rw [List.mem_range]
    have := (h.reach p hp).1
    rw [← this]
    unfold reachW
    have key : ∀ (w : List UInt8) (s : Nat), s < N → w.foldl (fun s c => st s (c.toNat - 97)) s < N := fun w => by
      induction w with
      | nil => intro s hs; exact hs
      | cons c w ih => intro s _; exact ih _ (hs _ _)
    exact key _ _ hf
  have := nodup_le _ _ h.new h1
  simpa using this
def Lens (ys : List (Nat × List UInt8)) : Prop := ∀ p ∈ ys, p.2.length < ys.length
theorem srchIn_lens {st : Nat → Nat → Nat} {p : Nat × List UInt8} {xs : List (Nat × List UInt8)} (h : Lens xs) (hp : p ∈ xs) : ∀ a, Lens (srchIn st p xs a).2 ∧ xs.length ≤ (srchIn st p xs a).2.length
  | 0 => ⟨h, Nat.le_refl _⟩
  | a + 1 => by
    have ih := srchIn_lens (st := st) h hp a
    unfold srchIn
    cases hs : srchIn st p xs a with
    | mk f ys =>
      rw [hs] at ih
      cases f with
      | some r => exact ih
      | none =>
        obtain ⟨ih1, ih2⟩ : Lens ys ∧ xs.length ≤ ys.length := ih
        have ih : Lens ys ∧ xs.length ≤ ys.length := ⟨ih1, ih2⟩
        simp only
        split
        · exact ih
        · split
          · exact ih
          · refine ⟨fun q hq => ?_, ?_⟩
            · rcases List.mem_append.1 hq with hq | hq
              · have := ih1 q hq
                show _ < (ys ++ _).length
                rw [List.length_append]; omega
              · simp at hq
                subst hq
                have h1 := h p hp
                show (p.2 ++ [letB a]).length < (ys ++ _).length
                simp
                omega
            · show xs.length ≤ (ys ++ _).length
              simp
              omega
theorem srchTo_lens {st : Nat → Nat → Nat} {K full : Nat} : ∀ k, Lens (srchTo st K full k).2
  | 0 => fun p hp => by
    simp [srchTo] at hp
    subst hp
    simp [srchTo]
  | k + 1 => by
    have ih := srchTo_lens (st := st) (K := K) (full := full) k
    unfold srchTo
    cases hs : srchTo st K full k with
    | mk f ys =>
      rw [hs] at ih
      cases f with
      | some r => exact ih
      | none =>
        simp only
        cases hg : ys[k]? with
        | none => exact ih
        | some p => exact (srchIn_lens ih (List.mem_of_getElem? hg) K).1
/-- Where a search stands: at the place k, a letters tried. -/
structure At (st : Nat → Nat → Nat) (K full k : Nat) (p : Nat × List UInt8) (xs : List (Nat × List UInt8)) (a : Nat) (ys : List (Nat × List UInt8)) : Prop where
  to_ : srchTo st K full k = (none, xs)
  get : xs[k]? = some p
  now : srchIn st p xs a = (none, ys)
theorem At.facts {st : Nat → Nat → Nat} {K full k N a : Nat} {p : Nat × List UInt8} {xs ys : List (Nat × List UInt8)} (h : At st K full k p xs a ys) (hK : K ≤ 3) (hf : full ≠ 0) (ha : a ≤ K) (hN : full < N) (hs : ∀ s a, st s a < N) :
    ys.length ≤ N ∧ k < ys.length ∧ ys[k]? = some p ∧ p.2.length < ys.length ∧ p.1 < N ∧ (ys.map (·.1)).Nodup := by
  have h0 := srchTo_ok (st := st) hK hf k
  rw [h.to_] at h0
  obtain ⟨h1, _⟩ := h0
  have h2 := srchIn_ok hK h1 (List.mem_of_getElem? h.get) a ha
  rw [h.now] at h2
  obtain ⟨h3, ⟨zs, hz⟩, _⟩ := h2
  have hkl : k < xs.length := (List.getElem?_eq_some_iff.1 h.get).1
  have hl := srchTo_lens (st := st) (K := K) (full := full) k
  rw [h.to_] at hl
  have hl2 := srchIn_lens (st := st) hl (List.mem_of_getElem? h.get) a
  rw [h.now] at hl2
  have hg : ys[k]? = some p := by rw [hz, List.getElem?_append_left hkl]; exact h.get
  have hb := srchOk_len h3 hN hs
  refine ⟨hb, (List.getElem?_eq_some_iff.1 hg).1, hg, hl2.1 p (List.mem_of_getElem? hg), ?_, h3.new⟩
  have hr := (h3.reach p (List.mem_of_getElem? hg)).1
  rw [← hr]
  have key : ∀ (w : List UInt8) (s : Nat), s < N → w.foldl (fun s c => st s (c.toNat - 97)) s < N := fun w => by
    induction w with
    | nil => intro s hs; exact hs
    | cons c w ih => intro s _; exact ih _ (hs _ _)
  exact key _ _ hN
theorem At.found {st : Nat → Nat → Nat} {K full k a : Nat} {p : Nat × List UInt8} {xs ys : List (Nat × List UInt8)} (h : At st K full k p xs a ys) (ha : a < K) (hk : k < 600) (h0 : st p.1 a = 0) : srchAll st K full = some (p.2 ++ [letB a]) := by
  have h1 : srchIn st p xs (a + 1) = (some (p.2 ++ [letB a]), ys) := by rw [srchIn, h.now]; simp only [h0, if_true]
  have h2 := srchIn_more h1 (K - (a + 1))
  rw [show a + 1 + (K - (a + 1)) = K by omega] at h2
  exact srchAll_some ((srchTo_step h.to_ h.get).trans h2) (by omega)
theorem At.old {st : Nat → Nat → Nat} {K full k a : Nat} {p : Nat × List UInt8} {xs ys : List (Nat × List UInt8)} (h : At st K full k p xs a ys) (h0 : st p.1 a ≠ 0) (hm : st p.1 a ∈ ys.map (·.1)) : At st K full k p xs (a + 1) ys :=
  ⟨h.to_, h.get, by rw [srchIn, h.now]; simp only [if_neg h0, if_pos hm]⟩
theorem At.fresh {st : Nat → Nat → Nat} {K full k a : Nat} {p : Nat × List UInt8} {xs ys : List (Nat × List UInt8)} (h : At st K full k p xs a ys) (h0 : st p.1 a ≠ 0) (hm : st p.1 a ∉ ys.map (·.1)) : At st K full k p xs (a + 1) (ys ++ [(st p.1 a, p.2 ++ [letB a])]) :=
  ⟨h.to_, h.get, by rw [srchIn, h.now]; simp only [if_neg h0, if_neg hm]⟩
theorem At.next {st : Nat → Nat → Nat} {K full k : Nat} {p : Nat × List UInt8} {xs ys : List (Nat × List UInt8)} (h : At st K full k p xs K ys) : srchTo st K full (k + 1) = (none, ys) := (srchTo_step h.to_ h.get).trans h.now
theorem At.start {st : Nat → Nat → Nat} {K full k : Nat} {xs : List (Nat × List UInt8)} (h : srchTo st K full k = (none, xs)) (hk : k < xs.length) : ∃ p, At st K full k p xs 0 xs := ⟨xs[k], h, by simp [hk], rfl⟩
def setsV (ys : List (Nat × List UInt8)) : List Value := intVals (ys.map fun p => (p.1 : Int))
def wordB (l : List UInt8) : ByteArray := ⟨l.toArray⟩
theorem wordB_size (l : List UInt8) : (wordB l).size = l.length := by simp [wordB, ByteArray.size]
theorem wordB_snoc (l : List UInt8) (c : UInt8) : wordB l ++ ⟨#[c]⟩ = wordB (l ++ [c]) := by
  unfold wordB
  rw [show (ByteArray.mk #[c]) = ⟨[c].toArray⟩ from rfl, ByteArray.mk_append_mk]
  first | done | simp
def wordsV (ys : List (Nat × List UInt8)) : List Value := strVals (ys.map fun p => wordB p.2)
theorem setsV_get {ys : List (Nat × List UInt8)} {k : Nat} {p : Nat × List UInt8} (h : ys[k]? = some p) : (setsV ys)[k]? = some (.int .i64 p.1) := by simp [setsV, intVals, h]
theorem wordsV_get {ys : List (Nat × List UInt8)} {k : Nat} {p : Nat × List UInt8} (h : ys[k]? = some p) : (wordsV ys)[k]? = some (.string (wordB p.2)) := by simp [wordsV, strVals, h]
theorem setsV_snoc (ys : List (Nat × List UInt8)) (p : Nat × List UInt8) : setsV (ys ++ [p]) = setsV ys ++ [.int .i64 p.1] := by simp [setsV, intVals]
theorem wordsV_snoc (ys : List (Nat × List UInt8)) (p : Nat × List UInt8) : wordsV (ys ++ [p]) = wordsV ys ++ [.string (wordB p.2)] := by simp [wordsV, strVals]
end Go.Proofs.YtcmmlldincflkaaDoor
