/- Maps from numbers to bools that a call keeps to itself, as sets; lists of a number and a text. Plain laws and laws on operations. -/
import Derived.Test.YtpfeflhcbcgbfaaDoorSrch
import Derived.Test.YtpfeflhcbcgbfaaDoorDistinct
import Derived.Test.YtpfeflhcbcgbfaaDoorKept
import Derived.Test.YtpfeflhcbcgbfaaDoorSrc
import Derived.Test.YtpfeflhcbcgbfaaDoorLab
namespace Go.Proofs.YtpfeflhcbcgbfaaDoor
open Go.RowKit

theorem srchIn_more {st : Nat → Nat → Nat} {p : Nat × List UInt8} {xs ys : List (Nat × List UInt8)} {r : List UInt8} {a : Nat} (h : srchIn st p xs a = (some r, ys)) : ∀ j, srchIn st p xs (a + j) = (some r, ys)
  | 0 => h
  | j + 1 => by
    show srchIn st p xs ((a + j) + 1) = _
    rw [srchIn, srchIn_more h j]
theorem srchTo_step {st : Nat → Nat → Nat} {K full k : Nat} {ys : List (Nat × List UInt8)} {p : Nat × List UInt8} (h : srchTo st K full k = (none, ys)) (hp : ys[k]? = some p) : srchTo st K full (k + 1) = srchIn st p ys K := by
  rw [srchTo, h]
  simp only [hp]
theorem srchTo_some {st : Nat → Nat → Nat} {K full k : Nat} {ys : List (Nat × List UInt8)} {r : List UInt8} (h : srchTo st K full k = (some r, ys)) : ∀ j, srchTo st K full (k + j) = (some r, ys)
  | 0 => h
  | j + 1 => by
    show srchTo st K full ((k + j) + 1) = _
    rw [srchTo, srchTo_some h j]
theorem srchTo_stop {st : Nat → Nat → Nat} {K full k : Nat} {ys : List (Nat × List UInt8)} (h : srchTo st K full k = (none, ys)) (hk : ys.length ≤ k) : ∀ j, srchTo st K full (k + j) = (none, ys)
  | 0 => h
  | j + 1 => by
    show srchTo st K full ((k + j) + 1) = _
    rw [srchTo, srchTo_stop h hk j]
    simp only [List.getElem?_eq_none (show ys.length ≤ k + j by omega)]
/-- What the search finds. -/
def srchAll (st : Nat → Nat → Nat) (K full : Nat) : Option (List UInt8) := (srchTo st K full 600).1
theorem srchAll_some {st : Nat → Nat → Nat} {K full k : Nat} {ys : List (Nat × List UInt8)} {r : List UInt8} (h : srchTo st K full k = (some r, ys)) (hk : k ≤ 600) : srchAll st K full = some r := by
  have := srchTo_some h (600 - k)
  rw [show k + (600 - k) = 600 by omega] at this
  unfold srchAll; rw [this]
theorem srchAll_none {st : Nat → Nat → Nat} {K full k : Nat} {ys : List (Nat × List UInt8)} (h : srchTo st K full k = (none, ys)) (hk : ys.length ≤ k) (hk6 : k ≤ 600) : srchAll st K full = none := by
  have := srchTo_stop h hk (600 - k)
  rw [show k + (600 - k) = 600 by omega] at this
  unfold srchAll; rw [this]
theorem srchOk_len {st : Nat → Nat → Nat} {K full N : Nat} {ys : List (Nat × List UInt8)} (h : SrchOk st K full ys) (hf : full < N) (hs : ∀ s a, st s a < N) : ys.length ≤ N := by
  have h1 : ∀ x ∈ ys.map (·.1), x ∈ List.range N := fun x hx => by
    obtain ⟨p, hp, rfl⟩ := List.mem_map.1 hx
    rw [List.mem_range]
    have := (h.reach p hp).1
    rw [← this]
    unfold reachW
    have key : ∀ (w : List UInt8) (s : Nat), s < N → w.foldl (fun s c => st s (c.toNat - 97)) s < N := fun w => by
      induction w with
      | nil => intro s hs; exact hs
      | cons c w ih => intro s _; exact ih _ (hs _ _)
    exact key _ _ hf
  have := nodup_le _ _ h.new h1
  simpa using this
def Lens (ys : List (Nat × List UInt8)) : Prop := ∀ p ∈ ys, p.2.length < ys.length
theorem srchIn_lens {st : Nat → Nat → Nat} {p : Nat × List UInt8} {xs : List (Nat × List UInt8)} (h : Lens xs) (hp : p ∈ xs) : ∀ a, Lens (srchIn st p xs a).2 ∧ xs.length ≤ (srchIn st p xs a).2.length
  | 0 => ⟨h, Nat.le_refl _⟩
  | a + 1 => by
    have ih := srchIn_lens (st := st) h hp a
    unfold srchIn
    cases hs : srchIn st p xs a with
    | mk f ys =>
      rw [hs] at ih
      cases f with
      | some r => exact ih
      | none =>
        obtain ⟨ih1, ih2⟩ : Lens ys ∧ xs.length ≤ ys.length := ih
        have ih : Lens ys ∧ xs.length ≤ ys.length := ⟨ih1, ih2⟩
        simp only
        split
        · exact ih
        · split
          · exact ih
          · refine ⟨fun q hq => ?_, ?_⟩
            · rcases List.mem_append.1 hq with hq | hq
              · have := ih1 q hq
                show _ < (ys ++ _).length
                rw [List.length_append]; omega
              · simp at hq
                subst hq
                have h1 := h p hp
                show (p.2 ++ [letB a]).length < (ys ++ _).length
                simp
                omega
            · show xs.length ≤ (ys ++ _).length
              simp
              omega
theorem srchTo_lens {st : Nat → Nat → Nat} {K full : Nat} : ∀ k, Lens (srchTo st K full k).2
  | 0 => fun p hp => by
    simp [srchTo] at hp
    subst hp
    simp [srchTo]
  | k + 1 => by
    have ih := srchTo_lens (st := st) (K := K) (full := full) k
    unfold srchTo
    cases hs : srchTo st K full k with
    | mk f ys =>
      rw [hs] at ih
      cases f with
      | some r => exact ih
      | none =>
        simp only
        cases hg : ys[k]? with
        | none => exact ih
        | some p => exact (srchIn_lens ih (List.mem_of_getElem? hg) K).1
/-- Where a search stands: at the place k, a letters tried. -/
structure At (st : Nat → Nat → Nat) (K full k : Nat) (p : Nat × List UInt8) (xs : List (Nat × List UInt8)) (a : Nat) (ys : List (Nat × List UInt8)) : Prop where
  to_ : srchTo st K full k = (none, xs)
  get : xs[k]? = some p
  now : srchIn st p xs a = (none, ys)
theorem At.facts {st : Nat → Nat → Nat} {K full k N a : Nat} {p : Nat × List UInt8} {xs ys : List (Nat × List UInt8)} (h : At st K full k p xs a ys) (hK : K ≤ 3) (hf : full ≠ 0) (ha : a ≤ K) (hN : full < N) (hs : ∀ s a, st s a < N) :
    ys.length ≤ N ∧ k < ys.length ∧ ys[k]? = some p ∧ p.2.length < ys.length ∧ p.1 < N ∧ (ys.map (·.1)).Nodup := by
  have h0 := srchTo_ok (st := st) hK hf k
  rw [h.to_] at h0
  obtain ⟨h1, _⟩ := h0
  have h2 := srchIn_ok hK h1 (List.mem_of_getElem? h.get) a ha
  rw [h.now] at h2
  obtain ⟨h3, ⟨zs, hz⟩, _⟩ := h2
  have hkl : k < xs.length := (List.getElem?_eq_some_iff.1 h.get).1
  have hl := srchTo_lens (st := st) (K := K) (full := full) k
  rw [h.to_] at hl
  have hl2 := srchIn_lens (st := st) hl (List.mem_of_getElem? h.get) a
  rw [h.now] at hl2
  have hg : ys[k]? = some p := by rw [hz, List.getElem?_append_left hkl]; exact h.get
  have hb := srchOk_len h3 hN hs
  refine ⟨hb, (List.getElem?_eq_some_iff.1 hg).1, hg, hl2.1 p (List.mem_of_getElem? hg), ?_, h3.new⟩
  have hr := (h3.reach p (List.mem_of_getElem? hg)).1
  rw [← hr]
  have key : ∀ (w : List UInt8) (s : Nat), s < N → w.foldl (fun s c => st s (c.toNat - 97)) s < N := fun w => by
    induction w with
    | nil => intro s hs; exact hs
    | cons c w ih => intro s _; exact ih _ (hs _ _)
  exact key _ _ hN
theorem At.found {st : Nat → Nat → Nat} {K full k a : Nat} {p : Nat × List UInt8} {xs ys : List (Nat × List UInt8)} (h : At st K full k p xs a ys) (ha : a < K) (hk : k < 600) (h0 : st p.1 a = 0) : srchAll st K full = some (p.2 ++ [letB a]) := by
  have h1 : srchIn st p xs (a + 1) = (some (p.2 ++ [letB a]), ys) := by rw [srchIn, h.now]; simp only [h0, if_true]
  have h2 := srchIn_more h1 (K - (a + 1))
  rw [show a + 1 + (K - (a + 1)) = K by omega] at h2
  exact srchAll_some ((srchTo_step h.to_ h.get).trans h2) (by omega)
theorem At.old {st : Nat → Nat → Nat} {K full k a : Nat} {p : Nat × List UInt8} {xs ys : List (Nat × List UInt8)} (h : At st K full k p xs a ys) (h0 : st p.1 a ≠ 0) (hm : st p.1 a ∈ ys.map (·.1)) : At st K full k p xs (a + 1) ys :=
  ⟨h.to_, h.get, by rw [srchIn, h.now]; simp only [if_neg h0, if_pos hm]⟩
theorem At.fresh {st : Nat → Nat → Nat} {K full k a : Nat} {p : Nat × List UInt8} {xs ys : List (Nat × List UInt8)} (h : At st K full k p xs a ys) (h0 : st p.1 a ≠ 0) (hm : st p.1 a ∉ ys.map (·.1)) : At st K full k p xs (a + 1) (ys ++ [(st p.1 a, p.2 ++ [letB a])]) :=
  ⟨h.to_, h.get, by rw [srchIn, h.now]; simp only [if_neg h0, if_neg hm]⟩
theorem At.next {st : Nat → Nat → Nat} {K full k : Nat} {p : Nat × List UInt8} {xs ys : List (Nat × List UInt8)} (h : At st K full k p xs K ys) : srchTo st K full (k + 1) = (none, ys) := (srchTo_step h.to_ h.get).trans h.now
theorem At.start {st : Nat → Nat → Nat} {K full k : Nat} {xs : List (Nat × List UInt8)} (h : srchTo st K full k = (none, xs)) (hk : k < xs.length) : ∃ p, At st K full k p xs 0 xs := ⟨xs[k], h, by simp [hk], rfl⟩
def setsV (ys : List (Nat × List UInt8)) : List Value := intVals (ys.map fun p => (p.1 : Int))
def wordB (l : List UInt8) : ByteArray := ⟨l.toArray⟩
theorem wordB_size (l : List UInt8) : (wordB l).size = l.length := by simp [wordB, ByteArray.size]
theorem wordB_snoc (l : List UInt8) (c : UInt8) : wordB l ++ ⟨#[c]⟩ = wordB (l ++ [c]) := by
  unfold wordB
  rw [show (ByteArray.mk #[c]) = ⟨[c].toArray⟩ from rfl, ByteArray.mk_append_mk]
  first | done | simp
def wordsV (ys : List (Nat × List UInt8)) : List Value := strVals (ys.map fun p => wordB p.2)
theorem setsV_get {ys : List (Nat × List UInt8)} {k : Nat} {p : Nat × List UInt8} (h : ys[k]? = some p) : (setsV ys)[k]? = some (.int .i64 p.1) := by simp [setsV, intVals, h]
theorem wordsV_get {ys : List (Nat × List UInt8)} {k : Nat} {p : Nat × List UInt8} (h : ys[k]? = some p) : (wordsV ys)[k]? = some (.string (wordB p.2)) := by simp [wordsV, strVals, h]
theorem setsV_snoc (ys : List (Nat × List UInt8)) (p : Nat × List UInt8) : setsV (ys ++ [p]) = setsV ys ++ [.int .i64 p.1] := by simp [setsV, intVals]
theorem wordsV_snoc (ys : List (Nat × List UInt8)) (p : Nat × List UInt8) : wordsV (ys ++ [p]) = wordsV ys ++ [.string (wordB p.2)] := by simp [wordsV, strVals]
end Go.Proofs.YtpfeflhcbcgbfaaDoor
namespace Go.Proofs.YtpfeflhcbcgbfaaDoor
open Go.RowKit

theorem pbool_inv {H : Type} {P : Program} {e : TypeId} (he : P.underlying e = some .bool) {v : Value} {z : DataW H × List MemPlace} (h : plainElem P e v = some z) : ∃ x, v = .bool x ∧ z = (.lit (.bool x), []) := by
  unfold plainElem at h
  rw [he] at h
  cases v <;> simp at h
  subst h
  exact ⟨_, rfl, rfl⟩
/-- The set of some numbers, as a map's datum. -/
def setD (xs : List Nat) : DataW Unit := xs.foldl (fun (D : DataW Unit) (s : Nat) => D.put (.int .i64 (s : Int)) (.lit (.bool true))) (.map [])
theorem setD_snoc (xs : List Nat) (s : Nat) : setD (xs ++ [s]) = (setD xs).put (.int .i64 (s : Int)) (.lit (.bool true)) := by simp [setD, List.foldl_append]
theorem setD_isMap (xs : List Nat) : Maps.IsMap (setD xs) := by
  refine snoc_ind (P := fun xs => Maps.IsMap (setD xs)) ⟨[], rfl⟩ ?_ xs
  intro l c h
  rw [setD_snoc]
  exact h.put _ _
theorem keyInt (x : Int) : WideAt.IsKeyLit (.int .i64 x) := trivial
theorem setD_at (xs : List Nat) (s : Nat) : (setD xs).atKey (.int .i64 (s : Int)) (.lit (.bool false)) = .lit (.bool (decide (s ∈ xs))) := by
  refine snoc_ind (P := fun xs => (setD xs).atKey (.int .i64 (s : Int)) (.lit (.bool false)) = .lit (.bool (decide (s ∈ xs)))) ?_ ?_ xs
  · simp [setD, DataW.atKey]
  · intro l c h
    rw [setD_snoc]
    by_cases e : c = s
    · subst e
      rw [Maps.atKey_put_same (setD_isMap l) (keyInt _)]
      simp
    · rw [Maps.atKey_put_other (by intro e2; injection e2 with _ e2; omega), h]
      simp [show ¬ s = c from fun h => e h.symm]
/-- 'm[k]' of such a map, as an equation. -/
theorem look_set {P : Program} {w : World} {t k e : TypeId} (K : Maps.Keyed P k) (hk : P.underlying k = some (.int .i64)) (ht : P.underlying t = some (.map k e)) (he : P.underlying e = some .bool) (hz : (zeroValue e).run P w = .ok (.bool false) w) {b n : Nat} {xs : List Nat} (h : w.ownsMap P k (plainElem P e) b n (setD xs)) {s : Nat} (hs : s ≤ 1000000) :
    (Instr.lookup t (.map (some b)) (.int .i64 (s : Int)) false).run P w = .ok (.bool (decide (s ∈ xs))) w := by
  obtain ⟨v, ps, h1, h2⟩ := h.lookup K ht hz (plainElem_bool he false) (Maps.keyOf_int_mk hk (wf_small s hs))
  obtain ⟨x, rfl, hx⟩ := pbool_inv he h2
  simp only [Prod.mk.injEq] at hx
  rw [setD_at] at hx
  obtain ⟨hx, _⟩ := hx
  injection hx with hx
  injection hx with hx
  rw [h1, hx]
/-- 'map[K]V{k: v}' at the operation. -/
theorem wpList_insert_own {H : Type} {P : Program} (w : World) {ops : Array Oper} {rest : List Oper} {o : Oper} {a : Act} {Q : Exit → Act → World → Prop}
    (hg : o.guard = none) (m x v : Operand) (t : TypeId) (hop : o.op = Op.insert t m x v)
    (k e : TypeId) (K : Maps.Keyed P k) (ht : P.underlying t = some (.map k e)) (R : Value → Option (DataW H × List MemPlace)) (b n : Nat) (D : DataW H)
    (hm : a.eval m = .map (some b)) (hown : w.ownsMap P k R b n D) (hn : n < maxLen) (key val : Value) (kl : Lit) (hx : a.eval x = key) (hv : a.eval v = val) (hkey : keyOf P k key = some kl)
    (d : DataW H) (ps : List MemPlace) (hval : R val = some (d, ps))
    (hK : ∀ w', w'.ownsMap P k R b (n + 1) (D.put kl d) → w.grownBy w' (some b) → wpList P ops Q rest (a.put o.dst undef) w') :
    wpList P ops Q (o :: rest) a w := by
  refine wpList_plain hg fun K' hK' => ?_
  obtain ⟨w', hrun, r1, r2⟩ := hown.update K ht hn hkey hval
  unfold Oper.wp
  simp [execOp, hop, hm, hx, hv, hrun, Result.andThen]
  exact hK' _ _ (hK w' r1 r2)
/-- Pairs of a number and a text, two cells each. -/
def pairsV (ys : List (Nat × List UInt8)) : List Value := ys.flatMap fun p => [.int .i64 (p.1 : Int), .string (wordB p.2)]
theorem pairsV_len (ys : List (Nat × List UInt8)) : (pairsV ys).length = ys.length * 2 := by
  induction ys with
  | nil => rfl
  | cons p ys ih => simp only [pairsV, List.flatMap_cons, List.length_append, List.length_cons, List.length_nil] at ih ⊢; omega
theorem pairsV_snoc (ys : List (Nat × List UInt8)) (p : Nat × List UInt8) : pairsV (ys ++ [p]) = pairsV ys ++ [.int .i64 (p.1 : Int), .string (wordB p.2)] := by simp [pairsV]
theorem pairsV_get {p : Nat × List UInt8} : ∀ {ys : List (Nat × List UInt8)} {k : Nat}, ys[k]? = some p → (pairsV ys)[k * 2]? = some (.int .i64 (p.1 : Int)) ∧ (pairsV ys)[k * 2 + 1]? = some (.string (wordB p.2))
  | [], k, h => by simp at h
  | q :: ys, 0, h => by
    simp at h
    subst h
    exact ⟨rfl, rfl⟩
  | q :: ys, k + 1, h => by
    have ih := pairsV_get (ys := ys) (k := k) (by simpa using h)
    have e : pairsV (q :: ys) = .int .i64 (q.1 : Int) :: .string (wordB q.2) :: pairsV ys := by simp [pairsV]
    rw [e, show (k + 1) * 2 = k * 2 + 1 + 1 by omega]
    exact ⟨ih.1, ih.2⟩
/-- A pair appended to pairs of the call's own. -/
theorem wpList_app2P {P : Program} {wr : World} {ops : Array Oper} {rest : List Oper} {o : Oper} {a : Act} {Q : Exit → Act → World → Prop}
    (hg : o.guard = none) (s x : Operand) (t : TypeId) (hop : o.op = Op.call { callee := Callee.builtin Builtin.append, args := #[s, x], argTypes := #[t, t] })
    (B : Nat) (e : TypeId) (bytes : Nat) (h1 : P.underlying t = some (.slice e)) (hinfo : (P.info? e).map (fun i => (i.zero, i.size, i.bytes)) = some (some (.agg #[.int .i64 0, .string ⟨#[]⟩]), 2, bytes))
    (v : Value) (m : Nat) (ys : List (Nat × List UInt8)) (p : Nat × List UInt8) (x0 x1 : Value) (hx0 : x0 = .int .i64 (p.1 : Int)) (hx1 : x1 = .string (wordB p.2)) (hown : wr.ownsRow B e 2 v m (pairsV ys)) (hs : a.eval s = v) (hx : a.eval x = .slice (some ⟨wr.heap.size, 0, none⟩) 1 1)
    (hlim : (m + 1) * bytes ≤ 140737488355328) (hlim2 : (m + 1) * 2 ≤ maxLen) (hB : B ≤ wr.heap.size)
    (hK : ∀ v' w1, w1.ownsRow B e 2 v' (m + 1) (pairsV (ys ++ [p])) → wr.grownBy w1 v.ownBlock → wpList P ops Q rest (a.put o.dst v') w1) :
    wpList P ops Q (o :: rest) a (wr.alloc (.cells #[x0, x1] e)) := by
  subst hx0
  subst hx1
  obtain ⟨i, hi, hz, hz1, hz2⟩ := info_parts hinfo
  refine wpList_append_own _ hg s x t hop B e i _ 2 bytes h1 hi hz hz1 hz2 rfl (by decide) v m (pairsV ys) hs (hown.alloc _) ⟨wr.heap.size, 0, none⟩ 1 1 [.int .i64 (p.1 : Int), .string (wordB p.2)] hx rfl ?_ (by intro u hu; simp at hu; rcases hu with rfl | rfl <;> rfl) (by omega) hlim (by simp; omega) ?_
  · intro j y hj
    have ha : (⟨wr.heap.size, 0, none⟩ : Addr).add j = ⟨wr.heap.size, j, none⟩ := by
      unfold Addr.add
      split
      · rename_i h0; subst h0; rfl
      · simp
    rw [ha, World.cell?_alloc_at _ _ _ _ rfl]
    rw [← hj]
    simp
  · intro v' w1 hown' hgrow _
    exact hK v' w1 (by rw [pairsV_snoc]; exact hown') (grown_trans (World.grownBy_alloc _ _ _) hgrow)
theorem grown_map {w w' : World} {P : Program} {k : TypeId} {R : Value → Option (DataW Unit × List MemPlace)} {b n : Nat} {D : DataW Unit} {row : Option Nat} (h : w.ownsMap P k R b n D) (hg : w.grownBy w' row) (hne : some b ≠ row) : w'.ownsMap P k R b n D := by
  obtain ⟨es, clock, h1, h2⟩ := h
  exact ⟨es, clock, by rw [hg.block b (Array.getElem?_eq_some_iff.1 h1).1 hne]; exact h1, h2⟩
end Go.Proofs.YtpfeflhcbcgbfaaDoor
