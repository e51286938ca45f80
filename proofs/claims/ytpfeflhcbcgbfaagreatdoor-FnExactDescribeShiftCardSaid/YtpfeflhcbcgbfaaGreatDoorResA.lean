/- Labelled graphs: the sets that are reached, with rows of where letters lead. Plain laws. -/
import Derived.Test.YtpfeflhcbcgbfaaGreatDoorTrimC
import Derived.Test.YtpfeflhcbcgbfaaGreatDoorLively
import Derived.Test.YtpfeflhcbcgbfaaGreatDoorLabQ
namespace Go.Proofs.YtpfeflhcbcgbfaaGreatDoor
open Go.RowKit

/-- The followers of each state by the first k arcs. -/
def rowsK (G : List (Nat × Nat × Nat)) (S k : Nat) : List (List Int) := rowsG (G.take k) S
theorem rowsK_len (G : List (Nat × Nat × Nat)) (S k : Nat) : (rowsK G S k).length = S := by simp [rowsK, rowsG]
def rowOfK (G : List (Nat × Nat × Nat)) (k i : Nat) : List Int := ((G.take k).filter fun a => decide (a.1 = i)).map fun a => (a.2.1 : Int)
theorem rowsK_get {G : List (Nat × Nat × Nat)} {S k i : Nat} (h : i < S) : (rowsK G S k)[i]? = some (rowOfK G k i) := by unfold rowsK rowOfK; rw [rowsG_get h]
theorem rowsK_step {G : List (Nat × Nat × Nat)} {S k : Nat} {y : Nat × Nat × Nat} (h : G[k]? = some y) (hy : y.1 < S) : (rowsK G S k).set y.1 (rowOfK G k y.1 ++ [(y.2.1 : Int)]) = rowsK G S (k + 1) := by
  refine List.ext_getElem? fun i => ?_
  by_cases hi : i < S
  · rw [rowsK_get hi, List.getElem?_set, rowsK_len]
    by_cases e : y.1 = i
    · subst e
      rw [if_pos rfl, if_pos hy]
      unfold rowOfK
      rw [List.take_add_one, h]
      simp
    · rw [if_neg e, rowsK_get hi]
      unfold rowOfK
      rw [List.take_add_one, h]
      simp [e]
  · rw [List.getElem?_eq_none (by rw [List.length_set, rowsK_len]; omega), List.getElem?_eq_none (by rw [rowsK_len]; omega)]
theorem rowOfK_len (G : List (Nat × Nat × Nat)) (k i : Nat) : (rowOfK G k i).length ≤ k := by
  unfold rowOfK
  rw [List.length_map]
  exact Nat.le_trans (List.length_filter_le _ _) (by rw [List.length_take]; omega)
theorem rowsK_zero (G : List (Nat × Nat × Nat)) (S : Nat) : rowsK G S 0 = List.replicate S [] := by
  refine List.ext_getElem (by simp [rowsK_len]) fun i h1 h2 => ?_
  rw [rowsK_len] at h1
  have := rowsK_get (G := G) (k := 0) h1
  rw [List.getElem?_eq_getElem (by rw [rowsK_len]; exact h1)] at this
  injection this with this
  rw [this]
  simp [rowOfK]
/-- A row of a table appended to, in the place where it stands. -/
theorem TRows.replace {T0 : TypeId} {w w1 : World} {base i : Nat} {vs : List Value} {rows : List (List Int)} {r : List Int} {v v' : Value} {x : Int} (h : TRows T0 w base vs rows) (hv : vs[i]? = some v) (hr : rows[i]? = some r)
    (ho : w1.ownsRow base T0 1 v' (r.length + 1) (intVals (r ++ [x]))) (hg : w.grownBy w1 v.ownBlock) (hor : ∀ g, v'.ownBlock = some g → v.ownBlock = some g ∨ w.heap.size ≤ g) : TRows T0 w1 base (vs.set i v') (rows.set i (r ++ [x])) := by
  have hil : i < vs.length := (List.getElem?_eq_some_iff.1 hv).1
  have hir : i < rows.length := (List.getElem?_eq_some_iff.1 hr).1
  have key : ∀ k z, (vs.set i v')[k]? = some z → (k = i ∧ z = v') ∨ (k ≠ i ∧ vs[k]? = some z) := fun k z hz => by
    rw [List.getElem?_set] at hz
    by_cases e : i = k
    · subst e
      rw [if_pos rfl, if_pos hil] at hz
      injection hz with hz
      exact .inl ⟨rfl, hz.symm⟩
    · rw [if_neg e] at hz; exact .inr ⟨fun e2 => e e2.symm, hz⟩
  refine ⟨by simp [h.len], fun k z q hz hq => ?_, fun k j y z g hy hz hgy hgz => ?_⟩
  · rcases key k z hz with ⟨rfl, rfl⟩ | ⟨hk, hz⟩
    · rw [List.getElem?_set, if_pos rfl, if_pos hir] at hq
      injection hq with hq
      subst hq
      simpa using ho
    · rw [List.getElem?_set, if_neg (fun e => hk e.symm)] at hq
      refine (h.own k z q hz hq).kept hg ?_
      cases hb : z.ownBlock with
      | none => exact .inl rfl
      | some b => exact .inr fun e => hk (h.apart k i z v b hz hv hb e.symm)
  · rcases key k y hy with ⟨e1, e2⟩ | ⟨hk, hy2⟩ <;> rcases key j z hz with ⟨e3, e4⟩ | ⟨hj, hz2⟩
    · rw [e1, e3]
    · rw [e2] at hgy
      rcases hor g hgy with h1 | h1
      · rw [e1]; exact h.apart i j v z g hv hz2 h1 hgz
      · obtain ⟨q, hq⟩ := get_some (l := rows) (n := j) (by have := (List.getElem?_eq_some_iff.1 hz2).1; rw [← h.len]; exact this)
        have := ((h.own j z q hz2 hq).lt g hgz).2
        omega
    · rw [e4] at hgz
      rcases hor g hgz with h1 | h1
      · rw [e3]; exact h.apart k i y v g hy2 hv hgy h1
      · obtain ⟨q, hq⟩ := get_some (l := rows) (n := k) (by have := (List.getElem?_eq_some_iff.1 hy2).1; rw [← h.len]; exact this)
        have := ((h.own k y q hy2 hq).lt g hgy).2
        omega
    · exact h.apart k j y z g hy2 hz2 hgy hgz
theorem TRows.nils (T0 : TypeId) (w : World) (base S : Nat) : TRows T0 w base (List.replicate S (.slice none 0 0)) (List.replicate S []) := by
  refine ⟨by simp, fun i x r hx hr => ?_, fun i j x y g hx _ hg _ => ?_⟩
  · rw [List.getElem?_replicate] at hx hr
    split at hx
    · rename_i h; rw [if_pos h] at hr; injection hx with hx; injection hr with hr; subst hx hr; exact World.ownsRow_nil _ _ _ _
    · cases hx
  · rw [List.getElem?_replicate] at hx
    split at hx
    · injection hx with hx; subst hx; cases hg
    · cases hx
theorem made_nils (S : Nat) : (madeCells (Value.slice none 0 0).cells (S * 1)).toList = List.replicate S (.slice none 0 0) := by
  rw [Nat.mul_one]
  show (madeCells #[Value.slice none 0 0] S).toList = _
  rw [toList_madeCells_one]
/-- A number appended in a region that draws its order: where it lies. -/
theorem step_appN {P : Program} {wr : World} {ops : Array Oper} {o : Oper} {a : Act} {K : Act → World → Prop} {Q : Exit → Act → World → Prop} {E : Prop}
    (hg : o.guard = none) (s x : Operand) (t : TypeId) (hop : o.op = Op.call { callee := Callee.builtin Builtin.append, args := #[s, x], argTypes := #[t, t] })
    (B : Nat) (e : TypeId) (h1 : P.underlying t = some (.slice e)) (hinfo : (P.info? e).map (fun i => (i.zero, i.size, i.bytes)) = some (some (.int .i64 0), 1, 8))
    (v : Value) (m : Nat) (xs : List Value) (u : Int) (hown : wr.ownsRow B e 1 v m xs) (hs : a.eval s = v) (hx : a.eval x = .slice (some ⟨wr.heap.size, 0, none⟩) 1 1)
    (hlim : m ≤ 1048576) (hB : B ≤ wr.heap.size)
    (hK : ∀ g' c' w1, w1.ownsRow B e 1 (.slice (some ⟨g', 0, none⟩) (m + 1) c') (m + 1) (xs ++ [.int .i64 u]) → wr.grownBy w1 v.ownBlock → (v.ownBlock = some g' ∨ wr.heap.size ≤ g') → K (a.put o.dst (.slice (some ⟨g', 0, none⟩) (m + 1) c')) w1) :
    if Region.wanted o (yielded ops a.tmps) = true then Oper.wp P o a (wr.alloc (.cells #[.int .i64 u] e)) K Q else E := by
  obtain ⟨i, hi, hz, hz1, hz2⟩ := info_parts hinfo
  refine step_append_lies _ hg s x t hop B e i _ 1 8 h1 hi hz hz1 hz2 rfl (by decide) v m xs hs (hown.alloc _) ⟨wr.heap.size, 0, none⟩ 1 1 [.int .i64 u] hx rfl ?_ (by intro y hy; simp at hy; subst hy; rfl) (by omega) (by unfold maxLen; omega) (by omega) (by simp; omega) (wr.heap.size + 1) (by simp) ?_
  · intro j y hj
    match j, hj with
    | 0, hj =>
      simp at hj; subst hj
      show (wr.alloc (.cells #[.int .i64 u] e)).cell? _ = _
      simp [Addr.add]
  · intro g cap w1 hown' hgrow hor _
    refine hK g cap w1 hown' (grown_trans (World.grownBy_alloc _ _ _) hgrow) ?_
    rcases hor with h | h
    · exact .inl h
    · exact .inr (by omega)
end Go.Proofs.YtpfeflhcbcgbfaaGreatDoor
namespace Go.Proofs.YtpfeflhcbcgbfaaGreatDoor
open Go.RowKit

def nxOf (G : List (Nat × Nat × Nat)) (set x : Nat) (l : List Nat) : Int := if stp G set x = 0 then -1 else if stp G set x ∈ l then (posOf (stp G set x) l : Nat) else (l.length : Nat)
def nxX (G : List (Nat × Nat × Nat)) (k set : Nat) (st : RsS) : Nat → List Int | 0 => [] | x + 1 => nxX G k set st x ++ [nxOf G set x (rsX G k set st x).1]
def nxK (G : List (Nat × Nat × Nat)) (L full : Nat) : Nat → List (List Int) | 0 => [] | k + 1 => match (rsK G L full k).1[k]? with | none => nxK G L full k | some set => nxK G L full k ++ [nxX G k set (rsK G L full k) L]
def arcsRow (k : Nat) (row : List Int) : Nat → List (Nat × Nat × Nat) | 0 => [] | x + 1 => arcsRow k row x ++ (if 0 ≤ row.getD x 0 then [(k, (row.getD x 0).toNat, x)] else [])
def arcsRows (rows : List (List Int)) : Nat → List (Nat × Nat × Nat) | 0 => [] | k + 1 => arcsRows rows k ++ arcsRow k (rows.getD k []) (rows.getD k []).length
theorem arcsRow_succ (k : Nat) (row : List Int) (x : Nat) : arcsRow k row (x + 1) = arcsRow k row x ++ (if 0 ≤ row.getD x 0 then [(k, (row.getD x 0).toNat, x)] else []) := rfl
theorem arcsRows_succ (rows : List (List Int)) (k : Nat) : arcsRows rows (k + 1) = arcsRows rows k ++ arcsRow k (rows.getD k []) (rows.getD k []).length := rfl
theorem nxX_succ (G : List (Nat × Nat × Nat)) (k set : Nat) (st : RsS) (x : Nat) : nxX G k set st (x + 1) = nxX G k set st x ++ [nxOf G set x (rsX G k set st x).1] := rfl
theorem nxX_len (G : List (Nat × Nat × Nat)) (k set : Nat) (st : RsS) : ∀ x, (nxX G k set st x).length = x
  | 0 => rfl
  | x + 1 => by unfold nxX; rw [List.length_append, nxX_len G k set st x]; rfl
theorem nxK_step {G : List (Nat × Nat × Nat)} {L full k set : Nat} (h : (rsK G L full k).1[k]? = some set) : nxK G L full (k + 1) = nxK G L full k ++ [nxX G k set (rsK G L full k) L] := by
  conv => lhs; unfold nxK
  rw [h]
theorem rsLet_arcs (G : List (Nat × Nat × Nat)) (k set x : Nat) (st : RsS) : (rsLet G k set x st).2 = st.2 ++ (if 0 ≤ nxOf G set x st.1 then [(k, (nxOf G set x st.1).toNat, x)] else []) := by
  unfold rsLet nxOf
  by_cases h0 : stp G set x = 0
  · rw [if_pos h0, if_pos h0]; simp
  · rw [if_neg h0, if_neg h0]
    by_cases hm : stp G set x ∈ st.1
    · rw [if_pos hm, if_pos hm, if_pos (by omega)]; simp
    · rw [if_neg hm, if_neg hm, if_pos (by omega)]; simp
theorem rsLet_sets (G : List (Nat × Nat × Nat)) (k set x : Nat) (st : RsS) : (rsLet G k set x st).1 = if stp G set x = 0 then st.1 else if stp G set x ∈ st.1 then st.1 else st.1 ++ [stp G set x] := by
  unfold rsLet
  by_cases h0 : stp G set x = 0
  · rw [if_pos h0, if_pos h0]
  · rw [if_neg h0, if_neg h0]
    by_cases hm : stp G set x ∈ st.1
    · rw [if_pos hm, if_pos hm]
    · rw [if_neg hm, if_neg hm]
theorem arcsRow_more {k : Nat} {r s : List Int} : ∀ {x : Nat}, x ≤ r.length → arcsRow k (r ++ s) x = arcsRow k r x
  | 0, _ => rfl
  | x + 1, h => by
    rw [arcsRow_succ, arcsRow_succ, arcsRow_more (by omega), List.getD_eq_getElem?_getD, List.getElem?_append_left (by omega), ← List.getD_eq_getElem?_getD]
theorem rsX_arcs (G : List (Nat × Nat × Nat)) (k set : Nat) (st : RsS) : ∀ x, (rsX G k set st x).2 = st.2 ++ arcsRow k (nxX G k set st x) x
  | 0 => by simp [rsX, arcsRow]
  | x + 1 => by
    show (rsLet G k set x (rsX G k set st x)).2 = _
    have hl := nxX_len G k set st x
    rw [rsLet_arcs, rsX_arcs G k set st x, List.append_assoc]
    congr 1
    rw [nxX_succ, arcsRow_succ, arcsRow_more (by omega), List.getD_eq_getElem?_getD, List.getElem?_append_right (by omega), hl, Nat.sub_self]
    rfl
theorem arcsRows_more {r s : List (List Int)} : ∀ {k : Nat}, k ≤ r.length → arcsRows (r ++ s) k = arcsRows r k
  | 0, _ => rfl
  | k + 1, h => by
    rw [arcsRows_succ, arcsRows_succ, arcsRows_more (by omega), List.getD_eq_getElem?_getD, List.getElem?_append_left (by omega), ← List.getD_eq_getElem?_getD]
theorem nxK_arcs {G : List (Nat × Nat × Nat)} {L full : Nat} : ∀ {k}, k ≤ (rsK G L full k).1.length → (nxK G L full k).length = k → (rsK G L full k).2 = arcsRows (nxK G L full k) k → ∀ {set}, (rsK G L full k).1[k]? = some set → (nxK G L full (k + 1)).length = k + 1 ∧ (rsK G L full (k + 1)).2 = arcsRows (nxK G L full (k + 1)) (k + 1) := fun {k} _ hl ha {set} hs => by
  rw [nxK_step hs, rsK_step hs]
  refine ⟨by rw [List.length_append, hl]; rfl, ?_⟩
  rw [rsX_arcs, ha, arcsRows_succ, arcsRows_more (by omega), List.getD_eq_getElem?_getD, List.getElem?_append_right (by omega), hl, Nat.sub_self]
  simp only [List.getElem?_cons_zero, Option.getD_some]
  rw [nxX_len]
theorem nxK_all {G : List (Nat × Nat × Nat)} {L full : Nat} : ∀ k, k ≤ (rsK G L full k).1.length → (nxK G L full k).length = k ∧ (rsK G L full k).2 = arcsRows (nxK G L full k) k
  | 0, _ => ⟨rfl, rfl⟩
  | k + 1, h => by
    have hk : k < (rsK G L full k).1.length := by
      rcases Nat.lt_or_ge k (rsK G L full k).1.length with h1 | h1
      · exact h1
      · have h2 := rsK_stop h1 1
        rw [h2] at h
        omega
    obtain ⟨h1, h2⟩ := nxK_all k (Nat.le_of_lt hk)
    obtain ⟨set, hs⟩ := get_some hk
    exact nxK_arcs (Nat.le_of_lt hk) h1 h2 hs
theorem nxK_rows {G : List (Nat × Nat × Nat)} {L full : Nat} : ∀ (k i : Nat), (nxK G L full k)[i]? = none ∨ ∃ r : List Int, (nxK G L full k)[i]? = some r ∧ r.length = L
  | 0, i => .inl (by simp [nxK])
  | k + 1, i => by
    cases hg : (rsK G L full k).1[k]? with
    | none =>
      have : nxK G L full (k + 1) = nxK G L full k := by conv => lhs; unfold nxK
                                                         rw [hg]
      rw [this]; exact nxK_rows k i
    | some set =>
      rw [nxK_step hg]
      by_cases hi : i < (nxK G L full k).length
      · rw [List.getElem?_append_left hi]; exact nxK_rows k i
      · rw [List.getElem?_append_right (by omega)]
        by_cases h0 : i - (nxK G L full k).length = 0
        · rw [h0]; exact .inr ⟨_, rfl, nxX_len _ _ _ _ _⟩
        · exact .inl (List.getElem?_eq_none (by simp; omega))
theorem nxX_bd {G : List (Nat × Nat × Nat)} {k set : Nat} {st : RsS} {M : Nat} : ∀ x, (∀ y, y < x → (rsX G k set st y).1.length ≤ M) → ∀ z ∈ nxX G k set st x, z ≤ (M : Int)
  | 0, _, z, hz => by simp [nxX] at hz
  | x + 1, h, z, hz => by
    rw [nxX_succ] at hz
    rcases List.mem_append.1 hz with hz | hz
    · exact nxX_bd x (fun y hy => h y (by omega)) z hz
    · simp at hz
      subst hz
      have := h x (by omega)
      unfold nxOf
      split
      · omega
      · split
        · rename_i hm
          have := posOf_lt hm
          omega
        · omega
theorem arcsRow_len (k : Nat) (row : List Int) : ∀ x, (arcsRow k row x).length ≤ x
  | 0 => Nat.le_refl _
  | x + 1 => by
    have := arcsRow_len k row x
    rw [arcsRow_succ, List.length_append]
    split <;> simp <;> omega
theorem arcsRows_len {rows : List (List Int)} {L : Nat} (h : ∀ r ∈ rows, r.length = L) : ∀ k, (arcsRows rows k).length ≤ k * L
  | 0 => Nat.zero_le _
  | k + 1 => by
    have h1 := arcsRows_len h k
    have h2 := arcsRow_len k (rows.getD k []) (rows.getD k []).length
    have h3 : (rows.getD k []).length ≤ L := by
      rw [List.getD_eq_getElem?_getD]
      cases hg : rows[k]? with
      | none => exact Nat.zero_le _
      | some r => exact Nat.le_of_eq (h r (List.mem_of_getElem? hg))
    rw [arcsRows_succ, List.length_append, Nat.succ_mul]
    omega
/-- What the search leaves: as many rows as sets, each with a number a letter; the arcs that they say. -/
theorem resAll_facts {G : List (Nat × Nat × Nat)} {L N full : Nat} (hf : 0 < full ∧ full < N) (hN : ∀ set x, stp G set x < N) (h4 : N ≤ 4096) :
    (resAll G L full).1.length ≤ 4096 ∧ (nxK G L full (resAll G L full).1.length).length = (resAll G L full).1.length ∧ (resAll G L full).2 = arcsRows (nxK G L full (resAll G L full).1.length) (resAll G L full).1.length ∧ (∀ r ∈ nxK G L full (resAll G L full).1.length, r.length = L) := by
  have hfew : (resAll G L full).1.length ≤ N := (rsK_ok (L := L) hf hN 4096).1.few
  obtain ⟨M, hM⟩ : ∃ M, M = (resAll G L full).1.length := ⟨_, rfl⟩
  rw [← hM] at hfew ⊢
  have h1 := rsK_len (L := L) hf hN M (4096 - M)
  have hMM : M + (4096 - M) = 4096 := Nat.add_sub_cancel' (by omega)
  rw [hMM] at h1
  have h2 : (rsK G L full M).1.length ≤ M := by
    have e : resAll G L full = rsK G L full 4096 := by rw [resAll]
    rw [← e, ← hM] at h1
    exact h1
  have h3 := resAll_at h2 (by omega)
  have h4 : (rsK G L full M).1.length = M := by rw [← h3]; exact hM.symm
  have h5 := nxK_all (G := G) (L := L) (full := full) M (by omega)
  refine ⟨by omega, h5.1, by rw [h3]; exact h5.2, fun r hr => ?_⟩
  obtain ⟨i, hi⟩ := List.mem_iff_getElem?.1 hr
  rcases nxK_rows (G := G) (L := L) (full := full) M i with h | ⟨q, h, hq⟩
  · exact absurd (hi.symm.trans h) (Option.some_ne_none r)
  · rw [← Option.some.inj (h.symm.trans hi)]; exact hq
theorem resO_if {G : List (Nat × Nat × Nat)} {L full : Nat} {st : RsS} (h : resAll G L full = st) : resO G L full = if st.1.length ≤ 12 then some (st.1.length, st.2) else none := by
  subst h
  simp only [resO]
/-! The search for a set. -/
def lastTo (l : List Nat) (x : Nat) : Nat → Int | 0 => -1 | i + 1 => if l[i]? = some x then (i : Int) else lastTo l x i
theorem lastTo_none {l : List Nat} {x : Nat} (h : x ∉ l) : ∀ i, lastTo l x i = -1
  | 0 => rfl
  | i + 1 => by unfold lastTo; rw [if_neg (fun e => h (List.mem_of_getElem? e)), lastTo_none h i]
theorem lastTo_some {l : List Nat} {x : Nat} (hn : l.Nodup) (h : x ∈ l) : ∀ i, lastTo l x i = if posOf x l < i then ((posOf x l : Nat) : Int) else -1
  | 0 => by rw [if_neg (by omega)]; rfl
  | i + 1 => by
    unfold lastTo
    by_cases e : l[i]? = some x
    · rw [if_pos e, posOf_of hn e, if_pos (by omega)]
    · rw [if_neg e, lastTo_some hn h i]
      have hp : posOf x l ≠ i := fun e2 => e (by rw [← e2]; exact posOf_at h)
      by_cases hlt : posOf x l < i
      · rw [if_pos hlt, if_pos (by omega)]
      · rw [if_neg hlt, if_neg (by omega)]
theorem lastTo_end {l : List Nat} {x : Nat} (hn : l.Nodup) : lastTo l x l.length = if x ∈ l then ((posOf x l : Nat) : Int) else -1 := by
  by_cases h : x ∈ l
  · rw [if_pos h, lastTo_some hn h, if_pos (posOf_lt h)]
  · rw [if_neg h, lastTo_none h]
/-! Lists of a call's own, side by side. -/
def natI (l : List Nat) : List Int := l.map fun (s : Nat) => (s : Int)
theorem natI_len (l : List Nat) : (natI l).length = l.length := by simp [natI]
theorem natI_get {l : List Nat} {i x : Nat} (h : l[i]? = some x) : (natI l)[i]? = some (x : Int) := by simp [natI, h]
theorem natI_snoc (l : List Nat) (x : Nat) : natI (l ++ [x]) = natI l ++ [(x : Int)] := by simp [natI]
theorem TRows.tail {T0 : TypeId} {w : World} {base : Nat} {v : Value} {vs : List Value} {r : List Int} {rows : List (List Int)} (h : TRows T0 w base (v :: vs) (r :: rows)) : TRows T0 w base vs rows :=
  ⟨by have := h.len; simpa using this, fun i x q hx hq => h.own (i + 1) x q (by simpa using hx) (by simpa using hq), fun i j x y g hx hy hgx hgy => by
    have := h.apart (i + 1) (j + 1) x y g (by simpa using hx) (by simpa using hy) hgx hgy
    omega⟩
theorem TRows.one {T0 : TypeId} {w : World} {base : Nat} {v : Value} {r : List Int} (h : w.ownsRow base T0 1 v r.length (intVals r)) : TRows T0 w base [v] [r] :=
  ⟨rfl, fun i x q hx hq => by
    match i, hx, hq with
    | 0, hx, hq => simp at hx hq; subst hx hq; exact h, fun i j x y g hx hy _ _ => by
    have h1 := (List.getElem?_eq_some_iff.1 hx).1
    have h2 := (List.getElem?_eq_some_iff.1 hy).1
    simp at h1 h2
    omega⟩
end Go.Proofs.YtpfeflhcbcgbfaaGreatDoor
