/- Tables of the call's own. Conditions: sizes within the reach. -/
import Derived.Test.YtpfeflhcbcgbfaaGreatDoorLaw2
import Derived.Test.YtpfeflhcbcgbfaaGreatDoorIntsIn
namespace Go.Proofs.YtpfeflhcbcgbfaaGreatDoor
open Go.RowKit

theorem owns_ne {w : World} {base e e' n m : Nat} {v v' : Value} {xs ys : List Value} (h : w.ownsRow base e 1 v n xs) (h' : w.ownsRow base e' 1 v' m ys) (hne : e ≠ e') : v.ownBlock = none ∨ v.ownBlock ≠ v'.ownBlock := by
  rcases h.2 with ⟨rfl, _⟩ | ⟨g, cap, cur, rfl, _, hg, _⟩
  · exact Or.inl rfl
  · refine Or.inr ?_
    rcases h'.2 with ⟨rfl, _⟩ | ⟨g', cap', cur', rfl, _, hg', _⟩
    · simp [Value.ownBlock]
    · intro hh
      simp only [Value.ownBlock, Option.some.injEq] at hh
      subst hh
      rw [hg] at hg'
      simp only [Option.some.injEq, Obj.cells.injEq] at hg'
      exact hne hg'.2.1

/-- The rows of a table: each of the call's own, each in another block. -/
structure TRows (T0 : TypeId) (w : World) (base : Nat) (vs : List Value) (rows : List (List Int)) : Prop where
  len : vs.length = rows.length
  own : ∀ (i : Nat) (x : Value) (r : List Int), vs[i]? = some x → rows[i]? = some r → w.ownsRow base T0 1 x r.length (intVals r)
  apart : ∀ (i j : Nat) (x y : Value) (g : Nat), vs[i]? = some x → vs[j]? = some y → x.ownBlock = some g → y.ownBlock = some g → i = j
/-- A table of the call's own. -/
def TGrid (T1 T0 : TypeId) (w : World) (base : Nat) (v : Value) (rows : List (List Int)) : Prop :=
  ∃ vs, w.ownsRow base T1 1 v rows.length vs ∧ TRows T0 w base vs rows

theorem TRows.get {T0 : TypeId} {w : World} {base : Nat} {vs : List Value} {rows : List (List Int)} (h : TRows T0 w base vs rows) {i : Nat} (hi : i < rows.length) : ∃ x r, vs[i]? = some x ∧ rows[i]? = some r ∧ w.ownsRow base T0 1 x r.length (intVals r) := by
  obtain ⟨r, hr⟩ := get_some hi
  obtain ⟨x, hx⟩ := get_some (l := vs) (n := i) (by rw [h.len]; exact hi)
  exact ⟨x, r, hx, hr, h.own i x r hx hr⟩
theorem TRows.kept {T0 T1 : TypeId} {w w' : World} {base n : Nat} {v : Value} {vs : List Value} {ys : List Value} {rows : List (List Int)} (h : TRows T0 w base vs rows) (ho : w.ownsRow base T1 1 v n ys) (hT : T0 ≠ T1) (hg : w.grownBy w' v.ownBlock) : TRows T0 w' base vs rows :=
  ⟨h.len, fun i x r hx hr => (h.own i x r hx hr).kept hg (owns_ne (h.own i x r hx hr) ho hT), h.apart⟩
theorem TRows.below {T0 : TypeId} {w w' : World} {base : Nat} {vs : List Value} {rows : List (List Int)} (h : TRows T0 w base vs rows) (hb : Below w.heap.size w w') : TRows T0 w' base vs rows :=
  ⟨h.len, fun i x r hx hr => owns_below (h.own i x r hx hr) hb, h.apart⟩
theorem TGrid.below {T1 T0 : TypeId} {w w' : World} {base : Nat} {v : Value} {rows : List (List Int)} (h : TGrid T1 T0 w base v rows) (hb : Below w.heap.size w w') : TGrid T1 T0 w' base v rows := by
  obtain ⟨vs, ho, hr⟩ := h
  exact ⟨vs, owns_below ho hb, hr.below hb⟩
theorem TGrid.base {T1 T0 : TypeId} {w : World} {base base' : Nat} {v : Value} {rows : List (List Int)} (h : TGrid T1 T0 w base v rows) (hb : base' ≤ base) : TGrid T1 T0 w base' v rows := by
  obtain ⟨vs, ho, hr⟩ := h
  exact ⟨vs, owns_base ho hb, hr.len, fun i x r hx hr' => owns_base (hr.own i x r hx hr') hb, hr.apart⟩
theorem TRows.nil (T0 : TypeId) (w : World) (base : Nat) : TRows T0 w base [] [] := ⟨rfl, fun i x r h => by simp at h, fun i j x y g h => by simp at h⟩

/-- A row more, just made. -/
theorem TRows.snoc {T0 : TypeId} {w : World} {base : Nat} {vs : List Value} {rows : List (List Int)} (h : TRows T0 w base vs rows) (hb : base ≤ w.heap.size) (r : List Int) (cs : Array Value) (hcs : cs.toList = intVals r) (hm : r.length ≤ maxLen) :
    TRows T0 (w.alloc (.cells cs T0)) base (vs ++ [.slice (some ⟨w.heap.size, 0, none⟩) r.length r.length]) (rows ++ [r]) := by
  have hlen := h.len
  refine ⟨by simp [hlen], fun i x r' hx hr => ?_, fun i j x y g hx hy hgx hgy => ?_⟩
  · by_cases hi : i < vs.length
    · rw [List.getElem?_append_left hi] at hx
      rw [List.getElem?_append_left (by omega)] at hr
      exact (h.own i x r' hx hr).alloc _
    · rw [List.getElem?_append_right (by omega)] at hx
      rw [List.getElem?_append_right (by omega)] at hr
      have hi0 : i - vs.length = 0 := by
        rcases Nat.eq_zero_or_pos (i - vs.length) with h0 | h0
        · exact h0
        · rw [List.getElem?_eq_none (by simp; omega)] at hx; cases hx
      rw [hi0] at hx
      rw [← hlen, hi0] at hr
      simp only [List.getElem?_cons_zero, Option.some.injEq] at hx hr
      subst hx hr
      have hsz : cs.size = r.length := by have := congrArg List.length hcs; simpa [intVals] using this
      have := World.ownsRow_lit (base := base) (e := T0) (size := 1) w cs r.length hb hm (by omega)
      rw [hcs] at this
      exact this
  · have key : ∀ k z, (vs ++ [Value.slice (some ⟨w.heap.size, 0, none⟩) r.length r.length])[k]? = some z → z.ownBlock = some g → (k < vs.length ∧ vs[k]? = some z ∧ g < w.heap.size) ∨ (k = vs.length ∧ g = w.heap.size) := by
      intro k z hz hzg
      by_cases hk : k < vs.length
      · rw [List.getElem?_append_left hk] at hz
        obtain ⟨r2, hr2⟩ := get_some (l := rows) (n := k) (by omega)
        exact Or.inl ⟨hk, hz, ((h.own k z r2 hz hr2).lt g hzg).2⟩
      · rw [List.getElem?_append_right (by omega)] at hz
        have hi0 : k - vs.length = 0 := by
          rcases Nat.eq_zero_or_pos (k - vs.length) with h0 | h0
          · exact h0
          · rw [List.getElem?_eq_none (by simp; omega)] at hz; cases hz
        rw [hi0] at hz
        simp only [List.getElem?_cons_zero, Option.some.injEq] at hz
        subst hz
        simp only [Value.ownBlock, Option.some.injEq] at hzg
        exact Or.inr ⟨by omega, hzg.symm⟩
    rcases key i x hx hgx with ⟨h1, h2, h3⟩ | ⟨h1, h2⟩ <;> rcases key j y hy hgy with ⟨h4, h5, h6⟩ | ⟨h4, h5⟩
    · exact h.apart i j x y g h2 h5 hgx hgy
    · omega
    · omega
    · omega

/-- A cell of a row stored. -/
theorem TRows.stored {T0 : TypeId} {w : World} {base g cap i : Nat} {vs : List Value} {rows : List (List Int)} {r : List Int} (h : TRows T0 w base vs rows) (hr : rows[i]? = some r) (hx : vs[i]? = some (.slice (some ⟨g, 0, none⟩) r.length cap)) (j : Nat) (u : Int) :
    TRows T0 (w.setCell ⟨g, j, none⟩ (.int .i64 u)) base vs (rows.set i (r.set j u)) ∧ w.grownBy (w.setCell ⟨g, j, none⟩ (.int .i64 u)) (some g) := by
  have ho := h.own i _ r hx hr
  have hst := ho.stored j (.int .i64 u)
  refine ⟨⟨by simp [h.len], fun k y q hy hq => ?_, h.apart⟩, hst.2⟩
  by_cases hk : k = i
  · subst hk
    rw [hx] at hy
    simp only [Option.some.injEq] at hy
    subst hy
    rw [List.getElem?_set] at hq
    have hl : k < rows.length := by
      rcases Nat.lt_or_ge k rows.length with h1 | h1
      · exact h1
      · rw [List.getElem?_eq_none h1] at hr; cases hr
    simp only [hl, if_true, Option.some.injEq] at hq
    subst hq
    have e1 : (intVals r).set j (.int .i64 u) = intVals (r.set j u) := by simp [intVals, List.map_set]
    rw [← e1, List.length_set]
    exact hst.1
  · rw [List.getElem?_set, if_neg (fun h => hk h.symm)] at hq
    refine (h.own k y q hy hq).kept hst.2 ?_
    cases hyb : y.ownBlock with
    | none => exact Or.inl rfl
    | some b => exact Or.inr fun hh => hk (h.apart k i y _ g hy hx (by rw [hyb, hh]) rfl)

/-- A table as it reads. -/
def TabAt (w : World) (a : Option Addr) (n : Nat) (rows : List (List Int)) : Prop :=
  ∃ vs, RowAt w a n vs ∧ vs.length = rows.length ∧ ∀ (i : Nat) (x : Value) (r : List Int), vs[i]? = some x → rows[i]? = some r → ∃ a' c', x = .slice a' r.length c' ∧ RowAt w a' r.length (intVals r)
theorem TabAt.below {B : Nat} {w w' : World} {a : Option Addr} {n : Nat} {rows : List (List Int)} (h : TabAt w a n rows) (hb : Below B w w') (hB : w.heap.size ≤ B) : TabAt w' a n rows := by
  obtain ⟨vs, h1, h2, h3⟩ := h
  exact ⟨vs, h1.below hb hB, h2, fun i x r hx hr => let ⟨a', c', e, q⟩ := h3 i x r hx hr; ⟨a', c', e, q.below hb hB⟩⟩
theorem tab_len {w : World} {a : Option Addr} {n : Nat} {rows : List (List Int)} (h : TabAt w a n rows) : rows.length = n ∧ n ≤ 140737488351232 := by
  obtain ⟨vs, h1, h2, h3⟩ := h
  exact ⟨by rw [← h2, h1.len], h1.lim⟩
theorem grid_tabAt {T1 T0 : TypeId} {w : World} {base : Nat} {v : Value} {rows : List (List Int)} (h : TGrid T1 T0 w base v rows) (hlim : rows.length ≤ 140737488351232) (hrl : ∀ r ∈ rows, r.length ≤ 140737488351232) :
    ∃ a cap, v = .slice a rows.length cap ∧ TabAt w a rows.length rows := by
  obtain ⟨vs, ho, hr⟩ := h
  obtain ⟨a, cap, rfl, hra⟩ := owns_rowAt ho hlim
  exact ⟨a, cap, rfl, vs, hra, hr.len, fun i x r hx hr' => owns_rowAt (hr.own i x r hx hr') (hrl r (List.mem_of_getElem? hr'))⟩

/-- A value appended to a slice of the call's own: what is owned, and that all else is as it was. -/
theorem wpList_appg {P : Program} {wr : World} {ops : Array Oper} {rest : List Oper} {o : Oper} {a : Act} {Q : Exit → Act → World → Prop}
    (hg : o.guard = none) (s x : Operand) (t : TypeId) (hop : o.op = Op.call { callee := Callee.builtin Builtin.append, args := #[s, x], argTypes := #[t, t] })
    (B : Nat) (e : TypeId) (z : Value) (bytes : Nat) (h1 : P.underlying t = some (.slice e)) (hinfo : (P.info? e).map (fun i => (i.zero, i.size, i.bytes)) = some (some z, 1, bytes)) (hzs : z.cells.size = 1)
    (v : Value) (m : Nat) (xs : List Value) (u : Value) (hown : wr.ownsRow B e 1 v m xs) (hs : a.eval s = v) (hx : a.eval x = .slice (some ⟨wr.heap.size, 0, none⟩) 1 1)
    (hu : u.oneCell' = true) (hlim : (m + 1) * bytes ≤ 140737488355328) (hlim2 : m + 1 ≤ maxLen) (hB : B ≤ wr.heap.size)
    (hK : ∀ v' w1, w1.ownsRow B e 1 v' (m + 1) (xs ++ [u]) → wr.grownBy w1 v.ownBlock → wpList P ops Q rest (a.put o.dst v') w1) :
    wpList P ops Q (o :: rest) a (wr.alloc (.cells #[u] e)) := by
  obtain ⟨i, hi, hz, hz1, hz2⟩ := info_parts hinfo
  refine wpList_append_own _ hg s x t hop B e i z 1 bytes h1 hi hz hz1 hz2 hzs (by decide) v m xs hs (hown.alloc _) ⟨wr.heap.size, 0, none⟩ 1 1 [u] hx rfl ?_ ?_ hlim2 hlim (by simp; omega) ?_
  · intro j y hj
    match j, hj with
    | 0, hj => simp at hj; subst hj; simp [Addr.add]
  · intro y hy; simp at hy; subst hy; exact hu
  · intro v' w1 hown' hgrow _
    exact hK v' w1 hown' (grown_trans (World.grownBy_alloc _ _ _) hgrow)

theorem RowAt.drewN {w : World} {a : Option Addr} {n : Nat} {xs : List Value} (h : RowAt w a n xs) (m : Nat) : RowAt (w.drewN m) a n xs := h.below (below_drewN (Below.refl w.heap.size w) m) (Nat.le_refl _)

set_option maxHeartbeats 1000000 in
theorem eqIntSQ_c (a b : Option Addr) (n c d : Nat) (xs : List Int) (w : World) (ha : RowAt w a n (intVals xs)) (hb : RowAt w b n (intVals xs)) :
    Calls Tryz.prog 56 #[.slice a n c, .slice b n d] w fun e w' => e = .returned (.bool true) ∧ ∃ m, w' = w.drewN m := by
  obtain ⟨hl, hlim, hat⟩ := ha
  obtain ⟨_, _, hbt⟩ := hb
  have hlen := hid (show xs.length = n by simpa [intVals] using hl)
  clear hl
  have HAT := hid hat
  have HBT := hid hbt
  clear hat hbt
  go_enter Tryz.func56, Tryz.ntmps56
  go_wp2
  go_loopw [5] (fun i wr => ∃ k : Nat, k ≤ n ∧ i = .int .i64 k ∧ ∃ m, wr = w.drewN m) (fun i _ => n - (intOf i).toNat)
  case atStart => exact ⟨0, by omega, rfl, 0, rfl⟩
  case round =>
    obtain ⟨k, hk, rfl, m, hm⟩ := hrel
    by_cases hlt : k < n
    · obtain ⟨s, hsk⟩ := get_some (l := xs) (n := k) (by rw [hlen.out]; exact hlt)
      obtain ⟨b1, off1, rfl, hb1, hc1⟩ := HAT.out (by omega)
      obtain ⟨b2, off2, rfl, hb2, hc2⟩ := HBT.out (by omega)
      have hcell1 := (show wr.cell? ⟨b1, off1 + k, none⟩ = w.cell? ⟨b1, off1 + k, none⟩ by rw [hm]; rfl).trans (hc1 k _ (intVals_get hsk))
      have hcell2 := (show wr.cell? ⟨b2, off2 + k, none⟩ = w.cell? ⟨b2, off2 + k, none⟩ by rw [hm]; rfl).trans (hc2 k _ (intVals_get hsk))
      have HM := hid hm
      clear hsk hc1 hc2 hm
      go_wp2
      go_quiet (fail)
      go_wp2
      go_roundw
      case rel => exact ⟨k + 1, by omega, by go_num, m + nq, by rw [HM.out, World.drewN_drewN]⟩
      case measure => simp [intOf]; omega
    · have HM := hid hm
      clear hm
      go_wp2
      go_ret
      exact ⟨rfl, m, HM.out⟩

set_option maxHeartbeats 1000000 in
theorem eqIntSS_c (a b : Option Addr) (n c d : Nat) (rows : List (List Int)) (w : World) (ha : TabAt w a n rows) (hb : TabAt w b n rows) :
    Calls Tryz.prog 14 #[.slice a n c, .slice b n d] w fun e w' => e = .returned (.bool true) ∧ ∃ m, w' = w.drewN m := by
  obtain ⟨hl, hlim⟩ := tab_len ha
  have hlen := hid hl
  clear hl
  obtain ⟨vs, h1, h2, h3⟩ := ha
  obtain ⟨vt, k1, k2, k3⟩ := hb
  have H3 := hid h3
  have K3 := hid k3
  have HL := hid h2
  have KL := hid k2
  have HAT := hid h1.at_
  have KAT := hid k1.at_
  clear h1 h2 h3 k1 k2 k3
  go_enter Tryz.func14, Tryz.ntmps14
  go_wp2
  go_loopw [5] (fun i wr => ∃ k : Nat, k ≤ n ∧ i = .int .i64 k ∧ ∃ m, wr = w.drewN m) (fun i _ => n - (intOf i).toNat)
  case atStart => exact ⟨0, by omega, rfl, 0, rfl⟩
  case round =>
    obtain ⟨k, hk, rfl, m, hm⟩ := hrel
    by_cases hlt : k < n
    · obtain ⟨r, hr⟩ := get_some (l := rows) (n := k) (by rw [hlen.out]; exact hlt)
      obtain ⟨x, hx⟩ := get_some (l := vs) (n := k) (by rw [HL.out, hlen.out]; exact hlt)
      obtain ⟨y, hy⟩ := get_some (l := vt) (n := k) (by rw [KL.out, hlen.out]; exact hlt)
      obtain ⟨a1, c1, rfl, hr1⟩ := H3.out k x r hx hr
      obtain ⟨a2, c2, rfl, hr2⟩ := K3.out k y r hy hr
      obtain ⟨b1, off1, rfl, hb1, hc1⟩ := HAT.out (by omega)
      obtain ⟨b2, off2, rfl, hb2, hc2⟩ := KAT.out (by omega)
      have hcell1 := (show wr.cell? ⟨b1, off1 + k, none⟩ = w.cell? ⟨b1, off1 + k, none⟩ by rw [hm]; rfl).trans (hc1 k _ hx)
      have hcell2 := (show wr.cell? ⟨b2, off2 + k, none⟩ = w.cell? ⟨b2, off2 + k, none⟩ by rw [hm]; rfl).trans (hc2 k _ hy)
      have HM := hid hm
      have R1 : Hid (RowAt wr a1 r.length (intVals r)) := hid (by rw [hm]; exact hr1.drewN m)
      have R2 : Hid (RowAt wr a2 r.length (intVals r)) := hid (by rw [hm]; exact hr2.drewN m)
      clear hx hy hr hr1 hr2 hc1 hc2 hm
      go_wp2
      go_quiet ((go_at_call 56; refine Calls.quiet_of (eqIntSQ_c a1 a2 r.length c1 c2 r _ (R1.out.drewN _) (R2.out.drewN _))))
      go_wp2
      go_roundw
      case rel => exact ⟨k + 1, by omega, by go_num, m + nq, by rw [HM.out, World.drewN_drewN]⟩
      case measure => simp [intOf]; omega
    · have HM := hid hm
      clear hm
      go_wp2
      go_ret
      exact ⟨rfl, m, HM.out⟩
end Go.Proofs.YtpfeflhcbcgbfaaGreatDoor
