/- Tables of zeros. Conditions: sizes within the reach. -/
import Derived.Test.YtpfeflhcbcgbfaaGreatDoorGrid
namespace Go.Proofs.YtpfeflhcbcgbfaaGreatDoor
open Go.RowKit

def markRow (k n : Nat) : List Int := (List.range n).map fun i => ((k + i : Nat) : Int)
theorem markRow_len (k n : Nat) : (markRow k n).length = n := by simp [markRow]
theorem markRow_vals (k n : Nat) : intVals (markRow k n) = marks k n := by simp [intVals, markRow, marks]
def cells (rows : List (List Int)) : Nat := (rows.map List.length).sum
def markTab : Nat → List (List Int) → List (List Int)
  | _, [] => []
  | k, r :: rs => markRow k r.length :: markTab (k + r.length) rs
theorem markTab_len (rows : List (List Int)) : ∀ k, (markTab k rows).length = rows.length := by
  induction rows with
  | nil => intro k; rfl
  | cons r rs ih => intro k; simp [markTab, ih]
theorem markTab_snoc (rs : List (List Int)) (r : List Int) : ∀ k, markTab k (rs ++ [r]) = markTab k rs ++ [markRow (k + cells rs) r.length] := by
  induction rs with
  | nil => intro k; simp [markTab, cells]
  | cons q qs ih => intro k; simp [markTab, ih, cells, Nat.add_assoc]
theorem cells_take {rows : List (List Int)} {i : Nat} {r : List Int} (h : rows[i]? = some r) : cells (rows.take (i + 1)) = cells (rows.take i) + r.length := by
  rw [List.take_add_one, h]; simp [cells]
theorem cells_le (rows : List (List Int)) (i : Nat) : cells (rows.take i) ≤ cells rows := by
  have := congrArg cells (List.take_append_drop i rows)
  simp only [cells, List.map_append, List.sum_append] at this ⊢
  omega
theorem cells_row {rows : List (List Int)} {i : Nat} {r : List Int} (h : rows[i]? = some r) : cells (rows.take i) + r.length ≤ cells rows := by
  have := cells_take h
  have := cells_le rows (i + 1)
  omega
def mt (k : Nat) (rows : List (List Int)) (i : Nat) : List (List Int) := markTab k (rows.take i) ++ rows.drop i
theorem mt_zero (k : Nat) (rows : List (List Int)) : mt k rows 0 = rows := by simp [mt, markTab]
theorem mt_all (k : Nat) (rows : List (List Int)) : mt k rows rows.length = markTab k rows := by simp [mt]
theorem mt_pre {rows : List (List Int)} {i : Nat} {r : List Int} (h : rows[i]? = some r) (k : Nat) : (markTab k (rows.take i)).length = i := by
  have hl : i < rows.length := by
    rcases Nat.lt_or_ge i rows.length with h1 | h1
    · exact h1
    · rw [List.getElem?_eq_none h1] at h; cases h
  rw [markTab_len]; simp; omega
theorem mt_get {rows : List (List Int)} {i : Nat} {r : List Int} (h : rows[i]? = some r) (k : Nat) : (mt k rows i)[i]? = some r := by
  have hl := mt_pre h k
  unfold mt
  rw [List.getElem?_append_right (by omega), hl, Nat.sub_self, List.getElem?_drop]
  simpa using h
theorem mt_step {rows : List (List Int)} {i : Nat} {r : List Int} (h : rows[i]? = some r) (k : Nat) : (mt k rows i).set i (markRow (k + cells (rows.take i)) r.length) = mt k rows (i + 1) := by
  have hl := mt_pre h k
  have hlt : i < rows.length := by
    rcases Nat.lt_or_ge i rows.length with h1 | h1
    · exact h1
    · rw [List.getElem?_eq_none h1] at h; cases h
  unfold mt
  rw [List.set_append_right _ _ (by omega), hl, Nat.sub_self, List.take_add_one, h]
  have hd : rows.drop i = rows[i] :: rows.drop (i + 1) := List.drop_eq_getElem_cons hlt
  rw [hd, List.set_cons_zero]
  simp [markTab_snoc]
theorem markTab_get {rows : List (List Int)} {i : Nat} {r : List Int} (h : rows[i]? = some r) (k : Nat) : (markTab k rows)[i]? = some (markRow (k + cells (rows.take i)) r.length) := by
  induction rows generalizing i k with
  | nil => simp at h
  | cons q qs ih =>
    match i with
    | 0 => simp at h; subst h; simp [markTab, cells]
    | i + 1 =>
      simp only [List.getElem?_cons_succ] at h
      simp only [markTab, List.getElem?_cons_succ, ih h, List.take_succ_cons]
      simp [cells, Nat.add_assoc]

/-- A row changed by a callee. -/
theorem TRows.changed {T0 : TypeId} {w w' : World} {base i : Nat} {vs : List Value} {rows : List (List Int)} {r r' : List Int} {x : Value} (h : TRows T0 w base vs rows) (hr : rows[i]? = some r) (hx : vs[i]? = some x)
    (hg : w.grownBy w' x.ownBlock) (ho : w'.ownsRow base T0 1 x r'.length (intVals r')) : TRows T0 w' base vs (rows.set i r') := by
  refine ⟨by simp [h.len], fun k y q hy hq => ?_, h.apart⟩
  by_cases hk : k = i
  · subst hk
    rw [hx] at hy
    simp only [Option.some.injEq] at hy
    subst hy
    rw [List.getElem?_set] at hq
    have hl : k < rows.length := by
      rcases Nat.lt_or_ge k rows.length with h1 | h1
      · exact h1
      · rw [List.getElem?_eq_none h1] at hr; cases hr
    simp only [hl, if_true, Option.some.injEq] at hq
    subst hq
    exact ho
  · rw [List.getElem?_set, if_neg (fun h => hk h.symm)] at hq
    refine (h.own k y q hy hq).kept hg ?_
    cases hyb : y.ownBlock with
    | none => exact Or.inl rfl
    | some b => exact Or.inr fun hh => hk (h.apart k i y _ b hy hx hyb hh.symm)

end Go.Proofs.YtpfeflhcbcgbfaaGreatDoor
namespace Go.Proofs.YtpfeflhcbcgbfaaGreatDoor
open Go.RowKit

theorem kept_none {w w' : World} {base e n : Nat} {v : Value} {xs : List Value} (h : w.ownsRow base e 1 v n xs) (hg : w.grownBy w' none) : w'.ownsRow base e 1 v n xs := h.kept hg (by cases hv : v.ownBlock <;> simp)
theorem infoIntZ : (Tryz.prog.info? 3).map (fun i => (i.zero, i.size, i.bytes)) = some (some (.int .i64 0), 1, 8) := by kernel_rfl
theorem owns_lit3 {w : World} {base e : Nat} (cs : Array Value) (xs : List Value) (h : cs.toList = xs) (hb : base ≤ w.heap.size) (hm : cs.size ≤ maxLen) :
    (w.alloc (.cells cs e)).ownsRow base e 1 (.slice (some ⟨w.heap.size, 0, none⟩) cs.size cs.size) xs.length xs := by
  subst h
  have := World.ownsRow_lit (base := base) (e := e) (size := 1) w cs cs.size hb hm (by simp)
  simpa using this
theorem TGrid.grown {T1 T0 : TypeId} {w w' : World} {base : Nat} {v : Value} {rows : List (List Int)} {row : Option Nat} (h : TGrid T1 T0 w base v rows) (hg : w.grownBy w' row) (hk : ∀ k, row = some k → k < base) : TGrid T1 T0 w' base v rows := by
  obtain ⟨vs, ho, hr⟩ := h
  have key : ∀ {e n : Nat} {x : Value} {xs : List Value}, w.ownsRow base e 1 x n xs → w'.ownsRow base e 1 x n xs := by
    intro e n x xs hx
    refine hx.kept hg ?_
    cases hb : x.ownBlock with
    | none => exact Or.inl rfl
    | some b =>
      refine Or.inr fun hh => ?_
      have h1 := (hx.lt b hb).1
      have h2 := hk b hh.symm
      omega
  exact ⟨vs, key ho, hr.len, fun i x r hx hr' => key (hr.own i x r hx hr'), hr.apart⟩
/-- A row more, just made. -/
theorem TRows.more {T0 : TypeId} {w w' : World} {base c : Nat} {vs : List Value} {rows : List (List Int)} {r : List Int} (h : TRows T0 w base vs rows) (hg : w.grownBy w' none) (ho : w'.ownsRow base T0 1 (.slice (some ⟨w.heap.size, 0, none⟩) r.length c) r.length (intVals r)) :
    TRows T0 w' base (vs ++ [.slice (some ⟨w.heap.size, 0, none⟩) r.length c]) (rows ++ [r]) := by
  have hlen := h.len
  refine ⟨by simp [hlen], fun i x r' hx hr => ?_, fun i j x y g hx hy hgx hgy => ?_⟩
  · by_cases hi : i < vs.length
    · rw [List.getElem?_append_left hi] at hx
      rw [List.getElem?_append_left (by omega)] at hr
      exact (h.own i x r' hx hr).kept hg (by cases hv : x.ownBlock <;> simp)
    · rw [List.getElem?_append_right (by omega)] at hx
      rw [List.getElem?_append_right (by omega)] at hr
      have hi0 : i - vs.length = 0 := by
        rcases Nat.eq_zero_or_pos (i - vs.length) with h0 | h0
        · exact h0
        · rw [List.getElem?_eq_none (by simp; omega)] at hx; cases hx
      rw [hi0] at hx
      rw [← hlen, hi0] at hr
      simp only [List.getElem?_cons_zero, Option.some.injEq] at hx hr
      subst hx hr
      exact ho
  · have key : ∀ k z, (vs ++ [Value.slice (some ⟨w.heap.size, 0, none⟩) r.length c])[k]? = some z → z.ownBlock = some g → (k < vs.length ∧ vs[k]? = some z ∧ g < w.heap.size) ∨ (k = vs.length ∧ g = w.heap.size) := by
      intro k z hz hzg
      by_cases hk : k < vs.length
      · rw [List.getElem?_append_left hk] at hz
        obtain ⟨r2, hr2⟩ := get_some (l := rows) (n := k) (by omega)
        exact Or.inl ⟨hk, hz, ((h.own k z r2 hz hr2).lt g hzg).2⟩
      · rw [List.getElem?_append_right (by omega)] at hz
        have hi0 : k - vs.length = 0 := by
          rcases Nat.eq_zero_or_pos (k - vs.length) with h0 | h0
          · exact h0
          · rw [List.getElem?_eq_none (by simp; omega)] at hz; cases hz
        rw [hi0] at hz
        simp only [List.getElem?_cons_zero, Option.some.injEq] at hz
        subst hz
        simp only [Value.ownBlock, Option.some.injEq] at hzg
        exact Or.inr ⟨by omega, hzg.symm⟩
    rcases key i x hx hgx with ⟨h1, h2, h3⟩ | ⟨h1, h2⟩ <;> rcases key j y hy hgy with ⟨h4, h5, h6⟩ | ⟨h4, h5⟩
    · exact h.apart i j x y g h2 h5 hgx hgy
    · omega
    · omega
    · omega

def zeroTab (r c : Nat) : List (List Int) := List.replicate r (List.replicate c 0)
theorem zeroTab_snoc (r c : Nat) : zeroTab (r + 1) c = zeroTab r c ++ [List.replicate c 0] := by unfold zeroTab; rw [List.replicate_succ']
theorem zeroTab_len (r c : Nat) : (zeroTab r c).length = r := by simp [zeroTab]
theorem made_zeros (n : Nat) : (madeCells (Value.int .i64 0).cells (n * 1)).toList = intVals (List.replicate n 0) := by
  rw [Nat.mul_one]
  show (madeCells #[Value.int .i64 0] n).toList = _
  rw [toList_madeCells_one]; simp [intVals]
theorem infoInts : (Tryz.prog.info? 39).map (fun i => (i.zero, i.size, i.bytes)) = some (some (.slice none 0 0), 1, 24) := by kernel_rfl
def GridPost (rows : List (List Int)) (w : World) (e : Ending) (w' : World) : Prop :=
  ∃ v, e = .returned v ∧ TGrid 39 3 w' w.heap.size v rows ∧ Below w.heap.size w w'
/-- What one round of a table's making leaves. -/
theorem zero_round {w0 w1 w2 : World} {B n j : Nat} {vs : List Value} {o v' : Value} (ho : w0.ownsRow B 39 1 o (zeroTab j n).length vs) (hrs : TRows 3 w0 B vs (zeroTab j n))
    (ho1 : w1.ownsRow B 3 1 (.slice (some ⟨w0.heap.size, 0, none⟩) n n) n (madeCells (Value.int .i64 0).cells (n * 1)).toList) (hg1 : w0.grownBy w1 none)
    (ho2 : w2.ownsRow B 39 1 v' (j + 1) (vs ++ [.slice (some ⟨w0.heap.size, 0, none⟩) n n])) (hg2 : w1.grownBy w2 o.ownBlock) : TGrid 39 3 w2 B v' (zeroTab (j + 1) n) := by
  rw [made_zeros] at ho1
  have h1 := hrs.more (r := List.replicate n 0) (c := n) hg1 (by rw [List.length_replicate]; exact ho1)
  have hok := ho.kept hg1 (by cases hv : o.ownBlock <;> simp)
  rw [List.length_replicate] at h1
  refine ⟨_, by rw [zeroTab_len]; exact ho2, ?_⟩
  rw [zeroTab_snoc]
  exact h1.kept hok (by decide) hg2

set_option maxHeartbeats 1000000 in
set_option maxRecDepth 100000 in
theorem impl_zeros_c (n : Nat) (w : World) (hn : n ≤ 1000000) :
    Calls Tryz.prog 117 #[.int .i64 n] w (GridPost (zeroTab n n) w) := by
  obtain ⟨ti, hi, hz, hz1, hz2⟩ := info_parts infoIntZ
  go_enter Tryz.func117, Tryz.ntmps117
  go_wp2
  go_loopw [3, 6] (fun o i wr => ∃ j : Nat, j ≤ n ∧ i = .int .i64 j ∧ TGrid 39 3 wr w.heap.size o (zeroTab j n) ∧ Below w.heap.size w wr) (fun _ i _ => n - (intOf i).toNat)
  case atStart => exact ⟨0, by omega, rfl, ⟨[], owns_lit3 #[] _ rfl (Nat.le_refl _) (by unfold maxLen; simp), TRows.nil _ _ _⟩, (Below.refl _ _).alloc (Nat.le_refl _) _⟩
  case round =>
    obtain ⟨j, hj, rfl, hgr, hbel⟩ := hrel
    by_cases hlt : j < n
    · obtain ⟨vs, ho, hrs⟩ := hgr
      have HRS := hid hrs
      clear hrs
      go_wp2_with (first | (at_make; refine wpList_make_full _ rfl _ _ 39 rfl w.heap.size 3 ti (.int .i64 0) 1 Tryz.underlying39 hi hz hz1 .i64 .i64 _ _ n rfl rfl rfl rfl (by rw [hz2]; omega) (by unfold maxLen; omega) hbel.size ?_; intro w1 hown1 hgr1; have ho1 := kept_none ho hgr1) | (at_builtin; go_must (refine wpList_appg rfl _ _ 31 rfl w.heap.size 39 (.slice none 0 0) 24 Tryz.underlying31 infoInts rfl _ (zeroTab j n).length vs _ ho1 rfl rfl rfl (by rw [zeroTab_len]; omega) (by rw [zeroTab_len]; unfold maxLen; omega) (Nat.le_trans hbel.size hgr1.size) ?_); intro v' w2 hown2 hgr2))
      go_roundw
      case rel =>
        rw [zeroTab_len] at hown2
        have hb1 : Below w.heap.size w w1 := hbel.grown hgr1 hbel.size (by intro k h; cases h)
        exact ⟨j + 1, by omega, by go_num, zero_round ho HRS.out hown1 hgr1 hown2 hgr2, hb1.grown hgr2 hb1.size (fun k hk => (ho1.lt k hk).1)⟩
      case measure => simp [intOf]; omega
    · obtain rfl : j = n := by omega
      go_wp2
      go_ret
      exact ⟨_, rfl, hgr, hbel⟩
set_option maxHeartbeats 1000000 in
set_option maxRecDepth 100000 in
theorem spec_l4Zero_c (r n : Nat) (w : World) (hn : n ≤ 1000000) (hr : r ≤ 1000000) :
    Calls Tryz.prog 109 #[.int .i64 r, .int .i64 n] w (GridPost (zeroTab r n) w) := by
  obtain ⟨ti, hi, hz, hz1, hz2⟩ := info_parts infoIntZ
  go_enter Tryz.func109, Tryz.ntmps109
  go_wp2
  go_loopw [5, 6] (fun o i wr => ∃ j : Nat, j ≤ r ∧ i = .int .i64 j ∧ TGrid 39 3 wr w.heap.size o (zeroTab j n) ∧ Below w.heap.size w wr) (fun _ i _ => r - (intOf i).toNat)
  case atStart => exact ⟨0, by omega, rfl, ⟨[], owns_lit3 #[] _ rfl (Nat.le_refl _) (by unfold maxLen; simp), TRows.nil _ _ _⟩, (Below.refl _ _).alloc (Nat.le_refl _) _⟩
  case round =>
    obtain ⟨j, hj, rfl, hgr, hbel⟩ := hrel
    by_cases hlt : j < r
    · obtain ⟨vs, ho, hrs⟩ := hgr
      have HRS := hid hrs
      clear hrs
      go_wp2_with (first | (at_make; refine wpList_make_full _ rfl _ _ 39 rfl w.heap.size 3 ti (.int .i64 0) 1 Tryz.underlying39 hi hz hz1 .i64 .i64 _ _ n rfl rfl rfl rfl (by rw [hz2]; omega) (by unfold maxLen; omega) hbel.size ?_; intro w1 hown1 hgr1; have ho1 := kept_none ho hgr1) | (at_builtin; go_must (refine wpList_appg rfl _ _ 31 rfl w.heap.size 39 (.slice none 0 0) 24 Tryz.underlying31 infoInts rfl _ (zeroTab j n).length vs _ ho1 rfl rfl rfl (by rw [zeroTab_len]; omega) (by rw [zeroTab_len]; unfold maxLen; omega) (Nat.le_trans hbel.size hgr1.size) ?_); intro v' w2 hown2 hgr2))
      go_roundw
      case rel =>
        rw [zeroTab_len] at hown2
        have hb1 : Below w.heap.size w w1 := hbel.grown hgr1 hbel.size (by intro k h; cases h)
        exact ⟨j + 1, by omega, by go_num, zero_round ho HRS.out hown1 hgr1 hown2 hgr2, hb1.grown hgr2 hb1.size (fun k hk => (ho1.lt k hk).1)⟩
      case measure => simp [intOf]; omega
    · obtain rfl : j = r := by omega
      go_wp2
      go_ret
      exact ⟨_, rfl, hgr, hbel⟩
end Go.Proofs.YtpfeflhcbcgbfaaGreatDoor
