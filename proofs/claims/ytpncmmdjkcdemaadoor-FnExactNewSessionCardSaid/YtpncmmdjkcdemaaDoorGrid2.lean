/- Marks in tables of the call's own. Conditions: sizes within the reach. -/
import Derived.Test.YtpncmmdjkcdemaaDoorGrid
namespace Go.Proofs.YtpncmmdjkcdemaaDoor
open Go.RowKit

def markRow (k n : Nat) : List Int := (List.range n).map fun i => ((k + i : Nat) : Int)
theorem markRow_len (k n : Nat) : (markRow k n).length = n := by simp [markRow]
theorem markRow_vals (k n : Nat) : intVals (markRow k n) = marks k n := by simp [intVals, markRow, marks]
def cells (rows : List (List Int)) : Nat := (rows.map List.length).sum
def markTab : Nat → List (List Int) → List (List Int)
  | _, [] => []
  | k, r :: rs => markRow k r.length :: markTab (k + r.length) rs
theorem markTab_len (rows : List (List Int)) : ∀ k, (markTab k rows).length = rows.length := by
  induction rows with
  | nil => intro k; rfl
  | cons r rs ih => intro k; simp [markTab, ih]
theorem markTab_snoc (rs : List (List Int)) (r : List Int) : ∀ k, markTab k (rs ++ [r]) = markTab k rs ++ [markRow (k + cells rs) r.length] := by
  induction rs with
  | nil => intro k; simp [markTab, cells]
  | cons q qs ih => intro k; simp [markTab, ih, cells, Nat.add_assoc]
theorem cells_take {rows : List (List Int)} {i : Nat} {r : List Int} (h : rows[i]? = some r) : cells (rows.take (i + 1)) = cells (rows.take i) + r.length := by
  rw [List.take_add_one, h]; simp [cells]
theorem cells_le (rows : List (List Int)) (i : Nat) : cells (rows.take i) ≤ cells rows := by
  have := congrArg cells (List.take_append_drop i rows)
  simp only [cells, List.map_append, List.sum_append] at this ⊢
  omega
theorem cells_row {rows : List (List Int)} {i : Nat} {r : List Int} (h : rows[i]? = some r) : cells (rows.take i) + r.length ≤ cells rows := by
  have := cells_take h
  have := cells_le rows (i + 1)
  omega
def mt (k : Nat) (rows : List (List Int)) (i : Nat) : List (List Int) := markTab k (rows.take i) ++ rows.drop i
theorem mt_zero (k : Nat) (rows : List (List Int)) : mt k rows 0 = rows := by simp [mt, markTab]
theorem mt_all (k : Nat) (rows : List (List Int)) : mt k rows rows.length = markTab k rows := by simp [mt]
theorem mt_pre {rows : List (List Int)} {i : Nat} {r : List Int} (h : rows[i]? = some r) (k : Nat) : (markTab k (rows.take i)).length = i := by
  have hl : i < rows.length := by
    rcases Nat.lt_or_ge i rows.length with h1 | h1
    · exact h1
    · rw [List.getElem?_eq_none h1] at h; cases h
  rw [markTab_len]; simp; omega
theorem mt_get {rows : List (List Int)} {i : Nat} {r : List Int} (h : rows[i]? = some r) (k : Nat) : (mt k rows i)[i]? = some r := by
  have hl := mt_pre h k
  unfold mt
  rw [List.getElem?_append_right (by omega), hl, Nat.sub_self, List.getElem?_drop]
  simpa using h
theorem mt_step {rows : List (List Int)} {i : Nat} {r : List Int} (h : rows[i]? = some r) (k : Nat) : (mt k rows i).set i (markRow (k + cells (rows.take i)) r.length) = mt k rows (i + 1) := by
  have hl := mt_pre h k
  have hlt : i < rows.length := by
    rcases Nat.lt_or_ge i rows.length with h1 | h1
    · exact h1
    · rw [List.getElem?_eq_none h1] at h; cases h
  unfold mt
  rw [List.set_append_right _ _ (by omega), hl, Nat.sub_self, List.take_add_one, h]
  have hd : rows.drop i = rows[i] :: rows.drop (i + 1) := List.drop_eq_getElem_cons hlt
  rw [hd, List.set_cons_zero]
  simp [markTab_snoc]
theorem markTab_get {rows : List (List Int)} {i : Nat} {r : List Int} (h : rows[i]? = some r) (k : Nat) : (markTab k rows)[i]? = some (markRow (k + cells (rows.take i)) r.length) := by
  induction rows generalizing i k with
  | nil => simp at h
  | cons q qs ih =>
    match i with
    | 0 => simp at h; subst h; simp [markTab, cells]
    | i + 1 =>
      simp only [List.getElem?_cons_succ] at h
      simp only [markTab, List.getElem?_cons_succ, ih h, List.take_succ_cons]
      simp [cells, Nat.add_assoc]

/-- A row changed by a callee. -/
theorem TRows.changed {T0 : TypeId} {w w' : World} {base i : Nat} {vs : List Value} {rows : List (List Int)} {r r' : List Int} {x : Value} (h : TRows T0 w base vs rows) (hr : rows[i]? = some r) (hx : vs[i]? = some x)
    (hg : w.grownBy w' x.ownBlock) (ho : w'.ownsRow base T0 1 x r'.length (intVals r')) : TRows T0 w' base vs (rows.set i r') := by
  refine ⟨by simp [h.len], fun k y q hy hq => ?_, h.apart⟩
  by_cases hk : k = i
  · subst hk
    rw [hx] at hy
    simp only [Option.some.injEq] at hy
    subst hy
    rw [List.getElem?_set] at hq
    have hl : k < rows.length := by
      rcases Nat.lt_or_ge k rows.length with h1 | h1
      · exact h1
      · rw [List.getElem?_eq_none h1] at hr; cases hr
    simp only [hl, if_true, Option.some.injEq] at hq
    subst hq
    exact ho
  · rw [List.getElem?_set, if_neg (fun h => hk h.symm)] at hq
    refine (h.own k y q hy hq).kept hg ?_
    cases hyb : y.ownBlock with
    | none => exact Or.inl rfl
    | some b => exact Or.inr fun hh => hk (h.apart k i y _ b hy hx hyb hh.symm)

set_option maxHeartbeats 1000000 in
theorem markIntSS_c (base : Nat) (v : Value) (k : Nat) (rows : List (List Int)) (w : World) (hg : TGrid 48 3 w base v rows) (hk : k + cells rows ≤ 140737488355328) (hn : rows.length ≤ 140737488351232) (hb : base ≤ w.heap.size) :
    Calls Tryd.prog 14 #[v, .int .i64 k] w fun e w' => e = .returned (.int .i64 ((k + cells rows : Nat) : Int)) ∧ TGrid 48 3 w' base v (markTab k rows) ∧ Below base w w' := by
  obtain ⟨vs, ho, hrs⟩ := hg
  obtain ⟨n, hnn⟩ : ∃ n, n = rows.length := ⟨_, rfl⟩
  rw [← hnn] at ho hn
  obtain ⟨a, cap, rfl, hra⟩ := owns_rowAt ho hn
  have HN := hid hnn
  have HO := hid ho
  have HRS := hid hrs
  have HK := hid hk
  clear hra ho hrs hnn hk
  go_enter Tryd.func14, Tryd.ntmps14
  go_wp2
  go_loopw [1, 5] (fun q i wr => ∃ j : Nat, j ≤ n ∧ i = .int .i64 j ∧ q = .int .i64 ((k + cells (rows.take j) : Nat) : Int) ∧ wr.ownsRow base 48 1 (.slice a n cap) n vs ∧ TRows 3 wr base vs (mt k rows j) ∧ Below base w wr) (fun _ i _ => n - (intOf i).toNat)
  case atStart => exact ⟨0, by omega, rfl, by simp [cells], HO.out, by rw [mt_zero]; exact HRS.out, Below.refl _ _⟩
  case round =>
    obtain ⟨j, hj, rfl, rfl, hown, hrs, hbel⟩ := hrel
    by_cases hlt : j < n
    · obtain ⟨r, hr⟩ := get_some (l := rows) (n := j) (by have := HN.out; omega)
      obtain ⟨x, hx⟩ := get_some (l := vs) (n := j) (by rw [hown.1]; omega)
      have hrow := hrs.own j x r hx (mt_get hr k)
      obtain ⟨a2, c2, hv, hr2⟩ := owns_rowAt hown hn
      simp only [Value.slice.injEq, true_and] at hv
      obtain ⟨rfl, rfl⟩ := hv
      obtain ⟨b, off, rfl, hb1, hc⟩ := hr2.at_ (by omega)
      have hcell := hc j _ hx
      have hcr := cells_row hr
      have hct := cells_take hr
      obtain ⟨q, hq⟩ : ∃ q, q = k + cells (rows.take j) := ⟨_, rfl⟩
      rw [← hq]
      have HQ := hid hq
      have HX := hid hx
      have HR := hid hr
      have HRW := hid hrow
      have hq2 : q + r.length ≤ 140737488355328 := by have := HK.out; omega
      have HCT := hid hct
      clear hc hr2 hx hr hrow hct hcr hq
      go_wp2_with fail
      refine (markIntS_c base x r.length q _ _ HRW.out (by omega) (by omega)).mono ?_
      rintro e w' ⟨rfl, ho2, hg2⟩
      go_wp2
      go_roundw
      case rel =>
        refine ⟨j + 1, by omega, by go_num, ?_, hown.kept hg2 (owns_ne hown HRW.out (by decide)), ?_, hbel.grown hg2 (Nat.le_trans hb hbel.size) (fun k hk => (HRW.out.lt k hk).1)⟩
        · rw [HCT.out, ← Nat.add_assoc, ← HQ.out, Int.natCast_add]
        · rw [← mt_step HR.out k, ← HQ.out]
          exact hrs.changed (mt_get HR.out k) HX.out hg2 (by rw [markRow_len, markRow_vals]; exact ho2)
      case measure => simp [intOf]; omega
    · obtain rfl : j = n := by omega
      go_wp2
      go_ret
      refine ⟨?_, ⟨vs, by rw [markTab_len, ← HN.out]; exact hown, by rw [← mt_all, ← HN.out]; exact hrs⟩, hbel⟩
      show Ending.returned (Value.int .i64 ((k + cells (rows.take j) : Nat) : Int)) = _
      rw [HN.out, List.take_length]

set_option maxHeartbeats 1000000 in
theorem heldIntSS_c (a : Option Addr) (n c k : Nat) (rows : List (List Int)) (w : World) (hr : TabAt w a n (markTab k rows)) (hk : k + cells rows ≤ 140737488355328) :
    Calls Tryd.prog 15 #[.slice a n c, .int .i64 k] w fun e w' => e = .returned (.int .i64 ((k + cells rows : Nat) : Int)) ∧ w = w' := by
  obtain ⟨hl, hlim⟩ := tab_len hr
  rw [markTab_len] at hl
  have HN := hid hl
  clear hl
  obtain ⟨vs, h1, h2, h3⟩ := hr
  rw [markTab_len, HN.out] at h2
  have H3 := hid h3
  have H2 := hid h2
  have HAT := hid h1.at_
  have HK := hid hk
  clear h1 h2 h3 hk
  go_enter Tryd.func15, Tryd.ntmps15
  go_wp2
  go_loop [1, 5] (fun q i => ∃ j : Nat, j ≤ n ∧ i = .int .i64 j ∧ q = .int .i64 ((k + cells (rows.take j) : Nat) : Int)) (fun _ i => n - (intOf i).toNat)
  case atStart => exact ⟨0, by omega, rfl, by simp [cells]⟩
  case round =>
    obtain ⟨j, hj, rfl, rfl⟩ := hrel
    by_cases hlt : j < n
    · obtain ⟨r, hr⟩ := get_some (l := rows) (n := j) (by have := HN.out; omega)
      obtain ⟨x, hx⟩ := get_some (l := vs) (n := j) (by rw [H2.out]; omega)
      obtain ⟨a1, c1, rfl, hr1⟩ := H3.out j x _ hx (markTab_get hr k)
      rw [markRow_len, markRow_vals] at hr1
      rw [markRow_len] at hx
      obtain ⟨b, off, rfl, hb1, hc⟩ := HAT.out (by omega)
      have hcell := hc j _ hx
      have hcr := cells_row hr
      have hct := cells_take hr
      obtain ⟨q, hq⟩ : ∃ q, q = k + cells (rows.take j) := ⟨_, rfl⟩
      rw [← hq]
      rw [← hq] at hr1
      have HQ := hid hq
      have HR := hid hr1
      have hq2 : q + r.length ≤ 140737488355328 := by have := HK.out; omega
      have HCT := hid hct
      clear hc hx hr hr1 hct hcr hq
      go_wp2_with fail
      refine (heldIntS_c a1 r.length c1 q _ HR.out (by omega)).mono ?_
      rintro e w' ⟨rfl, rfl⟩
      go_wp2
      go_round
      case rel => exact ⟨j + 1, by omega, by go_num, by rw [HCT.out, ← Nat.add_assoc, ← HQ.out, Int.natCast_add]⟩
      case measure => simp [intOf]; omega
    · obtain rfl : j = n := by omega
      go_wp2
      go_ret
      refine ⟨?_, rfl⟩
      show Ending.returned (Value.int .i64 ((k + cells (rows.take j) : Nat) : Int)) = _
      rw [← HN.out, List.take_length, Int.natCast_add]
end Go.Proofs.YtpncmmdjkcdemaaDoor
