/- Whether a matrix is small, both ways. Conditions: a table in memory. -/
import Derived.Test.YtpfeflhcbcgbfaaGreatDoorMul
namespace Go.Proofs.YtpfeflhcbcgbfaaGreatDoor
open Go.RowKit

/-- A row of a table that reads. -/
theorem tab_row {w : World} {a : Option Addr} {n i : Nat} {rows : List (List Int)} (h : TabAt w a n rows) (hi : i < n) {r : List Int} (hr : rows[i]? = some r) :
    ∃ b off a' c, a = some ⟨b, off, none⟩ ∧ b < w.heap.size ∧ w.cell? ⟨b, off + i, none⟩ = some (.slice a' r.length c) ∧ RowAt w a' r.length (intVals r) := by
  obtain ⟨vs, h1, h2, h3⟩ := h
  obtain ⟨b, off, rfl, hb, hc⟩ := h1.at_ (by omega)
  obtain ⟨x, hx⟩ := get_some (l := vs) (n := i) (by rw [h1.len]; exact hi)
  obtain ⟨a', c', rfl, hr'⟩ := h3 i x r hx hr
  exact ⟨b, off, a', c', rfl, hb, hc i _ hx, hr'⟩
theorem at2_row {rows : List (List Int)} {i : Nat} {r : List Int} (h : rows[i]? = some r) (k : Nat) : at2 rows i k = at0 r k := by rw [at2, List.getD_eq_getElem?_getD, h]; rfl
end Go.Proofs.YtpfeflhcbcgbfaaGreatDoor
namespace Go.Proofs.YtpfeflhcbcgbfaaGreatDoor
open Go.RowKit

/-- Rounds 0, 1, .. n - 1. -/
def iter {α : Type} (f : Nat → α → α) : Nat → α → α | 0, a => a | k + 1, a => f k (iter f k a)
theorem iter_inv {α : Type} {f : Nat → α → α} {P : α → Prop} (n : Nat) (h : ∀ k a, k < n → P a → P (f k a)) : ∀ k, k ≤ n → ∀ a, P a → P (iter f k a)
  | 0, _, _, ha => ha
  | k + 1, hk, a, ha => h k _ hk (iter_inv n h k (by omega) a ha)
theorem iter_ext {α : Type} {f g : Nat → α → α} {P : α → Prop} (n : Nat) (hP : ∀ k a, k < n → P a → P (f k a)) (h : ∀ k a, k < n → P a → f k a = g k a) : ∀ k, k ≤ n → ∀ a, P a → iter f k a = iter g k a
  | 0, _, _, _ => rfl
  | k + 1, hk, a, ha => by
    show f k (iter f k a) = g k (iter g k a)
    rw [← iter_ext n hP h k (by omega) a ha]
    exact h k _ hk (iter_inv n hP k (by omega) a ha)

def put2 (R : List (List Int)) (i j : Nat) (u : Int) : List (List Int) := R.set i ((R.getD i []).set j u)
/-- n rows of m numbers. -/
structure Rect (R : List (List Int)) (n m : Nat) : Prop where
  len : R.length = n
  row : ∀ r ∈ R, r.length = m
theorem Rect.get {R : List (List Int)} {n m i : Nat} (h : Rect R n m) (hi : i < n) : ∃ r, R[i]? = some r ∧ r.length = m ∧ R.getD i [] = r := by
  obtain ⟨r, hr⟩ := get_some (l := R) (n := i) (by rw [h.len]; exact hi)
  exact ⟨r, hr, h.row r (List.mem_of_getElem? hr), by rw [List.getD_eq_getElem?_getD, hr]; rfl⟩
theorem Rect.put2 {R : List (List Int)} {n m : Nat} (h : Rect R n m) (i j : Nat) (u : Int) : Rect (put2 R i j u) n m := by
  refine ⟨by simp [Proofs.YtpfeflhcbcgbfaaGreatDoor.put2, h.len], fun r hr => ?_⟩
  unfold Proofs.YtpfeflhcbcgbfaaGreatDoor.put2 at hr
  rcases List.mem_or_eq_of_mem_set hr with h1 | h1
  · exact h.row r h1
  · by_cases hi : i < n
    · obtain ⟨q, hq, hl, he⟩ := h.get hi
      rw [h1, he, List.length_set, hl]
    · rw [List.set_eq_of_length_le (by rw [h.len]; omega)] at hr
      exact h.row r hr
theorem put2_same {R : List (List Int)} {n m i j : Nat} (h : Rect R n m) (hi : i < n) (hj : j < m) (u : Int) : at2 (put2 R i j u) i j = u := by
  obtain ⟨q, hq, hl, he⟩ := h.get hi
  unfold put2 at2
  rw [he, List.getD_eq_getElem?_getD, List.getElem?_set, if_pos rfl, if_pos (by rw [h.len]; exact hi), Option.getD_some]
  exact at0_get (by rw [List.getElem?_set, if_pos rfl, if_pos (by omega)])
theorem put2_other {R : List (List Int)} {i j p q : Nat} (u : Int) (hne : i ≠ p ∨ j ≠ q) : at2 (put2 R i j u) p q = at2 R p q := by
  unfold put2 at2
  by_cases hp : i = p
  · subst hp
    rw [List.getD_eq_getElem?_getD, List.getElem?_set, if_pos rfl]
    by_cases hl : i < R.length
    · rw [if_pos hl, Option.getD_some]
      unfold at0
      rw [List.getD_eq_getElem?_getD, List.getElem?_set, if_neg (by rcases hne with h | h; exact absurd rfl h; exact h), ← List.getD_eq_getElem?_getD]
    · rw [if_neg hl, List.getD_eq_getElem?_getD, List.getElem?_eq_none (by omega)]
  · rw [List.getD_eq_getElem?_getD, List.getElem?_set, if_neg hp, ← List.getD_eq_getElem?_getD]
theorem zero_rect (n m : Nat) : Rect (zeroTab n m) n m := ⟨zeroTab_len n m, fun r hr => by rw [List.eq_of_mem_replicate hr, List.length_replicate]⟩
theorem zero_at (n m i j : Nat) : at2 (zeroTab n m) i j = 0 := by
  unfold at2 zeroTab at0
  rw [List.getD_eq_getElem?_getD, List.getD_eq_getElem?_getD, List.getElem?_replicate]
  split
  · rw [Option.getD_some, List.getElem?_replicate]; split <;> rfl
  · rfl
theorem rect_ext {R S : List (List Int)} {n m : Nat} (hR : Rect R n m) (hS : Rect S n m) (h : ∀ i j, i < n → j < m → at2 R i j = at2 S i j) : R = S := by
  refine List.ext_getElem (by rw [hR.len, hS.len]) fun i h1 h2 => ?_
  have hi : i < n := by rw [← hR.len]; exact h1
  refine List.ext_getElem (by rw [hR.row _ (List.getElem_mem h1), hS.row _ (List.getElem_mem h2)]) fun j h3 h4 => ?_
  have hj : j < m := by rw [← hR.row _ (List.getElem_mem h1)]; exact h3
  have e := h i j hi hj
  rw [at2_row (List.getElem?_eq_getElem h1) j, at2_row (List.getElem?_eq_getElem h2) j, at0_get (List.getElem?_eq_getElem h3), at0_get (List.getElem?_eq_getElem h4)] at e
  exact e

/-- A cell of a table of the call's own: what it holds, and the table with another number there. -/
theorem grid_cell {T1 T0 : TypeId} {w : World} {base gv n m cv : Nat} {R : List (List Int)} (h : TGrid T1 T0 w base (.slice (some ⟨gv, 0, none⟩) n cv) R) (hT : T1 ≠ T0) (hR : Rect R n m) {i j : Nat} (hi : i < n) (hj : j < m) :
    ∃ g c, w.cell? ⟨gv, i, none⟩ = some (.slice (some ⟨g, 0, none⟩) m c) ∧ w.cell? ⟨g, j, none⟩ = some (.int .i64 (at2 R i j)) ∧ w.frozen? ⟨g, j, none⟩ = false ∧ base ≤ g ∧
      (∀ u, TGrid T1 T0 (w.setCell ⟨g, j, none⟩ (.int .i64 u)) base (.slice (some ⟨gv, 0, none⟩) n cv) (put2 R i j u) ∧ w.grownBy (w.setCell ⟨g, j, none⟩ (.int .i64 u)) (some g)) := by
  obtain ⟨vs, ho, hrs⟩ := h
  rw [hR.len] at ho
  obtain ⟨r, hr, hl, he⟩ := hR.get hi
  obtain ⟨x, hx⟩ := get_some (l := vs) (n := i) (by rw [ho.1]; omega)
  have hrow := hrs.own i x r hx hr
  rw [hl] at hrow
  obtain ⟨g, c, rfl, hbg, hgl⟩ := own_form hrow (by omega)
  refine ⟨g, c, (ho.cellAt i (by omega)).trans hx, ?_, hrow.frozenAt j, hbg, fun u => ?_⟩
  · rw [at2_row hr]
    exact (hrow.cellAt j (by omega)).trans (intVals_get (at0_some (by omega)))
  · have h1 := hrs.stored hr (by rw [hl]; exact hx) j u
    refine ⟨⟨vs, ?_, ?_⟩, h1.2⟩
    · rw [show (put2 R i j u).length = n by simp [put2, hR.len]]
      exact ho.kept h1.2 (owns_ne ho hrow hT)
    · unfold put2
      rw [he]
      exact h1.1
theorem grid_form {T1 T0 : TypeId} {w : World} {base n : Nat} {v : Value} {R : List (List Int)} (h : TGrid T1 T0 w base v R) (hn : R.length = n) (h0 : 0 < n) : ∃ gv cv, v = .slice (some ⟨gv, 0, none⟩) n cv ∧ base ≤ gv ∧ gv < w.heap.size := by
  obtain ⟨vs, ho, _⟩ := h
  rw [hn] at ho
  exact own_form ho h0
theorem grid_tab {T1 T0 : TypeId} {w : World} {base gv n m cv : Nat} {R : List (List Int)} (h : TGrid T1 T0 w base (.slice (some ⟨gv, 0, none⟩) n cv) R) (hR : Rect R n m) (hn : n ≤ 1000000) (hm : m ≤ 1000000) : TabAt w (some ⟨gv, 0, none⟩) n R := by
  obtain ⟨a, c, he, ht⟩ := grid_tabAt h (by rw [hR.len]; omega) (fun r hr => by rw [hR.row r hr]; omega)
  rw [hR.len] at he ht
  simp only [Value.slice.injEq, true_and] at he
  rw [← he.1] at ht
  exact ht
/-- A cell of a table that reads. -/
theorem rect_cell {w : World} {a : Option Addr} {n m i j : Nat} {R : List (List Int)} (h : TabAt w a n R) (hR : Rect R n m) (hi : i < n) (hj : j < m) :
    ∃ b off b2 off2 c, a = some ⟨b, off, none⟩ ∧ b < w.heap.size ∧ w.cell? ⟨b, off + i, none⟩ = some (.slice (some ⟨b2, off2, none⟩) m c) ∧ b2 < w.heap.size ∧ w.cell? ⟨b2, off2 + j, none⟩ = some (.int .i64 (at2 R i j)) := by
  obtain ⟨r, hr, hl, he⟩ := hR.get hi
  obtain ⟨b, off, b2, off2, c, h1, h2, h3, h4, h5⟩ := tab_cell h hi hr (j := j) (by omega)
  exact ⟨b, off, b2, off2, c, h1, h2, by rw [← hl]; exact h3, h4, h5⟩
/-- A row of a table that reads. -/
theorem rect_row {w : World} {a : Option Addr} {n m i : Nat} {R : List (List Int)} (h : TabAt w a n R) (hR : Rect R n m) (hi : i < n) :
    ∃ b off a' c r, a = some ⟨b, off, none⟩ ∧ b < w.heap.size ∧ w.cell? ⟨b, off + i, none⟩ = some (.slice a' m c) ∧ RowAt w a' m (intVals r) ∧ R[i]? = some r ∧ ∀ j, at2 R i j = at0 r j := by
  obtain ⟨vs, h1, h2, h3⟩ := h
  obtain ⟨r, hr, hl, he⟩ := hR.get hi
  obtain ⟨b, off, rfl, hb, hc⟩ := h1.at_ (by omega)
  obtain ⟨x, hx⟩ := get_some (l := vs) (n := i) (by rw [h1.len]; exact hi)
  obtain ⟨a', c', rfl, hr'⟩ := h3 i x r hx hr
  rw [hl] at hr'
  exact ⟨b, off, a', c', r, rfl, hb, by rw [← hl]; exact hc i _ hx, hr', hr, fun j => at2_row hr j⟩
end Go.Proofs.YtpfeflhcbcgbfaaGreatDoor
namespace Go.Proofs.YtpfeflhcbcgbfaaGreatDoor
open Go.RowKit

def rowOk (n : Nat) (r : List Int) : Bool := decide (r.length = n) && r.all (fun x => inB x 0 1000000)
/-- What a matrix is. -/
def isMat (M : List (List Int)) : Bool := M.all (rowOk M.length) && inB M.length 1 9
theorem isMat_facts {M : List (List Int)} {n : Nat} (h : isMat M = true) (hn : M.length = n) : (1 ≤ n ∧ n ≤ 9) ∧ Rect M n n ∧ ∀ i j, 0 ≤ at2 M i j ∧ at2 M i j ≤ 1000000 := by
  unfold isMat at h
  rw [Bool.and_eq_true, inB_iff] at h
  obtain ⟨h1, h2⟩ := h
  rw [List.all_eq_true] at h1
  refine ⟨by omega, ⟨hn, fun r hr => ?_⟩, fun i j => ?_⟩
  · have := h1 r hr
    unfold rowOk at this
    rw [Bool.and_eq_true, decide_eq_true_eq] at this
    omega
  · unfold at2 at0
    rw [List.getD_eq_getElem?_getD, List.getD_eq_getElem?_getD]
    cases hr : M[i]? with
    | none => simp
    | some r =>
      rw [Option.getD_some]
      cases hx : r[j]? with
      | none => simp
      | some x =>
        rw [Option.getD_some]
        have := h1 r (List.mem_of_getElem? hr)
        unfold rowOk at this
        rw [Bool.and_eq_true, List.all_eq_true] at this
        exact inB_iff.1 (this.2 x (List.mem_of_getElem? hx))
theorem isMat_mk {M : List (List Int)} {n : Nat} (h1 : 1 ≤ n ∧ n ≤ 9) (hR : Rect M n n) (h2 : ∀ i j, i < n → j < n → 0 ≤ at2 M i j ∧ at2 M i j ≤ 1000000) : isMat M = true := by
  unfold isMat
  rw [Bool.and_eq_true, inB_iff, hR.len, List.all_eq_true]
  refine ⟨fun r hr => ?_, by omega⟩
  unfold rowOk
  rw [Bool.and_eq_true, decide_eq_true_eq, List.all_eq_true]
  refine ⟨hR.row r hr, fun x hx => ?_⟩
  obtain ⟨i, hi, rfl⟩ := List.mem_iff_getElem.1 hr
  obtain ⟨j, hj, rfl⟩ := List.mem_iff_getElem.1 hx
  have h3 := h2 i j (by rw [← hR.len]; exact hi) (by rw [← hR.row _ hr]; exact hj)
  rw [at2_row (List.getElem?_eq_getElem hi) j, at0_get (List.getElem?_eq_getElem hj)] at h3
  exact inB_iff.2 h3
theorem rowOk_len {n : Nat} {r : List Int} (h : r.length ≠ n) : rowOk n r = false := by unfold rowOk; simp [h]
theorem rowOk_bad {n j : Nat} {r : List Int} {x : Int} (h : r[j]? = some x) (hx : inB x 0 1000000 = false) : rowOk n r = false := by
  unfold rowOk; rw [all_stop (p := fun x => inB x 0 1000000) h hx, Bool.and_false]
theorem rowOk_yes {n : Nat} {r : List Int} (h : r.length = n) (hx : r.all (fun x => inB x 0 1000000) = true) : rowOk n r = true := by unfold rowOk; rw [hx]; simp [h]
theorem isMat_bad {M : List (List Int)} {n k : Nat} {r : List Int} (hn : M.length = n) (h : M[k]? = some r) (hr : rowOk n r = false) : isMat M = false := by
  unfold isMat; rw [all_stop h (by rw [hn]; exact hr), Bool.false_and]
theorem isMat_end {M : List (List Int)} {n k : Nat} (hn : M.length = n) (h : (M.take k).all (rowOk n) = true) (hk : n ≤ k) : isMat M = inB n 1 9 := by
  unfold isMat; rw [hn, all_end h (by omega), Bool.true_and]

set_option maxHeartbeats 1000000 in
theorem impl_IsMatrix_c (a : Option Addr) (n c : Nat) (M : List (List Int)) (w : World) (h : TabAt w a n M) :
    Calls Tryz.prog 96 #[.slice a n c] w fun e w' => e = .returned (.bool (isMat M)) ∧ w = w' := by
  obtain ⟨hl, hlim⟩ := tab_len h
  have hlen := hid hl
  have HT := hid h
  clear hl h
  by_cases h9 : 1 ≤ n ∧ n ≤ 9
  · obtain ⟨h1, h9⟩ := h9
    go_enter Tryz.func96, Tryz.ntmps96
    go_wp2
    go_loop [17] (fun i => ∃ k : Nat, k ≤ n ∧ i = .int .i64 k ∧ Hid ((M.take k).all (rowOk n) = true)) (fun i => n - (intOf i).toNat)
    case atStart => exact ⟨0, by omega, rfl, rfl⟩
    case round =>
      obtain ⟨k, hk, rfl, H⟩ := hrel
      by_cases hlt : k < n
      · obtain ⟨r, hr⟩ := get_some (l := M) (n := k) (by rw [hlen.out]; exact hlt)
        obtain ⟨b, off, a', c', rfl, hb, hcell, hrow⟩ := tab_row HT.out hlt hr
        obtain ⟨m, hm⟩ : ∃ m, m = r.length := ⟨_, rfl⟩
        rw [← hm] at hcell hrow
        have HM := hid hm
        have HR := hid hr
        have hml := hrow.lim
        have HROW := hid hrow
        clear hm hr hrow
        by_cases hmn : m = n
        · subst hmn
          have hne : ((m : Int) != (m : Int)) = false := by simp
          go_wp2
          go_loop [28] (fun i => ∃ j : Nat, j ≤ m ∧ i = .int .i64 j ∧ Hid ((r.take j).all (fun x => inB x 0 1000000) = true)) (fun i => m - (intOf i).toNat)
          case atStart => exact ⟨0, by omega, rfl, rfl⟩
          case round =>
            obtain ⟨j, hj, rfl, HJ⟩ := hrel
            by_cases hltj : j < m
            · obtain ⟨x, hx⟩ := get_some (l := r) (n := j) (by rw [← HM.out]; exact hltj)
              obtain ⟨b2, off2, rfl, hb2, hc2⟩ := HROW.out.at_ (by omega)
              have hcell2 := hc2 j _ (intVals_get hx)
              have HX := hid hx
              clear hx hc2
              by_cases hx0 : x < 0
              · go_wp2
                go_ret
                exact ⟨ret_bool (isMat_bad hlen.out HR.out (rowOk_bad HX.out (inB_f (.inl hx0)))).symm, rfl⟩
              · by_cases hx1 : 1000000 < x
                · go_wp2
                  go_ret
                  exact ⟨ret_bool (isMat_bad hlen.out HR.out (rowOk_bad HX.out (inB_f (.inr hx1)))).symm, rfl⟩
                · go_wp2
                  go_round
                  case rel => exact ⟨j + 1, by omega, by go_num, all_step HX.out HJ.out (inB_t (by omega))⟩
                  case measure => simp [intOf]; omega
            · obtain rfl : j = m := by omega
              go_wp2
              go_round
              case rel => exact ⟨k + 1, by omega, by go_num, all_step HR.out H.out (rowOk_yes HM.out.symm (all_end HJ.out (by rw [← HM.out]; exact Nat.le_refl _)))⟩
              case measure => simp [intOf]; omega
        · have hne : ((m : Int) != (n : Int)) = true := by simp; omega
          go_wp2
          go_ret
          exact ⟨ret_bool (isMat_bad hlen.out HR.out (rowOk_len (by rw [← HM.out]; exact hmn))).symm, rfl⟩
      · go_wp2
        go_ret
        exact ⟨ret_bool (by rw [isMat_end hlen.out H.out (by omega), inB_t (by omega)]), rfl⟩
  · have HX := hid (show isMat M = false by unfold isMat; rw [hlen.out, inB_f (by omega), Bool.and_false])
    have ho : n < 1 ∨ 9 < n := by omega
    clear h9
    rcases ho with ho | ho
    all_goals
      go_enter Tryz.func96, Tryz.ntmps96
      go_wp2
      go_ret
      exact ⟨ret_bool HX.out.symm, rfl⟩

set_option maxHeartbeats 1000000 in
theorem spec_IsMatrix_c (a : Option Addr) (n c : Nat) (M : List (List Int)) (w : World) (h : TabAt w a n M) :
    Calls Tryz.prog 83 #[.slice a n c] w fun e w' => e = .returned (.bool (isMat M)) ∧ w = w' := by
  obtain ⟨hl, hlim⟩ := tab_len h
  have hlen := hid hl
  have HT := hid h
  clear hl h
  go_enter Tryz.func83, Tryz.ntmps83
  go_wp2
  go_loop [3] (fun i => ∃ k : Nat, k ≤ n ∧ i = .int .i64 k ∧ Hid ((M.take k).all (rowOk n) = true)) (fun i => n - (intOf i).toNat)
  case atStart => exact ⟨0, by omega, rfl, rfl⟩
  case round =>
    obtain ⟨k, hk, rfl, H⟩ := hrel
    by_cases hlt : k < n
    · obtain ⟨r, hr⟩ := get_some (l := M) (n := k) (by rw [hlen.out]; exact hlt)
      obtain ⟨b, off, a', c', rfl, hb, hcell, hrow⟩ := tab_row HT.out hlt hr
      obtain ⟨m, hm⟩ : ∃ m, m = r.length := ⟨_, rfl⟩
      rw [← hm] at hcell hrow
      have HM := hid hm
      have HR := hid hr
      have hml := hrow.lim
      have HROW := hid hrow
      clear hm hr hrow
      by_cases hmn : m = n
      · subst hmn
        have hne : ((m : Int) != (m : Int)) = false := by simp
        go_wp2
        go_loop [4] (fun i => ∃ j : Nat, j ≤ m ∧ i = .int .i64 j ∧ Hid ((r.take j).all (fun x => inB x 0 1000000) = true)) (fun i => m - (intOf i).toNat)
        case atStart => exact ⟨0, by omega, rfl, rfl⟩
        case round =>
          obtain ⟨j, hj, rfl, HJ⟩ := hrel
          by_cases hltj : j < m
          · obtain ⟨x, hx⟩ := get_some (l := r) (n := j) (by rw [← HM.out]; exact hltj)
            obtain ⟨b2, off2, rfl, hb2, hc2⟩ := HROW.out.at_ (by omega)
            have hcell2 := hc2 j _ (intVals_get hx)
            have HX := hid hx
            clear hx hc2
            cases hin : inB x 0 1000000
            · have hin2 : (!inB x 0 1000000) = true := by rw [hin]; rfl
              go_wp2_with (go_at_call 58; refine (l1In_c _ _ _ _).mono ?_; rintro e w' ⟨rfl, rfl⟩)
              go_ret
              exact ⟨ret_bool (isMat_bad hlen.out HR.out (rowOk_bad HX.out hin)).symm, rfl⟩
            · go_wp2_with (go_at_call 58; refine (l1In_c _ _ _ _).mono ?_; rintro e w' ⟨rfl, rfl⟩)
              go_round
              case rel => exact ⟨j + 1, by omega, by go_num, all_step HX.out HJ.out hin⟩
              case measure => simp [intOf]; omega
          · obtain rfl : j = m := by omega
            go_wp2
            go_round
            case rel => exact ⟨k + 1, by omega, by go_num, all_step HR.out H.out (rowOk_yes HM.out.symm (all_end HJ.out (by rw [← HM.out]; exact Nat.le_refl _)))⟩
            case measure => simp [intOf]; omega
      · have hne : ((m : Int) != (n : Int)) = true := by simp; omega
        go_wp2
        go_ret
        exact ⟨ret_bool (isMat_bad hlen.out HR.out (rowOk_len (by rw [← HM.out]; exact hmn))).symm, rfl⟩
    · have HE := hid (isMat_end hlen.out H.out (by omega))
      go_wp2_with (go_at_call 58; refine (l1In_c _ _ _ _).mono ?_; rintro e w' ⟨rfl, rfl⟩)
      go_ret
      exact ⟨ret_bool HE.out.symm, rfl⟩
end Go.Proofs.YtpfeflhcbcgbfaaGreatDoor
namespace Go.Proofs.YtpfeflhcbcgbfaaGreatDoor
open Go.RowKit
def sm9 (r : List Int) : Bool := r.all fun x => decide (x ≤ 9)
def isSm (M : List (List Int)) : Bool := M.all sm9 && isMat M && decide (M.length ≤ 4)
theorem sm_bad {M : List (List Int)} {n k : Nat} {r : List Int} (hn : M.length = n) (h : M[k]? = some r) (hr : sm9 r = false) : isSm M = false := by
  unfold isSm
  rw [all_stop h hr, Bool.false_and, Bool.false_and]
theorem isSm_facts {M : List (List Int)} {n : Nat} (h : isSm M = true) (hn : M.length = n) : isMat M = true ∧ (1 ≤ n ∧ n ≤ 4) ∧ Rect M n n ∧ ∀ i j, i < n → j < n → 0 ≤ at2 M i j ∧ at2 M i j ≤ 9 := by
  unfold isSm at h
  rw [Bool.and_eq_true, Bool.and_eq_true, decide_eq_true_iff] at h
  obtain ⟨⟨h1, h2⟩, h3⟩ := h
  obtain ⟨q1, q2, q3⟩ := isMat_facts h2 hn
  refine ⟨h2, by omega, q2, fun i j hi hj => ⟨(q3 i j).1, ?_⟩⟩
  obtain ⟨r, hr, hl, he⟩ := q2.get hi
  rw [at2_row hr]
  rw [List.all_eq_true] at h1
  have h4 := h1 r (List.mem_of_getElem? hr)
  unfold sm9 at h4
  rw [List.all_eq_true] at h4
  have := at0_some (xs := r) (k := j) (by omega)
  exact of_decide_eq_true (h4 _ (List.mem_of_getElem? this))
set_option maxHeartbeats 2000000 in
theorem spec_IsSmall_c (a : Option Addr) (n c : Nat) (M : List (List Int)) (w : World) (h : TabAt w a n M) :
    Calls Tryz.prog 38 #[.slice a n c] w fun e w' => e = .returned (.bool (isSm M)) ∧ w = w' := by
  have HL := hid (tab_len h).1
  have HT := hid h
  have HIM := hid (spec_IsMatrix_c a n c M w h)
  have hlim := (tab_len h).2
  clear h
  go_enter Tryz.func38, Tryz.ntmps38
  go_wp2
  go_loop [3] (fun i => ∃ k : Nat, k ≤ n ∧ i = .int .i64 k ∧ Hid ((M.take k).all sm9 = true)) (fun i => n - (intOf i).toNat)
  case atStart => exact ⟨0, by omega, rfl, hid rfl⟩
  case round =>
    obtain ⟨k, hk, rfl, H⟩ := hrel
    by_cases hlt : k < n
    · have hki : (k : Int) < (n : Int) := by omega
      obtain ⟨r, hr⟩ := get_some (l := M) (n := k) (by rw [HL.out]; exact hlt)
      obtain ⟨b, off, a', c', rfl, hb, hcell, hrow⟩ := tab_row HT.out hlt hr
      obtain ⟨m, hm⟩ : ∃ m, m = r.length := ⟨_, rfl⟩
      rw [← hm] at hcell hrow
      have HM := hid hm
      have HR := hid hr
      have hml := hrow.lim
      have HROW := hid hrow
      clear hm hr hrow
      go_wp2
      go_loop [4] (fun i => ∃ j : Nat, j ≤ m ∧ i = .int .i64 j ∧ Hid ((r.take j).all (fun x => decide (x ≤ 9)) = true)) (fun i => m - (intOf i).toNat)
      case atStart => exact ⟨0, by omega, rfl, hid rfl⟩
      case round =>
        obtain ⟨j, hj, rfl, HJ⟩ := hrel
        by_cases hltj : j < m
        · have hji : (j : Int) < (m : Int) := by omega
          obtain ⟨x, hx⟩ := get_some (l := r) (n := j) (by rw [← HM.out]; exact hltj)
          obtain ⟨b2, off2, rfl, hb2, hc2⟩ := HROW.out.at_ (by omega)
          have hcell2 := hc2 j _ (intVals_get hx)
          have HX := hid hx
          clear hx hc2
          by_cases hx1 : 9 < x
          · have HBAD := hid (sm_bad HL.out HR.out (all_stop (p := fun x => decide (x ≤ 9)) HX.out (decide_eq_false (by omega))))
            go_wp2
            go_ret
            exact ⟨ret_bool HBAD.out.symm, rfl⟩
          · have HNJ := hid (all_step HX.out HJ.out (decide_eq_true (show x ≤ 9 by omega)))
            go_wp2
            go_round
            case rel => exact ⟨j + 1, by omega, by go_num, HNJ⟩
            case measure => simp [intOf]; omega
        · obtain rfl : j = m := by omega
          have HNK := hid (all_step HR.out H.out (show sm9 r = true from all_end HJ.out (by rw [← HM.out]; exact Nat.le_refl _)))
          go_wp2
          go_round
          case rel => exact ⟨k + 1, by omega, by go_num, HNK⟩
          case measure => simp [intOf]; omega
    · obtain rfl : k = n := by omega
      have HALL := hid (show M.all sm9 = true from all_end H.out (by rw [HL.out]; exact Nat.le_refl _))
      have HV := hid (show isSm M = (isMat M && decide (k ≤ 4)) by unfold isSm; rw [HALL.out, HL.out, Bool.true_and])
      obtain ⟨im, him⟩ : ∃ im, im = isMat M := ⟨_, rfl⟩
      rw [← him] at HV HIM
      clear him
      cases im with
      | false =>
        go_wp2_with fail
        refine HIM.out.mono ?_
        rintro e w' ⟨rfl, rfl⟩
        go_wp2
        go_ret
        exact ⟨ret_bool HV.out.symm, rfl⟩
      | true =>
        go_wp2_with fail
        refine HIM.out.mono ?_
        rintro e w' ⟨rfl, rfl⟩
        go_wp2
        go_ret
        exact ⟨ret_bool (by rw [HV.out, Bool.true_and]; congr 1; rw [eq_iff_iff]; omega), rfl⟩
set_option maxHeartbeats 2000000 in
theorem impl_IsSmall_c (a : Option Addr) (n c : Nat) (M : List (List Int)) (w : World) (h : TabAt w a n M) :
    Calls Tryz.prog 47 #[.slice a n c] w fun e w' => e = .returned (.bool (isSm M)) ∧ w = w' := by
  have HL := hid (tab_len h).1
  have HT := hid h
  have HIM := hid (impl_IsMatrix_c a n c M w h)
  have hlim := (tab_len h).2
  have HV := hid (show isSm M = (M.all sm9 && isMat M && decide (n ≤ 4)) by unfold isSm; rw [(tab_len h).1])
  clear h
  obtain ⟨im, him⟩ : ∃ im, im = isMat M := ⟨_, rfl⟩
  rw [← him] at HV HIM
  clear him
  go_enter Tryz.func47, Tryz.ntmps47
  cases im with
  | false =>
    go_wp2_with fail
    refine HIM.out.mono ?_
    rintro e w' ⟨rfl, rfl⟩
    go_wp2
    go_ret
    exact ⟨ret_bool (by rw [HV.out, Bool.and_false, Bool.false_and]), rfl⟩
  | true =>
    by_cases h4 : n ≤ 4
    · have h4i : ¬ ((4 : Int) < (n : Int)) := by omega
      go_wp2_with fail
      refine HIM.out.mono ?_
      rintro e w' ⟨rfl, rfl⟩
      go_wp2
      go_loop [17] (fun i => ∃ k : Nat, k ≤ n ∧ i = .int .i64 k ∧ Hid ((M.take k).all sm9 = true)) (fun i => n - (intOf i).toNat)
      case atStart => exact ⟨0, by omega, rfl, hid rfl⟩
      case round =>
        obtain ⟨k, hk, rfl, H⟩ := hrel
        by_cases hlt : k < n
        · have hki : (k : Int) < (n : Int) := by omega
          obtain ⟨r, hr⟩ := get_some (l := M) (n := k) (by rw [HL.out]; exact hlt)
          obtain ⟨b, off, a', c', rfl, hb, hcell, hrow⟩ := tab_row HT.out hlt hr
          obtain ⟨m, hm⟩ : ∃ m, m = r.length := ⟨_, rfl⟩
          rw [← hm] at hcell hrow
          have HM := hid hm
          have HR := hid hr
          have hml := hrow.lim
          have HROW := hid hrow
          clear hm hr hrow
          go_wp2
          go_loop [23] (fun i => ∃ j : Nat, j ≤ m ∧ i = .int .i64 j ∧ Hid ((r.take j).all (fun x => decide (x ≤ 9)) = true)) (fun i => m - (intOf i).toNat)
          case atStart => exact ⟨0, by omega, rfl, hid rfl⟩
          case round =>
            obtain ⟨j, hj, rfl, HJ⟩ := hrel
            by_cases hltj : j < m
            · have hji : (j : Int) < (m : Int) := by omega
              obtain ⟨x, hx⟩ := get_some (l := r) (n := j) (by rw [← HM.out]; exact hltj)
              obtain ⟨b2, off2, rfl, hb2, hc2⟩ := HROW.out.at_ (by omega)
              have hcell2 := hc2 j _ (intVals_get hx)
              have HX := hid hx
              clear hx hc2
              by_cases hx1 : 9 < x
              · have HBAD := hid (sm_bad HL.out HR.out (all_stop (p := fun x => decide (x ≤ 9)) HX.out (decide_eq_false (by omega))))
                go_wp2
                go_ret
                exact ⟨ret_bool HBAD.out.symm, rfl⟩
              · have HNJ := hid (all_step HX.out HJ.out (decide_eq_true (show x ≤ 9 by omega)))
                go_wp2
                go_round
                case rel => exact ⟨j + 1, by omega, by go_num, HNJ⟩
                case measure => simp [intOf]; omega
            · obtain rfl : j = m := by omega
              have HNK := hid (all_step HR.out H.out (show sm9 r = true from all_end HJ.out (by rw [← HM.out]; exact Nat.le_refl _)))
              go_wp2
              go_round
              case rel => exact ⟨k + 1, by omega, by go_num, HNK⟩
              case measure => simp [intOf]; omega
        · obtain rfl : k = n := by omega
          have HALL := hid (show M.all sm9 = true from all_end H.out (by rw [HL.out]; exact Nat.le_refl _))
          have HV2 := hid (show isSm M = true by rw [HV.out, HALL.out, decide_eq_true h4]; rfl)
          go_wp2
          go_ret
          exact ⟨ret_bool HV2.out.symm, rfl⟩
    · have h4i : (4 : Int) < (n : Int) := by omega
      go_wp2_with fail
      refine HIM.out.mono ?_
      rintro e w' ⟨rfl, rfl⟩
      go_wp2
      go_ret
      exact ⟨ret_bool (by rw [HV.out, decide_eq_false h4, Bool.and_false]), rfl⟩
end Go.Proofs.YtpfeflhcbcgbfaaGreatDoor
