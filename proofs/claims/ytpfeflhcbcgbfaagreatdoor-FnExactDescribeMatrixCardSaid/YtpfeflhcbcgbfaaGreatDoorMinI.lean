/- A table without the first row and a column, the program's way. Conditions: a square table in memory, small. -/
import Derived.Test.YtpfeflhcbcgbfaaGreatDoorRowM
import Derived.Test.YtpfeflhcbcgbfaaGreatDoorAppS
import Derived.Test.YtpfeflhcbcgbfaaGreatDoorSmal
import Derived.Test.YtpfeflhcbcgbfaaGreatDoorMul
import Derived.Test.YtpfeflhcbcgbfaaGreatDoorZero
namespace Go.Proofs.YtpfeflhcbcgbfaaGreatDoor
open Go.RowKit
/-- A table that reads, its rows no longer than their room. -/
def TabC (w : World) (a : Option Addr) (n : Nat) (rows : List (List Int)) : Prop :=
  ∃ vs, RowAt w a n vs ∧ vs.length = rows.length ∧ ∀ (i : Nat) (x : Value) (r : List Int), vs[i]? = some x → rows[i]? = some r → ∃ a' c', x = .slice a' r.length c' ∧ r.length ≤ c' ∧ RowAt w a' r.length (intVals r)
theorem TabC.tab {w : World} {a : Option Addr} {n : Nat} {rows : List (List Int)} (h : TabC w a n rows) : TabAt w a n rows := by
  obtain ⟨vs, h1, h2, h3⟩ := h
  exact ⟨vs, h1, h2, fun i x r hx hr => let ⟨a', c', e, _, q⟩ := h3 i x r hx hr; ⟨a', c', e, q⟩⟩
theorem TabC.below {B : Nat} {w w' : World} {a : Option Addr} {n : Nat} {rows : List (List Int)} (h : TabC w a n rows) (hb : Below B w w') (hB : w.heap.size ≤ B) : TabC w' a n rows := by
  obtain ⟨vs, h1, h2, h3⟩ := h
  exact ⟨vs, h1.below hb hB, h2, fun i x r hx hr => let ⟨a', c', e, hc, q⟩ := h3 i x r hx hr; ⟨a', c', e, hc, q.below hb hB⟩⟩
theorem owns_cap {w : World} {base e n : Nat} {v : Value} {xs : List Value} (h : w.ownsRow base e 1 v n xs) (hlim : n ≤ 140737488351232) : ∃ a c, v = .slice a n c ∧ n ≤ c ∧ RowAt w a n xs := by
  obtain ⟨a, c, rfl, hr⟩ := owns_rowAt h hlim
  refine ⟨a, c, rfl, ?_, hr⟩
  rcases h.2 with ⟨h1, h0⟩ | ⟨g, cap, cur, h1, hb, hg, hnc, _⟩
  · omega
  · simp only [Value.slice.injEq] at h1
    omega
theorem grid_tabC {T1 T0 : TypeId} {w : World} {base n : Nat} {v : Value} {R : List (List Int)} (h : TGrid T1 T0 w base v R) (hR : Rect R n n) (hn : n ≤ 1000000) : ∃ a c, v = .slice a n c ∧ n ≤ c ∧ TabC w a n R := by
  obtain ⟨vs, ho, hrs⟩ := h
  rw [hR.len] at ho
  obtain ⟨a, c, rfl, hc, hr⟩ := owns_cap ho (by omega)
  refine ⟨a, c, rfl, hc, vs, hr, by rw [hrs.len], fun i x r hx hr' => ?_⟩
  have hl := hR.row r (List.mem_of_getElem? hr')
  obtain ⟨a', c', rfl, hc', hr2⟩ := owns_cap (hrs.own i x r hx hr') (by omega)
  exact ⟨a', c', rfl, hc', hr2⟩
theorem rowC {w : World} {a : Option Addr} {n m i : Nat} {R : List (List Int)} (h : TabC w a n R) (hR : Rect R n m) (hi : i < n) :
    ∃ b off a' c r, a = some ⟨b, off, none⟩ ∧ b < w.heap.size ∧ w.cell? ⟨b, off + i, none⟩ = some (.slice a' m c) ∧ m ≤ c ∧ RowAt w a' m (intVals r) ∧ R[i]? = some r ∧ r.length = m ∧ ∀ j, at2 R i j = at0 r j := by
  obtain ⟨vs, h1, h2, h3⟩ := h
  obtain ⟨r, hr, hl, he⟩ := hR.get hi
  obtain ⟨b, off, rfl, hb, hc⟩ := h1.at_ (by omega)
  obtain ⟨x, hx⟩ := get_some (l := vs) (n := i) (by rw [h1.len]; exact hi)
  obtain ⟨a', c', rfl, hcap, hr'⟩ := h3 i x r hx hr
  rw [hl] at hr' hcap
  exact ⟨b, off, a', c', r, rfl, hb, by rw [← hl]; exact hc i _ hx, hcap, hr', hr, hl, fun j => at2_row hr j⟩
/-- Without a column; without the first row and a column. -/
def cutC (q : Nat) (r : List Int) : List Int := r.take q ++ r.drop (q + 1)
def minorL (t : List (List Int)) (q : Nat) : List (List Int) := (t.drop 1).map (cutC q)
def mnTo (t : List (List Int)) (q j : Nat) : List (List Int) := ((t.take j).drop 1).map (cutC q)
theorem mnTo_zero (t : List (List Int)) (q : Nat) : mnTo t q 0 = [] := by simp [mnTo]
theorem mnTo_one (t : List (List Int)) (q : Nat) : mnTo t q 1 = mnTo t q 0 := by cases t <;> simp [mnTo]
theorem mnTo_succ {t : List (List Int)} {q j : Nat} {r : List Int} (h : t[j + 1]? = some r) : mnTo t q (j + 1 + 1) = mnTo t q (j + 1) ++ [cutC q r] := by
  unfold mnTo
  rw [List.take_add_one, h]
  have hl := (List.getElem?_eq_some_iff.1 h).1
  rw [List.drop_append_of_le_length (by rw [List.length_take]; omega)]
  simp
theorem mnTo_all {t : List (List Int)} {n : Nat} (q : Nat) (h : t.length = n) : mnTo t q n = minorL t q := by
  unfold mnTo minorL
  rw [List.take_of_length_le (by omega)]
theorem mnTo_len {t : List (List Int)} {q j : Nat} (h : j ≤ t.length) : (mnTo t q j).length = j - 1 := by simp [mnTo]; omega
theorem cutC_len {q : Nat} {r : List Int} (h : q < r.length) : (cutC q r).length = r.length - 1 := by simp [cutC]; omega
theorem minorL_rect {t : List (List Int)} {n q : Nat} (hR : Rect t (n + 1) (n + 1)) (hq : q < n + 1) : Rect (minorL t q) n n := by
  refine ⟨by simp [minorL, hR.len], fun r hr => ?_⟩
  unfold minorL at hr
  obtain ⟨r0, h0, rfl⟩ := List.mem_map.1 hr
  have := hR.row r0 (List.mem_of_mem_drop h0)
  rw [cutC_len (by omega)]
  omega
theorem intVals_cat (xs ys : List Int) : intVals (xs ++ ys) = intVals xs ++ intVals ys := by simp [intVals]
theorem intVals_take (xs : List Int) (q : Nat) : intVals (xs.take q) = (intVals xs).take q := by simp [intVals, List.map_take]
theorem intVals_drop (xs : List Int) (q : Nat) : intVals (xs.drop q) = (intVals xs).drop q := by simp [intVals, List.map_drop]
theorem int_one {us : List Int} : ∀ u ∈ intVals us, u.oneCell' = true := by
  intro u hu
  unfold intVals at hu
  obtain ⟨x, _, rfl⟩ := List.mem_map.1 hu
  rfl
/-! Determinants, expanded by the first row. -/
def sgn : Nat → Int | 0 => 1 | j + 1 => -sgn j
theorem sgn_abs : ∀ j, sgn j = 1 ∨ sgn j = -1
  | 0 => Or.inl rfl
  | j + 1 => by
    have := sgn_abs j
    unfold sgn
    omega
def detN : Nat → List (List Int) → Int | 0, _ => 1 | n + 1, t => sumTo (fun j => sgn j * at2 t 0 j * detN n (minorL t j)) (n + 1)
/-- All numbers of a table within a bound. -/
def Bd (B : Int) (t : List (List Int)) : Prop := ∀ r ∈ t, ∀ x ∈ r, -B ≤ x ∧ x ≤ B
theorem Bd.minor {B : Int} {t : List (List Int)} (h : Bd B t) (q : Nat) : Bd B (minorL t q) := by
  intro r hr x hx
  unfold minorL at hr
  obtain ⟨r0, h0, rfl⟩ := List.mem_map.1 hr
  refine h r0 (List.mem_of_mem_drop h0) x ?_
  unfold cutC at hx
  rcases List.mem_append.1 hx with h1 | h1
  · exact List.mem_of_mem_take h1
  · exact List.mem_of_mem_drop h1
theorem Bd.at {B : Int} {t : List (List Int)} {n m i j : Nat} (h : Bd B t) (hR : Rect t n m) (hi : i < n) (hj : j < m) : -B ≤ at2 t i j ∧ at2 t i j ≤ B := by
  obtain ⟨r, hr, hl, he⟩ := hR.get hi
  rw [at2_row hr]
  have := at0_some (xs := r) (k := j) (by omega)
  exact h r (List.mem_of_getElem? hr) _ (List.mem_of_getElem? this)
def bdN (B : Int) : Nat → Int | 0 => 1 | n + 1 => ((n + 1 : Nat) : Int) * (B * bdN B n)
theorem bdN_nonneg {B : Int} (hB : 0 ≤ B) : ∀ n, 0 ≤ bdN B n
  | 0 => by show (0 : Int) ≤ 1; omega
  | n + 1 => Int.mul_nonneg (by omega) (Int.mul_nonneg hB (bdN_nonneg hB n))
theorem mul_abs {x y X Y : Int} (hx : -X ≤ x ∧ x ≤ X) (hy : -Y ≤ y ∧ y ≤ Y) : -(X * Y) ≤ x * y ∧ x * y ≤ X * Y := by
  have hX : 0 ≤ X := by omega
  have hY : 0 ≤ Y := by omega
  have h1 : x.natAbs ≤ X.natAbs := by omega
  have h2 : y.natAbs ≤ Y.natAbs := by omega
  have h3 := Nat.mul_le_mul h1 h2
  rw [← Int.natAbs_mul, ← Int.natAbs_mul] at h3
  have h4 : 0 ≤ X * Y := Int.mul_nonneg hX hY
  omega
theorem sumTo_abs {f : Nat → Int} {B : Int} : ∀ {n : Nat}, (∀ k, k < n → -B ≤ f k ∧ f k ≤ B) → -((n : Nat) * B) ≤ sumTo f n ∧ sumTo f n ≤ (n : Nat) * B
  | 0, _ => by simp [sumTo]
  | n + 1, h => by
    have ih := sumTo_abs (n := n) fun k hk => h k (by omega)
    have h1 := h n (by omega)
    have e : ((n + 1 : Nat) : Int) * B = (n : Int) * B + B := by rw [Int.natCast_add, Int.add_mul]; omega
    unfold sumTo
    rw [e]
    omega
theorem det_term {B : Int} {n : Nat} {t : List (List Int)} (hB : 0 ≤ B) (hR : Rect t (n + 1) (n + 1)) (hb : Bd B t) {j : Nat} (hj : j < n + 1) {d : Int} (hd : -(bdN B n) ≤ d ∧ d ≤ bdN B n) : -(B * bdN B n) ≤ sgn j * at2 t 0 j * d ∧ sgn j * at2 t 0 j * d ≤ B * bdN B n := by
  have h1 := hb.at hR (i := 0) (j := j) (by omega) hj
  refine mul_abs ?_ hd
  rcases sgn_abs j with h | h <;> rw [h] <;> omega
theorem det_bd {B : Int} (hB : 0 ≤ B) : ∀ (n : Nat) (t : List (List Int)), Rect t n n → Bd B t → -(bdN B n) ≤ detN n t ∧ detN n t ≤ bdN B n
  | 0, t, _, _ => by show (-1 : Int) ≤ 1 ∧ (1 : Int) ≤ 1; omega
  | n + 1, t, hR, hb => sumTo_abs (n := n + 1) fun j hj => det_term hB hR hb hj (det_bd hB n _ (minorL_rect hR hj) (hb.minor j))
theorem bdN_mono {B C : Int} (h0 : 0 ≤ B) (h : B ≤ C) : ∀ n, bdN B n ≤ bdN C n
  | 0 => Int.le_refl _
  | n + 1 => Int.mul_le_mul_of_nonneg_left (Int.mul_le_mul h (bdN_mono h0 h n) (bdN_nonneg h0 n) (by omega)) (by omega)
theorem bdN_four {n : Nat} (hn : n ≤ 4) {B : Int} (h0 : 0 ≤ B) (h1 : B ≤ 10000) : bdN B n ≤ 240000000000000000 := by
  refine Int.le_trans (bdN_mono h0 h1 n) ?_
  match n, hn with
  | 0, _ => decide
  | 1, _ => decide
  | 2, _ => decide
  | 3, _ => decide
  | 4, _ => decide
theorem part_bd {B : Int} {f : Nat → Int} {n j : Nat} (hB : 0 ≤ B) (h : ∀ k, k < n → -B ≤ f k ∧ f k ≤ B) (hj : j ≤ n) : -((n : Nat) * B) ≤ sumTo f j ∧ sumTo f j ≤ (n : Nat) * B := by
  have h1 := sumTo_abs (n := j) fun k hk => h k (by omega)
  have h2 : (j : Int) * B ≤ (n : Int) * B := Int.mul_le_mul_of_nonneg_right (by omega) hB
  omega
end Go.Proofs.YtpfeflhcbcgbfaaGreatDoor
namespace Go.Proofs.YtpfeflhcbcgbfaaGreatDoor
open Go.RowKit
theorem lit_cellsM {w : World} {cs : Array Value} {T : TypeId} {us : List Value} (h : cs.toList = us) (j : Nat) (u : Value) (hj : us[j]? = some u) : (w.alloc (.cells cs T)).cell? ⟨w.heap.size, 0 + j, none⟩ = some u := by
  rw [Nat.zero_add, World.cell?_alloc_at _ _ _ _ rfl, ← hj, ← h]
  simp
set_option maxHeartbeats 4000000 in
set_option maxRecDepth 100000 in
theorem impl_without_c (a : Option Addr) (n c q : Nat) (t : List (List Int)) (w : World) (h : TabC w a n t) (hR : Rect t n n) (hn : n ≤ 9) (hq : q < n) :
    Calls Tryz.prog 166 #[.slice a n c, .int .i64 0, .int .i64 q] w (GridPost (minorL t q) w) := by
  have HL := hid hR.len
  have HRC := hid (fun (i : Nat) (hi : i < n) => rowC h hR hi)
  have HEND := hid (mnTo_all q hR.len)
  have H1 := hid (mnTo_one t q)
  have HS := hid (fun (j : Nat) (r : List Int) (hr : t[j + 1]? = some r) => mnTo_succ (q := q) hr)
  have HML := hid (fun (j : Nat) (hj : j ≤ n) => mnTo_len (t := t) (q := q) (j := j) (by rw [hR.len]; exact hj))
  have hB0 : Below w.heap.size w (w.alloc (.cells #[] 39)) := (Below.refl _ _).alloc (Nat.le_refl _) _
  have HG0 := hid (show (w.alloc (.cells #[] 39)).ownsRow w.heap.size 39 1 (.slice (some ⟨w.heap.size, 0, none⟩) 0 0) 0 [] from owns_lit3 #[] _ rfl (Nat.le_refl _) (by unfold maxLen; simp))
  have HT0 := hid (show TRows 3 (w.alloc (.cells #[] 39)) w.heap.size [] (mnTo t q 0) from by rw [mnTo_zero]; exact TRows.nil _ _ _)
  have HB0 := hid hB0
  have hqi : (q : Int) + 1 ≤ (n : Int) := by omega
  have hqn : q + 1 ≤ n := hq
  clear h hR hB0
  go_enter Tryz.func166, Tryz.ntmps166
  go_wp2
  go_loopw [7, 13] (fun v i wr => ∃ (j go co : Nat) (vs : List Value), j ≤ n ∧ i = .int .i64 j ∧ v = .slice (some ⟨go, 0, none⟩) (j - 1) co ∧ Hid (wr.ownsRow w.heap.size 39 1 (.slice (some ⟨go, 0, none⟩) (j - 1) co) (j - 1) vs) ∧ Hid (TRows 3 wr w.heap.size vs (mnTo t q j)) ∧ Hid (Below w.heap.size w wr)) (fun _ i _ => n - (intOf i).toNat)
  case atStart => exact ⟨0, w.heap.size, 0, [], by omega, rfl, rfl, HG0, HT0, HB0⟩
  case round =>
    clear HG0 HT0 HB0
    obtain ⟨j, go, co, vs, hj, rfl, rfl, HOO, HRS, HBL⟩ := hrel
    by_cases hlt : j < n
    · have hji : (j : Int) < (n : Int) := by omega
      obtain ⟨b, off, a', c', r, rfl, hb, hc, hcap, hrow, hr, hrl, _⟩ := HRC.out j hlt
      have hcell := (HBL.out.cell (p := ⟨b, off + j, none⟩) hb).trans hc
      by_cases hj0 : j = 0
      · subst hj0
        rw [Nat.add_zero] at hcell
        go_wp2
        go_roundw
        case rel => exact ⟨0 + 1, go, co, vs, by omega, by go_num, rfl, HOO, hid (by rw [Nat.zero_add, H1.out]; exact HRS.out), HBL⟩
        case measure => simp [intOf]; omega
      · obtain ⟨i, rfl⟩ : ∃ i, j = i + 1 := ⟨j - 1, by omega⟩
        rw [Nat.add_sub_cancel] at HOO ⊢
        obtain ⟨b2, off2, rfl, hb2, hc2⟩ := hrow.at_ (by omega)
        have hne0 : (((i : Int) + 1) == 0) = false := by simp; omega
        have hcapi : (n : Int) ≤ (c' : Int) := by omega
        have hqc : (q : Int) ≤ (c' : Int) := by omega
        have hqi0 : (q : Int) ≤ (n : Int) := by omega
        have hbA : Below wr.heap.size wr (wr.alloc (.cells #[] 3)).drew := ((Below.refl _ _).alloc (Nat.le_refl _) _).drew
        have hbb := Nat.lt_of_lt_of_le hb HBL.out.size
        have HOA := hid (show (wr.alloc (.cells #[] 3)).drew.ownsRow wr.heap.size 3 1 (.slice (some ⟨wr.heap.size, 0, none⟩) 0 0) 0 [] from owns_below (owns_lit3 (w := wr) (base := wr.heap.size) (e := 3) #[] [] rfl (Nat.le_refl _) (by unfold maxLen; simp)) (Below.refl _ _).drew)
        have hwq : IntKind.i64.wrap ((q : Int) + 1) = (q : Int) + 1 := IntWalk.i64_in _ (by omega)
        have hq10 : (0 : Int) ≤ (q : Int) + 1 := by omega
        have hq00 : (0 : Int) ≤ (q : Int) := by omega
        have hq11 : (q : Int) ≤ (q : Int) + 1 := by omega
        have hszL := HBL.out.size
        have HTL := hid (show (intVals (r.take q)).length = q by simp [intVals]; omega)
        have HC1 := hid (fun (x : Nat) (u : Value) (hu : (intVals (r.take q))[x]? = some u) => show (wr.alloc (.cells #[] 3)).drew.cell? ⟨b2, off2 + x, none⟩ = some u from by
          rw [intVals_take] at hu
          refine ((hbA.cell (p := ⟨b2, off2 + x, none⟩) (Nat.lt_of_lt_of_le hb2 HBL.out.size)).trans (HBL.out.cell (p := ⟨b2, off2 + x, none⟩) hb2)).trans (hc2 x u ?_)
          rw [List.getElem?_take] at hu
          split at hu
          · exact hu
          · cases hu)
        have HSJ := hid (HS.out i r hr)
        by_cases hcq : c' = q + 1
        · subst hcq
          have HCL := hid (show (cutC q r).length = q + 0 by rw [cutC_len (by omega)]; omega)
          have HDL := hid (show (intVals (r.drop (q + 1))).length = 0 by simp [intVals]; omega)
          have HC2 := hid (fun (V : World) (hV : Below wr.heap.size wr V) (x : Nat) (u : Value) (hu : (intVals (r.drop (q + 1)))[x]? = some u) => show V.cell? ⟨b2, off2 + x, none⟩ = some u from by
            have h1 := (List.getElem?_eq_some_iff.1 hu).1
            rw [HDL.out] at h1
            omega)
          go_wp2
          go_region_held3 (fun V => True) (first | trivial)
            (first | (refine step_appM (by rfl) _ _ 39 (by rfl) wr.heap.size 3 (.int .i64 0) 8 Tryz.underlying39 infoIntZ rfl wr.heap.size 0 0 [] HOA.out (by rfl) b2 off2 q (q + 1) (intVals (r.take q)) (by rfl) HTL.out HC1.out int_one (by omega) (by unfold maxLen; omega) (by simp) ?_; intro g1 c1 w1 hown1 hgr1 hor1; rw [Nat.zero_add, List.nil_append] at hown1; have hb1 := hbA.grown hgr1 (by simp) (by rintro k ⟨⟩; exact Nat.le_refl _); have hg1 := (hown1.lt g1 rfl).1; have hs1 := hb1.size; try simp only [Nat.zero_add]) | (refine step_appM (by rfl) _ _ 39 (by rfl) wr.heap.size 3 (.int .i64 0) 8 Tryz.underlying39 infoIntZ rfl g1 q c1 (intVals (r.take q)) hown1 (by rfl) b2 off2 0 0 (intVals (r.drop (q + 1))) (by rfl) HDL.out (HC2.out w1 hb1) int_one (by omega) (by unfold maxLen; omega) hs1 ?_; intro g2 c2 w2 hown2 hgr2 hor2; have hb2w := hb1.grown hgr2 hs1 (by rintro k ⟨⟩; exact hg1); have hg2 := (hown2.lt g2 rfl).1; have ho2 := owns_below HOO.out hb2w; have hs2 := hb2w.size) | (refine step_appM (by rfl) _ _ 31 (by rfl) w.heap.size 39 (.slice none 0 0) 24 Tryz.underlying31 infoInts rfl go i co vs (ho2.alloc _) (by rfl) w2.heap.size 0 1 1 [_] (by rfl) rfl (lit_cellsM rfl) (by intro u hu; simp at hu; subst hu; rfl) (by omega) (by unfold maxLen; omega) (by simp; omega) ?_; intro g3 c3 w3 hown3 hgr3 hor3))
          have HR2 := hid (HRS.out.moreAt (r := cutC q r) (c := c2) (below_none hb2w) hg2 (by rw [HCL.out]; unfold cutC; rw [intVals_cat]; exact owns_base hown2 hszL))
          rw [HCL.out] at HR2
          have HR3 := hid ((HR2.out.below (Below.refl _ _ |>.alloc (Nat.le_refl _) _)).kept (ho2.alloc _) (by decide) hgr3)
          have HO3 := hid hown3
          have HB3 := hid (((HBL.out.trans (hb2w.mono hszL)).alloc (by omega) _).grown hgr3 (by simp; omega) (by rintro k ⟨⟩; exact (ho2.lt go rfl).1))
          clear hown3 hgr3 ho2 hb2w hown2 hgr2
          go_wp2
          go_roundw
          case rel => exact ⟨i + 1 + 1, g3, c3, _, by omega, by go_num, rfl, HO3, hid (by rw [HSJ.out]; exact HR3.out), HB3⟩
          case measure => simp [intOf]; omega
        · have HCL := hid (show (cutC q r).length = q + (n - (q + 1)) by rw [cutC_len (by omega)]; omega)
          have HDL := hid (show (intVals (r.drop (q + 1))).length = n - (q + 1) by simp [intVals]; omega)
          have HC2 := hid (fun (V : World) (hV : Below wr.heap.size wr V) (x : Nat) (u : Value) (hu : (intVals (r.drop (q + 1)))[x]? = some u) => show V.cell? ⟨b2, off2 + (q + 1) + x, none⟩ = some u from by
            rw [intVals_drop, List.getElem?_drop] at hu
            rw [Nat.add_assoc]
            exact ((hV.cell (p := ⟨b2, off2 + (q + 1 + x), none⟩) (Nat.lt_of_lt_of_le hb2 HBL.out.size)).trans (HBL.out.cell (p := ⟨b2, off2 + (q + 1 + x), none⟩) hb2)).trans (hc2 _ u hu))
          go_wp2
          go_region_held3 (fun V => True) (first | trivial)
            (first | (refine step_appM (by rfl) _ _ 39 (by rfl) wr.heap.size 3 (.int .i64 0) 8 Tryz.underlying39 infoIntZ rfl wr.heap.size 0 0 [] HOA.out (by rfl) b2 off2 q c' (intVals (r.take q)) (by rfl) HTL.out HC1.out int_one (by omega) (by unfold maxLen; omega) (by simp) ?_; intro g1 c1 w1 hown1 hgr1 hor1; rw [Nat.zero_add, List.nil_append] at hown1; have hb1 := hbA.grown hgr1 (by simp) (by rintro k ⟨⟩; exact Nat.le_refl _); have hg1 := (hown1.lt g1 rfl).1; have hs1 := hb1.size; try simp only [Nat.zero_add]) | (refine step_appM (by rfl) _ _ 39 (by rfl) wr.heap.size 3 (.int .i64 0) 8 Tryz.underlying39 infoIntZ rfl g1 q c1 (intVals (r.take q)) hown1 (by rfl) b2 (off2 + (q + 1)) (n - (q + 1)) (c' - (q + 1)) (intVals (r.drop (q + 1))) (by rfl) HDL.out (HC2.out w1 hb1) int_one (by omega) (by unfold maxLen; omega) hs1 ?_; intro g2 c2 w2 hown2 hgr2 hor2; have hb2w := hb1.grown hgr2 hs1 (by rintro k ⟨⟩; exact hg1); have hg2 := (hown2.lt g2 rfl).1; have ho2 := owns_below HOO.out hb2w; have hs2 := hb2w.size) | (refine step_appM (by rfl) _ _ 31 (by rfl) w.heap.size 39 (.slice none 0 0) 24 Tryz.underlying31 infoInts rfl go i co vs (ho2.alloc _) (by rfl) w2.heap.size 0 1 1 [_] (by rfl) rfl (lit_cellsM rfl) (by intro u hu; simp at hu; subst hu; rfl) (by omega) (by unfold maxLen; omega) (by simp; omega) ?_; intro g3 c3 w3 hown3 hgr3 hor3))
          have HR2 := hid (HRS.out.moreAt (r := cutC q r) (c := c2) (below_none hb2w) hg2 (by rw [HCL.out]; unfold cutC; rw [intVals_cat]; exact owns_base hown2 hszL))
          rw [HCL.out] at HR2
          have HR3 := hid ((HR2.out.below (Below.refl _ _ |>.alloc (Nat.le_refl _) _)).kept (ho2.alloc _) (by decide) hgr3)
          have HO3 := hid hown3
          have HB3 := hid (((HBL.out.trans (hb2w.mono hszL)).alloc (by omega) _).grown hgr3 (by simp; omega) (by rintro k ⟨⟩; exact (ho2.lt go rfl).1))
          clear hown3 hgr3 ho2 hb2w hown2 hgr2
          go_wp2
          go_roundw
          case rel => exact ⟨i + 1 + 1, g3, c3, _, by omega, by go_num, rfl, HO3, hid (by rw [HSJ.out]; exact HR3.out), HB3⟩
          case measure => simp [intOf]; omega
    · obtain rfl : j = n := by omega
      have HF := hid (show TGrid 39 3 wr w.heap.size (.slice (some ⟨go, 0, none⟩) (j - 1) co) (minorL t q) from ⟨vs, by rw [← HEND.out, HML.out j (Nat.le_refl _)]; exact HOO.out, by rw [← HEND.out]; exact HRS.out⟩)
      go_wp2
      go_ret
      exact ⟨_, rfl, HF.out, HBL.out⟩
end Go.Proofs.YtpfeflhcbcgbfaaGreatDoor
