/- Products of tables. Conditions: sizes within the reach, numbers not below zero and bounded. -/
import Derived.Test.YtpfeflhcbcgbfaaGreatDoorZero
import Derived.Test.YtpfeflhcbcgbfaaGreatDoorTable
namespace Go.Proofs.YtpfeflhcbcgbfaaGreatDoor
open Go.RowKit

def sumTo (f : Nat → Int) : Nat → Int | 0 => 0 | k + 1 => sumTo f k + f k
theorem sumTo_bd {f : Nat → Int} {n : Nat} {B : Int} (h : ∀ k, k < n → 0 ≤ f k ∧ f k ≤ B) : ∀ k, k ≤ n → 0 ≤ sumTo f k ∧ sumTo f k ≤ k * B
  | 0, _ => by simp [sumTo]
  | k + 1, hk => by
    have h1 := sumTo_bd h k (by omega)
    have h2 := h k (by omega)
    have e : ((k + 1 : Nat) : Int) * B = k * B + B := by rw [Int.natCast_add, Int.add_mul]; simp
    rw [e]
    unfold sumTo
    omega
def at0 (xs : List Int) (k : Nat) : Int := xs.getD k 0
theorem at0_get {xs : List Int} {k : Nat} {x : Int} (h : xs[k]? = some x) : at0 xs k = x := by rw [at0, List.getD_eq_getElem?_getD, h]; rfl
theorem at0_some {xs : List Int} {k : Nat} (h : k < xs.length) : xs[k]? = some (at0 xs k) := by obtain ⟨x, hx⟩ := get_some h; rw [hx, at0_get hx]
theorem prod_bd {x y X Y : Int} (hx : 0 ≤ x ∧ x ≤ X) (hy : 0 ≤ y ∧ y ≤ Y) : 0 ≤ x * y ∧ x * y ≤ X * Y :=
  ⟨Int.mul_nonneg hx.1 hy.1, Int.mul_le_mul hx.2 hy.2 hy.1 (Int.le_trans hx.1 hx.2)⟩

set_option maxHeartbeats 1000000 in
theorem impl_total_c (a : Option Addr) (n c : Nat) (xs : List Int) (B : Int) (w : World) (ha : RowAt w a n (intVals xs)) (hb : ∀ k, k < n → 0 ≤ at0 xs k ∧ at0 xs k ≤ B) (hB : (n : Int) * B ≤ 4611686018427387904) :
    Calls Tryz.prog 73 #[.slice a n c] w fun e w' => e = .returned (.int .i64 (sumTo (at0 xs) n)) ∧ w = w' := by
  obtain ⟨hl, hlim, hat⟩ := ha
  have hlen := hid (show xs.length = n by simpa [intVals] using hl)
  have HAT := hid hat
  have HS := hid (sumTo_bd hb)
  have HBD := hid hb
  have hnB : ∀ k : Nat, k ≤ n → 0 ≤ B → (k : Int) * B ≤ (n : Int) * B := fun k hk h0 => Int.mul_le_mul_of_nonneg_right (by omega) h0
  have HNB := hid hnB
  clear hl hat hb hnB
  go_enter Tryz.func73, Tryz.ntmps73
  go_wp2
  go_loop [3, 8] (fun q i => ∃ k : Nat, k ≤ n ∧ i = .int .i64 k ∧ q = .int .i64 (sumTo (at0 xs) k)) (fun _ i => n - (intOf i).toNat)
  case atStart => exact ⟨0, by omega, rfl, rfl⟩
  case round =>
    obtain ⟨k, hk, rfl, rfl⟩ := hrel
    by_cases hlt : k < n
    · obtain ⟨b, off, rfl, hb1, hc⟩ := HAT.out (by omega)
      have hcell := hc k _ (intVals_get (at0_some (xs := xs) (k := k) (by rw [hlen.out]; exact hlt)))
      have h1 := HS.out (k + 1) hlt
      have h2 := HS.out k hk
      have h3 := HBD.out k hlt
      have h4 := HNB.out (k + 1) hlt (by omega)
      have HE := hid (show sumTo (at0 xs) (k + 1) = sumTo (at0 xs) k + at0 xs k from rfl)
      rw [HE.out] at h1
      obtain ⟨x, hx⟩ : ∃ x, x = at0 xs k := ⟨_, rfl⟩
      obtain ⟨y, hy⟩ : ∃ y, y = sumTo (at0 xs) k := ⟨_, rfl⟩
      rw [← hx] at hcell h1 h3
      rw [← hy] at h1 h2
      rw [← hy]
      have hu : x + y ≤ 4611686018427387904 := by omega
      have hu0 := h2.1
      have hu1 := h3.1
      have HX := hid hx
      have HY := hid hy
      clear hx hy h1 h2 h3 h4 hc
      go_wp2
      go_round
      case rel => exact ⟨k + 1, by omega, by go_num, by rw [HE.out, ← HX.out, ← HY.out]⟩
      case measure => simp [intOf]; omega
    · obtain rfl : k = n := by omega
      go_wp2
      go_ret
      exact ⟨rfl, rfl⟩

end Go.Proofs.YtpfeflhcbcgbfaaGreatDoor
namespace Go.Proofs.YtpfeflhcbcgbfaaGreatDoor
open Go.RowKit

def at2 (rows : List (List Int)) (i j : Nat) : Int := at0 (rows.getD i []) j
/-- The cell (p, q) of a product, of the first k members of its sum. -/
def mulTo (A B : List (List Int)) (p q k : Nat) : Int := sumTo (fun t => at2 A p t * at2 B t q) k
def muCell (A B : List (List Int)) (m i j k p q : Nat) : Int := if p < i then mulTo A B p q m else if p = i then (if q < j then mulTo A B p q m else if q = j then mulTo A B p q k else 0) else 0
def muRow (A B : List (List Int)) (m c i j k p : Nat) : List Int := (List.range c).map (muCell A B m i j k p)
def muAt (A B : List (List Int)) (m c i j k : Nat) : List (List Int) := (List.range A.length).map (muRow A B m c i j k)
/-- The product of two tables, c columns wide. -/
def muOf (A B : List (List Int)) (c : Nat) : List (List Int) := (List.range A.length).map fun p => (List.range c).map fun q => mulTo A B p q B.length
theorem mu_len (A B : List (List Int)) (m c i j k : Nat) : (muAt A B m c i j k).length = A.length := by simp [muAt]
theorem muRow_len (A B : List (List Int)) (m c i j k p : Nat) : (muRow A B m c i j k p).length = c := by simp [muRow]
theorem mu_row {A B : List (List Int)} {m c i j k p : Nat} (h : p < A.length) : (muAt A B m c i j k)[p]? = some (muRow A B m c i j k p) := by simp [muAt, h]
theorem mu_cell {A B : List (List Int)} {m c i j k p q : Nat} (h : q < c) : (muRow A B m c i j k p)[q]? = some (muCell A B m i j k p q) := by simp [muRow, h]
theorem mu_ext {A B : List (List Int)} {m c i j k i' j' k' : Nat} (h : ∀ p q, p < A.length → q < c → muCell A B m i j k p q = muCell A B m i' j' k' p q) : muAt A B m c i j k = muAt A B m c i' j' k' := by
  unfold muAt
  refine List.map_congr_left fun p hp => ?_
  unfold muRow
  exact List.map_congr_left fun q hq => h p q (List.mem_range.1 hp) (List.mem_range.1 hq)
theorem mu_zero (A B : List (List Int)) (m c : Nat) : muAt A B m c 0 0 0 = zeroTab A.length c := by
  refine List.ext_getElem (by simp [muAt, zeroTab]) fun p h1 h2 => ?_
  simp only [muAt, zeroTab, List.getElem_map, List.getElem_range, List.getElem_replicate]
  refine List.ext_getElem (by simp [muRow]) fun q h3 h4 => ?_
  simp only [muRow, List.getElem_map, List.getElem_range, List.getElem_replicate]
  unfold muCell
  rw [if_neg (Nat.not_lt_zero _)]
  by_cases hp : p = 0
  · rw [if_pos hp, if_neg (Nat.not_lt_zero _)]
    by_cases hq : q = 0
    · rw [if_pos hq]; rfl
    · rw [if_neg hq]
  · rw [if_neg hp]
theorem mu_nextj (A B : List (List Int)) (m c i j : Nat) : muAt A B m c i j m = muAt A B m c i (j + 1) 0 := mu_ext fun p q _ _ => by
  unfold muCell
  by_cases h1 : p < i
  · rw [if_pos h1, if_pos h1]
  · rw [if_neg h1, if_neg h1]
    by_cases h2 : p = i
    · rw [if_pos h2, if_pos h2]
      by_cases h3 : q < j
      · rw [if_pos h3, if_pos (by omega)]
      · rw [if_neg h3]
        by_cases h4 : q = j
        · rw [if_pos h4, if_pos (by omega)]
        · rw [if_neg h4, if_neg (by omega)]
          by_cases h5 : q = j + 1
          · rw [if_pos h5]; rfl
          · rw [if_neg h5]
    · rw [if_neg h2, if_neg h2]
theorem mu_nexti (A B : List (List Int)) (m c i : Nat) : muAt A B m c i c 0 = muAt A B m c (i + 1) 0 0 := mu_ext fun p q _ hq => by
  unfold muCell
  by_cases h1 : p < i
  · rw [if_pos h1, if_pos (by omega)]
  · rw [if_neg h1]
    by_cases h2 : p = i
    · rw [if_pos h2, if_pos hq, if_pos (by omega)]
    · rw [if_neg h2, if_neg (by omega)]
      by_cases h5 : p = i + 1
      · rw [if_pos h5, if_neg (Nat.not_lt_zero _)]
        by_cases h6 : q = 0
        · rw [if_pos h6]; rfl
        · rw [if_neg h6]
      · rw [if_neg h5]
theorem mu_end (A B : List (List Int)) (c : Nat) : muAt A B B.length c A.length 0 0 = muOf A B c := by
  unfold muAt muOf
  refine List.map_congr_left fun p hp => ?_
  unfold muRow
  refine List.map_congr_left fun q _ => ?_
  unfold muCell
  rw [if_pos (List.mem_range.1 hp)]
theorem mu_here (A B : List (List Int)) (m i j k : Nat) : muCell A B m i j k i j = mulTo A B i j k := by
  unfold muCell
  rw [if_neg (Nat.lt_irrefl _), if_pos rfl, if_neg (Nat.lt_irrefl _), if_pos rfl]
theorem mu_step {A B : List (List Int)} {m c i j k : Nat} (hi : i < A.length) (hj : j < c) :
    (muAt A B m c i j k).set i ((muRow A B m c i j k i).set j (mulTo A B i j k + at2 A i k * at2 B k j)) = muAt A B m c i j (k + 1) := by
  refine List.ext_getElem (by simp [mu_len]) fun p h1 h2 => ?_
  rw [mu_len] at h2
  have e2 : (muAt A B m c i j (k + 1))[p] = muRow A B m c i j (k + 1) p := by simp [muAt]
  rw [List.getElem_set, e2]
  by_cases hp : i = p
  · subst hp
    rw [if_pos rfl]
    refine List.ext_getElem (by simp [muRow_len]) fun q h3 h4 => ?_
    rw [muRow_len] at h4
    have e4 : (muRow A B m c i j (k + 1) i)[q] = muCell A B m i j (k + 1) i q := by simp [muRow]
    rw [List.getElem_set, e4]
    by_cases hq : j = q
    · subst hq
      rw [if_pos rfl, mu_here]; rfl
    · rw [if_neg hq]
      have e6 : (muRow A B m c i j k i)[q]'(by rw [muRow_len]; exact h4) = muCell A B m i j k i q := by simp [muRow]
      rw [e6]
      unfold muCell
      rw [if_neg (Nat.lt_irrefl _), if_neg (Nat.lt_irrefl _), if_pos rfl, if_pos rfl]
      by_cases h5 : q < j
      · rw [if_pos h5, if_pos h5]
      · rw [if_neg h5, if_neg h5, if_neg (Ne.symm hq), if_neg (Ne.symm hq)]
  · rw [if_neg hp]
    have e5 : (muAt A B m c i j k)[p]'(by rw [mu_len]; exact h2) = muRow A B m c i j k p := by simp [muAt]
    rw [e5]
    unfold muRow
    refine List.map_congr_left fun q _ => ?_
    unfold muCell
    by_cases h1 : p < i
    · rw [if_pos h1, if_pos h1]
    · rw [if_neg h1, if_neg h1, if_neg (Ne.symm hp), if_neg (Ne.symm hp)]

/-- A cell of a table that reads. -/
theorem tab_cell {w : World} {a : Option Addr} {n i j : Nat} {rows : List (List Int)} (h : TabAt w a n rows) (hi : i < n) {r : List Int} (hr : rows[i]? = some r) (hj : j < r.length) :
    ∃ b off b2 off2 c, a = some ⟨b, off, none⟩ ∧ b < w.heap.size ∧ w.cell? ⟨b, off + i, none⟩ = some (.slice (some ⟨b2, off2, none⟩) r.length c) ∧ b2 < w.heap.size ∧ w.cell? ⟨b2, off2 + j, none⟩ = some (.int .i64 (at2 rows i j)) := by
  obtain ⟨vs, h1, h2, h3⟩ := h
  obtain ⟨b, off, rfl, hb, hc⟩ := h1.at_ (by omega)
  obtain ⟨x, hx⟩ := get_some (l := vs) (n := i) (by rw [h1.len]; exact hi)
  obtain ⟨a', c', rfl, hr'⟩ := h3 i x r hx hr
  obtain ⟨b2, off2, rfl, hb2, hc2⟩ := hr'.at_ (by omega)
  refine ⟨b, off, b2, off2, c', rfl, hb, hc i _ hx, hb2, hc2 j _ (intVals_get ?_)⟩
  rw [at2, List.getD_eq_getElem?_getD, hr]
  exact at0_some hj

set_option maxHeartbeats 4000000 in
set_option maxRecDepth 100000 in
theorem spec_l4Times_c (a b : Option Addr) (n m ca cb c : Nat) (A B : List (List Int)) (X Y : Int) (w : World) (ha : TabAt w a n A) (hb : TabAt w b m B) (hA : ∀ r ∈ A, m ≤ r.length) (hB : ∀ r ∈ B, c ≤ r.length)
    (hX : ∀ i j, i < n → j < m → 0 ≤ at2 A i j ∧ at2 A i j ≤ X) (hY : ∀ i j, i < m → j < c → 0 ≤ at2 B i j ∧ at2 B i j ≤ Y) (hM : (m : Int) * (X * Y) ≤ 4611686018427387904) (hn : n ≤ 1000000) (hc : c ≤ 1000000) :
    Calls Tryz.prog 61 #[.slice a n ca, .slice b m cb, .int .i64 c] w (GridPost (muOf A B c) w) := by
  have hlA := (tab_len ha).1
  have hlB := (tab_len hb).1
  have hlim := (tab_len hb).2
  have HA := hid ha
  have HB := hid hb
  have HLA := hid hlA
  have HLB := hid hlB
  have HRA := hid hA
  have HRB := hid hB
  have HPR := hid (fun i j t (hi : i < n) (hj : j < c) (ht : t < m) => prod_bd (hX i t hi ht) (hY t j ht hj))
  have HNB := hid (fun (k : Nat) (hk : k ≤ m) (h0 : 0 ≤ X * Y) => (Int.mul_le_mul_of_nonneg_right (by omega) h0 : (k : Int) * (X * Y) ≤ (m : Int) * (X * Y)))
  obtain ⟨P, hP⟩ : ∃ P, P = X * Y := ⟨_, rfl⟩
  rw [← hP] at HPR HNB hM
  clear ha hb hlA hlB hA hB hX hY hP
  go_enter Tryz.func61, Tryz.ntmps61
  go_wp2_with (first | (go_at_call 109; refine (spec_l4Zero_c n c _ (by omega) (by omega)).mono ?_; rintro e w1 ⟨v, rfl, hgrid, hbel0⟩))
  rw [show zeroTab n c = muAt A B m c 0 0 0 by rw [mu_zero, HLA.out]] at hgrid
  have HG := hid hgrid
  clear hgrid
  go_loopw [8] (fun i wr => ∃ ii : Nat, ii ≤ n ∧ i = .int .i64 ii ∧ TGrid 39 3 wr w.heap.size v (muAt A B m c ii 0 0) ∧ Below w.heap.size w wr) (fun i _ => n - (intOf i).toNat)
  case atStart => exact ⟨0, by omega, rfl, HG.out, hbel0⟩
  case round =>
    obtain ⟨ii, hi, rfl, hgr, hbel⟩ := hrel
    by_cases hlt : ii < n
    · have HGR := hid hgr
      clear hgr
      go_wp2
      go_loopw [9] (fun j wr => ∃ jj : Nat, jj ≤ c ∧ j = .int .i64 jj ∧ TGrid 39 3 wr w.heap.size v (muAt A B m c ii jj 0) ∧ Below w.heap.size w wr) (fun j _ => c - (intOf j).toNat)
      case atStart => exact ⟨0, by omega, rfl, HGR.out, hbel⟩
      case round =>
        obtain ⟨jj, hj, rfl, hgr, hbel⟩ := hrel
        by_cases hltj : jj < c
        · have HGR2 := hid hgr
          clear hgr
          go_wp2
          go_loopw [10] (fun k wr => ∃ kk : Nat, kk ≤ m ∧ k = .int .i64 kk ∧ TGrid 39 3 wr w.heap.size v (muAt A B m c ii jj kk) ∧ Below w.heap.size w wr) (fun k _ => m - (intOf k).toNat)
          case atStart => exact ⟨0, by omega, rfl, HGR2.out, hbel⟩
          case round =>
            obtain ⟨kk, hk, rfl, hgr, hbel⟩ := hrel
            by_cases hltk : kk < m
            · obtain ⟨ra, hra⟩ := get_some (l := A) (n := ii) (by rw [HLA.out]; exact hlt)
              obtain ⟨rb, hrb⟩ := get_some (l := B) (n := kk) (by rw [HLB.out]; exact hltk)
              have hla := HRA.out ra (List.mem_of_getElem? hra)
              have hlb := HRB.out rb (List.mem_of_getElem? hrb)
              obtain ⟨ba, oa, ba2, oa2, ca2, rfl, hba, hA1, hba2, hA2⟩ := tab_cell HA.out hlt hra (j := kk) (by omega)
              obtain ⟨bb, ob, bb2, ob2, cb2, rfl, hbb, hB1, hbb2, hB2⟩ := tab_cell HB.out hltk hrb (j := jj) (by omega)
              have hA1 := (hbel.cell (p := ⟨ba, oa + ii, none⟩) hba).trans hA1
              have hA2 := (hbel.cell (p := ⟨ba2, oa2 + kk, none⟩) hba2).trans hA2
              have hB1 := (hbel.cell (p := ⟨bb, ob + kk, none⟩) hbb).trans hB1
              have hB2 := (hbel.cell (p := ⟨bb2, ob2 + jj, none⟩) hbb2).trans hB2
              have hka : (kk : Int) < (ra.length : Int) := by omega
              have hjb : (jj : Int) < (rb.length : Int) := by omega
              obtain ⟨vs, ho, hrs⟩ := hgr
              rw [mu_len, HLA.out] at ho
              have hin : ii < A.length := by rw [HLA.out]; exact hlt
              obtain ⟨x, hx⟩ := get_some (l := vs) (n := ii) (by rw [ho.1]; omega)
              have hrow := hrs.own ii x _ hx (mu_row hin)
              rw [muRow_len] at hrow
              obtain ⟨g, c2, rfl, hbg, hgl⟩ := own_form hrow (by omega)
              obtain ⟨gv, cv, rfl, hbv, hvl⟩ := own_form ho (by omega)
              have hO1 := (ho.cellAt ii (by omega)).trans hx
              have hO2 := (hrow.cellAt jj (by omega)).trans (intVals_get (mu_cell hltj))
              rw [mu_here] at hO2
              have hfr := hrow.frozenAt jj
              have HST := hid (mu_step (A := A) (B := B) (m := m) (k := kk) hin hltj)
              have HRS := hid (hrs.stored (mu_row hin) (by rw [muRow_len]; exact hx) jj (mulTo A B ii jj kk + at2 A ii kk * at2 B kk jj))
              have HO := hid ho
              have HROW := hid hrow
              have h1 := HPR.out ii jj kk hlt hltj hltk
              have h2 := sumTo_bd (f := fun t => at2 A ii t * at2 B t jj) (n := m) (fun t ht => HPR.out ii jj t hlt hltj ht) (kk + 1) hltk
              have h3 := sumTo_bd (f := fun t => at2 A ii t * at2 B t jj) (n := m) (fun t ht => HPR.out ii jj t hlt hltj ht) kk hk
              have h4 := HNB.out (kk + 1) hltk (by omega)
              have h5 : mulTo A B ii jj kk + at2 A ii kk * at2 B kk jj ≤ 4611686018427387904 := Int.le_trans h2.2 (Int.le_trans h4 hM)
              have h6 : 0 ≤ mulTo A B ii jj kk := h3.1
              obtain ⟨u, hu⟩ : ∃ u, u = mulTo A B ii jj kk := ⟨_, rfl⟩
              obtain ⟨y, hy⟩ : ∃ y, y = at2 A ii kk := ⟨_, rfl⟩
              obtain ⟨z, hz⟩ : ∃ z, z = at2 B kk jj := ⟨_, rfl⟩
              rw [← hu] at hO2 h5 h6
              rw [← hy] at hA2 h5 h1
              rw [← hz] at hB2 h5 h1
              have h7 := h1.1
              have HU := hid hu
              have HY := hid hy
              have HZ := hid hz
              clear hu hy hz h1 h2 h3 h4 hx hrs ho hrow hra hrb hla hlb hin
              obtain ⟨la, hla⟩ : ∃ la, la = ra.length := ⟨_, rfl⟩
              obtain ⟨lb, hlb⟩ : ∃ lb, lb = rb.length := ⟨_, rfl⟩
              rw [← hla] at hA1 hka
              rw [← hlb] at hB1 hjb
              clear hla hlb
              go_wp2
              go_region
              all_goals
                go_wp2
              go_roundw
              case rel =>
                have h1 := HRS.out
                rw [HST.out, ← HU.out, ← HY.out, ← HZ.out] at h1
                have hgd : TGrid 39 3 (wr.setCell ⟨g, jj, none⟩ (.int .i64 (u + y * z))) w.heap.size (.slice (some ⟨gv, 0, none⟩) n cv) (muAt A B m c ii jj (kk + 1)) := ⟨vs, by rw [mu_len, HLA.out]; exact HO.out.kept h1.2 (owns_ne HO.out HROW.out (by decide)), h1.1⟩
                have hb1 : Below w.heap.size w (wr.setCell ⟨g, jj, none⟩ (.int .i64 (u + y * z))) := hbel.grown h1.2 hbel.size (fun k hk => by cases hk; exact hbg)
                exact ⟨kk + 1, by omega, by go_num, hgd.below (Below.refl _ _).drew, hb1.drew⟩
              case measure => simp [intOf]; omega
            · obtain rfl : kk = m := by omega
              have HGQ := hid hgr
              clear hgr
              go_wp2
              go_roundw
              case rel => exact ⟨jj + 1, by omega, by go_num, by rw [← mu_nextj]; exact HGQ.out, hbel⟩
              case measure => simp [intOf]; omega
        · obtain rfl : jj = c := by omega
          have HGQ := hid hgr
          clear hgr
          go_wp2
          go_roundw
          case rel => exact ⟨ii + 1, by omega, by go_num, by rw [← mu_nexti]; exact HGQ.out, hbel⟩
          case measure => simp [intOf]; omega
    · obtain rfl : ii = n := by omega
      have HGQ := hid hgr
      clear hgr
      go_wp2
      go_ret
      exact ⟨_, rfl, by have := HGQ.out; rw [← HLA.out, ← HLB.out, mu_end] at this; exact this, hbel⟩
end Go.Proofs.YtpfeflhcbcgbfaaGreatDoor
