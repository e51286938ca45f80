/- Pairs through which a way goes that is infinite in both directions: the reference's way. Conditions: a table of numbers below its length. -/
import Derived.Test.YtcmmlldincflkaaDoorKeptS
import Derived.Test.YtcmmlldincflkaaDoorMat
namespace Go.Proofs.YtcmmlldincflkaaDoor
open Go.RowKit

def edg (rows : List (List Int)) (p q : Nat) : Prop := (q : Int) ∈ rows.getD p []
/-- Numbers that lie in a set in which each has a follower and a forerunner. -/
def LiveG (rows : List (List Int)) (M i : Nat) : Prop := ∃ T : Nat → Prop, T i ∧ ∀ q, T q → q < M ∧ (∃ r, edg rows q r ∧ T r) ∧ ∃ r, edg rows r q ∧ T r
def liv (K : Nat → Bool) (x : Int) : Bool := K x.toNat
def bhB (K : Nat → Bool) (rows : List (List Int)) (k i p : Nat) : Bool := K p && (if p < k then (rows.getD p []).any (liv K) else if p = k then ((rows.getD p []).take i).any (liv K) else false)
def ahB (K : Nat → Bool) (rows : List (List Int)) (k i q : Nat) : Bool := K q && ((List.range k).any (fun p => K p && (rows.getD p []).any fun e => decide (e = (q : Int))) || (K k && ((rows.getD k []).take i).any fun e => decide (e = (q : Int))))
theorem bh_start (K : Nat → Bool) (rows : List (List Int)) (p : Nat) : bhB K rows 0 0 p = false := by
  unfold bhB
  rw [if_neg (by omega)]
  by_cases h : p = 0 <;> simp [h]
theorem ah_start (K : Nat → Bool) (rows : List (List Int)) (q : Nat) : ahB K rows 0 0 q = false := by simp [ahB]
theorem bh_next (K : Nat → Bool) {rows : List (List Int)} {k : Nat} {r : List Int} (hr : rows[k]? = some r) (p : Nat) : bhB K rows k r.length p = bhB K rows (k + 1) 0 p := by
  have e : rows.getD k [] = r := by rw [List.getD_eq_getElem?_getD, hr]; rfl
  unfold bhB
  by_cases h1 : p < k
  · rw [if_pos h1, if_pos (by omega)]
  · by_cases h2 : p = k
    · subst h2
      rw [if_neg h1, if_pos rfl, if_pos (by omega), e, List.take_length]
    · rw [if_neg h1, if_neg h2, if_neg (by omega)]
      by_cases h3 : p = k + 1
      · rw [if_pos h3]; simp
      · rw [if_neg h3]
theorem ah_next (K : Nat → Bool) {rows : List (List Int)} {k : Nat} {r : List Int} (hr : rows[k]? = some r) (q : Nat) : ahB K rows k r.length q = ahB K rows (k + 1) 0 q := by
  have e : rows.getD k [] = r := by rw [List.getD_eq_getElem?_getD, hr]; rfl
  unfold ahB
  rw [e, List.take_length, List.range_succ, List.any_append, List.any_cons, List.any_nil, Bool.or_false, e, List.take_zero, List.any_nil, Bool.and_false, Bool.or_false]
theorem take_any {α : Type} {r : List α} {i : Nat} {x : α} (h : r[i]? = some x) (f : α → Bool) : (r.take (i + 1)).any f = ((r.take i).any f || f x) := by
  rw [List.take_add_one, h, List.any_append]; simp
theorem bh_yes {K : Nat → Bool} {rows : List (List Int)} {k i x : Nat} {r : List Int} (hr : rows[k]? = some r) (hx : r[i]? = some (x : Int)) (hk : K k = true) (hkx : K x = true) (p : Nat) :
    (if p = k then true else bhB K rows k i p) = bhB K rows k (i + 1) p := by
  have e : rows.getD k [] = r := by rw [List.getD_eq_getElem?_getD, hr]; rfl
  unfold bhB
  by_cases h2 : p = k
  · subst h2
    rw [if_pos rfl, if_neg (by omega), if_pos rfl, e, take_any hx, show liv K (x : Int) = true from hkx, hk]; simp
  · rw [if_neg h2, if_neg h2, if_neg h2]
theorem ah_yes {K : Nat → Bool} {rows : List (List Int)} {k i x : Nat} {r : List Int} (hr : rows[k]? = some r) (hx : r[i]? = some (x : Int)) (hk : K k = true) (hkx : K x = true) (q : Nat) :
    (if q = x then true else ahB K rows k i q) = ahB K rows k (i + 1) q := by
  have e : rows.getD k [] = r := by rw [List.getD_eq_getElem?_getD, hr]; rfl
  unfold ahB
  rw [e, take_any hx]
  by_cases h2 : q = x
  · subst h2
    rw [if_pos rfl, hk, hkx]; simp
  · rw [if_neg h2, show decide ((x : Int) = (q : Int)) = false by simp; omega, Bool.or_false]
theorem bh_no {K : Nat → Bool} {rows : List (List Int)} {k i x : Nat} {r : List Int} (hr : rows[k]? = some r) (hx : r[i]? = some (x : Int)) (h : (K k && K x) = false) (p : Nat) : bhB K rows k i p = bhB K rows k (i + 1) p := by
  have e : rows.getD k [] = r := by rw [List.getD_eq_getElem?_getD, hr]; rfl
  unfold bhB
  by_cases h2 : p = k
  · subst h2
    rw [if_neg (Nat.lt_irrefl p), if_pos rfl, if_neg (Nat.lt_irrefl p), if_pos rfl, e, take_any hx, show liv K (x : Int) = K x from rfl]
    cases hk : K p
    · rfl
    · rw [hk, Bool.true_and] at h
      rw [h, Bool.or_false]
  · rw [if_neg h2, if_neg h2]
theorem ah_no {K : Nat → Bool} {rows : List (List Int)} {k i x : Nat} {r : List Int} (hr : rows[k]? = some r) (hx : r[i]? = some (x : Int)) (h : (K k && K x) = false) (q : Nat) : ahB K rows k i q = ahB K rows k (i + 1) q := by
  have e : rows.getD k [] = r := by rw [List.getD_eq_getElem?_getD, hr]; rfl
  unfold ahB
  rw [e, take_any hx]
  by_cases h2 : q = x
  · subst h2
    cases hk : K q
    · rfl
    · rw [hk, Bool.and_true] at h
      rw [h, Bool.false_and, Bool.false_and]
  · rw [show decide ((x : Int) = (q : Int)) = false by simp; omega, Bool.or_false]
theorem bh_end {K : Nat → Bool} {rows : List (List Int)} {M p : Nat} (hrow : ∀ (i : Nat) (r : List Int), rows[i]? = some r → ∀ x ∈ r, 0 ≤ x ∧ x < (M : Int)) (hp : p < M) : bhB K rows M 0 p = true ↔ K p = true ∧ ∃ r, edg rows p r ∧ K r = true := by
  unfold bhB edg
  rw [if_pos hp, Bool.and_eq_true, List.any_eq_true]
  refine and_congr Iff.rfl ⟨fun ⟨x, hx, h⟩ => ?_, fun ⟨r, hr, h⟩ => ⟨_, hr, h⟩⟩
  cases hg : rows[p]? with
  | none => rw [List.getD_eq_getElem?_getD, hg] at hx; cases hx
  | some r =>
    have e : rows.getD p [] = r := by rw [List.getD_eq_getElem?_getD, hg]; rfl
    have hb := hrow p r hg x (by rw [← e]; exact hx)
    exact ⟨x.toNat, by rw [show ((x.toNat : Nat) : Int) = x by omega]; exact hx, h⟩
theorem ah_end {K : Nat → Bool} {rows : List (List Int)} {M q : Nat} : ahB K rows M 0 q = true ↔ K q = true ∧ ∃ r, r < M ∧ edg rows r q ∧ K r = true := by
  unfold ahB edg
  rw [Bool.and_eq_true, List.take_zero, List.any_nil, Bool.and_false, Bool.or_false, List.any_eq_true]
  refine and_congr Iff.rfl ⟨fun ⟨x, hx, h⟩ => ?_, fun ⟨r, hr, h, hk⟩ => ⟨r, List.mem_range.2 hr, ?_⟩⟩
  · rw [Bool.and_eq_true, List.any_eq_true] at h
    obtain ⟨h1, y, hy, h2⟩ := h
    rw [decide_eq_true_eq] at h2
    exact ⟨x, List.mem_range.1 hx, by rw [← h2]; exact hy, h1⟩
  · rw [Bool.and_eq_true, List.any_eq_true]
    exact ⟨hk, _, h, by simp⟩
/-! What is struck in a round. -/
def chH (K H : Nat → Bool) (r : Nat) : Bool := (List.range r).any fun i => K i && !H i
theorem chH_succ (K H : Nat → Bool) (r : Nat) : chH K H (r + 1) = (chH K H r || (K r && !H r)) := by simp [chH, List.range_succ]
theorem chH_no {K H : Nat → Bool} {M : Nat} (h : chH K H M = false) {i : Nat} (hi : i < M) (hk : K i = true) : H i = true := by
  cases hh : H i
  · have : chH K H M = true := by
      unfold chH
      rw [List.any_eq_true]
      exact ⟨i, List.mem_range.2 hi, by simp [hk, hh]⟩
    rw [h] at this; cases this
  · rfl
theorem chH_yes {K H : Nat → Bool} {M : Nat} (h : chH K H M = true) : ∃ i, i < M ∧ K i = true ∧ H i = false := by
  unfold chH at h
  rw [List.any_eq_true] at h
  obtain ⟨i, hi, h2⟩ := h
  simp at h2
  exact ⟨i, List.mem_range.1 hi, h2⟩
def LivePost (rows : List (List Int)) (M : Nat) (w : World) (e : Ending) (w' : World) : Prop :=
  ∃ v K, e = .returned v ∧ w'.ownsRow w.heap.size 4 1 v M (boolVals (rowB K M)) ∧ Below w.heap.size w w' ∧ (∀ i, i < M → (K i = true ↔ LiveG rows M i))
/-- What is left when nothing more is struck. -/
theorem live_end {K : Nat → Bool} {rows : List (List Int)} {M : Nat} (hrow : ∀ (i : Nat) (r : List Int), rows[i]? = some r → ∀ x ∈ r, 0 ≤ x ∧ x < (M : Int)) (hlen : rows.length = M) (h1 : ∀ i, i < M → LiveG rows M i → K i = true)
    (h2 : ∀ i, i < M → K i = true → (bhB K rows M 0 i && ahB K rows M 0 i) = true) : ∀ i, i < M → (K i = true ↔ LiveG rows M i) := by
  intro i hi
  refine ⟨fun hk => ⟨fun j => j < M ∧ K j = true, ⟨hi, hk⟩, fun q hq => ⟨hq.1, ?_, ?_⟩⟩, h1 i hi⟩
  · have h3 := h2 q hq.1 hq.2
    rw [Bool.and_eq_true, bh_end hrow hq.1] at h3
    obtain ⟨⟨_, r, hr, hkr⟩, _⟩ := h3
    refine ⟨r, hr, ?_, hkr⟩
    unfold edg at hr
    cases hg : rows[q]? with
    | none => rw [List.getD_eq_getElem?_getD, hg] at hr; cases hr
    | some r' =>
      have e : rows.getD q [] = r' := by rw [List.getD_eq_getElem?_getD, hg]; rfl
      have := hrow q r' hg _ (by rw [← e]; exact hr)
      omega
  · have h3 := h2 q hq.1 hq.2
    rw [Bool.and_eq_true, ah_end] at h3
    obtain ⟨_, _, r, hr, he, hkr⟩ := h3
    exact ⟨r, he, hr, hkr⟩
theorem live_step {K : Nat → Bool} {rows : List (List Int)} {M : Nat} (hrow : ∀ (i : Nat) (r : List Int), rows[i]? = some r → ∀ x ∈ r, 0 ≤ x ∧ x < (M : Int)) (h1 : ∀ i, i < M → LiveG rows M i → K i = true) :
    ∀ i, i < M → LiveG rows M i → (K i && (bhB K rows M 0 i && ahB K rows M 0 i)) = true := by
  intro i hi hl
  have hk := h1 i hi hl
  obtain ⟨T, ht, hT⟩ := hl
  have hin : ∀ q, T q → K q = true := fun q hq => h1 q (hT q hq).1 ⟨T, hq, hT⟩
  obtain ⟨_, ⟨r, hr, htr⟩, ⟨s, hs, hts⟩⟩ := hT i ht
  rw [Bool.and_eq_true, Bool.and_eq_true, bh_end hrow hi, ah_end]
  exact ⟨hk, ⟨hk, r, hr, hin r htr⟩, hk, s, (hT s hts).1, hs, hin s hts⟩
set_option maxHeartbeats 4000000 in
set_option maxRecDepth 100000 in
theorem spec_l13Live_c (M : Nat) (rows : List (List Int)) (a : Option Addr) (c : Nat) (w : World) (hT : TabAt w a M rows) (hrow : ∀ (i : Nat) (r : List Int), rows[i]? = some r → ∀ x ∈ r, 0 ≤ x ∧ x < (M : Int)) (hM : M ≤ 6561) (hM1 : 1 ≤ M) :
    Calls Tryd.prog 24 #[.slice a M c] w (LivePost rows M w) := by
  have HT := hid hT
  have HLEN := hid (tab_len hT).1
  have HROW := hid hrow
  clear hrow hT
  obtain ⟨ti, hi, hz, hz1, hz2⟩ := info_parts infoBool
  go_enter Tryd.func24, Tryd.ntmps24
  go_wp2_with (first | (at_make; refine wpList_make_full _ rfl _ _ 37 rfl w.heap.size 4 ti (.bool false) 1 Tryd.underlying37 hi hz hz1 .i64 .i64 _ _ M rfl rfl rfl rfl (by rw [hz2]; omega) (by unfold maxLen; omega) (Nat.le_refl _) ?_; intro w1 hown1 hgr1))
  rw [rowB_made] at hown1
  have hb1 : Below w.heap.size w w1 := (Below.refl _ _).grown hgr1 (Nat.le_refl _) (by intro k h; cases h)
  clear hgr1
  go_loopw [4] (fun i wr => ∃ j : Nat, j ≤ M ∧ i = .int .i64 j ∧ wr.ownsRow w.heap.size 4 1 (.slice (some ⟨w.heap.size, 0, none⟩) M M) M (boolVals (rowB (fun i => decide (i < j)) M)) ∧ Below w.heap.size w wr) (fun i _ => M - (intOf i).toNat)
  case atStart => exact ⟨0, by omega, rfl, by simpa using hown1, hb1⟩
  case round =>
    obtain ⟨j, hj, rfl, hown, hbel⟩ := hrel
    by_cases hlt : j < M
    · have hcell : wr.cell? ⟨w.heap.size, j, none⟩ = some (.bool (decide (j < j))) := (hown.cellAt j (by omega)).trans (rowB_get hlt)
      have hfr := hown.frozenAt j
      have HO := hid hown
      clear hown
      go_wp2
      go_roundw
      case rel =>
        have hst := HO.out.stored j (.bool true)
        rw [rowB_set, rowB_ext (L := fun i => decide (i < j + 1)) (fun i _ => by by_cases h : i = j <;> simp [h] <;> omega)] at hst
        exact ⟨j + 1, by omega, by go_num, hst.1, hbel.grown hst.2 hbel.size (by rintro k ⟨⟩; exact Nat.le_refl _)⟩
      case measure => simp [intOf]; omega
    · obtain rfl : j = M := by omega
      have HO := hid hown
      clear hown
      go_wp2
      go_loopw [5] (fun ch wr => ∃ (K : Nat → Bool) (b : Bool), ch = .bool b ∧ wr.ownsRow w.heap.size 4 1 (.slice (some ⟨w.heap.size, 0, none⟩) j j) j (boolVals (rowB K j)) ∧ Below w.heap.size w wr ∧ w.heap.size < wr.heap.size ∧ Hid (∀ i, i < j → LiveG rows j i → K i = true) ∧ Hid (b = false → ∀ i, i < j → K i = true → (bhB K rows j 0 i && ahB K rows j 0 i) = true)) (fun ch wr => trues w.heap.size j wr + (match ch with | .bool true => 1 | _ => 0))
      case atStart => exact ⟨_, true, rfl, HO.out, hbel, ((owns_block HO.out).choose_spec.2.1 |> fun h => (Array.getElem?_eq_some_iff.1 h).1), fun i hi _ => by simp [hi], fun h => by cases h⟩
      case round =>
        obtain ⟨K, b, rfl, hown, hbel, hsz, HP, HE⟩ := hrel
        cases b
        · have HF := hid (live_end HROW.out HLEN.out HP.out (HE.out rfl))
          go_wp2
          go_ret
          exact ⟨_, K, rfl, hown, hbel, HF.out⟩
        · obtain ⟨wo, rfl⟩ : ∃ wo : World, wo = wr := ⟨_, rfl⟩
          have HO1 := hid hown
          clear hown HE
          go_wp2_with (first | (at_make; refine wpList_make_full _ rfl _ _ 37 rfl wo.heap.size 4 ti (.bool false) 1 Tryd.underlying37 hi hz hz1 .i64 .i64 _ _ j rfl rfl rfl rfl (by rw [hz2]; omega) (by unfold maxLen; omega) (Nat.le_refl _) ?_; intro w3 hown3 hgr3) | (at_make; refine wpList_make_full _ rfl _ _ 37 rfl w3.heap.size 4 ti (.bool false) 1 Tryd.underlying37 hi hz hz1 .i64 .i64 _ _ j rfl rfl rfl rfl (by rw [hz2]; omega) (by unfold maxLen; omega) (Nat.le_refl _) ?_; intro w4 hown4 hgr4))
          rw [rowB_made] at hown3 hown4
          have hb3 : Below wo.heap.size wo w3 := (Below.refl _ _).grown hgr3 (Nat.le_refl _) (by intro k h; cases h)
          have hb4 : Below w3.heap.size w3 w4 := (Below.refl _ _).grown hgr4 (Nat.le_refl _) (by intro k h; cases h)
          have hgB : wo.heap.size < w3.heap.size := (owns_block hown3).choose_spec.2.1 |> fun h => (Array.getElem?_eq_some_iff.1 h).1
          have hgA : w3.heap.size < w4.heap.size := (owns_block hown4).choose_spec.2.1 |> fun h => (Array.getElem?_eq_some_iff.1 h).1
          have hown34 := owns_below hown3 hb4
          have hb34 : Below wo.heap.size wo w4 := bs hb3 hb4
          have HO4 := hid (owns_below HO1.out hb34)
          have hbw4 : Below w.heap.size w w4 := hbel.trans (hb34.mono hbel.size)
          clear hgr3 hgr4 hown3 hb3 hb4 hb34 hbel
          go_loopw [8] (fun i wr => ∃ q : Nat, q ≤ j ∧ i = .int .i64 q ∧ wr.ownsRow w.heap.size 4 1 (.slice (some ⟨w.heap.size, 0, none⟩) j j) j (boolVals (rowB K j)) ∧ wr.ownsRow wo.heap.size 4 1 (.slice (some ⟨wo.heap.size, 0, none⟩) j j) j (boolVals (rowB (bhB K rows q 0) j)) ∧ wr.ownsRow w3.heap.size 4 1 (.slice (some ⟨w3.heap.size, 0, none⟩) j j) j (boolVals (rowB (ahB K rows q 0) j)) ∧ Below w.heap.size w wr) (fun i _ => j - (intOf i).toNat)
          case atStart => exact ⟨0, by omega, rfl, HO4.out, by rw [rowB_ext (K := bhB K rows 0 0) (L := fun _ => false) (fun i _ => bh_start K rows i)]; exact hown34, by rw [rowB_ext (K := ahB K rows 0 0) (L := fun _ => false) (fun i _ => ah_start K rows i)]; exact hown4, hbw4⟩
          case round =>
            obtain ⟨q, hq, rfl, hk, hB, hA, hbel⟩ := hrel
            by_cases hltq : q < j
            · obtain ⟨r, hr⟩ := get_some (l := rows) (n := q) (by rw [HLEN.out]; exact hltq)
              have HR := hid hr
              obtain ⟨b5, o5, a5, c5, rfl, hb5, hcl5, hra⟩ := tab_row HT.out hltq hr
              have hrl := hra.lim
              have HRA := hid hra
              have HRW := hid (HROW.out q r hr)
              have hlen : (intVals r).length = r.length := by simp [intVals]
              have HK := hid hk
              have HBB := hid hB
              have HAA := hid hA
              clear hr hra hk hB hA hown34 hown4 hbw4
              obtain ⟨L, hL⟩ : ∃ L, L = r.length := ⟨_, rfl⟩
              rw [← hL] at hcl5 hrl HRA
              have HL := hid hL
              clear hL hlen
              go_wp2
              go_loopw [9] (fun i wr => ∃ t : Nat, t ≤ L ∧ i = .int .i64 t ∧ wr.ownsRow w.heap.size 4 1 (.slice (some ⟨w.heap.size, 0, none⟩) j j) j (boolVals (rowB K j)) ∧ wr.ownsRow wo.heap.size 4 1 (.slice (some ⟨wo.heap.size, 0, none⟩) j j) j (boolVals (rowB (bhB K rows q t) j)) ∧ wr.ownsRow w3.heap.size 4 1 (.slice (some ⟨w3.heap.size, 0, none⟩) j j) j (boolVals (rowB (ahB K rows q t) j)) ∧ Below w.heap.size w wr) (fun i _ => L - (intOf i).toNat)
              case atStart => exact ⟨0, by omega, rfl, HK.out, HBB.out, HAA.out, hbel⟩
              case round =>
                obtain ⟨t, ht, rfl, hk, hB, hA, hbel⟩ := hrel
                have hcell := (hbel.cell (p := ⟨b5, o5 + q, none⟩) hb5).trans hcl5
                have hq1 : (q : Int) < (j : Int) := by omega
                by_cases hltt : t < L
                · obtain ⟨z, hz⟩ := get_some (l := r) (n := t) (by rw [← HL.out]; exact hltt)
                  obtain ⟨x, rfl⟩ : ∃ x : Nat, z = (x : Int) := ⟨z.toNat, by have := HRW.out z (List.mem_of_getElem? hz); omega⟩
                  have hxj : x < j := by have := HRW.out x (List.mem_of_getElem? hz); omega
                  have HZ := hid hz
                  obtain ⟨b6, o6, rfl, hb6, hcl6⟩ := HRA.out.at_ (by omega)
                  have hcellz := (hbel.cell (p := ⟨b6, o6 + t, none⟩) hb6).trans (hcl6 t _ (intVals_get hz))
                  have hcellk : wr.cell? ⟨w.heap.size, q, none⟩ = some (.bool (K q)) := (hk.cellAt q (by omega)).trans (rowB_get hltq)
                  have hcellx : wr.cell? ⟨w.heap.size, x, none⟩ = some (.bool (K x)) := (hk.cellAt x (by omega)).trans (rowB_get hxj)
                  have hcellb : wr.cell? ⟨wo.heap.size, q, none⟩ = some (.bool (bhB K rows q t q)) := (hB.cellAt q (by omega)).trans (rowB_get hltq)
                  have hcella : wr.cell? ⟨w3.heap.size, x, none⟩ = some (.bool (ahB K rows q t x)) := (hA.cellAt x (by omega)).trans (rowB_get hxj)
                  have hfb := hB.frozenAt q
                  have hfa := hA.frozenAt x
                  have hne : ¬ (wo.heap.size = w3.heap.size) := by omega
                  have hne2 : ¬ (w3.heap.size = wo.heap.size) := by omega
                  have hx1 : (x : Int) < (j : Int) := by omega
                  have HK2 := hid hk
                  have HB2 := hid hB
                  have HA2 := hid hA
                  obtain ⟨u, hu⟩ : ∃ u, u = K q := ⟨_, rfl⟩
                  obtain ⟨y, hy⟩ : ∃ y, y = K x := ⟨_, rfl⟩
                  rw [← hu] at hcellk
                  rw [← hy] at hcellx
                  have HU := hid hu
                  have HY := hid hy
                  clear hk hB hA hz hcl6 hu hy
                  cases u
                  · go_wp2
                    go_roundw
                    case rel => exact ⟨t + 1, by omega, by go_num, HK2.out, by rw [← rowB_ext (fun i _ => bh_no HR.out HZ.out (by rw [← HU.out]; rfl) i)]; exact HB2.out, by rw [← rowB_ext (fun i _ => ah_no HR.out HZ.out (by rw [← HU.out]; rfl) i)]; exact HA2.out, hbel⟩
                    case measure => simp [intOf]; omega
                  · cases y
                    · go_wp2
                      go_roundw
                      case rel => exact ⟨t + 1, by omega, by go_num, HK2.out, by rw [← rowB_ext (fun i _ => bh_no HR.out HZ.out (by rw [← HU.out, ← HY.out]; rfl) i)]; exact HB2.out, by rw [← rowB_ext (fun i _ => ah_no HR.out HZ.out (by rw [← HU.out, ← HY.out]; rfl) i)]; exact HA2.out, hbel⟩
                      case measure => simp [intOf]; omega
                    · go_wp2
                      go_roundw
                      case rel =>
                        have hst1 := HB2.out.stored q (.bool true)
                        have hA3 := HA2.out.kept hst1.2 (Or.inr (by simp [Value.ownBlock]; omega))
                        have hK3 := HK2.out.kept hst1.2 (Or.inr (by simp [Value.ownBlock]; omega))
                        have hst2 := hA3.stored x (.bool true)
                        have hB4 := hst1.1.kept hst2.2 (Or.inr (by simp [Value.ownBlock]; omega))
                        have hK4 := hK3.kept hst2.2 (Or.inr (by simp [Value.ownBlock]; omega))
                        rw [rowB_set, rowB_ext (fun i _ => bh_yes HR.out HZ.out HU.out.symm HY.out.symm i)] at hB4
                        have hA4 := hst2.1
                        rw [rowB_set, rowB_ext (fun i _ => ah_yes HR.out HZ.out HU.out.symm HY.out.symm i)] at hA4
                        exact ⟨t + 1, by omega, by go_num, hK4, hB4, hA4, (hbel.grown hst1.2 hbel.size (by rintro k ⟨⟩; omega)).grown hst2.2 (by simpa using hbel.size) (by rintro k ⟨⟩; omega)⟩
                      case measure => simp [intOf]; omega
                · obtain rfl : t = L := by omega
                  have HK2 := hid hk
                  have HB2 := hid hB
                  have HA2 := hid hA
                  clear hk hB hA
                  go_wp2
                  go_roundw
                  case rel => exact ⟨q + 1, by omega, by go_num, HK2.out, by rw [← rowB_ext (fun i _ => bh_next K HR.out i), ← HL.out]; exact HB2.out, by rw [← rowB_ext (fun i _ => ah_next K HR.out i), ← HL.out]; exact HA2.out, hbel⟩
                  case measure => simp [intOf]; omega
            · obtain rfl : q = j := by omega
              have HK := hid hk
              have HBB := hid hB
              have HAA := hid hA
              obtain ⟨H, hH⟩ : ∃ H : Nat → Bool, H = fun i => bhB K rows q 0 i && ahB K rows q 0 i := ⟨_, rfl⟩
              have HH := hid hH
              clear hk hB hA hown34 hown4 hbw4 hH
              go_wp2
              go_loopw [5, 10] (fun c i wr => ∃ (r : Nat) (b : Bool), r ≤ q ∧ i = .int .i64 r ∧ c = .bool b ∧ Hid (b = chH K H r) ∧ wr.ownsRow w.heap.size 4 1 (.slice (some ⟨w.heap.size, 0, none⟩) q q) q (boolVals (rowB (fun i => K i && (!decide (i < r) || H i)) q)) ∧ wr.ownsRow wo.heap.size 4 1 (.slice (some ⟨wo.heap.size, 0, none⟩) q q) q (boolVals (rowB (bhB K rows q 0) q)) ∧ wr.ownsRow w3.heap.size 4 1 (.slice (some ⟨w3.heap.size, 0, none⟩) q q) q (boolVals (rowB (ahB K rows q 0) q)) ∧ Below w.heap.size w wr) (fun _ i _ => q - (intOf i).toNat)
              case atStart => exact ⟨0, false, by omega, rfl, rfl, rfl, by rw [rowB_ext (L := K) (fun i _ => by simp)]; exact HK.out, HBB.out, HAA.out, hbel⟩
              case round =>
                obtain ⟨r, b, hr, rfl, rfl, HB, hk, hB, hA, hbel3⟩ := hrel
                by_cases hltr : r < q
                · have hck : wr.cell? ⟨w.heap.size, r, none⟩ = some (.bool (K r)) := by
                    rw [hk.cellAt r (by omega), rowB_get hltr]; simp
                  have hcb : wr.cell? ⟨wo.heap.size, r, none⟩ = some (.bool (bhB K rows q 0 r)) := (hB.cellAt r (by omega)).trans (rowB_get hltr)
                  have hca : wr.cell? ⟨w3.heap.size, r, none⟩ = some (.bool (ahB K rows q 0 r)) := (hA.cellAt r (by omega)).trans (rowB_get hltr)
                  have hfr := hk.frozenAt r
                  have HKK := hid hk
                  have HB2 := hid hB
                  have HA2 := hid hA
                  have HSET := hid (show (boolVals (rowB (fun i => K i && (!decide (i < r) || H i)) q)).set r (.bool (K r && H r)) = boolVals (rowB (fun i => K i && (!decide (i < r + 1) || H i)) q) by
                    rw [rowB_set]
                    refine congrArg boolVals (rowB_ext fun i _ => ?_)
                    by_cases h : i = r
                    · subst h; simp
                    · rw [if_neg h, show decide (i < r + 1) = decide (i < r) by rw [decide_eq_decide]; omega])
                  have HSAME := hid (show (K r && !H r) = false → rowB (fun i => K i && (!decide (i < r) || H i)) q = rowB (fun i => K i && (!decide (i < r + 1) || H i)) q from fun hx => rowB_ext fun i _ => by
                    by_cases h : i = r
                    · subst h
                      cases hki : K i
                      · rfl
                      · rw [hki, Bool.true_and] at hx
                        have : H i = true := by simpa using hx
                        rw [this]; simp
                    · rw [show decide (i < r + 1) = decide (i < r) by rw [decide_eq_decide]; omega])
                  have HCH := hid (chH_succ K H r)
                  rw [← HB.out] at HCH
                  have HHr := hid (show H r = (bhB K rows q 0 r && ahB K rows q 0 r) by rw [HH.out])
                  obtain ⟨u, hu⟩ : ∃ u, u = K r := ⟨_, rfl⟩
                  obtain ⟨x, hx⟩ : ∃ x, x = bhB K rows q 0 r := ⟨_, rfl⟩
                  obtain ⟨y, hy⟩ : ∃ y, y = ahB K rows q 0 r := ⟨_, rfl⟩
                  rw [← hu] at hck HSET HSAME HCH
                  rw [← hx] at hcb HHr
                  rw [← hy] at hca HHr
                  have hr1 : (r : Int) < (q : Int) := by omega
                  clear hk hB hA hu hx hy HB
                  cases u
                  · rw [Bool.false_and, Bool.or_false] at HCH
                    have HS := hid (HSAME.out rfl)
                    go_wp2
                    go_roundw
                    case rel => exact ⟨r + 1, _, by omega, by go_num, rfl, hid HCH.out.symm, by rw [← HS.out]; exact HKK.out, HB2.out, HA2.out, hbel3⟩
                    case measure => simp [intOf]; omega
                  · cases x
                    · have hHf : H r = false := HHr.out
                      rw [hHf] at HCH HSET
                      rw [show (b || (true && !false)) = true by simp] at HCH
                      go_wp2
                      go_roundw
                      case rel =>
                        have hst := HKK.out.stored r (.bool false)
                        rw [show (Value.bool false) = .bool (true && false) from rfl, HSET.out] at hst
                        exact ⟨r + 1, _, by omega, by go_num, rfl, hid HCH.out.symm, hst.1, HB2.out.kept hst.2 (Or.inr (by simp [Value.ownBlock]; omega)), HA2.out.kept hst.2 (Or.inr (by simp [Value.ownBlock]; omega)), hbel3.grown hst.2 hbel3.size (by rintro k ⟨⟩; exact Nat.le_refl _)⟩
                      case measure => simp [intOf]; omega
                    · cases y
                      · have hHf : H r = false := HHr.out
                        rw [hHf] at HCH HSET
                        rw [show (b || (true && !false)) = true by simp] at HCH
                        go_wp2
                        go_roundw
                        case rel =>
                          have hst := HKK.out.stored r (.bool false)
                          rw [show (Value.bool false) = .bool (true && false) from rfl, HSET.out] at hst
                          exact ⟨r + 1, _, by omega, by go_num, rfl, hid HCH.out.symm, hst.1, HB2.out.kept hst.2 (Or.inr (by simp [Value.ownBlock]; omega)), HA2.out.kept hst.2 (Or.inr (by simp [Value.ownBlock]; omega)), hbel3.grown hst.2 hbel3.size (by rintro k ⟨⟩; exact Nat.le_refl _)⟩
                        case measure => simp [intOf]; omega
                      · have hHt : H r = true := HHr.out
                        rw [hHt] at HCH HSAME
                        rw [show (b || (true && !true)) = b by simp] at HCH
                        have HS := hid (HSAME.out rfl)
                        go_wp2
                        go_roundw
                        case rel => exact ⟨r + 1, _, by omega, by go_num, rfl, hid HCH.out.symm, by rw [← HS.out]; exact HKK.out, HB2.out, HA2.out, hbel3⟩
                        case measure => simp [intOf]; omega
                · obtain rfl : r = q := by omega
                  have hk2 : wr.ownsRow w.heap.size 4 1 (.slice (some ⟨w.heap.size, 0, none⟩) r r) r (boolVals (rowB (fun i => K i && H i) r)) := by
                    rw [rowB_ext (L := fun i => K i && (!decide (i < r) || H i)) (fun i hi => by simp [hi])]; exact hk
                  have hsz3 : w.heap.size < wr.heap.size := (owns_block hk).choose_spec.2.1 |> fun h => (Array.getElem?_eq_some_iff.1 h).1
                  have HT2 := hid (show trues w.heap.size r wr + (match Value.bool b with | .bool true => 1 | _ => 0) < trues w.heap.size r wo + 1 by
                    rw [trues_row hk2, trues_row HO1.out]
                    cases b
                    · have := filter_same (K := K) (L := fun i => K i && H i) (M := r) (fun i hi => by
                        cases hki : K i
                        · rfl
                        · rw [chH_no HB.out.symm hi hki]; rfl)
                      simp only []; omega
                    · obtain ⟨x, hx, hkx, hhx⟩ := chH_yes HB.out.symm
                      have := filter_less (K := K) (L := fun i => K i && H i) (M := r) (fun i hi => by rw [Bool.and_eq_true] at hi; exact hi.1) hx hkx (by simp [hhx])
                      simp only []; omega)
                  have HE2 := hid (show b = false → ∀ i, i < r → (K i && H i) = true → (bhB (fun i => K i && H i) rows r 0 i && ahB (fun i => K i && H i) rows r 0 i) = true from fun hb i hi hki => by
                    rw [hb] at HB
                    have hsame : ∀ i, i < r → (K i && H i) = K i := fun i hi => by
                      cases hki : K i
                      · rfl
                      · rw [chH_no HB.out.symm hi hki]; rfl
                    have hki2 : K i = true := by rw [← hsame i hi]; exact hki
                    have hh := chH_no HB.out.symm hi hki2
                    rw [HH.out] at hh
                    rw [Bool.and_eq_true, bh_end HROW.out hi, ah_end] at hh
                    rw [Bool.and_eq_true, bh_end HROW.out hi, ah_end]
                    obtain ⟨⟨_, s, hs1, hs2⟩, _, t, ht1, ht2, ht3⟩ := hh
                    refine ⟨⟨hki, s, hs1, ?_⟩, hki, t, ht1, ht2, by show (K t && H t) = true; rw [hsame t ht1]; exact ht3⟩
                    show (K s && H s) = true
                    rw [hsame s ?_]
                    · exact hs2
                    · unfold edg at hs1
                      cases hg : rows[i]? with
                      | none => rw [List.getD_eq_getElem?_getD, hg] at hs1; cases hs1
                      | some r' =>
                        have e : rows.getD i [] = r' := by rw [List.getD_eq_getElem?_getD, hg]; rfl
                        have := HROW.out i r' hg _ (by rw [← e]; exact hs1)
                        omega)
                  have HP2 := hid (show ∀ i, i < r → LiveG rows r i → (K i && H i) = true by
                    rw [HH.out]
                    exact live_step HROW.out HP.out)
                  clear hk hB hA HB
                  go_wp2
                  go_roundw
                  case rel => exact ⟨_, b, rfl, hk2, hbel3, hsz3, HP2.out, HE2.out⟩
                  case measure => exact HT2.out
end Go.Proofs.YtcmmlldincflkaaDoor
