/- Rings that come again, the reference's way: what no ring goes to is struck until nothing changes. No condition but the sizes. -/
import Derived.Test.YtccknookhkahbaaGreatPeriodic
import Derived.Test.YtccknookhkahbaaGreatOrph
import Derived.StillTailTactics
namespace Go.Proofs.YtccknookhkahbaaGreat
open Go.RowKit

/-! Rows of bools. -/
def rowB (K : Nat → Bool) (M : Nat) : List Bool := (List.range M).map K
theorem rowB_get {K : Nat → Bool} {M i : Nat} (h : i < M) : (boolVals (rowB K M))[i]? = some (.bool (K i)) := by simp [boolVals, rowB, h]
theorem rowB_ext {K L : Nat → Bool} {M : Nat} (h : ∀ i, i < M → K i = L i) : rowB K M = rowB L M := List.map_congr_left fun i hi => h i (List.mem_range.1 hi)
theorem rowB_set (K : Nat → Bool) (M x : Nat) (b : Bool) : (boolVals (rowB K M)).set x (.bool b) = boolVals (rowB (fun i => if i = x then b else K i) M) := by
  refine List.ext_getElem? fun i => ?_
  by_cases hi : i < M
  · rw [rowB_get hi]
    by_cases hx : x = i
    · subst hx
      rw [List.getElem?_set_self (by simp [boolVals, rowB]; exact hi)]
      simp
    · rw [List.getElem?_set_ne hx, rowB_get hi, if_neg (fun e => hx e.symm)]
  · rw [List.getElem?_eq_none (by simp [boolVals, rowB]; omega), List.getElem?_eq_none (by simp [boolVals, rowB]; omega)]
theorem rowB_made (M : Nat) : (madeCells (Value.bool false).cells (M * 1)).toList = boolVals (rowB (fun _ => false) M) := by
  rw [Nat.mul_one]
  show (madeCells #[Value.bool false] M).toList = _
  rw [toList_madeCells_one]
  refine List.ext_getElem? fun i => ?_
  by_cases hi : i < M
  · rw [rowB_get hi, List.getElem?_replicate, if_pos hi]
  · rw [List.getElem?_eq_none (by simp; omega), List.getElem?_eq_none (by simp [boolVals, rowB]; omega)]

/-! The plain law: of numbers below M and a map g, what is kept. -/
/-- Whether one of the first j that are kept goes to i. -/
def hitK (g : Nat → Nat) (K : Nat → Bool) (j i : Nat) : Bool := (List.range j).any fun q => K q && decide (g q = i)
theorem hitK_succ (g : Nat → Nat) (K : Nat → Bool) (j i : Nat) : hitK g K (j + 1) i = (hitK g K j i || (K j && decide (g j = i))) := by simp [hitK, List.range_succ]
theorem hitK_iff {g : Nat → Nat} {K : Nat → Bool} {j i : Nat} : hitK g K j i = true ↔ ∃ q, q < j ∧ K q = true ∧ g q = i := by simp [hitK]
def gIt (g : Nat → Nat) (i : Nat) : Nat → Nat | 0 => i | n + 1 => g (gIt g i n)
def AgainN (g : Nat → Nat) (i : Nat) : Prop := ∃ p, 1 ≤ p ∧ gIt g i p = i
theorem gIt_shift (g : Nat → Nat) (i a : Nat) : ∀ b, gIt g (gIt g i a) b = gIt g i (a + b)
  | 0 => rfl
  | b + 1 => by show g _ = g _; rw [gIt_shift g i a b]; rfl
theorem againN_pre {g : Nat → Nat} {i : Nat} (h : AgainN g i) : ∃ q, AgainN g q ∧ g q = i ∧ ∃ a, q = gIt g i a := by
  obtain ⟨p, hp, e⟩ := h
  obtain ⟨r, rfl⟩ : ∃ r, p = r + 1 := ⟨p - 1, by omega⟩
  refine ⟨gIt g i r, ⟨r + 1, hp, ?_⟩, e, r, rfl⟩
  rw [gIt_shift, show r + (r + 1) = (r + 1) + r by omega, ← gIt_shift, e]
theorem gIt_lt {g : Nat → Nat} {M i : Nat} (hg : ∀ q, g q < M) (hi : i < M) : ∀ a, gIt g i a < M
  | 0 => hi
  | _ + 1 => hg _
/-- Nothing that comes again is struck. -/
theorem keep_step {g : Nat → Nat} {K : Nat → Bool} {M : Nat} (hg : ∀ q, g q < M) (h : ∀ i, i < M → AgainN g i → K i = true) : ∀ i, i < M → AgainN g i → (K i && hitK g K M i) = true := by
  intro i hi ha
  rw [Bool.and_eq_true]
  obtain ⟨q, hq, e, a, rfl⟩ := againN_pre ha
  have hlt := gIt_lt hg hi a
  exact ⟨h i hi ha, hitK_iff.2 ⟨_, hlt, h _ hlt hq, e⟩⟩
/-- When nothing more is struck, all that is left comes again. -/
theorem keep_end {g : Nat → Nat} {K : Nat → Bool} {M : Nat} (hg : ∀ q, g q < M) (h : ∀ i, i < M → K i = true → hitK g K M i = true) :
    (∀ a b, a < M → b < M → K a = true → K b = true → g a = g b → a = b) ∧ ∀ a, a < M → K a = true → K (g a) = true := by
  obtain ⟨L, hL⟩ : ∃ L, L = (List.range M).filter K := ⟨_, rfl⟩
  have hLm : ∀ x, x ∈ L ↔ x < M ∧ K x = true := fun x => by rw [hL, List.mem_filter, List.mem_range]
  have hLd : L.Nodup := by rw [hL]; exact List.nodup_range.sublist List.filter_sublist
  have key : ∀ a, a ∈ L → (∀ x ∈ L, x ∈ (L.erase a).map g) → False := fun a ha hs => by
    have h1 := nodup_le L _ hLd hs
    rw [List.length_map, List.length_erase_of_mem ha] at h1
    have := List.length_pos_of_mem ha
    omega
  have pre : ∀ x ∈ L, ∃ q ∈ L, g q = x := fun x hx => by
    obtain ⟨q, hq, hk, e⟩ := hitK_iff.1 (h x ((hLm x).1 hx).1 ((hLm x).1 hx).2)
    exact ⟨q, (hLm q).2 ⟨hq, hk⟩, e⟩
  constructor
  · intro a b ha hb hka hkb e
    refine Classical.byContradiction fun hne => ?_
    refine key a ((hLm a).2 ⟨ha, hka⟩) fun x hx => ?_
    obtain ⟨q, hq, e2⟩ := pre x hx
    by_cases hqa : q = a
    · exact List.mem_map.2 ⟨b, (List.mem_erase_of_ne (fun e => hne e.symm)).2 ((hLm b).2 ⟨hb, hkb⟩), by rw [← e, ← hqa]; exact e2⟩
    · exact List.mem_map.2 ⟨q, (List.mem_erase_of_ne hqa).2 hq, e2⟩
  · intro a ha hka
    refine Classical.byContradiction fun hne => ?_
    refine key a ((hLm a).2 ⟨ha, hka⟩) fun x hx => ?_
    obtain ⟨q, hq, e2⟩ := pre x hx
    by_cases hqa : q = a
    · rw [hqa] at e2
      rw [← e2] at hx
      exact absurd ((hLm _).1 hx).2 hne
    · exact List.mem_map.2 ⟨q, (List.mem_erase_of_ne hqa).2 hq, e2⟩
theorem keep_again {g : Nat → Nat} {K : Nat → Bool} {M : Nat} (hg : ∀ q, g q < M) (h : ∀ i, i < M → K i = true → hitK g K M i = true) {i : Nat} (hi : i < M) (hk : K i = true) : AgainN g i := by
  obtain ⟨hinj, hcl⟩ := keep_end hg h
  have hin : ∀ a, gIt g i a < M ∧ K (gIt g i a) = true := fun a => by
    induction a with
    | zero => exact ⟨hi, hk⟩
    | succ a ih => exact ⟨hg _, hcl _ ih.1 ih.2⟩
  have back : ∀ a b, a ≤ b → gIt g i a = gIt g i b → gIt g i (b - a) = i := fun a => by
    induction a with
    | zero => intro b _ e; exact e.symm
    | succ a ih =>
      intro b hab e
      obtain ⟨c, rfl⟩ : ∃ c, b = c + 1 := ⟨b - 1, by omega⟩
      have e2 := hinj _ _ (hin a).1 (hin c).1 (hin a).2 (hin c).2 e
      have := ih c (by omega) e2
      rwa [show c + 1 - (a + 1) = c - a by omega]
  refine Classical.byContradiction fun hne => ?_
  have hd : ((List.range (M + 1)).map (gIt g i)).Nodup := by
    rw [List.nodup_iff_pairwise_ne, List.pairwise_map]
    refine List.Pairwise.imp_of_mem (R := (· < ·)) (fun {a b} _ _ hab e => ?_) List.pairwise_lt_range
    exact hne ⟨b - a, by omega, back a b (by omega) e⟩
  have h1 := pigeon M _ hd (fun x hx => by
    obtain ⟨a, _, rfl⟩ := List.mem_map.1 hx
    exact (hin a).1)
  simp at h1
  exact absurd h1 (by omega)
/-- The numbers of rings and the rings. -/
theorem gIt_nextB {o : ByteArray} {n m : Nat} (h : RFit o n m) (i : Nat) : ∀ a, wAt 2 m (gIt (nextB o n m) i a) = itr (ringB o 2 n) (wAt 2 m i) a
  | 0 => rfl
  | a + 1 => by
    show wAt 2 m (nextB o n m (gIt (nextB o n m) i a)) = ringB o 2 n (itr (ringB o 2 n) (wAt 2 m i) a)
    rw [← gIt_nextB h i a]
    exact wAt_idx (by omega) m _ (rn_facts h _).1 (rn_facts h _).2
theorem againN_per {o : ByteArray} {n m i : Nat} (h : RFit o n m) (hi : i < 2 ^ m) : AgainN (nextB o n m) i ↔ per o n m i = true := by
  rw [per_iff]
  constructor
  · rintro ⟨p, hp, e⟩
    exact ⟨p, hp, by rw [← gIt_nextB h i p, e]⟩
  · rintro ⟨p, hp, e⟩
    refine ⟨p, hp, ?_⟩
    rw [← gIt_nextB h i p] at e
    have := congrArg (idxOf 2) e
    rwa [idx_wAt (by omega) m i hi, idx_wAt (by omega) m _ (gIt_lt (next_lt h) hi p)] at this
/-! The walk of the reference's l33Kept. -/
def gRow (g : Nat → Nat) (M : Nat) : List Int := (List.range M).map fun i => (g i : Int)
theorem gRow_get {g : Nat → Nat} {M i : Nat} (h : i < M) : (gRow g M)[i]? = some (g i : Int) := by simp [gRow, h]
def chg (g : Nat → Nat) (K : Nat → Bool) (M r : Nat) : Bool := (List.range r).any fun i => K i && !hitK g K M i
theorem chg_succ (g : Nat → Nat) (K : Nat → Bool) (M r : Nat) : chg g K M (r + 1) = (chg g K M r || (K r && !hitK g K M r)) := by simp [chg, List.range_succ]
theorem chg_no {g : Nat → Nat} {K : Nat → Bool} {M : Nat} (h : chg g K M M = false) : ∀ i, i < M → K i = true → hitK g K M i = true := by
  intro i hi hk
  cases hh : hitK g K M i
  · have : chg g K M M = true := by
      unfold chg
      rw [List.any_eq_true]
      exact ⟨i, List.mem_range.2 hi, by simp [hk, hh]⟩
    rw [h] at this; cases this
  · rfl
theorem chg_yes {g : Nat → Nat} {K : Nat → Bool} {M : Nat} (h : chg g K M M = true) : ∃ i, i < M ∧ K i = true ∧ hitK g K M i = false := by
  unfold chg at h
  rw [List.any_eq_true] at h
  obtain ⟨i, hi, h2⟩ := h
  simp at h2
  exact ⟨i, List.mem_range.1 hi, h2⟩
theorem hitK_ext {g : Nat → Nat} {K L : Nat → Bool} {M : Nat} (h : ∀ i, i < M → K i = L i) (i : Nat) : hitK g K M i = hitK g L M i := by
  rw [Bool.eq_iff_iff, hitK_iff, hitK_iff]
  constructor
  · rintro ⟨q, hq, hk, e⟩; exact ⟨q, hq, by rw [← h q hq]; exact hk, e⟩
  · rintro ⟨q, hq, hk, e⟩; exact ⟨q, hq, by rw [h q hq]; exact hk, e⟩
/-- How many cells of a row hold true. -/
noncomputable def trues (b M : Nat) (w : World) : Nat := ((List.range M).filter fun i => @decide (w.cell? ⟨b, i, none⟩ = some (.bool true)) (Classical.propDecidable _)).length
theorem trues_row {w : World} {B e b M c : Nat} {K : Nat → Bool} (h : w.ownsRow B e 1 (.slice (some ⟨b, 0, none⟩) M c) M (boolVals (rowB K M))) : trues b M w = ((List.range M).filter K).length := by
  unfold trues
  congr 1
  refine List.filter_congr fun i hi => ?_
  have hi2 := List.mem_range.1 hi
  rw [(h.cellAt i (by omega)).trans (rowB_get hi2)]
  rw [Bool.eq_iff_iff, @decide_eq_true_iff _ (Classical.propDecidable _)]
  simp
theorem filter_less {K L : Nat → Bool} {M : Nat} (h : ∀ i, L i = true → K i = true) {x : Nat} (hx : x < M) (hk : K x = true) (hl : L x = false) : ((List.range M).filter L).length < ((List.range M).filter K).length := by
  have h1 := nodup_le ((List.range M).filter L) (((List.range M).filter K).erase x) (List.nodup_range.sublist List.filter_sublist) (fun y hy => by
    obtain ⟨h2, h3⟩ := List.mem_filter.1 hy
    exact (List.mem_erase_of_ne (fun e => by rw [e, hl] at h3; cases h3)).2 (List.mem_filter.2 ⟨h2, h y h3⟩))
  have h2 : x ∈ (List.range M).filter K := List.mem_filter.2 ⟨List.mem_range.2 hx, hk⟩
  rw [List.length_erase_of_mem h2] at h1
  have := List.length_pos_of_mem h2
  omega
theorem filter_same {K L : Nat → Bool} {M : Nat} (h : ∀ i, i < M → K i = L i) : ((List.range M).filter L).length = ((List.range M).filter K).length := by
  congr 1
  exact List.filter_congr fun i hi => (h i (List.mem_range.1 hi)).symm
def KeptSPost (g : Nat → Nat) (M : Nat) (w : World) (e : Ending) (w' : World) : Prop :=
  ∃ v K, e = .returned v ∧ w'.ownsRow w.heap.size 4 1 v M (boolVals (rowB K M)) ∧ Below w.heap.size w w' ∧ (∀ i, i < M → AgainN g i → K i = true) ∧ ∀ i, i < M → K i = true → hitK g K M i = true
set_option maxHeartbeats 4000000 in
set_option maxRecDepth 100000 in
theorem spec_l33Kept_c (M : Nat) (g : Nat → Nat) (a : Option Addr) (c : Nat) (w : World) (hg : ∀ q, g q < M) (hM : M ≤ 6561) (hr : RowAt w a M (intVals (gRow g M))) :
    Calls Tryz.prog 44 #[.slice a M c] w (KeptSPost g M w) := by
  have HG := hid hg
  have HR := hid hr
  have hM1 : 1 ≤ M := by have := hg 0; omega
  clear hg hr
  obtain ⟨ti, hi, hz, hz1, hz2⟩ := info_parts infoBool
  go_enter Tryz.func44, Tryz.ntmps44
  go_wp2_with (first | (at_make; refine wpList_make_full _ rfl _ _ 60 rfl w.heap.size 4 ti (.bool false) 1 Tryz.underlying60 hi hz hz1 .i64 .i64 _ _ M rfl rfl rfl rfl (by rw [hz2]; omega) (by unfold maxLen; omega) (Nat.le_refl _) ?_; intro w1 hown1 hgr1))
  rw [rowB_made] at hown1
  have hb1 : Below w.heap.size w w1 := (Below.refl _ _).grown hgr1 (Nat.le_refl _) (by intro k h; cases h)
  clear hgr1
  go_loopw [4] (fun i wr => ∃ j : Nat, j ≤ M ∧ i = .int .i64 j ∧ wr.ownsRow w.heap.size 4 1 (.slice (some ⟨w.heap.size, 0, none⟩) M M) M (boolVals (rowB (fun i => decide (i < j)) M)) ∧ Below w.heap.size w wr) (fun i _ => M - (intOf i).toNat)
  case atStart => exact ⟨0, by omega, rfl, by simpa using hown1, hb1⟩
  case round =>
    obtain ⟨j, hj, rfl, hown, hbel⟩ := hrel
    by_cases hlt : j < M
    · have hcell : wr.cell? ⟨w.heap.size, j, none⟩ = some (.bool (decide (j < j))) := (hown.cellAt j (by omega)).trans (rowB_get hlt)
      have hfr := hown.frozenAt j
      have HO := hid hown
      clear hown
      go_wp2
      go_roundw
      case rel =>
        have hst := HO.out.stored j (.bool true)
        rw [rowB_set, rowB_ext (L := fun i => decide (i < j + 1)) (fun i _ => by by_cases h : i = j <;> simp [h] <;> omega)] at hst
        exact ⟨j + 1, by omega, by go_num, hst.1, hbel.grown hst.2 hbel.size (by rintro k ⟨⟩; exact Nat.le_refl _)⟩
      case measure => simp [intOf]; omega
    · obtain rfl : j = M := by omega
      have HO := hid hown
      clear hown
      go_wp2
      go_loopw [5, 6] (fun ch _ wr => ∃ (K : Nat → Bool) (b : Bool), ch = .bool b ∧ wr.ownsRow w.heap.size 4 1 (.slice (some ⟨w.heap.size, 0, none⟩) j j) j (boolVals (rowB K j)) ∧ Below w.heap.size w wr ∧ w.heap.size < wr.heap.size ∧ Hid (∀ i, i < j → AgainN g i → K i = true) ∧ Hid (b = false → ∀ i, i < j → K i = true → hitK g K j i = true)) (fun ch _ wr => trues w.heap.size j wr + (match ch with | .bool true => 1 | _ => 0))
      case atStart => exact ⟨_, true, rfl, HO.out, hbel, ((owns_block HO.out).choose_spec.2.1 |> fun h => (Array.getElem?_eq_some_iff.1 h).1), fun i hi _ => by simp [hi], fun h => by cases h⟩
      case round =>
        obtain ⟨K, b, rfl, hown, hbel, hsz, HP, HE⟩ := hrel
        cases b
        · go_wp2
          go_ret
          exact ⟨_, K, rfl, hown, hbel, HP.out, HE.out (by simp)⟩
        · obtain ⟨wo, rfl⟩ : ∃ wo : World, wo = wr := ⟨_, rfl⟩
          have HO1 := hid hown
          clear hown
          go_wp2_with (first | (at_make; refine wpList_make_full _ rfl _ _ 60 rfl wo.heap.size 4 ti (.bool false) 1 Tryz.underlying60 hi hz hz1 .i64 .i64 _ _ j rfl rfl rfl rfl (by rw [hz2]; omega) (by unfold maxLen; omega) (Nat.le_refl _) ?_; intro w3 hown3 hgr3))
          rw [rowB_made] at hown3
          have hb3 : Below wo.heap.size wo w3 := (Below.refl _ _).grown hgr3 (Nat.le_refl _) (by intro k h; cases h)
          clear hgr3
          go_loopw [7] (fun i wr => ∃ q : Nat, q ≤ j ∧ i = .int .i64 q ∧ wr.ownsRow wo.heap.size 4 1 (.slice (some ⟨wo.heap.size, 0, none⟩) j j) j (boolVals (rowB (hitK g K q) j)) ∧ Below wo.heap.size wo wr) (fun i _ => j - (intOf i).toNat)
          case atStart => exact ⟨0, by omega, rfl, by rw [rowB_ext (K := hitK g K 0) (L := fun _ => false) (fun i _ => by simp [hitK])]; exact hown3, hb3⟩
          case round =>
            obtain ⟨q, hq, rfl, hown, hbel2⟩ := hrel
            by_cases hltq : q < j
            · obtain ⟨b5, o5, rfl, hb5, hcl5⟩ := HR.out.at_ (by omega)
              have hbw := hbel.trans (hbel2.mono hbel.size)
              have hcell0 := (hbw.cell (p := ⟨b5, o5 + q, none⟩) hb5).trans (hcl5 q _ (intVals_get (gRow_get hltq)))
              have hcellk : wr.cell? ⟨w.heap.size, q, none⟩ = some (.bool (K q)) := (hbel2.cell (p := ⟨w.heap.size, q, none⟩) hsz).trans ((HO1.out.cellAt q (by omega)).trans (rowB_get hltq))
              have hxM := HG.out q
              have HSET := hid (show (boolVals (rowB (hitK g K q) j)).set (g q) (.bool (hitK g K q (g q) || K q)) = boolVals (rowB (hitK g K (q + 1)) j) by
                rw [rowB_set]
                refine congrArg boolVals (rowB_ext fun i _ => ?_)
                rw [hitK_succ]
                by_cases h : i = g q
                · subst h; simp
                · rw [if_neg h]; simp [show ¬ (g q = i) from fun e => h e.symm])
              obtain ⟨x, hx⟩ : ∃ x, x = g q := ⟨_, rfl⟩
              rw [← hx] at hcell0 hxM HSET
              have hx1 : (x : Int) < (j : Int) := by omega
              have hx0 : (0 : Int) ≤ (x : Int) := by omega
              have hq1 : (q : Int) < (j : Int) := by omega
              have hq0 : (0 : Int) ≤ (q : Int) := by omega
              have hcellh : wr.cell? ⟨wo.heap.size, x, none⟩ = some (.bool (hitK g K q x)) := (hown.cellAt x (by omega)).trans (rowB_get hxM)
              have hfr := hown.frozenAt x
              have HO2 := hid hown
              obtain ⟨u, hu⟩ : ∃ u, u = hitK g K q x := ⟨_, rfl⟩
              obtain ⟨y, hy⟩ : ∃ y, y = K q := ⟨_, rfl⟩
              rw [← hu, ← hy] at HSET
              rw [← hu] at hcellh
              rw [← hy] at hcellk
              clear hcl5 hx hown hu hy
              cases u <;> cases y
              all_goals
                go_wp2
                (refine wp_region_still_tail 19 (by kernel_rfl) (by kernel_rfl) ?_; change wpStill _ _ (World.drew _) (fun a' => wpList _ _ _ _ a' (World.drew _)) _ _; simp only [List.take_succ_cons, List.take_zero, List.drop_succ_cons, List.drop_zero]; repeat still_step)
                refine wpStill_nil ?_
                go_wp2
                go_roundw
                case rel =>
                  first
                    | (have hst := HO2.out.stored x (.bool (false || false)); rw [HSET.out] at hst; exact ⟨q + 1, by omega, by go_num, owns_below hst.1 (Below.refl _ _).drew, (hbel2.grown hst.2 hbel2.size (by rintro k ⟨⟩; exact Nat.le_refl _)).drew⟩)
                    | (have hst := HO2.out.stored x (.bool (false || true)); rw [HSET.out] at hst; exact ⟨q + 1, by omega, by go_num, owns_below hst.1 (Below.refl _ _).drew, (hbel2.grown hst.2 hbel2.size (by rintro k ⟨⟩; exact Nat.le_refl _)).drew⟩)
                    | (have hst := HO2.out.stored x (.bool (true || false)); rw [HSET.out] at hst; exact ⟨q + 1, by omega, by go_num, owns_below hst.1 (Below.refl _ _).drew, (hbel2.grown hst.2 hbel2.size (by rintro k ⟨⟩; exact Nat.le_refl _)).drew⟩)
                    | (have hst := HO2.out.stored x (.bool (true || true)); rw [HSET.out] at hst; exact ⟨q + 1, by omega, by go_num, owns_below hst.1 (Below.refl _ _).drew, (hbel2.grown hst.2 hbel2.size (by rintro k ⟨⟩; exact Nat.le_refl _)).drew⟩)
                case measure => simp [intOf]; omega
            · obtain rfl : q = j := by omega
              have HH := hid hown
              have hbw := hbel.trans (hbel2.mono hbel.size)
              have HO3 := hid (owns_below HO1.out hbel2)
              clear hown hbel2
              go_wp2
              go_loopw [5, 8] (fun c i wr => ∃ (r : Nat) (b : Bool), r ≤ q ∧ i = .int .i64 r ∧ c = .bool b ∧ Hid (b = chg g K q r) ∧ wr.ownsRow w.heap.size 4 1 (.slice (some ⟨w.heap.size, 0, none⟩) q q) q (boolVals (rowB (fun i => K i && (!decide (i < r) || hitK g K q i)) q)) ∧ wr.ownsRow wo.heap.size 4 1 (.slice (some ⟨wo.heap.size, 0, none⟩) q q) q (boolVals (rowB (hitK g K q) q)) ∧ Below w.heap.size w wr) (fun _ i _ => q - (intOf i).toNat)
              case atStart => exact ⟨0, false, by omega, rfl, rfl, rfl, by rw [rowB_ext (L := K) (fun i _ => by simp)]; exact HO3.out, HH.out, hbw⟩
              case round =>
                obtain ⟨r, b, hr, rfl, rfl, HB, hk, hh, hbel3⟩ := hrel
                by_cases hltr : r < q
                · have hck : wr.cell? ⟨w.heap.size, r, none⟩ = some (.bool (K r)) := by
                    rw [hk.cellAt r (by omega), rowB_get hltr]; simp
                  have hch : wr.cell? ⟨wo.heap.size, r, none⟩ = some (.bool (hitK g K q r)) := (hh.cellAt r (by omega)).trans (rowB_get hltr)
                  have hfr := hk.frozenAt r
                  have HKK := hid hk
                  have HHH := hid hh
                  have HSET := hid (show (boolVals (rowB (fun i => K i && (!decide (i < r) || hitK g K q i)) q)).set r (.bool (K r && hitK g K q r)) = boolVals (rowB (fun i => K i && (!decide (i < r + 1) || hitK g K q i)) q) by
                    rw [rowB_set]
                    refine congrArg boolVals (rowB_ext fun i _ => ?_)
                    by_cases h : i = r
                    · subst h; simp
                    · rw [if_neg h, show decide (i < r + 1) = decide (i < r) by rw [decide_eq_decide]; omega])
                  have HCH := hid (chg_succ g K q r)
                  rw [← HB.out] at HCH
                  obtain ⟨u, hu⟩ : ∃ u, u = hitK g K q r := ⟨_, rfl⟩
                  obtain ⟨y, hy⟩ : ∃ y, y = K r := ⟨_, rfl⟩
                  rw [← hu, ← hy] at HSET HCH
                  rw [← hu] at hch
                  rw [← hy] at hck
                  clear hk hh hu hy HB
                  cases b <;> cases y <;> cases u
                  all_goals
                    go_wp2
                    go_roundw
                    case rel =>
                      first
                        | (have hst := HKK.out.stored r (.bool (false && false)); rw [HSET.out] at hst; exact ⟨r + 1, _, by omega, by go_num, rfl, by show _ = _; rw [HCH.out]; rfl, hst.1, HHH.out.kept hst.2 (Or.inr (by simp [Value.ownBlock]; omega)), hbel3.grown hst.2 hbel3.size (by rintro k ⟨⟩; exact Nat.le_refl _)⟩)
                        | (have hst := HKK.out.stored r (.bool (false && true)); rw [HSET.out] at hst; exact ⟨r + 1, _, by omega, by go_num, rfl, by show _ = _; rw [HCH.out]; rfl, hst.1, HHH.out.kept hst.2 (Or.inr (by simp [Value.ownBlock]; omega)), hbel3.grown hst.2 hbel3.size (by rintro k ⟨⟩; exact Nat.le_refl _)⟩)
                        | (have hst := HKK.out.stored r (.bool (true && false)); rw [HSET.out] at hst; exact ⟨r + 1, _, by omega, by go_num, rfl, by show _ = _; rw [HCH.out]; rfl, hst.1, HHH.out.kept hst.2 (Or.inr (by simp [Value.ownBlock]; omega)), hbel3.grown hst.2 hbel3.size (by rintro k ⟨⟩; exact Nat.le_refl _)⟩)
                        | (have hst := HKK.out.stored r (.bool (true && true)); rw [HSET.out] at hst; exact ⟨r + 1, _, by omega, by go_num, rfl, by show _ = _; rw [HCH.out]; rfl, hst.1, HHH.out.kept hst.2 (Or.inr (by simp [Value.ownBlock]; omega)), hbel3.grown hst.2 hbel3.size (by rintro k ⟨⟩; exact Nat.le_refl _)⟩)
                    case measure => simp [intOf]; omega
                · obtain rfl : r = q := by omega
                  have hk2 : wr.ownsRow w.heap.size 4 1 (.slice (some ⟨w.heap.size, 0, none⟩) r r) r (boolVals (rowB (fun i => K i && hitK g K r i) r)) := by
                    rw [rowB_ext (L := fun i => K i && (!decide (i < r) || hitK g K r i)) (fun i hi => by simp [hi])]; exact hk
                  have hsz3 : w.heap.size < wr.heap.size := (owns_block hk).choose_spec.2.1 |> fun h => (Array.getElem?_eq_some_iff.1 h).1
                  have HT := hid (show trues w.heap.size r wr + (match Value.bool b with | .bool true => 1 | _ => 0) < trues w.heap.size r wo + 1 by
                    rw [trues_row hk2, trues_row HO1.out]
                    cases b
                    · have := filter_same (K := K) (L := fun i => K i && hitK g K r i) (M := r) (fun i hi => by
                        cases hki : K i
                        · rfl
                        · rw [chg_no HB.out.symm i hi hki]; rfl)
                      simp only []; omega
                    · obtain ⟨x, hx, hkx, hhx⟩ := chg_yes HB.out.symm
                      have := filter_less (K := K) (L := fun i => K i && hitK g K r i) (M := r) (fun i hi => by rw [Bool.and_eq_true] at hi; exact hi.1) hx hkx (by simp [hhx])
                      simp only []; omega)
                  have HE2 := hid (show b = false → ∀ i, i < r → (K i && hitK g K r i) = true → hitK g (fun i => K i && hitK g K r i) r i = true from fun hb i hi hki => by
                    rw [hb] at HB
                    have hno := chg_no HB.out.symm
                    rw [← hitK_ext (K := K) (L := fun i => K i && hitK g K r i) (fun j hj => by
                      cases hkj : K j
                      · rfl
                      · rw [hno j hj hkj]; rfl) i]
                    rw [Bool.and_eq_true] at hki
                    exact hki.2)
                  have HP2 := hid (keep_step HG.out HP.out)
                  clear hk hh HB
                  go_wp2
                  go_roundw
                  case rel => exact ⟨_, b, rfl, hk2, hbel3, hsz3, HP2.out, HE2.out⟩
                  case measure => exact HT.out
end Go.Proofs.YtccknookhkahbaaGreat
