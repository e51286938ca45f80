/- Rings that come again, the reference's way: what no ring goes to is struck until nothing changes. No condition but the sizes. -/
import Derived.Sort.OwnSorted
import Derived.StillTailTactics
import Derived.Test.YtpfeflhcbcgbfaaGreatDoorKept
import Derived.Test.YtpfeflhcbcgbfaaGreatDoorNumber
import Derived.Test.YtpfeflhcbcgbfaaGreatDoorIns
import Derived.Test.YtpfeflhcbcgbfaaGreatDoorShelf
import Derived.Test.YtpfeflhcbcgbfaaGreatDoorBoxC
import Derived.Test.YtpfeflhcbcgbfaaGreatDoorAppN
namespace Go.Proofs.YtpfeflhcbcgbfaaGreatDoor
open Go.RowKit

def fitsB (k n : Int) (o : ByteArray) (m : Int) : Bool := isCode k n o && (decide (k = 2) && inB m 1 8)
theorem fits_facts {k n : Int} {o : ByteArray} {m : Int} (h : fitsB k n o m = true) : k = 2 ∧ ∃ nn mm : Nat, n = nn ∧ m = mm ∧ RFit o nn mm := by
  unfold fitsB at h
  rw [Bool.and_eq_true, Bool.and_eq_true, decide_eq_true_eq, inB_iff] at h
  obtain ⟨hc, rfl, hm1, hm8⟩ := h
  obtain ⟨kk, nn, hkk, rfl, hk, hn, hp, ho, hl⟩ := code_facts hc
  obtain rfl : kk = 2 := by omega
  obtain ⟨mm, rfl⟩ : ∃ mm : Nat, m = mm := ⟨m.toNat, by omega⟩
  exact ⟨rfl, nn, mm, rfl, rfl, ⟨hn.1, hn.2, ho, hl, by omega, by omega, hc⟩⟩
def cntS (o : ByteArray) (n m : Nat) : Nat := ((List.range (2 ^ m)).filter (stays o n m)).length
def NextsPost (o : ByteArray) (n m : Nat) (w : World) (e : Ending) (w' : World) : Prop := ∃ v, e = .returned v ∧ w'.ownsRow w.heap.size 3 1 v (2 ^ m) (intVals (nexts o n m (2 ^ m))) ∧ Below w.heap.size w w'
theorem infoIntK : (Tryz.prog.info? 3).map (fun i => (i.zero, i.size, i.bytes)) = some (some (.int .i64 0), 1, 8) := by kernel_rfl
end Go.Proofs.YtpfeflhcbcgbfaaGreatDoor
namespace Go.Proofs.YtpfeflhcbcgbfaaGreatDoor
open Go.RowKit Go.Sort Go.Lib

def DiffPost (B g cap : Nat) (ss : List (List UInt8)) (w : World) (e : Ending) (w' : World) : Prop :=
  e = .returned (.slice (some ⟨g, 0, none⟩) (distinct ss).length cap) ∧ w'.ownsRow B 9 1 (.slice (some ⟨g, 0, none⟩) (distinct ss).length cap) (distinct ss).length ((distinct ss).map encStr) ∧ Below B w w'
end Go.Proofs.YtpfeflhcbcgbfaaGreatDoor
namespace Go.Proofs.YtpfeflhcbcgbfaaGreatDoor
open Go.RowKit

def ims (o : ByteArray) (n m j : Nat) : List (List UInt8) := (List.range j).map (rnB o n m)
theorem ims_succ (o : ByteArray) (n m j : Nat) : (ims o n m (j + 1)).map Go.Proofs.encStr = (ims o n m j).map Go.Proofs.encStr ++ [.string (txt (rnB o n m j))] := by simp [ims, List.range_succ]; rfl
theorem ims_len (o : ByteArray) (n m j : Nat) : (ims o n m j).length = j := by simp [ims]
/-- Whether one of the first j rings goes to the ring number i. -/
def hits (o : ByteArray) (n m j i : Nat) : Bool := (List.range j).any fun q => decide (nextB o n m q = i)
theorem hits_succ (o : ByteArray) (n m j i : Nat) : hits o n m (j + 1) i = (hits o n m j i || decide (nextB o n m j = i)) := by simp [hits, List.range_succ]
theorem hits_iff {o : ByteArray} {n m j i : Nat} : hits o n m j i = true ↔ ∃ q, q < j ∧ nextB o n m q = i := by simp [hits]
def boolVals (l : List Bool) : List Value := l.map Value.bool
def hitL (o : ByteArray) (n m M j : Nat) : List Bool := (List.range M).map (hits o n m j)
theorem hitL_get {o : ByteArray} {n m M j i : Nat} (h : i < M) : (boolVals (hitL o n m M j))[i]? = some (.bool (hits o n m j i)) := by simp [boolVals, hitL, h]
theorem hitL_zero (o : ByteArray) (n m M : Nat) : boolVals (hitL o n m M 0) = (madeCells (Value.bool false).cells (M * 1)).toList := by
  rw [Nat.mul_one]
  show _ = (madeCells #[Value.bool false] M).toList
  rw [toList_madeCells_one]
  refine List.ext_getElem? fun i => ?_
  by_cases hi : i < M
  · rw [hitL_get hi, List.getElem?_replicate, if_pos hi]; rfl
  · rw [List.getElem?_eq_none (by simp [boolVals, hitL]; omega), List.getElem?_eq_none (by simp; omega)]
theorem hitL_set (o : ByteArray) (n m M j : Nat) : (boolVals (hitL o n m M j)).set (nextB o n m j) (.bool true) = boolVals (hitL o n m M (j + 1)) := by
  refine List.ext_getElem? fun i => ?_
  by_cases hi : i < M
  · rw [hitL_get hi, hits_succ]
    by_cases hx : nextB o n m j = i
    · subst hx
      rw [List.getElem?_set_self (by simp [boolVals, hitL]; exact hi)]
      simp
    · rw [List.getElem?_set_ne hx, hitL_get hi]
      simp [hx]
  · rw [List.getElem?_eq_none (by simp [boolVals, hitL]; omega), List.getElem?_eq_none (by simp [boolVals, hitL]; omega)]
theorem filt_compl (p : Nat → Bool) : ∀ M, ((List.range M).filter p).length + ((List.range M).filter fun i => !p i).length = M
  | 0 => rfl
  | M + 1 => by
    have := filt_compl p M
    cases h : p M
    · rw [cn_no h, cn_yes (p := fun i => !p i) (by simp [h])]; omega
    · rw [cn_yes h, cn_no (p := fun i => !p i) (by simp [h])]; omega
def orph (o : ByteArray) (n m : Nat) : Nat := ((List.range (2 ^ m)).filter fun i => !hits o n m (2 ^ m) i).length
theorem orph_law {o : ByteArray} {n m : Nat} (h : RFit o n m) : (distinct (ims o n m (2 ^ m))).length + orph o n m = 2 ^ m := by
  have h1 := filt_compl (hits o n m (2 ^ m)) (2 ^ m)
  have h2 : (distinct (ims o n m (2 ^ m))).length = ((List.range (2 ^ m)).filter (hits o n m (2 ^ m))).length := by
    obtain ⟨hd, hm⟩ := distinct_facts (ims o n m (2 ^ m))
    refine Eq.trans (nodup_eq (m := ((List.range (2 ^ m)).filter (hits o n m (2 ^ m))).map (wAt 2 m)) hd ?_ fun x => ?_) (List.length_map ..)
    · rw [List.nodup_iff_pairwise_ne, List.pairwise_map]
      refine List.Pairwise.imp_of_mem (R := (· < ·)) (fun {a b} ha hb hab e => ?_) (List.pairwise_lt_range.sublist List.filter_sublist)
      have ha2 := List.mem_range.1 (List.mem_filter.1 ha).1
      have hb2 := List.mem_range.1 (List.mem_filter.1 hb).1
      have := congrArg (idxOf 2) e
      rw [idx_wAt (by omega) m a ha2, idx_wAt (by omega) m b hb2] at this
      omega
    · rw [hm x]
      constructor
      · intro hx
        obtain ⟨q, hq, rfl⟩ := List.mem_map.1 hx
        refine List.mem_map.2 ⟨nextB o n m q, List.mem_filter.2 ⟨List.mem_range.2 (next_lt h q), hits_iff.2 ⟨q, List.mem_range.1 hq, rfl⟩⟩, ?_⟩
        exact wAt_idx (by omega) m _ (rn_facts h q).1 (rn_facts h q).2
      · intro hx
        obtain ⟨i, hi, rfl⟩ := List.mem_map.1 hx
        obtain ⟨q, hq, e⟩ := hits_iff.1 (List.mem_filter.1 hi).2
        refine List.mem_map.2 ⟨q, List.mem_range.2 hq, ?_⟩
        rw [← e]
        exact (wAt_idx (by omega) m _ (rn_facts h q).1 (rn_facts h q).2).symm
  unfold orph
  omega
theorem infoBool : (Tryz.prog.info? 4).map (fun i => (i.zero, i.size, i.bytes)) = some (some (.bool false), 1, 1) := by kernel_rfl
end Go.Proofs.YtpfeflhcbcgbfaaGreatDoor
namespace Go.Proofs.YtpfeflhcbcgbfaaGreatDoor
open Go.RowKit

theorem itr_mod {f : List UInt8 → List UInt8} {l : List UInt8} {t p : Nat} (h : IsTail f l t p) : ∀ k, t ≤ k → ∃ s, t ≤ s ∧ s < t + p ∧ itr f l k = itr f l s
  | 0, hk => ⟨0, by omega, by have := h.pos; omega, rfl⟩
  | k + 1, hk => by
    rcases Nat.lt_or_ge k t with h1 | h1
    · exact ⟨k + 1, by omega, by have := h.pos; omega, rfl⟩
    · obtain ⟨s, hs1, hs2, he⟩ := itr_mod h k h1
      have e : itr f l (k + 1) = itr f l (s + 1) := by show f (itr f l k) = f (itr f l s); rw [he]
      rcases Nat.lt_or_ge (s + 1) (t + p) with h2 | h2
      · exact ⟨s + 1, by omega, h2, e⟩
      · have h3 : s + 1 = t + p := by omega
        exact ⟨t, by omega, by have := h.pos; omega, by rw [e, h3, h.eq]⟩
/-- A word that comes again. -/
def Again (f : List UInt8 → List UInt8) (l : List UInt8) : Prop := ∃ p, 1 ≤ p ∧ itr f l p = l
theorem again_iff {f : List UInt8 → List UInt8} {l : List UInt8} {t p : Nat} (h : IsTail f l t p) : Again f l ↔ t = 0 := by
  constructor
  · rintro ⟨q, hq, e⟩
    refine Classical.byContradiction fun ht => ?_
    rcases Nat.lt_or_ge q (t + p) with h1 | h1
    · exact h.new 0 q (by omega) h1 e.symm
    · obtain ⟨s, hs1, hs2, he⟩ := itr_mod h q (by omega)
      exact h.new 0 s (by omega) hs2 (by rw [← he, e]; rfl)
  · rintro rfl
    exact ⟨p, h.pos, by have := h.eq; rw [Nat.zero_add] at this; exact this⟩
noncomputable def per (o : ByteArray) (n m i : Nat) : Bool := @decide (Again (ringB o 2 n) (wAt 2 m i)) (Classical.propDecidable _)
theorem per_iff {o : ByteArray} {n m i : Nat} : per o n m i = true ↔ Again (ringB o 2 n) (wAt 2 m i) := by unfold per; exact @decide_eq_true_iff _ (Classical.propDecidable _)
theorem per_tail {o : ByteArray} {n m i t p : Nat} (h : IsTail (ringB o 2 n) (wAt 2 m i) t p) : per o n m i = decide (t = 0) := by
  rw [Bool.eq_iff_iff, per_iff, again_iff h, decide_eq_true_iff]
noncomputable def cntP (o : ByteArray) (n m : Nat) : Nat := ((List.range (2 ^ m)).filter (per o n m)).length
end Go.Proofs.YtpfeflhcbcgbfaaGreatDoor
namespace Go.Proofs.YtpfeflhcbcgbfaaGreatDoor
open Go.RowKit

/-! Rows of bools. -/
def rowB (K : Nat → Bool) (M : Nat) : List Bool := (List.range M).map K
theorem rowB_get {K : Nat → Bool} {M i : Nat} (h : i < M) : (boolVals (rowB K M))[i]? = some (.bool (K i)) := by simp [boolVals, rowB, h]
theorem rowB_ext {K L : Nat → Bool} {M : Nat} (h : ∀ i, i < M → K i = L i) : rowB K M = rowB L M := List.map_congr_left fun i hi => h i (List.mem_range.1 hi)
theorem rowB_set (K : Nat → Bool) (M x : Nat) (b : Bool) : (boolVals (rowB K M)).set x (.bool b) = boolVals (rowB (fun i => if i = x then b else K i) M) := by
  refine List.ext_getElem? fun i => ?_
  by_cases hi : i < M
  · rw [rowB_get hi]
    by_cases hx : x = i
    · subst hx
      rw [List.getElem?_set_self (by simp [boolVals, rowB]; exact hi)]
      simp
    · rw [List.getElem?_set_ne hx, rowB_get hi, if_neg (fun e => hx e.symm)]
  · rw [List.getElem?_eq_none (by simp [boolVals, rowB]; omega), List.getElem?_eq_none (by simp [boolVals, rowB]; omega)]
theorem rowB_made (M : Nat) : (madeCells (Value.bool false).cells (M * 1)).toList = boolVals (rowB (fun _ => false) M) := by
  rw [Nat.mul_one]
  show (madeCells #[Value.bool false] M).toList = _
  rw [toList_madeCells_one]
  refine List.ext_getElem? fun i => ?_
  by_cases hi : i < M
  · rw [rowB_get hi, List.getElem?_replicate, if_pos hi]
  · rw [List.getElem?_eq_none (by simp; omega), List.getElem?_eq_none (by simp [boolVals, rowB]; omega)]

/-! The plain law: of numbers below M and a map g, what is kept. -/
/-- Whether one of the first j that are kept goes to i. -/
def hitK (g : Nat → Nat) (K : Nat → Bool) (j i : Nat) : Bool := (List.range j).any fun q => K q && decide (g q = i)
theorem hitK_succ (g : Nat → Nat) (K : Nat → Bool) (j i : Nat) : hitK g K (j + 1) i = (hitK g K j i || (K j && decide (g j = i))) := by simp [hitK, List.range_succ]
theorem hitK_iff {g : Nat → Nat} {K : Nat → Bool} {j i : Nat} : hitK g K j i = true ↔ ∃ q, q < j ∧ K q = true ∧ g q = i := by simp [hitK]
def gIt (g : Nat → Nat) (i : Nat) : Nat → Nat | 0 => i | n + 1 => g (gIt g i n)
def AgainN (g : Nat → Nat) (i : Nat) : Prop := ∃ p, 1 ≤ p ∧ gIt g i p = i
theorem gIt_shift (g : Nat → Nat) (i a : Nat) : ∀ b, gIt g (gIt g i a) b = gIt g i (a + b)
  | 0 => rfl
  | b + 1 => by show g _ = g _; rw [gIt_shift g i a b]; rfl
theorem againN_pre {g : Nat → Nat} {i : Nat} (h : AgainN g i) : ∃ q, AgainN g q ∧ g q = i ∧ ∃ a, q = gIt g i a := by
  obtain ⟨p, hp, e⟩ := h
  obtain ⟨r, rfl⟩ : ∃ r, p = r + 1 := ⟨p - 1, by omega⟩
  refine ⟨gIt g i r, ⟨r + 1, hp, ?_⟩, e, r, rfl⟩
  rw [gIt_shift, show r + (r + 1) = (r + 1) + r by omega, ← gIt_shift, e]
theorem gIt_lt {g : Nat → Nat} {M i : Nat} (hg : ∀ q, g q < M) (hi : i < M) : ∀ a, gIt g i a < M
  | 0 => hi
  | _ + 1 => hg _
/-- Nothing that comes again is struck. -/
theorem keep_step {g : Nat → Nat} {K : Nat → Bool} {M : Nat} (hg : ∀ q, g q < M) (h : ∀ i, i < M → AgainN g i → K i = true) : ∀ i, i < M → AgainN g i → (K i && hitK g K M i) = true := by
  intro i hi ha
  rw [Bool.and_eq_true]
  obtain ⟨q, hq, e, a, rfl⟩ := againN_pre ha
  have hlt := gIt_lt hg hi a
  exact ⟨h i hi ha, hitK_iff.2 ⟨_, hlt, h _ hlt hq, e⟩⟩
/-- When nothing more is struck, all that is left comes again. -/
theorem keep_end {g : Nat → Nat} {K : Nat → Bool} {M : Nat} (hg : ∀ q, g q < M) (h : ∀ i, i < M → K i = true → hitK g K M i = true) :
    (∀ a b, a < M → b < M → K a = true → K b = true → g a = g b → a = b) ∧ ∀ a, a < M → K a = true → K (g a) = true := by
  obtain ⟨L, hL⟩ : ∃ L, L = (List.range M).filter K := ⟨_, rfl⟩
  have hLm : ∀ x, x ∈ L ↔ x < M ∧ K x = true := fun x => by rw [hL, List.mem_filter, List.mem_range]
  have hLd : L.Nodup := by rw [hL]; exact List.nodup_range.sublist List.filter_sublist
  have key : ∀ a, a ∈ L → (∀ x ∈ L, x ∈ (L.erase a).map g) → False := fun a ha hs => by
    have h1 := nodup_le L _ hLd hs
    rw [List.length_map, List.length_erase_of_mem ha] at h1
    have := List.length_pos_of_mem ha
    omega
  have pre : ∀ x ∈ L, ∃ q ∈ L, g q = x := fun x hx => by
    obtain ⟨q, hq, hk, e⟩ := hitK_iff.1 (h x ((hLm x).1 hx).1 ((hLm x).1 hx).2)
    exact ⟨q, (hLm q).2 ⟨hq, hk⟩, e⟩
  constructor
  · intro a b ha hb hka hkb e
    refine Classical.byContradiction fun hne => ?_
    refine key a ((hLm a).2 ⟨ha, hka⟩) fun x hx => ?_
    obtain ⟨q, hq, e2⟩ := pre x hx
    by_cases hqa : q = a
    · exact List.mem_map.2 ⟨b, (List.mem_erase_of_ne (fun e => hne e.symm)).2 ((hLm b).2 ⟨hb, hkb⟩), by rw [← e, ← hqa]; exact e2⟩
    · exact List.mem_map.2 ⟨q, (List.mem_erase_of_ne hqa).2 hq, e2⟩
  · intro a ha hka
    refine Classical.byContradiction fun hne => ?_
    refine key a ((hLm a).2 ⟨ha, hka⟩) fun x hx => ?_
    obtain ⟨q, hq, e2⟩ := pre x hx
    by_cases hqa : q = a
    · rw [hqa] at e2
      rw [← e2] at hx
      exact absurd ((hLm _).1 hx).2 hne
    · exact List.mem_map.2 ⟨q, (List.mem_erase_of_ne hqa).2 hq, e2⟩
theorem keep_again {g : Nat → Nat} {K : Nat → Bool} {M : Nat} (hg : ∀ q, g q < M) (h : ∀ i, i < M → K i = true → hitK g K M i = true) {i : Nat} (hi : i < M) (hk : K i = true) : AgainN g i := by
  obtain ⟨hinj, hcl⟩ := keep_end hg h
  have hin : ∀ a, gIt g i a < M ∧ K (gIt g i a) = true := fun a => by
    induction a with
    | zero => exact ⟨hi, hk⟩
    | succ a ih => exact ⟨hg _, hcl _ ih.1 ih.2⟩
  have back : ∀ a b, a ≤ b → gIt g i a = gIt g i b → gIt g i (b - a) = i := fun a => by
    induction a with
    | zero => intro b _ e; exact e.symm
    | succ a ih =>
      intro b hab e
      obtain ⟨c, rfl⟩ : ∃ c, b = c + 1 := ⟨b - 1, by omega⟩
      have e2 := hinj _ _ (hin a).1 (hin c).1 (hin a).2 (hin c).2 e
      have := ih c (by omega) e2
      rwa [show c + 1 - (a + 1) = c - a by omega]
  refine Classical.byContradiction fun hne => ?_
  have hd : ((List.range (M + 1)).map (gIt g i)).Nodup := by
    rw [List.nodup_iff_pairwise_ne, List.pairwise_map]
    refine List.Pairwise.imp_of_mem (R := (· < ·)) (fun {a b} _ _ hab e => ?_) List.pairwise_lt_range
    exact hne ⟨b - a, by omega, back a b (by omega) e⟩
  have h1 := pigeon M _ hd (fun x hx => by
    obtain ⟨a, _, rfl⟩ := List.mem_map.1 hx
    exact (hin a).1)
  simp at h1
  exact absurd h1 (by omega)
/-- The numbers of rings and the rings. -/
theorem gIt_nextB {o : ByteArray} {n m : Nat} (h : RFit o n m) (i : Nat) : ∀ a, wAt 2 m (gIt (nextB o n m) i a) = itr (ringB o 2 n) (wAt 2 m i) a
  | 0 => rfl
  | a + 1 => by
    show wAt 2 m (nextB o n m (gIt (nextB o n m) i a)) = ringB o 2 n (itr (ringB o 2 n) (wAt 2 m i) a)
    rw [← gIt_nextB h i a]
    exact wAt_idx (by omega) m _ (rn_facts h _).1 (rn_facts h _).2
theorem againN_per {o : ByteArray} {n m i : Nat} (h : RFit o n m) (hi : i < 2 ^ m) : AgainN (nextB o n m) i ↔ per o n m i = true := by
  rw [per_iff]
  constructor
  · rintro ⟨p, hp, e⟩
    exact ⟨p, hp, by rw [← gIt_nextB h i p, e]⟩
  · rintro ⟨p, hp, e⟩
    refine ⟨p, hp, ?_⟩
    rw [← gIt_nextB h i p] at e
    have := congrArg (idxOf 2) e
    rwa [idx_wAt (by omega) m i hi, idx_wAt (by omega) m _ (gIt_lt (next_lt h) hi p)] at this
/-! The walk of the reference's l33Kept. -/
def gRow (g : Nat → Nat) (M : Nat) : List Int := (List.range M).map fun i => (g i : Int)
theorem gRow_get {g : Nat → Nat} {M i : Nat} (h : i < M) : (gRow g M)[i]? = some (g i : Int) := by simp [gRow, h]
def chg (g : Nat → Nat) (K : Nat → Bool) (M r : Nat) : Bool := (List.range r).any fun i => K i && !hitK g K M i
theorem chg_succ (g : Nat → Nat) (K : Nat → Bool) (M r : Nat) : chg g K M (r + 1) = (chg g K M r || (K r && !hitK g K M r)) := by simp [chg, List.range_succ]
theorem chg_no {g : Nat → Nat} {K : Nat → Bool} {M : Nat} (h : chg g K M M = false) : ∀ i, i < M → K i = true → hitK g K M i = true := by
  intro i hi hk
  cases hh : hitK g K M i
  · have : chg g K M M = true := by
      unfold chg
      rw [List.any_eq_true]
      exact ⟨i, List.mem_range.2 hi, by simp [hk, hh]⟩
    rw [h] at this; cases this
  · rfl
theorem chg_yes {g : Nat → Nat} {K : Nat → Bool} {M : Nat} (h : chg g K M M = true) : ∃ i, i < M ∧ K i = true ∧ hitK g K M i = false := by
  unfold chg at h
  rw [List.any_eq_true] at h
  obtain ⟨i, hi, h2⟩ := h
  simp at h2
  exact ⟨i, List.mem_range.1 hi, h2⟩
theorem hitK_ext {g : Nat → Nat} {K L : Nat → Bool} {M : Nat} (h : ∀ i, i < M → K i = L i) (i : Nat) : hitK g K M i = hitK g L M i := by
  rw [Bool.eq_iff_iff, hitK_iff, hitK_iff]
  constructor
  · rintro ⟨q, hq, hk, e⟩; exact ⟨q, hq, by rw [← h q hq]; exact hk, e⟩
  · rintro ⟨q, hq, hk, e⟩; exact ⟨q, hq, by rw [h q hq]; exact hk, e⟩
/-- How many cells of a row hold true. -/
noncomputable def trues (b M : Nat) (w : World) : Nat := ((List.range M).filter fun i => @decide (w.cell? ⟨b, i, none⟩ = some (.bool true)) (Classical.propDecidable _)).length
theorem trues_row {w : World} {B e b M c : Nat} {K : Nat → Bool} (h : w.ownsRow B e 1 (.slice (some ⟨b, 0, none⟩) M c) M (boolVals (rowB K M))) : trues b M w = ((List.range M).filter K).length := by
  unfold trues
  congr 1
  refine List.filter_congr fun i hi => ?_
  have hi2 := List.mem_range.1 hi
  rw [(h.cellAt i (by omega)).trans (rowB_get hi2)]
  rw [Bool.eq_iff_iff, @decide_eq_true_iff _ (Classical.propDecidable _)]
  simp
theorem filter_less {K L : Nat → Bool} {M : Nat} (h : ∀ i, L i = true → K i = true) {x : Nat} (hx : x < M) (hk : K x = true) (hl : L x = false) : ((List.range M).filter L).length < ((List.range M).filter K).length := by
  have h1 := nodup_le ((List.range M).filter L) (((List.range M).filter K).erase x) (List.nodup_range.sublist List.filter_sublist) (fun y hy => by
    obtain ⟨h2, h3⟩ := List.mem_filter.1 hy
    exact (List.mem_erase_of_ne (fun e => by rw [e, hl] at h3; cases h3)).2 (List.mem_filter.2 ⟨h2, h y h3⟩))
  have h2 : x ∈ (List.range M).filter K := List.mem_filter.2 ⟨List.mem_range.2 hx, hk⟩
  rw [List.length_erase_of_mem h2] at h1
  have := List.length_pos_of_mem h2
  omega
theorem filter_same {K L : Nat → Bool} {M : Nat} (h : ∀ i, i < M → K i = L i) : ((List.range M).filter L).length = ((List.range M).filter K).length := by
  congr 1
  exact List.filter_congr fun i hi => (h i (List.mem_range.1 hi)).symm
def KeptSPost (g : Nat → Nat) (M : Nat) (w : World) (e : Ending) (w' : World) : Prop :=
  ∃ v K, e = .returned v ∧ w'.ownsRow w.heap.size 4 1 v M (boolVals (rowB K M)) ∧ Below w.heap.size w w' ∧ (∀ i, i < M → AgainN g i → K i = true) ∧ ∀ i, i < M → K i = true → hitK g K M i = true
end Go.Proofs.YtpfeflhcbcgbfaaGreatDoor
