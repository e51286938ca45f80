/- A code that is one to one has no orphans on rings. No condition but a code that fits. -/
import Derived.Test.YtccknookhkahbaaGreatClosedR
import Derived.Test.YtccknookhkahbaaGreatPow
import Derived.Test.YtccknookhkahbaaGreatPerR
import Derived.Test.YtccknookhkahbaaGreatOrph
import Derived.Test.YtccknookhkahbaaGreatOneS
namespace Go.Proofs.YtccknookhkahbaaGreat
open Go.RowKit

theorem muOf_at {A B : List (List Int)} {n : Nat} (hA : A.length = n) {i j : Nat} (hi : i < n) (hj : j < n) : at2 (muOf A B n) i j = mulTo A B i j B.length := by
  unfold muOf
  rw [at2_row (r := (List.range n).map fun q => mulTo A B i q B.length) (by simp [hA, hi])]
  exact at0_get (by simp [hj])
theorem pow_walk (good : Nat → Bool) {S : Nat} (h1 : 1 ≤ S) (h8 : S ≤ 8) : ∀ t, t ≤ 8 → powO (tabF S S (mAt good S)) S t = some (tabF S S fun u v => wkN good S u t v)
  | 0, _ => by
    show some (unitTab S) = _
    congr 1
    unfold unitTab
    refine tabF_ext fun p q hp hq => ?_
    rw [wkN_zero good hp]
    unfold unitF
    by_cases h : p = q
    · rw [if_pos ⟨h, hp⟩, if_pos h]
    · rw [if_neg (fun e => h e.1), if_neg h]
  | t + 1, ht => by
    show (powO (tabF S S (mAt good S)) S t).bind _ = _
    rw [pow_walk good h1 h8 t (by omega)]
    have hA := tabF_rect S S fun u v => wkN good S u t v
    have hB := tabF_rect S S (mAt good S)
    have e : muOf (tabF S S fun u v => wkN good S u t v) (tabF S S (mAt good S)) S = tabF S S fun u v => wkN good S u (t + 1) v := by
      refine rect_ext (muOf_rect _ _ S hA.len) (tabF_rect S S _) fun i j hi hj => ?_
      rw [muOf_at hA.len hi hj, tabF_at _ hi hj, hB.len, wkN_step good (by omega)]
      exact sumTo_congr fun w hw => by rw [tabF_at _ hi hw, tabF_at _ hw hj]
    show mulO _ _ S = _
    unfold mulO
    rw [e, if_pos]
    refine isMat_mk (by omega) (tabF_rect S S _) fun i j hi hj => ?_
    rw [tabF_at _ hi hj]
    have h2 := wkN_bd good S i (t + 1) j
    have h3 : 2 ^ (t + 1) ≤ 2 ^ 8 := Nat.pow_le_pow_right (by omega) ht
    have h4 : 2 ^ 8 = 256 := by decide
    omega
theorem half_pow {n : Nat} (h1 : 1 ≤ n) (h4 : n ≤ 4) : 1 ≤ 2 ^ (n - 1) ∧ 2 ^ (n - 1) ≤ 8 ∧ 2 ^ n = 2 * 2 ^ (n - 1) := by
  obtain ⟨e, rfl⟩ : ∃ e, n = e + 1 := ⟨n - 1, by omega⟩
  have h3 : 2 ^ e ≤ 2 ^ 3 := Nat.pow_le_pow_right (by omega) (by omega)
  have h5 : 2 ^ 3 = 8 := by decide
  refine ⟨Nat.one_le_pow _ _ (by omega), by rw [show e + 1 - 1 = e by omega]; omega, by rw [show e + 1 - 1 = e by omega, Nat.pow_succ]; omega⟩
/-- The law's matrix. -/
def lawM (o : ByteArray) (n j : Nat) : List (List Int) := tabF (2 ^ (n - 1)) (2 ^ (n - 1)) (mTo (goodB o n) (2 ^ (n - 1)) j)
theorem lawM_end (o : ByteArray) {n : Nat} (h1 : 1 ≤ n) (h4 : n ≤ 4) : lawM o n (2 ^ n) = tabF (2 ^ (n - 1)) (2 ^ (n - 1)) (mAt (goodB o n) (2 ^ (n - 1))) := by
  unfold lawM
  rw [(half_pow h1 h4).2.2]
  exact tabF_ext fun p q hp hq => mTo_end _ hp q
theorem lawM_mat (o : ByteArray) {n j : Nat} (h1 : 1 ≤ n) (h4 : n ≤ 4) (hj : j ≤ 16) : isMat (lawM o n j) = true :=
  isMat_mk ⟨(half_pow h1 h4).1, by have := (half_pow h1 h4).2.1; omega⟩ (tabF_rect _ _ _) fun p q hp hq => by
    unfold lawM
    rw [tabF_at _ hp hq]
    have := mTo_bd (goodB o n) (2 ^ (n - 1)) j p q
    omega
theorem closed_law {o : ByteArray} {n m : Nat} (h : RFit o n m) : closedOf (lawM o n (2 ^ n)) (2 ^ (n - 1)) m = (cntS o n m : Int) := by
  rw [lawM_end o h.n1 h.n4]
  unfold closedOf
  rw [pow_walk _ (half_pow h.n1 h.n4).1 (half_pow h.n1 h.n4).2.1 m h.m8]
  show traceOf _ _ = _
  unfold traceOf
  rw [← closed_stays h]
  exact sumTo_congr fun u hu => by rw [tabF_at _ hu hu]
/-- A cell of a table of the call's own; what lies in rows of another type stays. -/
theorem grid_cell2 {T1 T0 : TypeId} {w : World} {base gv n m cv : Nat} {R : List (List Int)} (h : TGrid T1 T0 w base (.slice (some ⟨gv, 0, none⟩) n cv) R) (hT : T1 ≠ T0) (hR : Rect R n m) {i j : Nat} (hi : i < n) (hj : j < m) :
    ∃ g c, w.cell? ⟨gv, i, none⟩ = some (.slice (some ⟨g, 0, none⟩) m c) ∧ w.cell? ⟨g, j, none⟩ = some (.int .i64 (at2 R i j)) ∧ w.frozen? ⟨g, j, none⟩ = false ∧ base ≤ g ∧
      (∀ u, TGrid T1 T0 (w.setCell ⟨g, j, none⟩ (.int .i64 u)) base (.slice (some ⟨gv, 0, none⟩) n cv) (put2 R i j u) ∧ w.grownBy (w.setCell ⟨g, j, none⟩ (.int .i64 u)) (some g) ∧
        ∀ (e' : TypeId) (v' : Value) (n' : Nat) (ys : List Value), w.ownsRow base e' 1 v' n' ys → e' ≠ T0 → (w.setCell ⟨g, j, none⟩ (.int .i64 u)).ownsRow base e' 1 v' n' ys) := by
  obtain ⟨g, c, h1, h2, h3, h4, h5⟩ := grid_cell h hT hR hi hj
  refine ⟨g, c, h1, h2, h3, h4, fun u => ⟨(h5 u).1, (h5 u).2, fun e' v' n' ys ho hne => ?_⟩⟩
  obtain ⟨vs, hov, hrs⟩ := h
  rw [hR.len] at hov
  obtain ⟨r, hr, hl, he⟩ := hR.get hi
  obtain ⟨x, hx⟩ := get_some (l := vs) (n := i) (by rw [hov.1]; omega)
  have hrow := hrs.own i x r hx hr
  have hxe : x = .slice (some ⟨g, 0, none⟩) m c := Option.some.inj ((((hov.cellAt i (by omega)).trans hx).symm).trans (by rw [← h1]))
  subst hxe
  exact ho.kept (h5 u).2 (owns_ne ho hrow hne)
theorem lawM_rect (o : ByteArray) (n j : Nat) : Rect (lawM o n j) (2 ^ (n - 1)) (2 ^ (n - 1)) := tabF_rect _ _ _
theorem lawM_zero (o : ByteArray) (n : Nat) : lawM o n 0 = zeroTab (2 ^ (n - 1)) (2 ^ (n - 1)) := by
  rw [← tabF_zero]
  exact tabF_ext fun p q _ _ => rfl
theorem lawM_no {o : ByteArray} {n j : Nat} (h : goodB o n j = false) : lawM o n (j + 1) = lawM o n j := tabF_ext fun p q _ _ => mTo_no h p q
theorem lawM_yes {o : ByteArray} {n j : Nat} (h1 : 1 ≤ n) (h4 : n ≤ 4) (hj : j < 2 ^ n) (h : goodB o n j = true) : put2 (lawM o n j) (j / 2) (j % 2 ^ (n - 1)) (at2 (lawM o n j) (j / 2) (j % 2 ^ (n - 1)) + 1) = lawM o n (j + 1) := by
  have hp := half_pow h1 h4
  have hi : j / 2 < 2 ^ (n - 1) := by omega
  have hq : j % 2 ^ (n - 1) < 2 ^ (n - 1) := Nat.mod_lt _ (by omega)
  unfold lawM
  rw [tabF_at _ hi hq]
  refine tabF_put hi hq (by rw [mTo_yes h, if_pos ⟨rfl, rfl⟩]) fun p q _ _ hne => ?_
  rw [mTo_yes h, if_neg]
  rintro ⟨h1, h2⟩
  rcases hne with hne | hne
  · exact hne h1.symm
  · exact hne h2.symm
theorem good_byte {o : ByteArray} {n j : Nat} (h1 : 1 ≤ n) (hj : j < o.size) (hs : 0 < (wdB 2 n j).size) : goodB o n j = true ↔ o[j].toNat = (wdB 2 n j)[0].toNat := by
  unfold goodB
  rw [decide_eq_true_eq, giveB_at hj]
  have e : (wAt 2 n j).getD 0 0 = (wdB 2 n j)[0] := by
    rw [← wdB_list, List.getD_eq_getElem?_getD, byte_at (wdB 2 n j) 0 hs]; rfl
  rw [e]
  exact UInt8.toNat_inj.symm
theorem spec_WordsOf2_c (n : Nat) (w : World) (h1 : 1 ≤ n) (h4 : n ≤ 4) :
    Calls Tryz.prog 24 #[.int .i64 2, .int .i64 n] w (WordsPost 2 n w) := by
  have hin := inB_t (x := 2) (lo := 1) (hi := 3) (by omega)
  have HA := hid (show Calls Tryz.prog 49 #[.int .i64 2, .int .i64 n] w (WordsPost 2 n w) from spec_l2All_c 2 n w (by omega) (by omega))
  unfold WordsPost at HA ⊢
  go_enter Tryz.func24, Tryz.ntmps24
  go_wp2_with (go_at_call 35; refine (l1In_c _ _ _ _).mono ?_; rintro e w' ⟨rfl, rfl⟩)
  refine HA.out.mono ?_
  rintro e w1 ⟨v, rfl, ho, hb⟩
  go_wp2
  go_ret
  exact ⟨v, rfl, ho, hb⟩
end Go.Proofs.YtccknookhkahbaaGreat
namespace Go.Proofs.YtccknookhkahbaaGreat
open Go.RowKit

theorem filter_sub {K L : Nat → Bool} : ∀ {M : Nat}, (∀ i, i < M → K i = true → L i = true) → ((List.range M).filter K).length ≤ ((List.range M).filter L).length
  | 0, _ => by simp
  | M + 1, h => by
    have := filter_sub (M := M) fun i hi => h i (by omega)
    cases hk : K M
    · rw [cn_no hk]
      cases hl : L M
      · rw [cn_no hl]; exact this
      · rw [cn_yes hl]; omega
    · rw [cn_yes hk, cn_yes (h M (by omega) hk)]; omega
theorem filter_whole {K : Nat → Bool} : ∀ {M : Nat}, ((List.range M).filter K).length = M ↔ ∀ i, i < M → K i = true
  | 0 => by simp
  | M + 1 => by
    have ih := filter_whole (K := K) (M := M)
    have hle := kp_le K M
    cases hk : K M
    · rw [cn_no hk]
      exact ⟨fun h => by omega, fun h => by have := h M (by omega); rw [hk] at this; cases this⟩
    · rw [cn_yes hk]
      refine ⟨fun h i hi => ?_, fun h => ?_⟩
      · by_cases he : i = M
        · rw [he, hk]
        · exact ih.1 (by omega) i (by omega)
      · have := ih.2 fun i hi => h i (by omega)
        omega
noncomputable def keptN (o : ByteArray) (n m : Nat) : Nat := ((List.range (2 ^ m)).filter (per o n m)).length
theorem per_hits {o : ByteArray} {n m i : Nat} (h : RFit o n m) (hi : i < 2 ^ m) (hp : per o n m i = true) : hits o n m (2 ^ m) i = true := by
  obtain ⟨q, _, hq, a, ha⟩ := againN_pre ((againN_per h hi).2 hp)
  exact hits_iff.2 ⟨q, by rw [ha]; exact gIt_lt (next_lt h) hi a, hq⟩
theorem kept_orph {o : ByteArray} {n m : Nat} (h : RFit o n m) : keptN o n m + orph o n m ≤ 2 ^ m := by
  have h1 := filter_sub (K := per o n m) (L := hits o n m (2 ^ m)) fun i hi hp => per_hits h hi hp
  have h2 := filt_compl (hits o n m (2 ^ m)) (2 ^ m)
  unfold keptN orph
  omega
theorem orph_zero {o : ByteArray} {n m : Nat} (h : RFit o n m) : orph o n m = 0 ↔ keptN o n m = 2 ^ m := by
  have h2 := filt_compl (hits o n m (2 ^ m)) (2 ^ m)
  have h3 := kept_orph h
  constructor
  · intro h0
    refine filter_whole.2 fun i hi => (againN_per h hi).1 ?_
    have hall := filter_whole.1 (show ((List.range (2 ^ m)).filter (hits o n m (2 ^ m))).length = 2 ^ m by unfold orph at h0; omega)
    refine keep_again (K := fun _ => true) (next_lt h) (fun i hi _ => ?_) hi rfl
    obtain ⟨q, hq, he⟩ := hits_iff.1 (hall i hi)
    exact hitK_iff.2 ⟨q, hq, rfl, he⟩
  · intro h0
    omega
theorem per_one {o : ByteArray} {n m : Nat} (h : RFit o n m) (HT : Tails o n m) : 0 < cntS o n m ↔ (1 : Int) ∈ tps o n m (2 ^ m) := by
  unfold cntS tps
  constructor
  · intro hp
    obtain ⟨i, hi⟩ := List.exists_mem_of_length_pos hp
    obtain ⟨hi1, hs⟩ := List.mem_filter.1 hi
    have hi2 := List.mem_range.1 hi1
    rw [← stays_iff h hi2] at hs
    have hf : nextB o n m i = i := of_decide_eq_true hs
    obtain ⟨t, p, hT⟩ := HT i hi2
    have hfix : ∀ a, gIt (nextB o n m) i a = i := fun a => by
      induction a with
      | zero => rfl
      | succ a ih => show nextB o n m (gIt (nextB o n m) i a) = i; rw [ih, hf]
    have hP := tail_per h hi2 hT
    rw [hfix t] at hP
    have h1 : PerN (nextB o n m) i 1 := ⟨by omega, hfix 1, fun q h1 h2 => by omega⟩
    exact List.mem_map.2 ⟨i, hi1, by rw [tailP_eq hT, perN_unique hP h1]; rfl⟩
  · intro hm
    obtain ⟨i, hi, he⟩ := List.mem_map.1 hm
    have hi2 := List.mem_range.1 hi
    obtain ⟨t, p, hT⟩ := HT i hi2
    rw [tailP_eq hT] at he
    obtain rfl : p = 1 := by omega
    have hP := tail_per h hi2 hT
    have hx := gIt_lt (next_lt h) hi2 t
    refine List.length_pos_of_mem (List.mem_filter.2 ⟨List.mem_range.2 hx, ?_⟩)
    rw [← stays_iff h hx]
    exact decide_eq_true hP.2.1
end Go.Proofs.YtccknookhkahbaaGreat
namespace Go.Proofs.YtccknookhkahbaaGreat
open Go.RowKit

/-- q letters of a ring from a place on. -/
def winR (l : List UInt8) (q t : Nat) : List UInt8 := (List.range q).map fun s => l.getD ((t + s) % l.length) 0
theorem winR_len (l : List UInt8) (q t : Nat) : (winR l q t).length = q := by simp [winR]
theorem winR_get {l : List UInt8} {q t s : Nat} (h : s < q) : (winR l q t)[s]? = some (l.getD ((t + s) % l.length) 0) := by simp [winR, h]
theorem winR_per (l : List UInt8) (q t : Nat) : winR l q (t % l.length) = winR l q t := by
  unfold winR
  refine List.map_congr_left fun s _ => ?_
  rw [Nat.mod_add_mod]
theorem winR_mod (l : List UInt8) (q t : Nat) : winR l q (t + l.length) = winR l q t := by
  rw [← winR_per, Nat.add_mod_right, winR_per]
theorem winR_snoc (l : List UInt8) (q t : Nat) : winR l (q + 1) t = winR l q t ++ [l.getD ((t + q) % l.length) 0] := by simp [winR, List.range_succ]
theorem winR_cons (l : List UInt8) (q t : Nat) : winR l (q + 1) t = l.getD (t % l.length) 0 :: winR l q (t + 1) := by
  unfold winR
  rw [List.range_succ_eq_map, List.map_cons, List.map_map]
  rw [Nat.add_zero]
  congr 1
  refine List.map_congr_left fun s _ => ?_
  show l.getD ((t + (s + 1)) % l.length) 0 = _
  rw [show t + (s + 1) = t + 1 + s by omega]
theorem winR_lets {l : List UInt8} (h : lets (2 : Nat) l = true) (hl : 0 < l.length) (q t : Nat) : lets (2 : Nat) (winR l q t) = true := by
  refine List.all_eq_true.2 fun x hx => ?_
  unfold winR at hx
  obtain ⟨s, _, rfl⟩ := List.mem_map.1 hx
  have hm : (t + s) % l.length < l.length := Nat.mod_lt _ hl
  rw [List.getD_eq_getElem?_getD, List.getElem?_eq_getElem hm]
  exact List.all_eq_true.1 h _ (List.getElem_mem hm)
theorem winR_cyc {l : List UInt8} {n t : Nat} (hn : 1 ≤ n) (ht : t < l.length) : ((cyc l (l.length + n - 1)).drop t).take n = winR l n t := by
  refine List.ext_getElem? fun s => ?_
  by_cases hs : s < n
  · rw [List.getElem?_take, if_pos hs, List.getElem?_drop, cyc_get (by omega), winR_get hs]
  · rw [List.getElem?_eq_none (by rw [List.length_take]; omega), List.getElem?_eq_none (by rw [winR_len]; omega)]
/-- What a ring's image has at a place. -/
theorem ring_at {o : ByteArray} {n : Nat} {l : List UInt8} (hn : 1 ≤ n) {t : Nat} (ht : t < l.length) : (ringB o 2 n l)[t]? = some (giveB o (idxOf 2 (winR l n t))) := by
  unfold ringB madeB
  rw [List.getElem?_map, List.getElem?_range ht]
  show some (apB o 2 n _ t) = _
  unfold apB
  rw [winR_cyc hn ht]
theorem ring_same {o : ByteArray} {n : Nat} {a b : List UInt8} (hn : 1 ≤ n) (hab : a.length = b.length) (ha : 0 < a.length) (h : ringB o 2 n a = ringB o 2 n b) (t : Nat) : giveB o (idxOf 2 (winR a n t)) = giveB o (idxOf 2 (winR b n t)) := by
  have hm : t % a.length < a.length := Nat.mod_lt _ ha
  have h1 := ring_at (o := o) hn hm
  have h2 := ring_at (o := o) (l := b) (t := t % b.length) hn (by rw [← hab]; exact hm)
  rw [winR_per] at h1 h2
  rw [h, hab, h2] at h1
  exact (Option.some.inj h1).symm
theorem powN_two : ∀ e, e ≤ 4 → powN 2 e = 2 ^ e := by decide
theorem letB_lt {c : UInt8} {l : List UInt8} (h : lets (2 : Nat) l = true) (hc : c ∈ l) : c.toNat - 97 < 2 ∧ 97 ≤ c.toNat := by
  have := List.all_eq_true.1 h c hc
  rw [inB_iff] at this
  omega
theorem ring_inj {o : ByteArray} {n m : Nat} (h : RFit o n m) (hO : OneP o 2 n) {a b : List UInt8} (ha : a.length = m) (hb : b.length = m) (hla : lets (2 : Nat) a = true) (hlb : lets (2 : Nat) b = true) (hab : ringB o 2 n a = ringB o 2 n b) : a = b := by
  have hm1 := h.m1
  have hn1 := h.n1
  have hg := ring_same hn1 (by rw [ha, hb]) (by omega) hab
  have hwa := fun q t => winR_lets hla (by omega) q t
  have hwb := fun q t => winR_lets hlb (by omega) q t
  have key : ∀ t, t < m → a.getD (t % m) 0 = b.getD (t % m) 0 := by
    unfold OneP at hO
    by_cases hn : n = 1
    · subst hn
      rw [if_pos rfl] at hO
      intro t ht
      have h1 := hg t
      have e : ∀ l : List UInt8, winR l 1 t = [l.getD (t % l.length) 0] := fun l => by simp [winR]
      have hia := idx_bd (hwa 1 t) (by omega)
      have hib := idx_bd (hwb 1 t) (by omega)
      rw [winR_len] at hia hib
      have heq : idxOf 2 (winR a 1 t) = idxOf 2 (winR b 1 t) := by
        have hos := h.os
        rcases Nat.lt_trichotomy (idxOf 2 (winR a 1 t)) (idxOf 2 (winR b 1 t)) with hlt | heq | hlt
        · exact absurd h1.symm (hO _ _ hlt (by omega))
        · exact heq
        · exact absurd h1 (hO _ _ hlt (by omega))
      have := idx_inj (k := 2) (n := 1) (by omega) (winR_len a 1 t) (winR_len b 1 t) (hwa 1 t) (hwb 1 t) heq
      rw [e a, e b, ha, hb] at this
      simpa using this
    · rw [if_neg hn] at hO
      obtain ⟨e, rfl⟩ : ∃ e, n = e + 1 := ⟨n - 1, by omega⟩
      rw [show e + 1 - 1 = e by omega, powN_two e (by have := h.n4; omega)] at hO
      obtain ⟨S, hS⟩ : ∃ S, S = 2 ^ e := ⟨_, rfl⟩
      rw [← hS] at hO
      have hS1 : 0 < S := by rw [hS]; exact Nat.pow_pos (by omega)
      have hU : ∀ t, idxOf 2 (winR a e t) < S := fun t => by
        have := idx_bd (hwa e t) (by omega)
        rwa [winR_len, ← hS] at this
      have hV : ∀ t, idxOf 2 (winR b e t) < S := fun t => by
        have := idx_bd (hwb e t) (by omega)
        rwa [winR_len, ← hS] at this
      have hP : ∀ t, idxOf 2 (winR a e t) * S + idxOf 2 (winR b e t) < S * S := fun t => idx_bound rfl (hU t) (hV t)
      have hd : ∀ t, (idxOf 2 (winR a e t) * S + idxOf 2 (winR b e t)) / S = idxOf 2 (winR a e t) ∧ (idxOf 2 (winR a e t) * S + idxOf 2 (winR b e t)) % S = idxOf 2 (winR b e t) := fun t =>
        ⟨by rw [Nat.add_comm, Nat.add_mul_div_right _ _ hS1, Nat.div_eq_of_lt (hV t), Nat.zero_add], by rw [Nat.add_comm, Nat.add_mul_mod_self_right, Nat.mod_eq_of_lt (hV t)]⟩
      have hstep : ∀ (l : List UInt8), lets (2 : Nat) l = true → 0 < l.length → ∀ t, ∃ x, x < 2 ∧ idxOf 2 (winR l (e + 1) t) = idxOf 2 (winR l e t) * 2 + x ∧ (idxOf 2 (winR l e t) * 2 + x) % S = idxOf 2 (winR l e (t + 1)) := fun l hl hl0 t => by
        have hc : (l.getD ((t + e) % l.length) 0) ∈ l := by
          have hmm : (t + e) % l.length < l.length := Nat.mod_lt _ hl0
          rw [List.getD_eq_getElem?_getD, List.getElem?_eq_getElem hmm]
          exact List.getElem_mem hmm
        refine ⟨(l.getD ((t + e) % l.length) 0).toNat - 97, (letB_lt hl hc).1, by rw [winR_snoc, idxOf_snoc], ?_⟩
        rw [← idxOf_snoc, ← winR_snoc, winR_cons]
        have h1 := idxOf_append 2 [l.getD (t % l.length) 0] (winR l e (t + 1))
        rw [winR_len, ← hS] at h1
        show idxOf 2 ([l.getD (t % l.length) 0] ++ winR l e (t + 1)) % S = _
        rw [h1, Nat.add_comm, Nat.add_mul_mod_self_right, Nat.mod_eq_of_lt]
        have := idx_bd (winR_lets hl hl0 e (t + 1)) (by omega)
        rwa [winR_len, ← hS] at this
      have hedge : ∀ t, edg (stepRows o 2 S (S * S)) (idxOf 2 (winR a e t) * S + idxOf 2 (winR b e t)) (idxOf 2 (winR a e (t + 1)) * S + idxOf 2 (winR b e (t + 1))) := fun t => by
        rw [edg_step (hP t), (hd t).1, (hd t).2]
        obtain ⟨x, hx, ex, mx⟩ := hstep a hla (by omega) t
        obtain ⟨y, hy, ey, my⟩ := hstep b hlb (by omega) t
        refine ⟨x, y, hx, hy, by rw [← ex, ← ey]; exact hg t, ?_⟩
        unfold stepE
        rw [mx, my]
      have hlive : ∀ t, LiveG (stepRows o 2 S (S * S)) (S * S) (idxOf 2 (winR a e t) * S + idxOf 2 (winR b e t)) := fun t =>
        ⟨fun p => ∃ s, p = idxOf 2 (winR a e s) * S + idxOf 2 (winR b e s), ⟨t, rfl⟩, fun q ⟨s, hs⟩ => by
          subst hs
          refine ⟨hP s, ⟨_, hedge s, s + 1, rfl⟩, ⟨_, ?_, s + m - 1, rfl⟩⟩
          have h1 := hedge (s + m - 1)
          rw [show s + m - 1 + 1 = s + m by omega] at h1
          have h2 := winR_mod a e s
          have h3 := winR_mod b e s
          rw [ha] at h2
          rw [hb] at h3
          rwa [h2, h3] at h1⟩
      have hUV : ∀ t, idxOf 2 (winR a e t) = idxOf 2 (winR b e t) := fun t => by
        have := hO _ (hP t) (hlive t)
        rwa [(hd t).1, (hd t).2] at this
      intro t ht
      have hw := idx_inj (k := 2) (n := e) (by omega) (winR_len a e t) (winR_len b e t) (hwa e t) (hwb e t) (hUV t)
      have h0 := congrArg (fun l : List UInt8 => l[0]?) hw
      have g1 := winR_get (l := a) (q := e) (t := t) (s := 0) (by omega)
      have g2 := winR_get (l := b) (q := e) (t := t) (s := 0) (by omega)
      have h0' : (winR a e t)[0]? = (winR b e t)[0]? := h0
      rw [g1, g2, ha, hb] at h0'
      simpa using h0'
  refine List.ext_getElem? fun t => ?_
  by_cases ht : t < m
  · have := key t ht
    rw [Nat.mod_eq_of_lt ht, List.getD_eq_getElem?_getD, List.getD_eq_getElem?_getD, List.getElem?_eq_getElem (by omega), List.getElem?_eq_getElem (by omega)] at this
    rw [List.getElem?_eq_getElem (by omega), List.getElem?_eq_getElem (by omega)]
    simpa using this
  · rw [List.getElem?_eq_none (by omega), List.getElem?_eq_none (by omega)]
theorem one_orph {o : ByteArray} {n m : Nat} (h : RFit o n m) (hO : OneP o 2 n) : orph o n m = 0 := by
  have hinj : ∀ i j, i < 2 ^ m → j < 2 ^ m → nextB o n m i = nextB o n m j → i = j := fun i j hi hj e => by
    have h1 : rnB o n m i = rnB o n m j := idx_inj (k := 2) (n := m) (by omega) (rn_facts h i).1 (rn_facts h j).1 (rn_facts h i).2 (rn_facts h j).2 e
    have h2 := ring_inj h hO (wAt_len 2 m i) (wAt_len 2 m j) (wAt_lets (by omega) m i) (wAt_lets (by omega) m j) h1
    have := congrArg (idxOf 2) h2
    rwa [idx_wAt (by omega) m i hi, idx_wAt (by omega) m j hj] at this
  have hall : ∀ i, i < 2 ^ m → hits o n m (2 ^ m) i = true := fun i hi => by
    refine Classical.byContradiction fun hne => ?_
    have hno : ∀ q, q < 2 ^ m → nextB o n m q ≠ i := fun q hq e => hne (hits_iff.2 ⟨q, hq, e⟩)
    have hd : ((List.range (2 ^ m)).map (nextB o n m)).Nodup := by
      rw [List.nodup_iff_pairwise_ne, List.pairwise_map]
      refine List.Pairwise.imp_of_mem (R := (· < ·)) (fun {a b} ha hb hab e => ?_) List.pairwise_lt_range
      have := hinj a b (List.mem_range.1 ha) (List.mem_range.1 hb) e
      omega
    have h1 := nodup_le _ ((List.range (2 ^ m)).erase i) hd fun x hx => by
      obtain ⟨q, hq, rfl⟩ := List.mem_map.1 hx
      exact (List.mem_erase_of_ne (hno q (List.mem_range.1 hq))).2 (List.mem_range.2 (next_lt h q))
    rw [List.length_map, List.length_range, List.length_erase_of_mem (List.mem_range.2 hi), List.length_range] at h1
    have : 0 < 2 ^ m := Nat.pow_pos (by omega)
    omega
  have h2 := filt_compl (hits o n m (2 ^ m)) (2 ^ m)
  have h3 := filter_whole.2 hall
  unfold orph
  omega
end Go.Proofs.YtccknookhkahbaaGreat
