/- Words that a function keeps, and the rings that stay: both functions. Conditions: none but the sizes. -/
import Derived.Test.YtccknookhkahbaaGreatAfter
import Derived.Test.YtccknookhkahbaaGreatGrid
import Derived.Test.YtccknookhkahbaaGreatNumber
import Derived.Deep.AppendLies
namespace Go.Proofs.YtccknookhkahbaaGreat
open Go.RowKit

/-- A value appended; the row's block stays another than bb. -/
theorem wpList_app3 {P : Program} {wr : World} {ops : Array Oper} {rest : List Oper} {o : Oper} {a : Act} {Q : Exit → Act → World → Prop}
    (hg : o.guard = none) (s x : Operand) (t : TypeId) (hop : o.op = Op.call { callee := Callee.builtin Builtin.append, args := #[s, x], argTypes := #[t, t] })
    (B : Nat) (e : TypeId) (z : Value) (bytes : Nat) (h1 : P.underlying t = some (.slice e)) (hinfo : (P.info? e).map (fun i => (i.zero, i.size, i.bytes)) = some (some z, 1, bytes)) (hzs : z.cells.size = 1)
    (v : Value) (m : Nat) (xs : List Value) (u : Value) (hown : wr.ownsRow B e 1 v m xs) (hs : a.eval s = v) (hx : a.eval x = .slice (some ⟨wr.heap.size, 0, none⟩) 1 1)
    (hu : u.oneCell' = true) (hlim : (m + 1) * bytes ≤ 140737488355328) (hlim2 : m + 1 ≤ maxLen) (hB : B ≤ wr.heap.size) (bb : Nat) (hne : v.ownBlock ≠ some bb) (hbb : bb < wr.heap.size)
    (hK : ∀ v' w1, w1.ownsRow B e 1 v' (m + 1) (xs ++ [u]) → wr.grownBy w1 v.ownBlock → v'.ownBlock ≠ some bb → wpList P ops Q rest (a.put o.dst v') w1) :
    wpList P ops Q (o :: rest) a (wr.alloc (.cells #[u] e)) := by
  obtain ⟨i, hi, hz, hz1, hz2⟩ := info_parts hinfo
  refine wpList_append_lies _ hg s x t hop B e i z 1 bytes h1 hi hz hz1 hz2 hzs (by decide) v m xs hs (hown.alloc _) ⟨wr.heap.size, 0, none⟩ 1 1 [u] hx rfl ?_ ?_ (by decide) hlim2 hlim (by simp; omega) (wr.heap.size + 1) (by simp) ?_
  · intro j y hj
    match j, hj with
    | 0, hj => simp at hj; subst hj; simp [Addr.add]
  · intro y hy; simp at hy; subst hy; exact hu
  · intro g cap w1 hown' hgrow hor _
    refine hK _ w1 hown' (grown_trans (World.grownBy_alloc _ _ _) hgrow) ?_
    rcases hor with h | h
    · intro e
      apply hne
      rw [h]
      simpa [Value.ownBlock] using e
    · intro e
      have : g = bb := by simpa [Value.ownBlock] using e
      omega

/-- A value that keeps words: called with the word number i it returns p i. -/
def Keeps (F : FuncId) (cap : Value) (k n : Nat) (p : Nat → Bool) (W : World) : Prop :=
  ∀ i w, i < k ^ n → Below W.heap.size W w → Calls Tryz.prog F #[.string (wdB k n i), cap] w fun e w' => e = .returned (.bool (p i)) ∧ Below w.heap.size w w'
/-- The words kept among the first j. -/
def kp (p : Nat → Bool) (k n j : Nat) : List ByteArray := ((List.range j).filter p).map (wdB k n)
theorem kp_len (p : Nat → Bool) (k n j : Nat) : (kp p k n j).length = ((List.range j).filter p).length := by simp [kp]
theorem kp_le (p : Nat → Bool) (j : Nat) : ((List.range j).filter p).length ≤ j := by have := List.length_filter_le p (List.range j); rwa [List.length_range] at this
theorem kp_yes {p : Nat → Bool} {k n j : Nat} (h : p j = true) : strVals (kp p k n (j + 1)) = strVals (kp p k n j) ++ [.string (wdB k n j)] := by simp [kp, strVals, List.range_succ, List.filter_append, h]
theorem kp_no {p : Nat → Bool} {k n j : Nat} (h : p j = false) : kp p k n (j + 1) = kp p k n j := by simp [kp, List.range_succ, List.filter_append, h]
theorem cn_yes {p : Nat → Bool} {j : Nat} (h : p j = true) : ((List.range (j + 1)).filter p).length = ((List.range j).filter p).length + 1 := by simp [List.range_succ, List.filter_append, h]
theorem cn_no {p : Nat → Bool} {j : Nat} (h : p j = false) : ((List.range (j + 1)).filter p).length = ((List.range j).filter p).length := by simp [List.range_succ, List.filter_append, h]
def KeptPost (p : Nat → Bool) (k n : Nat) (w : World) (e : Ending) (w' : World) : Prop := ∃ v, e = .returned v ∧ w'.ownsRow w.heap.size 9 1 v ((List.range (k ^ n)).filter p).length (strVals (kp p k n (k ^ n))) ∧ Below w.heap.size w w'
set_option maxHeartbeats 2000000 in
set_option maxRecDepth 100000 in
theorem filtered_c (k n : Nat) (F : FuncId) (cap : Value) (p : Nat → Bool) (w : World) (hk : 1 ≤ k ∧ k ≤ 3) (hn : n ≤ 8) (hF : Keeps F cap k n p w) (hE : ∀ x w, (callFunc F #[x, cap]).run Tryz.prog w = .ok (.enter F #[x, cap]) w) :
    Calls Tryz.prog 47 #[.int .i64 k, .int .i64 n, .func (.func F) #[] #[cap]] w (KeptPost p k n w) := by
  have hps := pow_small hk.2 hn
  have HWO := hid (fun w : World => impl_wordsOf_c k n w hk hn)
  obtain ⟨m, hm⟩ : ∃ m, m = k ^ n := ⟨_, rfl⟩
  have HF := hid hF
  unfold Keeps at HF
  unfold WordsPost at HWO
  unfold KeptPost
  rw [← hm] at HWO HF hps
  rw [← hm]
  have hm1 : 1 ≤ m := by rw [hm]; exact Nat.one_le_pow _ _ (by omega)
  clear hF hm hk
  go_enter Tryz.func47, Tryz.ntmps47
  go_wp2_with fail
  refine (HWO.out _).mono ?_
  rintro e w1 ⟨v, rfl, hown, hb1⟩
  have hown2 := owns_base (base' := w.heap.size) hown (by simp)
  obtain ⟨g5, c5, rfl, hg5, hlt5⟩ := hown2.form (by omega)
  have hg6 : w.heap.size + 1 ≤ g5 := by
    obtain ⟨g7, c7, he7, hg7, _⟩ := hown.form (by omega)
    simp at he7 hg7
    omega
  have HW2 := hid hown2
  have hbelB : Below w.heap.size w w1 := ((Below.refl _ _).alloc (Nat.le_refl _) _).trans (hb1.mono (by simp))
  have hown8 : w1.ownsRow w.heap.size 9 1 (.slice (some ⟨w.heap.size, 0, none⟩) 0 0) 0 (strVals (kp p k n 0)) := owns_below (show (w.alloc (.cells #[] 9)).ownsRow w.heap.size 9 1 (.slice (some ⟨w.heap.size, 0, none⟩) 0 0) 0 (strVals (kp p k n 0)) from owns_lit3 #[] _ rfl (Nat.le_refl _) (by unfold maxLen; simp)) hb1
  clear hown hown2
  go_wp2
  go_loopw [7, 15] (fun v i wr => ∃ j : Nat, j ≤ m ∧ i = .int .i64 j ∧ wr.ownsRow w.heap.size 9 1 v ((List.range j).filter p).length (strVals (kp p k n j)) ∧ v.ownBlock ≠ some g5 ∧ wr.ownsRow w.heap.size 9 1 (.slice (some ⟨g5, 0, none⟩) m c5) m (strVals (wds k n m)) ∧ Below w.heap.size w wr) (fun _ i _ => m - (intOf i).toNat)
  case atStart => exact ⟨0, by omega, rfl, hown8, by simp [Value.ownBlock]; omega, HW2.out, hbelB⟩
  case round =>
    obtain ⟨j, hj, rfl, hown, hne, hwords, hbel⟩ := hrel
    have hcnt := kp_le p j
    by_cases hlt : j < m
    · obtain ⟨a6, c6, he6, hr6⟩ := owns_rowAt hwords (by omega)
      simp only [Value.slice.injEq, true_and] at he6
      obtain ⟨rfl, rfl⟩ := he6
      obtain ⟨b5, o5, he5, hb5, hcl5⟩ := hr6.at_ (by omega)
      simp only [Option.some.injEq, Addr.mk.injEq, and_true] at he5
      obtain ⟨rfl, rfl⟩ := he5
      have hcell := hcl5 j _ (strVals_get (wds_get hlt))
      rw [Nat.zero_add] at hcell
      have HO := hid hown
      have HWD := hid hwords
      have HFj := hid (HF.out j wr hlt hbel)
      clear hr6 hcl5 hown hwords
      obtain ⟨c, hc⟩ : ∃ c, c = ((List.range j).filter p).length := ⟨_, rfl⟩
      have HC := hid hc
      rw [← hc] at HO hcnt
      clear hc
      cases hpj : p j
      · rw [hpj] at HFj
        have HPJ := hid hpj
        clear hpj
        go_wp2_with fail
        refine HFj.out.mono ?_
        rintro e w2 ⟨rfl, hb2⟩
        have hown2 := owns_below HO.out hb2
        have hw2 := owns_below HWD.out hb2
        have hbel2 := hbel.trans (hb2.mono hbel.size)
        go_wp2
        go_roundw
        case rel => exact ⟨j + 1, by omega, by go_num, by rw [kp_no HPJ.out, cn_no HPJ.out, ← HC.out]; exact hown2, hne, hw2, hbel2⟩
        case measure => simp [intOf]; omega
      · rw [hpj] at HFj
        have HPJ := hid hpj
        clear hpj
        go_wp2_with fail
        refine HFj.out.mono ?_
        rintro e w2 ⟨rfl, hb2⟩
        have hown2 := owns_below HO.out hb2
        have hw2 := owns_below HWD.out hb2
        have hbel2 := hbel.trans (hb2.mono hbel.size)
        have hb52 := Nat.lt_of_lt_of_le hb5 hb2.size
        go_wp2_with (first | (at_builtin; go_must (refine wpList_app3 rfl _ _ 44 rfl w.heap.size 9 (.string ByteArray.empty) 16 Tryz.underlying44 infoStr3 rfl _ c (strVals (kp p k n j)) _ hown2 rfl rfl rfl (by omega) (by unfold maxLen; omega) hbel2.size g5 hne hb52 ?_); intro v' w3 hown3 hgr3 hne3))
        go_roundw
        case rel => exact ⟨j + 1, by omega, by go_num, by rw [kp_yes HPJ.out, cn_yes HPJ.out, ← HC.out]; exact hown3, hne3, hw2.kept hgr3 (Or.inr fun e => hne (by rw [← e]; rfl)), hbel2.grown hgr3 hbel2.size (fun k hk => (hown2.lt k hk).1)⟩
        case measure => simp [intOf]; omega
    · obtain rfl : j = m := by omega
      clear hwords
      go_wp2
      go_ret
      exact ⟨_, rfl, hown, hbel⟩
/-- What a code makes of the ring number i. -/
def rnB (o : ByteArray) (n m i : Nat) : List UInt8 := ringB o 2 n (wAt 2 m i)
def nextB (o : ByteArray) (n m i : Nat) : Nat := idxOf 2 (rnB o n m i)
def stays (o : ByteArray) (n m i : Nat) : Bool := decide (txt (rnB o n m i) = wdB 2 m i)
/-- Rings of m letters of a code of two letters. -/
structure RFit (o : ByteArray) (n m : Nat) : Prop where
  n1 : 1 ≤ n
  n4 : n ≤ 4
  os : o.size = 2 ^ n
  lo : lets (2 : Nat) o.data.toList = true
  m1 : 1 ≤ m
  m8 : m ≤ 8
  ic : isCode 2 n o = true
theorem idx_wAt {k : Nat} (hk : 1 ≤ k ∧ k ≤ 3) : ∀ n i, i < k ^ n → idxOf k (wAt k n i) = i
  | 0, i, h => by simp at h; subst h; rfl
  | n + 1, i, h => by
    have h1 : i / k < k ^ n := Nat.div_lt_of_lt_mul (by rw [Nat.pow_succ, Nat.mul_comm] at h; exact h)
    have h2 : i % k < k := Nat.mod_lt _ (by omega)
    have h3 : ((letB (i % k)).toNat : Int) = 97 + ((i % k : Nat) : Int) := letB_nat (by omega)
    have h4 := Nat.div_add_mod i k
    show idxOf k (wAt k n (i / k) ++ [letB (i % k)]) = i
    rw [idxOf_snoc, idx_wAt hk n _ h1, Nat.mul_comm]
    omega
theorem rn_facts {o : ByteArray} {n m : Nat} (h : RFit o n m) (i : Nat) : (rnB o n m i).length = m ∧ lets (2 : Nat) (rnB o n m i) = true := by
  have hl := wAt_lets (k := 2) (by omega) m i
  have h1 := wAt_len 2 m i
  have hm := h.m1
  exact ⟨(ringB_len ..).trans h1, ringB_lets (by omega) h.n1 h.lo (Nat.le_of_eq h.os.symm) hl (by omega)⟩
theorem next_lt {o : ByteArray} {n m : Nat} (h : RFit o n m) (i : Nat) : nextB o n m i < 2 ^ m := by
  have := idx_bd (rn_facts h i).2 (by omega)
  rwa [(rn_facts h i).1] at this
theorem stays_iff {o : ByteArray} {n m i : Nat} (h : RFit o n m) (hi : i < 2 ^ m) : decide (nextB o n m i = i) = stays o n m i := by
  unfold stays
  rw [decide_eq_decide]
  constructor
  · intro e
    have : rnB o n m i = wAt 2 m i := idx_inj (k := 2) (n := m) (by omega) (rn_facts h i).1 (wAt_len 2 m i) (rn_facts h i).2 (wAt_lets (k := 2) (by omega) m i) (by rw [idx_wAt (by omega) m i hi]; exact e)
    rw [this]; rfl
  · intro e
    have : rnB o n m i = wAt 2 m i := by rw [← txt_list (rnB o n m i), e]; rfl
    unfold nextB
    rw [this, idx_wAt (by omega) m i hi]
theorem ring_ok_wd {o : ByteArray} {n m : Nat} (h : RFit o n m) (i : Nat) : ringOk (2 : Nat) n o (wdB 2 m i) = true := by
  have hl := wAt_lets (k := 2) (by omega) m i
  unfold ringOk
  rw [wdB_size, wdB_list, hl, show isCode ((2 : Nat) : Int) n o = true from h.ic]
  have h1 := h.m1
  have h2 := h.m8
  simp
  omega
def nexts (o : ByteArray) (n m j : Nat) : List Int := (List.range j).map fun i => (nextB o n m i : Int)
theorem nexts_succ (o : ByteArray) (n m j : Nat) : intVals (nexts o n m (j + 1)) = intVals (nexts o n m j) ++ [.int .i64 (nextB o n m j : Int)] := by simp [nexts, intVals, List.range_succ]
theorem nexts_get {o : ByteArray} {n m j i : Nat} (h : i < j) : (nexts o n m j)[i]? = some (nextB o n m i : Int) := by simp [nexts, h]
theorem impl_ring_wd {o : ByteArray} {n m : Nat} (h : RFit o n m) (i : Nat) (w : World) :
    Calls Tryz.prog 34 #[.agg #[.int .i64 (2 : Nat), .int .i64 n, .string o], .string (wdB 2 m i)] w fun e w' => e = .returned (.string (txt (rnB o n m i))) ∧ Below w.heap.size w w' := by
  have h1 := h.m1
  have h2 := h.m8
  exact impl_ring_c 2 n o (wdB 2 m i) w (by omega) h.n1 h.n4 (Nat.le_of_eq h.os.symm) (wAt_lets (k := 2) (by omega) m i) (by rw [wdB_size]; omega) (by rw [wdB_size]; omega)
theorem spec_ring_wd {o : ByteArray} {n m : Nat} (h : RFit o n m) (i : Nat) (w : World) (ho : o.size ≤ maxLen) :
    Calls Tryz.prog 30 #[.agg #[.int .i64 (2 : Nat), .int .i64 n, .string o], .string (wdB 2 m i)] w fun e w' => e = .returned (.tuple #[.string (txt (rnB o n m i)), .bool true]) ∧ Below w.heap.size w w' :=
  spec_ApplyRing_yes 2 n o (wdB 2 m i) w ho (ring_ok_wd h i)
set_option maxHeartbeats 1000000 in
theorem l13Number_c (k : Nat) (s : ByteArray) (w : World) (hk : k ≤ 3) (hl : lets k s.data.toList = true) (hs : s.size ≤ 16) :
    Calls Tryz.prog 73 #[.int .i64 k, .string s] w fun e w' => e = .returned (.int .i64 (idxOf k s.data.toList : Int)) ∧ w = w' := by
  have HL := hid hl
  clear hl
  go_enter Tryz.func73, Tryz.ntmps73
  go_wp2
  go_loop [5, 6] (fun o i => ∃ j q : Nat, j ≤ s.size ∧ i = .int .i64 j ∧ o = .int .i64 q ∧ Hid (q = idxOf k (s.data.toList.take j))) (fun _ i => s.size - (intOf i).toNat)
  case atStart => exact ⟨0, 0, by omega, rfl, rfl, by show _ = _; simp [idxOf]⟩
  case round =>
    obtain ⟨j, q, hj, rfl, rfl, HQ⟩ := hrel
    by_cases hlt : j < s.size
    · have hji : (j : Int) < (s.size : Int) := by omega
      have hlet := List.all_eq_true.1 HL.out _ (List.mem_of_getElem? (byte_at s j hlt))
      rw [inB_iff] at hlet
      obtain ⟨t, ht⟩ : ∃ t : Nat, s[j].toNat = 97 + t := ⟨s[j].toNat - 97, by omega⟩
      have ht3 : t < 3 := by omega
      have hq1 : q < k ^ j := by rw [HQ.out]; exact idxOf_lt HL.out hk j (by rw [size_list]; omega)
      have hq2 : k ^ j ≤ 3 ^ 16 := Nat.le_trans (Nat.pow_le_pow_left hk j) (Nat.pow_le_pow_right (by omega) (by omega))
      have hq3 : q ≤ 43046721 := by have : (3 : Nat) ^ 16 = 43046721 := by decide
                                    omega
      have hqk : q * k ≤ 43046721 * 3 := Nat.mul_le_mul hq3 hk
      obtain ⟨m, hm⟩ : ∃ m, m = q * k := ⟨_, rfl⟩
      have hmi : (q : Int) * (k : Int) = (m : Int) := by rw [hm]; simp
      rw [← hm] at hqk
      have HST := hid (show idxOf k (s.data.toList.take (j + 1)) = m + t by rw [idxOf_take (byte_at s j hlt), ← HQ.out, ht, hm]; omega)
      clear hq1 hq2 hlet hm
      go_wp2
      go_round
      case rel => exact ⟨j + 1, m + t, by omega, by go_num, by go_num, by show _ = _; rw [HST.out]⟩
      case measure => simp [intOf]; omega
    · have HT := hid (show s.data.toList.take j = s.data.toList from List.take_of_length_le (by rw [size_list]; omega))
      go_wp2
      go_ret
      exact ⟨ret_int (by rw [HQ.out, HT.out]), rfl⟩
set_option maxHeartbeats 2000000 in
theorem fixed1_c (n m i b : Nat) (o : ByteArray) (W w : World) (h : RFit o n m) (hb : b < W.heap.size) (hw : Below W.heap.size W w)
    (hc0 : W.cell? ⟨b, 0, none⟩ = some (.int .i64 (2 : Nat))) (hc1 : W.cell? ⟨b, 1, none⟩ = some (.int .i64 n)) (hc2 : W.cell? ⟨b, 2, none⟩ = some (.string o)) :
    Calls Tryz.prog 48 #[.string (wdB 2 m i), .pointer (some ⟨b, 0, none⟩)] w fun e w' => e = .returned (.bool (stays o n m i)) ∧ Below w.heap.size w w' := by
  have hb' := Nat.lt_of_lt_of_le hb hw.size
  have hc0 := (hw.cell (p := ⟨b, 0, none⟩) hb).trans hc0
  have hc1 := (hw.cell (p := ⟨b, 1, none⟩) hb).trans hc1
  have hc2 := (hw.cell (p := ⟨b, 2, none⟩) hb).trans hc2
  have HR := hid (fun w => impl_ring_wd h i w)
  obtain ⟨y, hy⟩ : ∃ y, y = txt (rnB o n m i) := ⟨_, rfl⟩
  obtain ⟨s, hs⟩ : ∃ s, s = wdB 2 m i := ⟨_, rfl⟩
  obtain ⟨q, hq⟩ : ∃ q, q = stays o n m i := ⟨_, rfl⟩
  have heq : (y.toList == s.toList) = q := by rw [str_eqb, hq, hy, hs]; rfl
  obtain ⟨k2, hk2⟩ : ∃ k2 : Int, k2 = ((2 : Nat) : Int) := ⟨_, rfl⟩
  rw [← hk2, ← hy, ← hs] at HR
  rw [← hk2] at hc0
  rw [← hs, ← hq]
  clear hy hs hq h hw hb hk2
  go_enter Tryz.func48, Tryz.ntmps48
  go_wp2_with fail
  refine (HR.out _).mono ?_
  rintro e w1 ⟨rfl, hb1⟩
  go_wp2
  go_ret
  exact ⟨rfl, hb1⟩
end Go.Proofs.YtccknookhkahbaaGreat
