/- Words that a function keeps, and the rings that stay: both functions. Conditions: none but the sizes. -/
import Derived.Deep.AppendLies
import Derived.Test.YtcmmlldincflkaaDoorOrbit
import Derived.Test.YtcmmlldincflkaaDoorAll
import Derived.Test.YtcmmlldincflkaaDoorGrid
import Derived.Test.YtcmmlldincflkaaDoorNumber
namespace Go.Proofs.YtcmmlldincflkaaDoor
open Go.RowKit

theorem str_eqb (a b : ByteArray) : (a.toList == b.toList) = decide (a = b) := by
  rw [ByteArray.toList_eq, ByteArray.toList_eq]
  by_cases h : a = b
  · subst h; simp
  · have h2 : a.data.toList ≠ b.data.toList := by
      intro e
      apply h
      apply ByteArray.ext
      exact Array.toList_inj.1 e
    simp [h]
    exact fun e => h2 (by rw [e])
/-- Where a text lies in a list, as a program says it. -/
def IdxPostT (xs : List ByteArray) (s : ByteArray) (w : World) (e : Ending) (w' : World) : Prop := ∃ r : Int, e = .returned (.int .i64 r) ∧ w = w' ∧ ((r = -1 ∧ s ∉ xs) ∨ ∃ t : Nat, r = t ∧ xs[t]? = some s)
/-- The words seen. -/
def itrs (f : List UInt8 → List UInt8) (l : List UInt8) (m : Nat) : List ByteArray := (List.range m).map fun i => txt (itr f l i)
theorem itrs_succ (f : List UInt8 → List UInt8) (l : List UInt8) (m : Nat) : strVals (itrs f l (m + 1)) = strVals (itrs f l m) ++ [.string (txt (itr f l m))] := by simp [itrs, strVals, List.range_succ]
theorem itrs_get {f : List UInt8 → List UInt8} {l : List UInt8} {m i : Nat} (h : i < m) : (itrs f l m)[i]? = some (txt (itr f l i)) := by simp [itrs, h]
theorem itrs_mem {f : List UInt8 → List UInt8} {l : List UInt8} {m i : Nat} {y : ByteArray} (h : (itrs f l m)[i]? = some y) : i < m ∧ y = txt (itr f l i) := by
  have h1 := (List.getElem?_eq_some_iff.1 h).1
  simp [itrs] at h1
  rw [itrs_get h1] at h
  exact ⟨h1, (Option.some.inj h).symm⟩
/-- A ring whose tail may be asked for. -/
def tailOk (k n : Int) (o s : ByteArray) : Bool := ringOk k n o s && decide (s.size ≤ 8)
def lenSlice (v : Value) : Nat := match v with | .slice _ n _ => n | _ => 0
theorem ring_ok_itr {k n : Nat} {o s : ByteArray} (h : ringOk k n o s = true) (i : Nat) : ringOk k n o (txt (itr (ringB o k n) s.data.toList i)) = true := by
  obtain ⟨kk, nn, hkk, hnn, hk, ⟨hn1, hn4⟩, hp, hos, hlo, ⟨hs1, hs16⟩, hl, hic⟩ := ring_facts h
  obtain rfl : k = kk := by omega
  obtain rfl : n = nn := by omega
  have hw := ring_words (l := s.data.toList) (by omega) hn1 hlo (Nat.le_of_eq hos.symm) hl (by rw [size_list]; exact hs1) i
  rw [size_list] at hw
  unfold ringOk
  rw [hic, txt_size, txt_list, hw.1, hw.2]
  simp [hs1, hs16]
theorem tail_facts {k n : Int} {o s : ByteArray} (h : tailOk k n o s = true) : ringOk k n o s = true ∧ s.size ≤ 8 := by
  unfold tailOk at h
  rwa [Bool.and_eq_true, decide_eq_true_eq] at h
end Go.Proofs.YtcmmlldincflkaaDoor
namespace Go.Proofs.YtcmmlldincflkaaDoor
open Go.RowKit

def redn (t p m : Nat) : Nat := if t < m then t + (m - t) % p else m
def AfterPost (f : List UInt8 → List UInt8) (l : List UInt8) (m : Nat) (w : World) (e : Ending) (w' : World) : Prop := ∃ t p : Nat, IsTail f l t p ∧ e = .returned (.tuple #[.string (txt (itr f l (redn t p m))), .bool true]) ∧ Below w.heap.size w w'
def afterOk (k n : Int) (o s : ByteArray) (m : Int) : Bool := tailOk k n o s && inB m 0 1000000
theorem after_facts {k n : Int} {o s : ByteArray} {m : Int} (h : afterOk k n o s m = true) : tailOk k n o s = true ∧ 0 ≤ m ∧ m ≤ 1000000 := by
  unfold afterOk at h
  rw [Bool.and_eq_true, inB_iff] at h
  exact h
theorem redn_gt {t p m : Nat} (h : t < m) : redn t p m = t + (m - t) % p := by unfold redn; rw [if_pos h]
theorem redn_le {t p m : Nat} (h : ¬ t < m) : redn t p m = m := by unfold redn; rw [if_neg h]
theorem redn_lt {t p m : Nat} (hp : 1 ≤ p) (h : t + p ≤ 6561) : redn t p m ≤ 6561 := by
  unfold redn
  split
  · have := Nat.mod_lt (m - t) hp; omega
  · omega
theorem rem_nat {t p m : Nat} (h : t < m) : Int.tmod ((m : Int) - (t : Int)) (p : Int) = (((m - t) % p : Nat) : Int) := by
  rw [← Int.ofNat_sub (Nat.le_of_lt h)]; rfl
theorem ring_step {k n : Nat} {o s : ByteArray} (h : tailOk k n o s = true) (i : Nat) :
    ∃ h1 : 1 ≤ k ∧ k ≤ 3, 1 ≤ n ∧ n ≤ 4 ∧ k ^ n ≤ o.size ∧ lets k (itr (ringB o k n) s.data.toList i) = true ∧ 0 < (itr (ringB o k n) s.data.toList i).length ∧ (itr (ringB o k n) s.data.toList i).length ≤ 1000 := by
  obtain ⟨hr, h8⟩ := tail_facts h
  obtain ⟨kk, nn, hkk, hnn, hk, ⟨hn1, hn4⟩, hp, hos, hlo, ⟨hs1, hs16⟩, hl, hic⟩ := ring_facts hr
  obtain rfl : k = kk := by omega
  obtain rfl : n = nn := by omega
  have hw := ring_words (l := s.data.toList) (by omega) hn1 hlo (Nat.le_of_eq hos.symm) hl (by rw [size_list]; exact hs1) i
  rw [size_list] at hw
  exact ⟨by omega, hn1, hn4, Nat.le_of_eq hos.symm, hw.2, by omega, by omega⟩
end Go.Proofs.YtcmmlldincflkaaDoor
namespace Go.Proofs.YtcmmlldincflkaaDoor
open Go.RowKit

/-- A value appended; the row's block stays another than bb. -/
theorem wpList_app3 {P : Program} {wr : World} {ops : Array Oper} {rest : List Oper} {o : Oper} {a : Act} {Q : Exit → Act → World → Prop}
    (hg : o.guard = none) (s x : Operand) (t : TypeId) (hop : o.op = Op.call { callee := Callee.builtin Builtin.append, args := #[s, x], argTypes := #[t, t] })
    (B : Nat) (e : TypeId) (z : Value) (bytes : Nat) (h1 : P.underlying t = some (.slice e)) (hinfo : (P.info? e).map (fun i => (i.zero, i.size, i.bytes)) = some (some z, 1, bytes)) (hzs : z.cells.size = 1)
    (v : Value) (m : Nat) (xs : List Value) (u : Value) (hown : wr.ownsRow B e 1 v m xs) (hs : a.eval s = v) (hx : a.eval x = .slice (some ⟨wr.heap.size, 0, none⟩) 1 1)
    (hu : u.oneCell' = true) (hlim : (m + 1) * bytes ≤ 140737488355328) (hlim2 : m + 1 ≤ maxLen) (hB : B ≤ wr.heap.size) (bb : Nat) (hne : v.ownBlock ≠ some bb) (hbb : bb < wr.heap.size)
    (hK : ∀ v' w1, w1.ownsRow B e 1 v' (m + 1) (xs ++ [u]) → wr.grownBy w1 v.ownBlock → v'.ownBlock ≠ some bb → wpList P ops Q rest (a.put o.dst v') w1) :
    wpList P ops Q (o :: rest) a (wr.alloc (.cells #[u] e)) := by
  obtain ⟨i, hi, hz, hz1, hz2⟩ := info_parts hinfo
  refine wpList_append_lies _ hg s x t hop B e i z 1 bytes h1 hi hz hz1 hz2 hzs (by decide) v m xs hs (hown.alloc _) ⟨wr.heap.size, 0, none⟩ 1 1 [u] hx rfl ?_ ?_ (by decide) hlim2 hlim (by simp; omega) (wr.heap.size + 1) (by simp) ?_
  · intro j y hj
    match j, hj with
    | 0, hj => simp at hj; subst hj; simp [Addr.add]
  · intro y hy; simp at hy; subst hy; exact hu
  · intro g cap w1 hown' hgrow hor _
    refine hK _ w1 hown' (grown_trans (World.grownBy_alloc _ _ _) hgrow) ?_
    rcases hor with h | h
    · intro e
      apply hne
      rw [h]
      simpa [Value.ownBlock] using e
    · intro e
      have : g = bb := by simpa [Value.ownBlock] using e
      omega

/-- A value that keeps words: called with the word number i it returns p i. -/
def Keeps (F : FuncId) (cap : Value) (k n : Nat) (p : Nat → Bool) (W : World) : Prop :=
  ∀ i w, i < k ^ n → Below W.heap.size W w → Calls Tryd.prog F #[.string (wdB k n i), cap] w fun e w' => e = .returned (.bool (p i)) ∧ Below w.heap.size w w'
/-- The words kept among the first j. -/
def kp (p : Nat → Bool) (k n j : Nat) : List ByteArray := ((List.range j).filter p).map (wdB k n)
theorem kp_len (p : Nat → Bool) (k n j : Nat) : (kp p k n j).length = ((List.range j).filter p).length := by simp [kp]
theorem kp_le (p : Nat → Bool) (j : Nat) : ((List.range j).filter p).length ≤ j := by have := List.length_filter_le p (List.range j); rwa [List.length_range] at this
theorem kp_yes {p : Nat → Bool} {k n j : Nat} (h : p j = true) : strVals (kp p k n (j + 1)) = strVals (kp p k n j) ++ [.string (wdB k n j)] := by simp [kp, strVals, List.range_succ, List.filter_append, h]
theorem kp_no {p : Nat → Bool} {k n j : Nat} (h : p j = false) : kp p k n (j + 1) = kp p k n j := by simp [kp, List.range_succ, List.filter_append, h]
theorem cn_yes {p : Nat → Bool} {j : Nat} (h : p j = true) : ((List.range (j + 1)).filter p).length = ((List.range j).filter p).length + 1 := by simp [List.range_succ, List.filter_append, h]
theorem cn_no {p : Nat → Bool} {j : Nat} (h : p j = false) : ((List.range (j + 1)).filter p).length = ((List.range j).filter p).length := by simp [List.range_succ, List.filter_append, h]
def KeptPost (p : Nat → Bool) (k n : Nat) (w : World) (e : Ending) (w' : World) : Prop := ∃ v, e = .returned v ∧ w'.ownsRow w.heap.size 9 1 v ((List.range (k ^ n)).filter p).length (strVals (kp p k n (k ^ n))) ∧ Below w.heap.size w w'
/-- What a code makes of the ring number i. -/
def rnB (o : ByteArray) (n m i : Nat) : List UInt8 := ringB o 2 n (wAt 2 m i)
def nextB (o : ByteArray) (n m i : Nat) : Nat := idxOf 2 (rnB o n m i)
def stays (o : ByteArray) (n m i : Nat) : Bool := decide (txt (rnB o n m i) = wdB 2 m i)
/-- Rings of m letters of a code of two letters. -/
structure RFit (o : ByteArray) (n m : Nat) : Prop where
  n1 : 1 ≤ n
  n4 : n ≤ 4
  os : o.size = 2 ^ n
  lo : lets (2 : Nat) o.data.toList = true
  m1 : 1 ≤ m
  m8 : m ≤ 8
  ic : isCode 2 n o = true
theorem idx_wAt {k : Nat} (hk : 1 ≤ k ∧ k ≤ 3) : ∀ n i, i < k ^ n → idxOf k (wAt k n i) = i
  | 0, i, h => by simp at h; subst h; rfl
  | n + 1, i, h => by
    have h1 : i / k < k ^ n := Nat.div_lt_of_lt_mul (by rw [Nat.pow_succ, Nat.mul_comm] at h; exact h)
    have h2 : i % k < k := Nat.mod_lt _ (by omega)
    have h3 : ((letB (i % k)).toNat : Int) = 97 + ((i % k : Nat) : Int) := letB_nat (by omega)
    have h4 := Nat.div_add_mod i k
    show idxOf k (wAt k n (i / k) ++ [letB (i % k)]) = i
    rw [idxOf_snoc, idx_wAt hk n _ h1, Nat.mul_comm]
    omega
theorem rn_facts {o : ByteArray} {n m : Nat} (h : RFit o n m) (i : Nat) : (rnB o n m i).length = m ∧ lets (2 : Nat) (rnB o n m i) = true := by
  have hl := wAt_lets (k := 2) (by omega) m i
  have h1 := wAt_len 2 m i
  have hm := h.m1
  exact ⟨(ringB_len ..).trans h1, ringB_lets (by omega) h.n1 h.lo (Nat.le_of_eq h.os.symm) hl (by omega)⟩
theorem next_lt {o : ByteArray} {n m : Nat} (h : RFit o n m) (i : Nat) : nextB o n m i < 2 ^ m := by
  have := idx_bd (rn_facts h i).2 (by omega)
  rwa [(rn_facts h i).1] at this
theorem stays_iff {o : ByteArray} {n m i : Nat} (h : RFit o n m) (hi : i < 2 ^ m) : decide (nextB o n m i = i) = stays o n m i := by
  unfold stays
  rw [decide_eq_decide]
  constructor
  · intro e
    have : rnB o n m i = wAt 2 m i := idx_inj (k := 2) (n := m) (by omega) (rn_facts h i).1 (wAt_len 2 m i) (rn_facts h i).2 (wAt_lets (k := 2) (by omega) m i) (by rw [idx_wAt (by omega) m i hi]; exact e)
    rw [this]; rfl
  · intro e
    have : rnB o n m i = wAt 2 m i := by rw [← txt_list (rnB o n m i), e]; rfl
    unfold nextB
    rw [this, idx_wAt (by omega) m i hi]
theorem ring_ok_wd {o : ByteArray} {n m : Nat} (h : RFit o n m) (i : Nat) : ringOk (2 : Nat) n o (wdB 2 m i) = true := by
  have hl := wAt_lets (k := 2) (by omega) m i
  unfold ringOk
  rw [wdB_size, wdB_list, hl, show isCode ((2 : Nat) : Int) n o = true from h.ic]
  have h1 := h.m1
  have h2 := h.m8
  simp
  omega
def nexts (o : ByteArray) (n m j : Nat) : List Int := (List.range j).map fun i => (nextB o n m i : Int)
theorem nexts_succ (o : ByteArray) (n m j : Nat) : intVals (nexts o n m (j + 1)) = intVals (nexts o n m j) ++ [.int .i64 (nextB o n m j : Int)] := by simp [nexts, intVals, List.range_succ]
theorem nexts_get {o : ByteArray} {n m j i : Nat} (h : i < j) : (nexts o n m j)[i]? = some (nextB o n m i : Int) := by simp [nexts, h]
set_option maxHeartbeats 1000000 in
theorem l13Number_c (k : Nat) (s : ByteArray) (w : World) (hk : k ≤ 3) (hl : lets k s.data.toList = true) (hs : s.size ≤ 16) :
    Calls Tryd.prog 42 #[.int .i64 k, .string s] w fun e w' => e = .returned (.int .i64 (idxOf k s.data.toList : Int)) ∧ w = w' := by
  have HL := hid hl
  clear hl
  go_enter Tryd.func42, Tryd.ntmps42
  go_wp2
  go_loop [5, 6] (fun o i => ∃ j q : Nat, j ≤ s.size ∧ i = .int .i64 j ∧ o = .int .i64 q ∧ Hid (q = idxOf k (s.data.toList.take j))) (fun _ i => s.size - (intOf i).toNat)
  case atStart => exact ⟨0, 0, by omega, rfl, rfl, by show _ = _; simp [idxOf]⟩
  case round =>
    obtain ⟨j, q, hj, rfl, rfl, HQ⟩ := hrel
    by_cases hlt : j < s.size
    · have hji : (j : Int) < (s.size : Int) := by omega
      have hlet := List.all_eq_true.1 HL.out _ (List.mem_of_getElem? (byte_at s j hlt))
      rw [inB_iff] at hlet
      obtain ⟨t, ht⟩ : ∃ t : Nat, s[j].toNat = 97 + t := ⟨s[j].toNat - 97, by omega⟩
      have ht3 : t < 3 := by omega
      have hq1 : q < k ^ j := by rw [HQ.out]; exact idxOf_lt HL.out hk j (by rw [size_list]; omega)
      have hq2 : k ^ j ≤ 3 ^ 16 := Nat.le_trans (Nat.pow_le_pow_left hk j) (Nat.pow_le_pow_right (by omega) (by omega))
      have hq3 : q ≤ 43046721 := by have : (3 : Nat) ^ 16 = 43046721 := by decide
                                    omega
      have hqk : q * k ≤ 43046721 * 3 := Nat.mul_le_mul hq3 hk
      obtain ⟨m, hm⟩ : ∃ m, m = q * k := ⟨_, rfl⟩
      have hmi : (q : Int) * (k : Int) = (m : Int) := by rw [hm]; simp
      rw [← hm] at hqk
      have HST := hid (show idxOf k (s.data.toList.take (j + 1)) = m + t by rw [idxOf_take (byte_at s j hlt), ← HQ.out, ht, hm]; omega)
      clear hq1 hq2 hlet hm
      go_wp2
      go_round
      case rel => exact ⟨j + 1, m + t, by omega, by go_num, by go_num, by show _ = _; rw [HST.out]⟩
      case measure => simp [intOf]; omega
    · have HT := hid (show s.data.toList.take j = s.data.toList from List.take_of_length_le (by rw [size_list]; omega))
      go_wp2
      go_ret
      exact ⟨ret_int (by rw [HQ.out, HT.out]), rfl⟩
end Go.Proofs.YtcmmlldincflkaaDoor
