/- Where words that come of a word begin to come again: the plain law, and the program's map. No condition. -/
import Derived.WalkArith
import Derived.Maps.Own
import Derived.Maps.OwnOps
import Derived.Maps.OwnSet
import Derived.Maps.Views
import Derived.Test.YtcmmlldincflkaaDoorApply
namespace Go.Proofs.YtcmmlldincflkaaDoor
open Go.RowKit

/-- A word that goes on with itself, m letters of it. -/
def cyc (l : List UInt8) (m : Nat) : List UInt8 := (List.range m).map fun i => l.getD (i % l.length) 0
theorem cyc_len (l : List UInt8) (m : Nat) : (cyc l m).length = m := by simp [cyc]
theorem cyc_get {l : List UInt8} {m i : Nat} (h : i < m) : (cyc l m)[i]? = some (l.getD (i % l.length) 0) := by simp [cyc, h]
theorem cyc_self (l : List UInt8) : cyc l l.length = l := by
  refine List.ext_getElem? fun i => ?_
  by_cases h : i < l.length
  · rw [cyc_get h, Nat.mod_eq_of_lt h, List.getD_eq_getElem?_getD, List.getElem?_eq_getElem h]; rfl
  · rw [List.getElem?_eq_none (by rw [cyc_len]; omega), List.getElem?_eq_none (by omega)]
theorem cyc_more (l : List UInt8) (q : Nat) (hl : 0 < l.length) : cyc l (q * l.length) ++ l = cyc l ((q + 1) * l.length) := by
  refine List.ext_getElem? fun i => ?_
  rw [Nat.add_mul, Nat.one_mul]
  by_cases h : i < q * l.length
  · rw [List.getElem?_append_left (by rw [cyc_len]; exact h), cyc_get h, cyc_get (by omega)]
  · rw [List.getElem?_append_right (by rw [cyc_len]; omega), cyc_len]
    by_cases h2 : i < q * l.length + l.length
    · rw [cyc_get h2]
      obtain ⟨r, hr⟩ : ∃ r, i = q * l.length + r := ⟨i - q * l.length, by omega⟩
      have hrl : r < l.length := by omega
      have e1 : i - q * l.length = r := by omega
      have e2 : i % l.length = r := by rw [hr, Nat.mul_comm, Nat.mul_add_mod, Nat.mod_eq_of_lt hrl]
      rw [e1, e2, List.getD_eq_getElem?_getD, List.getElem?_eq_getElem hrl]; rfl
    · rw [List.getElem?_eq_none (by omega), List.getElem?_eq_none (by rw [cyc_len]; omega)]
theorem repeat_cyc (l : List UInt8) (hl : 0 < l.length) : ∀ q, Lib.repeatL l q = cyc l (q * l.length)
  | 0 => by simp [Lib.repeatL, cyc]
  | q + 1 => by
    have hcomm : ∀ q, Lib.repeatL l q ++ l = l ++ Lib.repeatL l q := by
      intro q
      induction q with
      | zero => simp [Lib.repeatL]
      | succ q ih => simp only [Lib.repeatL, List.append_assoc]; rw [ih]
    rw [Lib.repeatL, ← hcomm, repeat_cyc l hl q, cyc_more l q hl]
theorem cyc_take (l : List UInt8) {m n : Nat} (h : m ≤ n) : (cyc l n).take m = cyc l m := by
  refine List.ext_getElem? fun i => ?_
  rw [List.getElem?_take]
  by_cases hi : i < m
  · rw [if_pos hi, cyc_get hi, cyc_get (by omega)]
  · rw [if_neg hi, List.getElem?_eq_none (by rw [cyc_len]; omega)]
theorem lets_cyc {k : Int} {l : List UInt8} (h : lets k l = true) (hl : 0 < l.length) (m : Nat) : lets k (cyc l m) = true := by
  unfold lets
  rw [List.all_eq_true]
  intro c hc
  obtain ⟨i, _, rfl⟩ := List.mem_map.1 hc
  have h2 : i % l.length < l.length := Nat.mod_lt _ hl
  rw [List.getD_eq_getElem?_getD, List.getElem?_eq_getElem h2]
  exact List.all_eq_true.1 h _ (List.getElem_mem h2)
/-- What a code gives to a ring. -/
def ringB (o : ByteArray) (k n : Nat) (l : List UInt8) : List UInt8 := madeB (apB o k n (cyc l (l.length + n - 1))) l.length
theorem ringB_len (o : ByteArray) (k n : Nat) (l : List UInt8) : (ringB o k n l).length = l.length := madeB_len _ _
theorem apB_lets {k : Nat} {o : ByteArray} {l : List UInt8} {n : Nat} (hk : k ≤ 3) (ho : lets k o.data.toList = true) (hos : k ^ n ≤ o.size) (hl : lets k l = true) {i : Nat} (hi : i + n ≤ l.length) : inB (((apB o k n l i).toNat : Int) - 97) 0 ((k : Int) - 1) = true := by
  have h1 := idx_bd (lets_part hl i n) hk
  have h2 : ((l.drop i).take n).length = n := by simp; omega
  rw [h2] at h1
  unfold apB
  rw [giveB_at (by omega)]
  exact List.all_eq_true.1 ho _ (List.mem_of_getElem? (byte_at o _ (by omega)))
theorem ringB_lets {k : Nat} {o : ByteArray} {l : List UInt8} {n : Nat} (hk : k ≤ 3) (hn : 1 ≤ n) (ho : lets k o.data.toList = true) (hos : k ^ n ≤ o.size) (hl : lets k l = true) (hl0 : 0 < l.length) : lets k (ringB o k n l) = true := by
  unfold ringB madeB
  unfold lets
  rw [List.all_eq_true]
  intro c hc
  obtain ⟨i, hi, rfl⟩ := List.mem_map.1 hc
  exact apB_lets hk ho hos (lets_cyc hl hl0 _) (by rw [cyc_len]; have := List.mem_range.1 hi; omega)
def txt (l : List UInt8) : ByteArray := ⟨l.toArray⟩
theorem txt_list (l : List UInt8) : (txt l).data.toList = l := rfl
theorem txt_size (l : List UInt8) : (txt l).size = l.length := by simp [txt, ByteArray.size]
theorem txt_of (s : ByteArray) : txt s.data.toList = s := rfl
theorem txt_inj {a b : List UInt8} (h : txt a = txt b) : a = b := by rw [← txt_list a, h, txt_list]
theorem extract_take (s : ByteArray) (m : Nat) : s.extract 0 m = txt (s.data.toList.take m) := by
  apply ByteArray.ext
  rw [ByteArray.data_extract]
  show _ = (s.data.toList.take m).toArray
  apply Array.toList_inj.1
  rw [Array.toList_extract]
  simp [List.extract_eq_take_drop]

/-- A ring that may be asked for. -/
def ringOk (k n : Int) (o s : ByteArray) : Bool := isCode k n o && (decide (1 ≤ s.size ∧ s.size ≤ 16) && lets k s.data.toList)
theorem ring_facts {k n : Int} {o s : ByteArray} (h : ringOk k n o s = true) : ∃ kk nn : Nat, k = kk ∧ n = nn ∧ (kk = 2 ∨ kk = 3) ∧ (1 ≤ nn ∧ nn ≤ 4) ∧ kk ^ nn ≤ 27 ∧ o.size = kk ^ nn ∧ lets kk o.data.toList = true ∧ (1 ≤ s.size ∧ s.size ≤ 16) ∧ lets kk s.data.toList = true ∧ isCode k n o = true := by
  unfold ringOk at h
  rw [Bool.and_eq_true, Bool.and_eq_true, decide_eq_true_eq] at h
  obtain ⟨h1, h2, h3⟩ := h
  obtain ⟨kk, nn, rfl, rfl, hk, hn, hp, ho, hl⟩ := code_facts h1
  exact ⟨kk, nn, rfl, rfl, hk, hn, hp, ho, hl, h2, h3, h1⟩
end Go.Proofs.YtcmmlldincflkaaDoor
namespace Go.Proofs.YtcmmlldincflkaaDoor
open Go.RowKit

def itr (f : List UInt8 → List UInt8) (l : List UInt8) : Nat → List UInt8 | 0 => l | n + 1 => f (itr f l n)
/-- The first n words are different. -/
def Fresh (f : List UInt8 → List UInt8) (l : List UInt8) (n : Nat) : Prop := ∀ i j, i < j → j < n → itr f l i ≠ itr f l j
/-- They come again from t on, after p steps. -/
structure IsTail (f : List UInt8 → List UInt8) (l : List UInt8) (t p : Nat) : Prop where
  pos : 1 ≤ p
  eq : itr f l (t + p) = itr f l t
  new : Fresh f l (t + p)
theorem isTail_unique {f : List UInt8 → List UInt8} {l : List UInt8} {t p t' p' : Nat} (h : IsTail f l t p) (h' : IsTail f l t' p') : t = t' ∧ p = p' := by
  have key : ∀ {t p t' p' : Nat}, IsTail f l t p → IsTail f l t' p' → t' + p' ≤ t + p := fun {t p t' p'} h h' => by
    refine Nat.le_of_not_lt fun hlt => ?_
    exact h'.new t (t + p) (by have := h.pos; omega) hlt h.eq.symm
  have e : t + p = t' + p' := Nat.le_antisymm (key h' h) (key h h')
  have ht : t = t' := by
    have e2 : itr f l t = itr f l t' := by rw [← h.eq, ← h'.eq, e]
    rcases Nat.lt_trichotomy t t' with hlt | heq | hgt
    · exact absurd e2 (h.new t t' hlt (by have := h'.pos; omega))
    · exact heq
    · exact absurd e2.symm (h.new t' t hgt (by have := h.pos; omega))
  exact ⟨ht, by omega⟩

theorem idxOf_snoc (k : Nat) (l : List UInt8) (c : UInt8) : idxOf k (l ++ [c]) = idxOf k l * k + (c.toNat - 97) := by simp [idxOf, List.foldl_append]
theorem wAt_idx {k : Nat} (hk : k ≤ 3) : ∀ (n : Nat) (l : List UInt8), l.length = n → lets k l = true → wAt k n (idxOf k l) = l
  | 0, l, hl, _ => by rw [List.eq_nil_of_length_eq_zero hl]; rfl
  | n + 1, l, hl, h => by
    have hne : l ≠ [] := by intro h0; rw [h0] at hl; simp at hl
    obtain ⟨l', c, rfl⟩ : ∃ l' c, l = l' ++ [c] := ⟨l.dropLast, l.getLast hne, (List.dropLast_concat_getLast hne).symm⟩
    have hl' : l'.length = n := by simpa using hl
    unfold lets at h
    rw [List.all_append, Bool.and_eq_true] at h
    have hc := h.2
    simp only [List.all_cons, List.all_nil, Bool.and_true] at hc
    rw [inB_iff] at hc
    have hcl : letB (c.toNat - 97) = c := by
      unfold letB
      rw [show 97 + (c.toNat - 97) = c.toNat by omega]; simp
    rw [idxOf_snoc, wAt_next (by omega), wAt_idx hk n l' hl' h.1, hcl]
theorem idx_inj {k n : Nat} (hk : k ≤ 3) {a b : List UInt8} (ha : a.length = n) (hb : b.length = n) (hla : lets k a = true) (hlb : lets k b = true) (h : idxOf k a = idxOf k b) : a = b := by
  rw [← wAt_idx hk n a ha hla, ← wAt_idx hk n b hb hlb, h]
theorem pigeon : ∀ (m : Nat) (l : List Nat), l.Nodup → (∀ x ∈ l, x < m) → l.length ≤ m
  | 0, l, _, h => by
    cases l with
    | nil => simp
    | cons x _ => exact absurd (h x (by simp)) (by omega)
  | m + 1, l, hd, h => by
    by_cases hm : m ∈ l
    · have h1 := pigeon m (l.erase m) (hd.erase m) (fun x hx => by
        have h2 := (hd.mem_erase_iff).1 hx
        have h3 := h x h2.2
        omega)
      rw [List.length_erase_of_mem hm] at h1
      omega
    · have h1 := pigeon m l hd (fun x hx => by
        have h3 := h x hx
        have : x ≠ m := fun e => hm (e ▸ hx)
        omega)
      omega
theorem fresh_le {f : List UInt8 → List UInt8} {l : List UInt8} {k L n : Nat} (hk : k ≤ 3) (hw : ∀ i, (itr f l i).length = L ∧ lets k (itr f l i) = true) (h : Fresh f l n) : n ≤ k ^ L := by
  have h1 := pigeon (k ^ L) ((List.range n).map fun i => idxOf k (itr f l i)) (by
    rw [List.nodup_iff_pairwise_ne, List.pairwise_map]
    refine List.Pairwise.imp_of_mem (R := (· < ·)) (fun {a b} ha hb hab e => ?_) (List.pairwise_lt_range)
    exact h a b hab (List.mem_range.1 hb) (idx_inj hk (hw a).1 (hw b).1 (hw a).2 (hw b).2 e)) (fun x hx => by
      obtain ⟨i, _, rfl⟩ := List.mem_map.1 hx
      have := idx_bd (hw i).2 hk
      rwa [(hw i).1] at this)
  simpa using h1
theorem ring_words {k n : Nat} {o : ByteArray} {l : List UInt8} (hk : k ≤ 3) (hn : 1 ≤ n) (ho : lets k o.data.toList = true) (hos : k ^ n ≤ o.size) (hl : lets k l = true) (hl0 : 0 < l.length) : ∀ i, (itr (ringB o k n) l i).length = l.length ∧ lets k (itr (ringB o k n) l i) = true
  | 0 => ⟨rfl, hl⟩
  | i + 1 => by
    obtain ⟨h1, h2⟩ := ring_words hk hn ho hos hl hl0 i
    exact ⟨(ringB_len ..).trans h1, ringB_lets hk hn ho hos h2 (by omega)⟩

/-! The map of what has been seen. -/
def seenD (f : List UInt8 → List UInt8) (l : List UInt8) : Nat → DataW Unit | 0 => .map [] | n + 1 => (seenD f l n).put (.string (itr f l n)) (.lit (.int .i64 n))
theorem seen_isMap (f : List UInt8 → List UInt8) (l : List UInt8) : ∀ n, Maps.IsMap (seenD f l n)
  | 0 => ⟨[], rfl⟩
  | n + 1 => (seen_isMap f l n).put _ _
theorem keyLit (l : List UInt8) : WideAt.IsKeyLit (.string l) := trivial
theorem seen_has (f : List UInt8 → List UInt8) (l : List UInt8) (x : List UInt8) : ∀ n, Maps.has (seenD f l n) (.string x) = true ↔ ∃ i, i < n ∧ itr f l i = x
  | 0 => by simp [seenD, Maps.has]
  | n + 1 => by
    by_cases h : itr f l n = x
    · constructor
      · exact fun _ => ⟨n, by omega, h⟩
      · intro _; rw [← h]; exact Maps.has_put_same (seen_isMap f l n) (keyLit _) _
    · rw [seenD, Maps.has_put_other (by intro e; injection e with e; exact h e.symm), seen_has f l x n]
      constructor
      · rintro ⟨i, hi, hx⟩; exact ⟨i, by omega, hx⟩
      · rintro ⟨i, hi, hx⟩
        refine ⟨i, ?_, hx⟩
        rcases Nat.lt_or_ge i n with h1 | h1
        · exact h1
        · obtain rfl : i = n := by omega
          exact absurd hx h
theorem seen_at {f : List UInt8 → List UInt8} {l : List UInt8} (z : DataW Unit) : ∀ {n i : Nat}, Fresh f l n → i < n → (seenD f l n).atKey (.string (itr f l i)) z = .lit (.int .i64 i)
  | n + 1, i, hf, hi => by
    by_cases h : i = n
    · subst h; exact Maps.atKey_put_same (seen_isMap f l i) (keyLit _) _ _
    · rw [seenD, Maps.atKey_put_other (by intro e; injection e with e; exact hf i n (by omega) (by omega) e)]
      exact seen_at z (fun a b hab hb => hf a b hab (by omega)) (by omega)
theorem wf_small (j : Nat) (h : j ≤ 1000000) : (Lit.int .i64 (j : Int)).wf = true := by
  exact Go.WalkArith.wf_i64 (by omega)
theorem owns_map_below {w w' : World} {P : Program} {k : TypeId} {R : Value → Option (DataW Unit × List MemPlace)} {b n : Nat} {D : DataW Unit} (h : w.ownsMap P k R b n D) (hb : Below w.heap.size w w') : w'.ownsMap P k R b n D := by
  obtain ⟨es, clock, h1, h2⟩ := h
  exact ⟨es, clock, by rw [hb.block b (Array.getElem?_eq_some_iff.1 h1).1]; exact h1, h2⟩
/-- A tail found. -/
def TailPost (f : List UInt8 → List UInt8) (l : List UInt8) (w : World) (e : Ending) (w' : World) : Prop := ∃ t p : Nat, IsTail f l t p ∧ t + p ≤ 6561 ∧ e = .returned (.tuple #[.int .i64 t, .int .i64 p]) ∧ Below w.heap.size w w'

theorem zeroInt (w : World) : (zeroValue 3).run Tryd.prog w = .ok (.int .i64 0) w := by kernel_rfl
end Go.Proofs.YtcmmlldincflkaaDoor
