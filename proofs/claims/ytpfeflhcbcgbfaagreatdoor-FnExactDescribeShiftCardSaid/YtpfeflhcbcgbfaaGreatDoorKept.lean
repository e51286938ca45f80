/- Words that a function keeps, and the rings that stay: both functions. Conditions: none but the sizes. -/
import Derived.WalkArith
import Derived.Maps.Own
import Derived.Maps.OwnOps
import Derived.Maps.OwnSet
import Derived.Maps.Views
import Derived.Deep.AppendLies
import Derived.Test.YtpfeflhcbcgbfaaGreatDoorRing
import Derived.Test.YtpfeflhcbcgbfaaGreatDoorSrch
import Derived.Test.YtpfeflhcbcgbfaaGreatDoorZero
import Derived.Test.YtpfeflhcbcgbfaaGreatDoorNumber
namespace Go.Proofs.YtpfeflhcbcgbfaaGreatDoor
open Go.RowKit

def itr (f : List UInt8 → List UInt8) (l : List UInt8) : Nat → List UInt8 | 0 => l | n + 1 => f (itr f l n)
/-- The first n words are different. -/
def Fresh (f : List UInt8 → List UInt8) (l : List UInt8) (n : Nat) : Prop := ∀ i j, i < j → j < n → itr f l i ≠ itr f l j
/-- They come again from t on, after p steps. -/
structure IsTail (f : List UInt8 → List UInt8) (l : List UInt8) (t p : Nat) : Prop where
  pos : 1 ≤ p
  eq : itr f l (t + p) = itr f l t
  new : Fresh f l (t + p)
theorem isTail_unique {f : List UInt8 → List UInt8} {l : List UInt8} {t p t' p' : Nat} (h : IsTail f l t p) (h' : IsTail f l t' p') : t = t' ∧ p = p' := by
  have key : ∀ {t p t' p' : Nat}, IsTail f l t p → IsTail f l t' p' → t' + p' ≤ t + p := fun {t p t' p'} h h' => by
    refine Nat.le_of_not_lt fun hlt => ?_
    exact h'.new t (t + p) (by have := h.pos; omega) hlt h.eq.symm
  have e : t + p = t' + p' := Nat.le_antisymm (key h' h) (key h h')
  have ht : t = t' := by
    have e2 : itr f l t = itr f l t' := by rw [← h.eq, ← h'.eq, e]
    rcases Nat.lt_trichotomy t t' with hlt | heq | hgt
    · exact absurd e2 (h.new t t' hlt (by have := h'.pos; omega))
    · exact heq
    · exact absurd e2.symm (h.new t' t hgt (by have := h.pos; omega))
  exact ⟨ht, by omega⟩

theorem idxOf_snoc (k : Nat) (l : List UInt8) (c : UInt8) : idxOf k (l ++ [c]) = idxOf k l * k + (c.toNat - 97) := by simp [idxOf, List.foldl_append]
theorem wAt_idx {k : Nat} (hk : k ≤ 3) : ∀ (n : Nat) (l : List UInt8), l.length = n → lets k l = true → wAt k n (idxOf k l) = l
  | 0, l, hl, _ => by rw [List.eq_nil_of_length_eq_zero hl]; rfl
  | n + 1, l, hl, h => by
    have hne : l ≠ [] := by intro h0; rw [h0] at hl; simp at hl
    obtain ⟨l', c, rfl⟩ : ∃ l' c, l = l' ++ [c] := ⟨l.dropLast, l.getLast hne, (List.dropLast_concat_getLast hne).symm⟩
    have hl' : l'.length = n := by simpa using hl
    unfold lets at h
    rw [List.all_append, Bool.and_eq_true] at h
    have hc := h.2
    simp only [List.all_cons, List.all_nil, Bool.and_true] at hc
    rw [inB_iff] at hc
    have hcl : letB (c.toNat - 97) = c := by
      unfold letB
      rw [show 97 + (c.toNat - 97) = c.toNat by omega]; simp
    rw [idxOf_snoc, wAt_next (by omega), wAt_idx hk n l' hl' h.1, hcl]
theorem idx_inj {k n : Nat} (hk : k ≤ 3) {a b : List UInt8} (ha : a.length = n) (hb : b.length = n) (hla : lets k a = true) (hlb : lets k b = true) (h : idxOf k a = idxOf k b) : a = b := by
  rw [← wAt_idx hk n a ha hla, ← wAt_idx hk n b hb hlb, h]
theorem pigeon : ∀ (m : Nat) (l : List Nat), l.Nodup → (∀ x ∈ l, x < m) → l.length ≤ m
  | 0, l, _, h => by
    cases l with
    | nil => simp
    | cons x _ => exact absurd (h x (by simp)) (by omega)
  | m + 1, l, hd, h => by
    by_cases hm : m ∈ l
    · have h1 := pigeon m (l.erase m) (hd.erase m) (fun x hx => by
        have h2 := (hd.mem_erase_iff).1 hx
        have h3 := h x h2.2
        omega)
      rw [List.length_erase_of_mem hm] at h1
      omega
    · have h1 := pigeon m l hd (fun x hx => by
        have h3 := h x hx
        have : x ≠ m := fun e => hm (e ▸ hx)
        omega)
      omega
theorem fresh_le {f : List UInt8 → List UInt8} {l : List UInt8} {k L n : Nat} (hk : k ≤ 3) (hw : ∀ i, (itr f l i).length = L ∧ lets k (itr f l i) = true) (h : Fresh f l n) : n ≤ k ^ L := by
  have h1 := pigeon (k ^ L) ((List.range n).map fun i => idxOf k (itr f l i)) (by
    rw [List.nodup_iff_pairwise_ne, List.pairwise_map]
    refine List.Pairwise.imp_of_mem (R := (· < ·)) (fun {a b} ha hb hab e => ?_) (List.pairwise_lt_range)
    exact h a b hab (List.mem_range.1 hb) (idx_inj hk (hw a).1 (hw b).1 (hw a).2 (hw b).2 e)) (fun x hx => by
      obtain ⟨i, _, rfl⟩ := List.mem_map.1 hx
      have := idx_bd (hw i).2 hk
      rwa [(hw i).1] at this)
  simpa using h1
theorem ring_words {k n : Nat} {o : ByteArray} {l : List UInt8} (hk : k ≤ 3) (hn : 1 ≤ n) (ho : lets k o.data.toList = true) (hos : k ^ n ≤ o.size) (hl : lets k l = true) (hl0 : 0 < l.length) : ∀ i, (itr (ringB o k n) l i).length = l.length ∧ lets k (itr (ringB o k n) l i) = true
  | 0 => ⟨rfl, hl⟩
  | i + 1 => by
    obtain ⟨h1, h2⟩ := ring_words hk hn ho hos hl hl0 i
    exact ⟨(ringB_len ..).trans h1, ringB_lets hk hn ho hos h2 (by omega)⟩

/-! The map of what has been seen. -/
def seenD (f : List UInt8 → List UInt8) (l : List UInt8) : Nat → DataW Unit | 0 => .map [] | n + 1 => (seenD f l n).put (.string (itr f l n)) (.lit (.int .i64 n))
theorem seen_isMap (f : List UInt8 → List UInt8) (l : List UInt8) : ∀ n, Maps.IsMap (seenD f l n)
  | 0 => ⟨[], rfl⟩
  | n + 1 => (seen_isMap f l n).put _ _
theorem keyLit (l : List UInt8) : WideAt.IsKeyLit (.string l) := trivial
theorem seen_has (f : List UInt8 → List UInt8) (l : List UInt8) (x : List UInt8) : ∀ n, Maps.has (seenD f l n) (.string x) = true ↔ ∃ i, i < n ∧ itr f l i = x
  | 0 => by simp [seenD, Maps.has]
  | n + 1 => by
    by_cases h : itr f l n = x
    · constructor
      · exact fun _ => ⟨n, by omega, h⟩
      · intro _; rw [← h]; exact Maps.has_put_same (seen_isMap f l n) (keyLit _) _
    · rw [seenD, Maps.has_put_other (by intro e; injection e with e; exact h e.symm), seen_has f l x n]
      constructor
      · rintro ⟨i, hi, hx⟩; exact ⟨i, by omega, hx⟩
      · rintro ⟨i, hi, hx⟩
        refine ⟨i, ?_, hx⟩
        rcases Nat.lt_or_ge i n with h1 | h1
        · exact h1
        · obtain rfl : i = n := by omega
          exact absurd hx h
theorem seen_at {f : List UInt8 → List UInt8} {l : List UInt8} (z : DataW Unit) : ∀ {n i : Nat}, Fresh f l n → i < n → (seenD f l n).atKey (.string (itr f l i)) z = .lit (.int .i64 i)
  | n + 1, i, hf, hi => by
    by_cases h : i = n
    · subst h; exact Maps.atKey_put_same (seen_isMap f l i) (keyLit _) _ _
    · rw [seenD, Maps.atKey_put_other (by intro e; injection e with e; exact hf i n (by omega) (by omega) e)]
      exact seen_at z (fun a b hab hb => hf a b hab (by omega)) (by omega)
theorem wf_small (j : Nat) (h : j ≤ 1000000) : (Lit.int .i64 (j : Int)).wf = true := by
  exact Go.WalkArith.wf_i64 (by omega)
theorem owns_map_below {w w' : World} {P : Program} {k : TypeId} {R : Value → Option (DataW Unit × List MemPlace)} {b n : Nat} {D : DataW Unit} (h : w.ownsMap P k R b n D) (hb : Below w.heap.size w w') : w'.ownsMap P k R b n D := by
  obtain ⟨es, clock, h1, h2⟩ := h
  exact ⟨es, clock, by rw [hb.block b (Array.getElem?_eq_some_iff.1 h1).1]; exact h1, h2⟩
/-- A tail found. -/
def TailPost (f : List UInt8 → List UInt8) (l : List UInt8) (w : World) (e : Ending) (w' : World) : Prop := ∃ t p : Nat, IsTail f l t p ∧ t + p ≤ 6561 ∧ e = .returned (.tuple #[.int .i64 t, .int .i64 p]) ∧ Below w.heap.size w w'

theorem zeroInt (w : World) : (zeroValue 3).run Tryz.prog w = .ok (.int .i64 0) w := by kernel_rfl
end Go.Proofs.YtpfeflhcbcgbfaaGreatDoor
namespace Go.Proofs.YtpfeflhcbcgbfaaGreatDoor
open Go.RowKit

theorem str_eqb (a b : ByteArray) : (a.toList == b.toList) = decide (a = b) := by
  rw [ByteArray.toList_eq, ByteArray.toList_eq]
  by_cases h : a = b
  · subst h; simp
  · have h2 : a.data.toList ≠ b.data.toList := by
      intro e
      apply h
      apply ByteArray.ext
      exact Array.toList_inj.1 e
    simp [h]
    exact fun e => h2 (by rw [e])
/-- Where a text lies in a list, as a program says it. -/
def IdxPostT (xs : List ByteArray) (s : ByteArray) (w : World) (e : Ending) (w' : World) : Prop := ∃ r : Int, e = .returned (.int .i64 r) ∧ w = w' ∧ ((r = -1 ∧ s ∉ xs) ∨ ∃ t : Nat, r = t ∧ xs[t]? = some s)
/-- The words seen. -/
def itrs (f : List UInt8 → List UInt8) (l : List UInt8) (m : Nat) : List ByteArray := (List.range m).map fun i => txt (itr f l i)
theorem itrs_succ (f : List UInt8 → List UInt8) (l : List UInt8) (m : Nat) : strVals (itrs f l (m + 1)) = strVals (itrs f l m) ++ [.string (txt (itr f l m))] := by simp [itrs, strVals, List.range_succ]
theorem itrs_get {f : List UInt8 → List UInt8} {l : List UInt8} {m i : Nat} (h : i < m) : (itrs f l m)[i]? = some (txt (itr f l i)) := by simp [itrs, h]
theorem itrs_mem {f : List UInt8 → List UInt8} {l : List UInt8} {m i : Nat} {y : ByteArray} (h : (itrs f l m)[i]? = some y) : i < m ∧ y = txt (itr f l i) := by
  have h1 := (List.getElem?_eq_some_iff.1 h).1
  simp [itrs] at h1
  rw [itrs_get h1] at h
  exact ⟨h1, (Option.some.inj h).symm⟩
/-- A ring whose tail may be asked for. -/
def tailOk (k n : Int) (o s : ByteArray) : Bool := ringOk k n o s && decide (s.size ≤ 8)
def lenSlice (v : Value) : Nat := match v with | .slice _ n _ => n | _ => 0
theorem ring_ok_itr {k n : Nat} {o s : ByteArray} (h : ringOk k n o s = true) (i : Nat) : ringOk k n o (txt (itr (ringB o k n) s.data.toList i)) = true := by
  obtain ⟨kk, nn, hkk, hnn, hk, ⟨hn1, hn4⟩, hp, hos, hlo, ⟨hs1, hs16⟩, hl, hic⟩ := ring_facts h
  obtain rfl : k = kk := by omega
  obtain rfl : n = nn := by omega
  have hw := ring_words (l := s.data.toList) (by omega) hn1 hlo (Nat.le_of_eq hos.symm) hl (by rw [size_list]; exact hs1) i
  rw [size_list] at hw
  unfold ringOk
  rw [hic, txt_size, txt_list, hw.1, hw.2]
  simp [hs1, hs16]
theorem tail_facts {k n : Int} {o s : ByteArray} (h : tailOk k n o s = true) : ringOk k n o s = true ∧ s.size ≤ 8 := by
  unfold tailOk at h
  rwa [Bool.and_eq_true, decide_eq_true_eq] at h
end Go.Proofs.YtpfeflhcbcgbfaaGreatDoor
namespace Go.Proofs.YtpfeflhcbcgbfaaGreatDoor
open Go.RowKit

def redn (t p m : Nat) : Nat := if t < m then t + (m - t) % p else m
def AfterPost (f : List UInt8 → List UInt8) (l : List UInt8) (m : Nat) (w : World) (e : Ending) (w' : World) : Prop := ∃ t p : Nat, IsTail f l t p ∧ e = .returned (.tuple #[.string (txt (itr f l (redn t p m))), .bool true]) ∧ Below w.heap.size w w'
def afterOk (k n : Int) (o s : ByteArray) (m : Int) : Bool := tailOk k n o s && inB m 0 1000000
theorem after_facts {k n : Int} {o s : ByteArray} {m : Int} (h : afterOk k n o s m = true) : tailOk k n o s = true ∧ 0 ≤ m ∧ m ≤ 1000000 := by
  unfold afterOk at h
  rw [Bool.and_eq_true, inB_iff] at h
  exact h
theorem redn_gt {t p m : Nat} (h : t < m) : redn t p m = t + (m - t) % p := by unfold redn; rw [if_pos h]
theorem redn_le {t p m : Nat} (h : ¬ t < m) : redn t p m = m := by unfold redn; rw [if_neg h]
theorem redn_lt {t p m : Nat} (hp : 1 ≤ p) (h : t + p ≤ 6561) : redn t p m ≤ 6561 := by
  unfold redn
  split
  · have := Nat.mod_lt (m - t) hp; omega
  · omega
theorem rem_nat {t p m : Nat} (h : t < m) : Int.tmod ((m : Int) - (t : Int)) (p : Int) = (((m - t) % p : Nat) : Int) := by
  rw [← Int.ofNat_sub (Nat.le_of_lt h)]; rfl
theorem ring_step {k n : Nat} {o s : ByteArray} (h : tailOk k n o s = true) (i : Nat) :
    ∃ h1 : 1 ≤ k ∧ k ≤ 3, 1 ≤ n ∧ n ≤ 4 ∧ k ^ n ≤ o.size ∧ lets k (itr (ringB o k n) s.data.toList i) = true ∧ 0 < (itr (ringB o k n) s.data.toList i).length ∧ (itr (ringB o k n) s.data.toList i).length ≤ 1000 := by
  obtain ⟨hr, h8⟩ := tail_facts h
  obtain ⟨kk, nn, hkk, hnn, hk, ⟨hn1, hn4⟩, hp, hos, hlo, ⟨hs1, hs16⟩, hl, hic⟩ := ring_facts hr
  obtain rfl : k = kk := by omega
  obtain rfl : n = nn := by omega
  have hw := ring_words (l := s.data.toList) (by omega) hn1 hlo (Nat.le_of_eq hos.symm) hl (by rw [size_list]; exact hs1) i
  rw [size_list] at hw
  exact ⟨by omega, hn1, hn4, Nat.le_of_eq hos.symm, hw.2, by omega, by omega⟩
end Go.Proofs.YtpfeflhcbcgbfaaGreatDoor
namespace Go.Proofs.YtpfeflhcbcgbfaaGreatDoor
open Go.RowKit

/-- A value appended; the row's block stays another than bb. -/
theorem wpList_app3 {P : Program} {wr : World} {ops : Array Oper} {rest : List Oper} {o : Oper} {a : Act} {Q : Exit → Act → World → Prop}
    (hg : o.guard = none) (s x : Operand) (t : TypeId) (hop : o.op = Op.call { callee := Callee.builtin Builtin.append, args := #[s, x], argTypes := #[t, t] })
    (B : Nat) (e : TypeId) (z : Value) (bytes : Nat) (h1 : P.underlying t = some (.slice e)) (hinfo : (P.info? e).map (fun i => (i.zero, i.size, i.bytes)) = some (some z, 1, bytes)) (hzs : z.cells.size = 1)
    (v : Value) (m : Nat) (xs : List Value) (u : Value) (hown : wr.ownsRow B e 1 v m xs) (hs : a.eval s = v) (hx : a.eval x = .slice (some ⟨wr.heap.size, 0, none⟩) 1 1)
    (hu : u.oneCell' = true) (hlim : (m + 1) * bytes ≤ 140737488355328) (hlim2 : m + 1 ≤ maxLen) (hB : B ≤ wr.heap.size) (bb : Nat) (hne : v.ownBlock ≠ some bb) (hbb : bb < wr.heap.size)
    (hK : ∀ v' w1, w1.ownsRow B e 1 v' (m + 1) (xs ++ [u]) → wr.grownBy w1 v.ownBlock → v'.ownBlock ≠ some bb → wpList P ops Q rest (a.put o.dst v') w1) :
    wpList P ops Q (o :: rest) a (wr.alloc (.cells #[u] e)) := by
  obtain ⟨i, hi, hz, hz1, hz2⟩ := info_parts hinfo
  refine wpList_append_lies _ hg s x t hop B e i z 1 bytes h1 hi hz hz1 hz2 hzs (by decide) v m xs hs (hown.alloc _) ⟨wr.heap.size, 0, none⟩ 1 1 [u] hx rfl ?_ ?_ (by decide) hlim2 hlim (by simp; omega) (wr.heap.size + 1) (by simp) ?_
  · intro j y hj
    match j, hj with
    | 0, hj => simp at hj; subst hj; simp [Addr.add]
  · intro y hy; simp at hy; subst hy; exact hu
  · intro g cap w1 hown' hgrow hor _
    refine hK _ w1 hown' (grown_trans (World.grownBy_alloc _ _ _) hgrow) ?_
    rcases hor with h | h
    · intro e
      apply hne
      rw [h]
      simpa [Value.ownBlock] using e
    · intro e
      have : g = bb := by simpa [Value.ownBlock] using e
      omega

/-- A value that keeps words: called with the word number i it returns p i. -/
def Keeps (F : FuncId) (cap : Value) (k n : Nat) (p : Nat → Bool) (W : World) : Prop :=
  ∀ i w, i < k ^ n → Below W.heap.size W w → Calls Tryz.prog F #[.string (wdB k n i), cap] w fun e w' => e = .returned (.bool (p i)) ∧ Below w.heap.size w w'
/-- The words kept among the first j. -/
def kp (p : Nat → Bool) (k n j : Nat) : List ByteArray := ((List.range j).filter p).map (wdB k n)
theorem kp_len (p : Nat → Bool) (k n j : Nat) : (kp p k n j).length = ((List.range j).filter p).length := by simp [kp]
theorem kp_le (p : Nat → Bool) (j : Nat) : ((List.range j).filter p).length ≤ j := by have := List.length_filter_le p (List.range j); rwa [List.length_range] at this
theorem kp_yes {p : Nat → Bool} {k n j : Nat} (h : p j = true) : strVals (kp p k n (j + 1)) = strVals (kp p k n j) ++ [.string (wdB k n j)] := by simp [kp, strVals, List.range_succ, List.filter_append, h]
theorem kp_no {p : Nat → Bool} {k n j : Nat} (h : p j = false) : kp p k n (j + 1) = kp p k n j := by simp [kp, List.range_succ, List.filter_append, h]
theorem cn_yes {p : Nat → Bool} {j : Nat} (h : p j = true) : ((List.range (j + 1)).filter p).length = ((List.range j).filter p).length + 1 := by simp [List.range_succ, List.filter_append, h]
theorem cn_no {p : Nat → Bool} {j : Nat} (h : p j = false) : ((List.range (j + 1)).filter p).length = ((List.range j).filter p).length := by simp [List.range_succ, List.filter_append, h]
def KeptPost (p : Nat → Bool) (k n : Nat) (w : World) (e : Ending) (w' : World) : Prop := ∃ v, e = .returned v ∧ w'.ownsRow w.heap.size 9 1 v ((List.range (k ^ n)).filter p).length (strVals (kp p k n (k ^ n))) ∧ Below w.heap.size w w'
set_option maxHeartbeats 2000000 in
set_option maxRecDepth 100000 in
theorem filtered_c (k n : Nat) (F : FuncId) (cap : Value) (p : Nat → Bool) (w : World) (hk : 1 ≤ k ∧ k ≤ 3) (hn : n ≤ 8) (hF : Keeps F cap k n p w) (hE : ∀ x w, (callFunc F #[x, cap]).run Tryz.prog w = .ok (.enter F #[x, cap]) w) :
    Calls Tryz.prog 74 #[.int .i64 k, .int .i64 n, .func (.func F) #[] #[cap]] w (KeptPost p k n w) := by
  have hps := pow_small hk.2 hn
  have HWO := hid (fun w : World => impl_wordsOf_c k n w hk hn)
  obtain ⟨m, hm⟩ : ∃ m, m = k ^ n := ⟨_, rfl⟩
  have HF := hid hF
  unfold Keeps at HF
  unfold WordsPost at HWO
  unfold KeptPost
  rw [← hm] at HWO HF hps
  rw [← hm]
  have hm1 : 1 ≤ m := by rw [hm]; exact Nat.one_le_pow _ _ (by omega)
  clear hF hm hk
  go_enter Tryz.func74, Tryz.ntmps74
  go_wp2_with fail
  refine (HWO.out _).mono ?_
  rintro e w1 ⟨v, rfl, hown, hb1⟩
  have hown2 := owns_base (base' := w.heap.size) hown (by simp)
  obtain ⟨g5, c5, rfl, hg5, hlt5⟩ := hown2.form (by omega)
  have hg6 : w.heap.size + 1 ≤ g5 := by
    obtain ⟨g7, c7, he7, hg7, _⟩ := hown.form (by omega)
    simp at he7 hg7
    omega
  have HW2 := hid hown2
  have hbelB : Below w.heap.size w w1 := ((Below.refl _ _).alloc (Nat.le_refl _) _).trans (hb1.mono (by simp))
  have hown8 : w1.ownsRow w.heap.size 9 1 (.slice (some ⟨w.heap.size, 0, none⟩) 0 0) 0 (strVals (kp p k n 0)) := owns_below (show (w.alloc (.cells #[] 9)).ownsRow w.heap.size 9 1 (.slice (some ⟨w.heap.size, 0, none⟩) 0 0) 0 (strVals (kp p k n 0)) from owns_lit3 #[] _ rfl (Nat.le_refl _) (by unfold maxLen; simp)) hb1
  clear hown hown2
  go_wp2
  go_loopw [7, 15] (fun v i wr => ∃ j : Nat, j ≤ m ∧ i = .int .i64 j ∧ wr.ownsRow w.heap.size 9 1 v ((List.range j).filter p).length (strVals (kp p k n j)) ∧ v.ownBlock ≠ some g5 ∧ wr.ownsRow w.heap.size 9 1 (.slice (some ⟨g5, 0, none⟩) m c5) m (strVals (wds k n m)) ∧ Below w.heap.size w wr) (fun _ i _ => m - (intOf i).toNat)
  case atStart => exact ⟨0, by omega, rfl, hown8, by simp [Value.ownBlock]; omega, HW2.out, hbelB⟩
  case round =>
    obtain ⟨j, hj, rfl, hown, hne, hwords, hbel⟩ := hrel
    have hcnt := kp_le p j
    by_cases hlt : j < m
    · obtain ⟨a6, c6, he6, hr6⟩ := owns_rowAt hwords (by omega)
      simp only [Value.slice.injEq, true_and] at he6
      obtain ⟨rfl, rfl⟩ := he6
      obtain ⟨b5, o5, he5, hb5, hcl5⟩ := hr6.at_ (by omega)
      simp only [Option.some.injEq, Addr.mk.injEq, and_true] at he5
      obtain ⟨rfl, rfl⟩ := he5
      have hcell := hcl5 j _ (strVals_get (wds_get hlt))
      rw [Nat.zero_add] at hcell
      have HO := hid hown
      have HWD := hid hwords
      have HFj := hid (HF.out j wr hlt hbel)
      clear hr6 hcl5 hown hwords
      obtain ⟨c, hc⟩ : ∃ c, c = ((List.range j).filter p).length := ⟨_, rfl⟩
      have HC := hid hc
      rw [← hc] at HO hcnt
      clear hc
      cases hpj : p j
      · rw [hpj] at HFj
        have HPJ := hid hpj
        clear hpj
        go_wp2_with fail
        refine HFj.out.mono ?_
        rintro e w2 ⟨rfl, hb2⟩
        have hown2 := owns_below HO.out hb2
        have hw2 := owns_below HWD.out hb2
        have hbel2 := hbel.trans (hb2.mono hbel.size)
        go_wp2
        go_roundw
        case rel => exact ⟨j + 1, by omega, by go_num, by rw [kp_no HPJ.out, cn_no HPJ.out, ← HC.out]; exact hown2, hne, hw2, hbel2⟩
        case measure => simp [intOf]; omega
      · rw [hpj] at HFj
        have HPJ := hid hpj
        clear hpj
        go_wp2_with fail
        refine HFj.out.mono ?_
        rintro e w2 ⟨rfl, hb2⟩
        have hown2 := owns_below HO.out hb2
        have hw2 := owns_below HWD.out hb2
        have hbel2 := hbel.trans (hb2.mono hbel.size)
        have hb52 := Nat.lt_of_lt_of_le hb5 hb2.size
        go_wp2_with (first | (at_builtin; go_must (refine wpList_app3 rfl _ _ 22 rfl w.heap.size 9 (.string ByteArray.empty) 16 Tryz.underlying22 infoStr3 rfl _ c (strVals (kp p k n j)) _ hown2 rfl rfl rfl (by omega) (by unfold maxLen; omega) hbel2.size g5 hne hb52 ?_); intro v' w3 hown3 hgr3 hne3))
        go_roundw
        case rel => exact ⟨j + 1, by omega, by go_num, by rw [kp_yes HPJ.out, cn_yes HPJ.out, ← HC.out]; exact hown3, hne3, hw2.kept hgr3 (Or.inr fun e => hne (by rw [← e]; rfl)), hbel2.grown hgr3 hbel2.size (fun k hk => (hown2.lt k hk).1)⟩
        case measure => simp [intOf]; omega
    · obtain rfl : j = m := by omega
      clear hwords
      go_wp2
      go_ret
      exact ⟨_, rfl, hown, hbel⟩
/-- What a code makes of the ring number i. -/
def rnB (o : ByteArray) (n m i : Nat) : List UInt8 := ringB o 2 n (wAt 2 m i)
def nextB (o : ByteArray) (n m i : Nat) : Nat := idxOf 2 (rnB o n m i)
def stays (o : ByteArray) (n m i : Nat) : Bool := decide (txt (rnB o n m i) = wdB 2 m i)
/-- Rings of m letters of a code of two letters. -/
structure RFit (o : ByteArray) (n m : Nat) : Prop where
  n1 : 1 ≤ n
  n4 : n ≤ 4
  os : o.size = 2 ^ n
  lo : lets (2 : Nat) o.data.toList = true
  m1 : 1 ≤ m
  m8 : m ≤ 8
  ic : isCode 2 n o = true
theorem idx_wAt {k : Nat} (hk : 1 ≤ k ∧ k ≤ 3) : ∀ n i, i < k ^ n → idxOf k (wAt k n i) = i
  | 0, i, h => by simp at h; subst h; rfl
  | n + 1, i, h => by
    have h1 : i / k < k ^ n := Nat.div_lt_of_lt_mul (by rw [Nat.pow_succ, Nat.mul_comm] at h; exact h)
    have h2 : i % k < k := Nat.mod_lt _ (by omega)
    have h3 : ((letB (i % k)).toNat : Int) = 97 + ((i % k : Nat) : Int) := letB_nat (by omega)
    have h4 := Nat.div_add_mod i k
    show idxOf k (wAt k n (i / k) ++ [letB (i % k)]) = i
    rw [idxOf_snoc, idx_wAt hk n _ h1, Nat.mul_comm]
    omega
theorem rn_facts {o : ByteArray} {n m : Nat} (h : RFit o n m) (i : Nat) : (rnB o n m i).length = m ∧ lets (2 : Nat) (rnB o n m i) = true := by
  have hl := wAt_lets (k := 2) (by omega) m i
  have h1 := wAt_len 2 m i
  have hm := h.m1
  exact ⟨(ringB_len ..).trans h1, ringB_lets (by omega) h.n1 h.lo (Nat.le_of_eq h.os.symm) hl (by omega)⟩
theorem next_lt {o : ByteArray} {n m : Nat} (h : RFit o n m) (i : Nat) : nextB o n m i < 2 ^ m := by
  have := idx_bd (rn_facts h i).2 (by omega)
  rwa [(rn_facts h i).1] at this
theorem stays_iff {o : ByteArray} {n m i : Nat} (h : RFit o n m) (hi : i < 2 ^ m) : decide (nextB o n m i = i) = stays o n m i := by
  unfold stays
  rw [decide_eq_decide]
  constructor
  · intro e
    have : rnB o n m i = wAt 2 m i := idx_inj (k := 2) (n := m) (by omega) (rn_facts h i).1 (wAt_len 2 m i) (rn_facts h i).2 (wAt_lets (k := 2) (by omega) m i) (by rw [idx_wAt (by omega) m i hi]; exact e)
    rw [this]; rfl
  · intro e
    have : rnB o n m i = wAt 2 m i := by rw [← txt_list (rnB o n m i), e]; rfl
    unfold nextB
    rw [this, idx_wAt (by omega) m i hi]
theorem ring_ok_wd {o : ByteArray} {n m : Nat} (h : RFit o n m) (i : Nat) : ringOk (2 : Nat) n o (wdB 2 m i) = true := by
  have hl := wAt_lets (k := 2) (by omega) m i
  unfold ringOk
  rw [wdB_size, wdB_list, hl, show isCode ((2 : Nat) : Int) n o = true from h.ic]
  have h1 := h.m1
  have h2 := h.m8
  simp
  omega
def nexts (o : ByteArray) (n m j : Nat) : List Int := (List.range j).map fun i => (nextB o n m i : Int)
theorem nexts_succ (o : ByteArray) (n m j : Nat) : intVals (nexts o n m (j + 1)) = intVals (nexts o n m j) ++ [.int .i64 (nextB o n m j : Int)] := by simp [nexts, intVals, List.range_succ]
theorem nexts_get {o : ByteArray} {n m j i : Nat} (h : i < j) : (nexts o n m j)[i]? = some (nextB o n m i : Int) := by simp [nexts, h]
end Go.Proofs.YtpfeflhcbcgbfaaGreatDoor
