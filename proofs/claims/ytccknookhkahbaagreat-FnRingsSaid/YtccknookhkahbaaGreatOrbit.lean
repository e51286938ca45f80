/- Where words that come of a word begin to come again: the plain law, and the program's map. No condition. -/
import Derived.Test.YtccknookhkahbaaGreatRing
import Derived.WalkArith
import Derived.Maps.Own
import Derived.Maps.OwnOps
import Derived.Maps.OwnSet
import Derived.Maps.Views
namespace Go.Proofs.YtccknookhkahbaaGreat
open Go.RowKit

def itr (f : List UInt8 → List UInt8) (l : List UInt8) : Nat → List UInt8 | 0 => l | n + 1 => f (itr f l n)
/-- The first n words are different. -/
def Fresh (f : List UInt8 → List UInt8) (l : List UInt8) (n : Nat) : Prop := ∀ i j, i < j → j < n → itr f l i ≠ itr f l j
/-- They come again from t on, after p steps. -/
structure IsTail (f : List UInt8 → List UInt8) (l : List UInt8) (t p : Nat) : Prop where
  pos : 1 ≤ p
  eq : itr f l (t + p) = itr f l t
  new : Fresh f l (t + p)
theorem isTail_unique {f : List UInt8 → List UInt8} {l : List UInt8} {t p t' p' : Nat} (h : IsTail f l t p) (h' : IsTail f l t' p') : t = t' ∧ p = p' := by
  have key : ∀ {t p t' p' : Nat}, IsTail f l t p → IsTail f l t' p' → t' + p' ≤ t + p := fun {t p t' p'} h h' => by
    refine Nat.le_of_not_lt fun hlt => ?_
    exact h'.new t (t + p) (by have := h.pos; omega) hlt h.eq.symm
  have e : t + p = t' + p' := Nat.le_antisymm (key h' h) (key h h')
  have ht : t = t' := by
    have e2 : itr f l t = itr f l t' := by rw [← h.eq, ← h'.eq, e]
    rcases Nat.lt_trichotomy t t' with hlt | heq | hgt
    · exact absurd e2 (h.new t t' hlt (by have := h'.pos; omega))
    · exact heq
    · exact absurd e2.symm (h.new t' t hgt (by have := h.pos; omega))
  exact ⟨ht, by omega⟩

theorem idxOf_snoc (k : Nat) (l : List UInt8) (c : UInt8) : idxOf k (l ++ [c]) = idxOf k l * k + (c.toNat - 97) := by simp [idxOf, List.foldl_append]
theorem wAt_idx {k : Nat} (hk : k ≤ 3) : ∀ (n : Nat) (l : List UInt8), l.length = n → lets k l = true → wAt k n (idxOf k l) = l
  | 0, l, hl, _ => by rw [List.eq_nil_of_length_eq_zero hl]; rfl
  | n + 1, l, hl, h => by
    have hne : l ≠ [] := by intro h0; rw [h0] at hl; simp at hl
    obtain ⟨l', c, rfl⟩ : ∃ l' c, l = l' ++ [c] := ⟨l.dropLast, l.getLast hne, (List.dropLast_concat_getLast hne).symm⟩
    have hl' : l'.length = n := by simpa using hl
    unfold lets at h
    rw [List.all_append, Bool.and_eq_true] at h
    have hc := h.2
    simp only [List.all_cons, List.all_nil, Bool.and_true] at hc
    rw [inB_iff] at hc
    have hcl : letB (c.toNat - 97) = c := by
      unfold letB
      rw [show 97 + (c.toNat - 97) = c.toNat by omega]; simp
    rw [idxOf_snoc, wAt_next (by omega), wAt_idx hk n l' hl' h.1, hcl]
theorem idx_inj {k n : Nat} (hk : k ≤ 3) {a b : List UInt8} (ha : a.length = n) (hb : b.length = n) (hla : lets k a = true) (hlb : lets k b = true) (h : idxOf k a = idxOf k b) : a = b := by
  rw [← wAt_idx hk n a ha hla, ← wAt_idx hk n b hb hlb, h]
theorem pigeon : ∀ (m : Nat) (l : List Nat), l.Nodup → (∀ x ∈ l, x < m) → l.length ≤ m
  | 0, l, _, h => by
    cases l with
    | nil => simp
    | cons x _ => exact absurd (h x (by simp)) (by omega)
  | m + 1, l, hd, h => by
    by_cases hm : m ∈ l
    · have h1 := pigeon m (l.erase m) (hd.erase m) (fun x hx => by
        have h2 := (hd.mem_erase_iff).1 hx
        have h3 := h x h2.2
        omega)
      rw [List.length_erase_of_mem hm] at h1
      omega
    · have h1 := pigeon m l hd (fun x hx => by
        have h3 := h x hx
        have : x ≠ m := fun e => hm (e ▸ hx)
        omega)
      omega
theorem fresh_le {f : List UInt8 → List UInt8} {l : List UInt8} {k L n : Nat} (hk : k ≤ 3) (hw : ∀ i, (itr f l i).length = L ∧ lets k (itr f l i) = true) (h : Fresh f l n) : n ≤ k ^ L := by
  have h1 := pigeon (k ^ L) ((List.range n).map fun i => idxOf k (itr f l i)) (by
    rw [List.nodup_iff_pairwise_ne, List.pairwise_map]
    refine List.Pairwise.imp_of_mem (R := (· < ·)) (fun {a b} ha hb hab e => ?_) (List.pairwise_lt_range)
    exact h a b hab (List.mem_range.1 hb) (idx_inj hk (hw a).1 (hw b).1 (hw a).2 (hw b).2 e)) (fun x hx => by
      obtain ⟨i, _, rfl⟩ := List.mem_map.1 hx
      have := idx_bd (hw i).2 hk
      rwa [(hw i).1] at this)
  simpa using h1
theorem ring_words {k n : Nat} {o : ByteArray} {l : List UInt8} (hk : k ≤ 3) (hn : 1 ≤ n) (ho : lets k o.data.toList = true) (hos : k ^ n ≤ o.size) (hl : lets k l = true) (hl0 : 0 < l.length) : ∀ i, (itr (ringB o k n) l i).length = l.length ∧ lets k (itr (ringB o k n) l i) = true
  | 0 => ⟨rfl, hl⟩
  | i + 1 => by
    obtain ⟨h1, h2⟩ := ring_words hk hn ho hos hl hl0 i
    exact ⟨(ringB_len ..).trans h1, ringB_lets hk hn ho hos h2 (by omega)⟩

/-! The map of what has been seen. -/
def seenD (f : List UInt8 → List UInt8) (l : List UInt8) : Nat → DataW Unit | 0 => .map [] | n + 1 => (seenD f l n).put (.string (itr f l n)) (.lit (.int .i64 n))
theorem seen_isMap (f : List UInt8 → List UInt8) (l : List UInt8) : ∀ n, Maps.IsMap (seenD f l n)
  | 0 => ⟨[], rfl⟩
  | n + 1 => (seen_isMap f l n).put _ _
theorem keyLit (l : List UInt8) : WideAt.IsKeyLit (.string l) := trivial
theorem seen_has (f : List UInt8 → List UInt8) (l : List UInt8) (x : List UInt8) : ∀ n, Maps.has (seenD f l n) (.string x) = true ↔ ∃ i, i < n ∧ itr f l i = x
  | 0 => by simp [seenD, Maps.has]
  | n + 1 => by
    by_cases h : itr f l n = x
    · constructor
      · exact fun _ => ⟨n, by omega, h⟩
      · intro _; rw [← h]; exact Maps.has_put_same (seen_isMap f l n) (keyLit _) _
    · rw [seenD, Maps.has_put_other (by intro e; injection e with e; exact h e.symm), seen_has f l x n]
      constructor
      · rintro ⟨i, hi, hx⟩; exact ⟨i, by omega, hx⟩
      · rintro ⟨i, hi, hx⟩
        refine ⟨i, ?_, hx⟩
        rcases Nat.lt_or_ge i n with h1 | h1
        · exact h1
        · obtain rfl : i = n := by omega
          exact absurd hx h
theorem seen_at {f : List UInt8 → List UInt8} {l : List UInt8} (z : DataW Unit) : ∀ {n i : Nat}, Fresh f l n → i < n → (seenD f l n).atKey (.string (itr f l i)) z = .lit (.int .i64 i)
  | n + 1, i, hf, hi => by
    by_cases h : i = n
    · subst h; exact Maps.atKey_put_same (seen_isMap f l i) (keyLit _) _ _
    · rw [seenD, Maps.atKey_put_other (by intro e; injection e with e; exact hf i n (by omega) (by omega) e)]
      exact seen_at z (fun a b hab hb => hf a b hab (by omega)) (by omega)
theorem wf_small (j : Nat) (h : j ≤ 1000000) : (Lit.int .i64 (j : Int)).wf = true := by
  exact Go.WalkArith.wf_i64 (by omega)
theorem owns_map_below {w w' : World} {P : Program} {k : TypeId} {R : Value → Option (DataW Unit × List MemPlace)} {b n : Nat} {D : DataW Unit} (h : w.ownsMap P k R b n D) (hb : Below w.heap.size w w') : w'.ownsMap P k R b n D := by
  obtain ⟨es, clock, h1, h2⟩ := h
  exact ⟨es, clock, by rw [hb.block b (Array.getElem?_eq_some_iff.1 h1).1]; exact h1, h2⟩
/-- A tail found. -/
def TailPost (f : List UInt8 → List UInt8) (l : List UInt8) (w : World) (e : Ending) (w' : World) : Prop := ∃ t p : Nat, IsTail f l t p ∧ t + p ≤ 6561 ∧ e = .returned (.tuple #[.int .i64 t, .int .i64 p]) ∧ Below w.heap.size w w'

theorem zeroInt (w : World) : (zeroValue 3).run Tryz.prog w = .ok (.int .i64 0) w := by kernel_rfl
set_option maxHeartbeats 2000000 in
set_option maxRecDepth 100000 in
theorem impl_tail_c (k n : Nat) (o s : ByteArray) (w : World) (hk : k = 2 ∨ k = 3) (hn1 : 1 ≤ n) (hn : n ≤ 4) (ho : o.size = k ^ n) (hlo : lets k o.data.toList = true) (hl : lets k s.data.toList = true) (hs : 1 ≤ s.size) (hs8 : s.size ≤ 8) :
    Calls Tryz.prog 29 #[.agg #[.int .i64 k, .int .i64 n, .string o], .string s] w (TailPost (ringB o k n) s.data.toList w) := by
  have hk3 : k ≤ 3 := by omega
  have hl0 : 0 < s.data.toList.length := by rw [size_list]; exact hs
  have hw := ring_words (l := s.data.toList) hk3 hn1 hlo (Nat.le_of_eq ho.symm) hl hl0
  obtain ⟨f, hf⟩ : ∃ f, f = ringB o k n := ⟨_, rfl⟩
  rw [← hf] at hw
  rw [← hf]
  have HRG := hid (fun (i : Nat) (w : World) => show Calls Tryz.prog 34 #[.agg #[.int .i64 k, .int .i64 n, .string o], .string (txt (itr f s.data.toList i))] w fun e w' => e = .returned (.string (txt (itr f s.data.toList (i + 1)))) ∧ Below w.heap.size w w' from by
    have h1 := hw i
    rw [size_list] at h1
    have := impl_ring_c k n o (txt (itr f s.data.toList i)) w hk3 hn1 hn (Nat.le_of_eq ho.symm) h1.2 (by rw [txt_size]; omega) (by rw [txt_size]; omega)
    rw [txt_list, ← hf] at this
    exact this)
  have HFL := hid (fun (m : Nat) (h : Fresh f s.data.toList m) => show m ≤ 6561 from by
    have h1 := fresh_le hk3 (L := s.size) (fun i => by rw [← size_list]; exact hw i) h
    exact Nat.le_trans h1 (pow_small hk3 hs8))
  obtain ⟨l, hll⟩ : ∃ l, l = s.data.toList := ⟨_, rfl⟩
  have hsl : s = txt l := by rw [hll]; rfl
  have HKEY := hid (fun (i : Nat) => show keyOf Tryz.prog 9 (.string (txt (itr f l i))) = some (.string (itr f l i)) from WideMaps.keyOf_string_mk Tryz.underlying9 (by rw [hll, txt_size, (hw i).1, size_list]; unfold maxLen; omega))
  rw [← hll] at HRG HFL
  rw [← hll, hsl]
  have hmm := @run_makeMap Tryz.prog
  have hlaw : Maps.Keyed Tryz.prog 9 := Maps.string_keyed Tryz.underlying9
  clear hf hw hl0 hl hlo ho hk hll hsl hs hs8
  go_enter Tryz.func29, Tryz.ntmps29
  go_wp2
  go_loopw [1, 7] (fun v i wr => ∃ j : Nat, i = .int .i64 j ∧ v = .string (txt (itr f l j)) ∧ Hid (Fresh f l j) ∧ wr.ownsMap Tryz.prog 9 (plainElem Tryz.prog 3) (w.heap.size + 1) j (seenD f l j) ∧ Below (w.heap.size + 1) (w.alloc (.cells #[.int .i64 k, .int .i64 n, .string o] 25)) wr) (fun _ i _ => 10000 - (intOf i).toNat)
  case atStart => exact ⟨0, rfl, rfl, fun i j _ h => absurd h (by omega), by simpa [seenD] using World.ownsMap_made (w.alloc (.cells #[.int .i64 k, .int .i64 n, .string o] 25)) _ _ _, (Below.refl _ _).alloc (by simp) _⟩
  case round =>
    obtain ⟨j, rfl, rfl, HF, hown, hbel⟩ := hrel
    have hjb := HFL.out j HF.out
    have hbox := box_kept hbel
    have hc0 : wr.cell? ⟨w.heap.size, 0, none⟩ = some (.int .i64 k) := (hbox 0).1
    have hc1 : wr.cell? ⟨w.heap.size, 1, none⟩ = some (.int .i64 n) := (hbox 1).1
    have hc2 : wr.cell? ⟨w.heap.size, 2, none⟩ = some (.string o) := (hbox 2).1
    have hsz : w.heap.size + 1 ≤ wr.heap.size := by have := hbel.size; simpa using this
    clear hbox
    have hkey := HKEY.out j
    have HSH := hid (seen_has f l (itr f l j) j)
    obtain ⟨x, hx⟩ : ∃ x, x = txt (itr f l j) := ⟨_, rfl⟩
    have HX := hid hx
    rw [← hx] at hkey
    rw [← hx]
    cases hh : Maps.has (seenD f l j) (.string (itr f l j))
    · have HNO := hid (show Fresh f l (j + 1) from fun a b hab hb => by
        rcases Nat.lt_or_ge b j with h1 | h1
        · exact HF.out a b hab h1
        · obtain rfl : b = j := by omega
          intro e
          have := HSH.out.2 ⟨a, hab, e⟩
          rw [hh] at this; cases this)
      clear hx
      have hwf : (Lit.int .i64 (j : Int)).wf = true := wf_small j (by omega)
      have HRj := hid (HRG.out j)
      rw [← HX.out] at HRj
      go_wp2_with (first | (at_lookup; refine wpList_lookup_own_ok_int _ rfl _ _ 76 rfl 9 3 .i64 hlaw Tryz.underlying76 Tryz.underlying3 (zeroInt _) (w.heap.size + 1) j _ rfl hown _ _ rfl hkey ?_; intro c hat hwc; clear hat hwc) | (at_mapUpdate; refine wpList_mapUpdate_own _ rfl _ _ _ 76 rfl 9 3 hlaw Tryz.underlying76 _ (w.heap.size + 1) j _ rfl hown (by unfold maxLen; omega) _ _ _ rfl rfl hkey _ [] (plainElem_int Tryz.underlying3 hwf) ?_; intro w1 hown1 hgrow1; have hbel1 := hbel.grown hgrow1 hsz (by rintro q ⟨⟩; exact Nat.le_refl _); have hd0 : w1.cell? ⟨w.heap.size, 0, none⟩ = some (.int .i64 k) := (box_kept hbel1 0).1; have hd1 : w1.cell? ⟨w.heap.size, 1, none⟩ = some (.int .i64 n) := (box_kept hbel1 1).1; have hd2 : w1.cell? ⟨w.heap.size, 2, none⟩ = some (.string o) := (box_kept hbel1 2).1; have hsz1 : w.heap.size + 1 ≤ w1.heap.size := Nat.le_trans hsz hgrow1.size))
      refine (HRj.out _).mono ?_
      rintro e w2 ⟨rfl, hb2⟩
      have hown2 := owns_map_below hown1 hb2
      go_wp2
      go_roundw
      case rel => exact ⟨j + 1, by go_num, rfl, HNO.out, by exact hown2, hbel1.trans (hb2.mono hsz1)⟩
      case measure => simp [intOf]; omega
    · obtain ⟨i, hij, hxi⟩ := HSH.out.1 hh
      have HAT := hid (show (seenD f l j).atKey (.string (itr f l j)) (.lit (.int .i64 0)) = .lit (.int .i64 (i : Int)) by rw [← hxi]; exact seen_at _ HF.out hij)
      have HXI := hid hxi
      clear hx hxi
      go_wp2_with (first | (at_lookup; refine wpList_lookup_own_ok_int _ rfl _ _ 76 rfl 9 3 .i64 hlaw Tryz.underlying76 Tryz.underlying3 (zeroInt _) (w.heap.size + 1) j _ rfl hown _ _ rfl hkey ?_; intro c hat hwc; rw [HAT.out] at hat; obtain rfl : (i : Int) = c := (by injection hat with e1; injection e1); clear hat hwc))
      go_ret2
      have hlt : i < j := hij
      refine ⟨i, j - i, ⟨by omega, by rw [show i + (j - i) = j by omega]; exact HXI.out.symm, by rw [show i + (j - i) = j by omega]; exact HF.out⟩, by omega, ?_, ((Below.refl _ _).alloc (Nat.le_refl _) _).trans (hbel.mono (by omega))⟩
      refine (show _ = Ending.returned (.tuple #[.int .i64 (i : Int), .int .i64 ((j : Int) - (i : Int))]) from rfl).trans ?_
      rw [Int.ofNat_sub (Nat.le_of_lt hlt)]
end Go.Proofs.YtccknookhkahbaaGreat
