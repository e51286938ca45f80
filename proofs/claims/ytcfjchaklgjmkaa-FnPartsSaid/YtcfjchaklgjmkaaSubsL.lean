/- Plain laws of substitutions: lengths add up, fixed starts go on. No condition. -/
import Derived.Test.YtcfjchaklgjmkaaLen
import Derived.Test.YtcfjchaklgjmkaaTimes
import Derived.Test.YtcfjchaklgjmkaaFixed
namespace Go.Proofs.Ytcfjchaklgjmkaa
open Go.RowKit

/-- The sum of a function over the letters of a word. -/
def ltSum (f : Nat → Int) : List UInt8 → Int | [] => 0 | c :: l => f (c.toNat - 97) + ltSum f l
theorem ltSum_app (f : Nat → Int) : ∀ l r, ltSum f (l ++ r) = ltSum f l + ltSum f r
  | [], r => by simp [ltSum]
  | c :: l, r => by
    show f _ + ltSum f (l ++ r) = f _ + ltSum f l + ltSum f r
    rw [ltSum_app f l r]; omega
theorem ltSum_one (l : List UInt8) : ltSum (fun _ => 1) l = l.length := by
  induction l with
  | nil => rfl
  | cons c l ih => show (1 : Int) + ltSum _ l = _; rw [ih]; simp; omega
theorem pick_sum (f : Nat → Int) (c : UInt8) : ∀ n, n ≤ 100 → 97 ≤ c.toNat → sumTo (fun t => f t * (if c = UInt8.ofNat (97 + t) then (1 : Int) else 0)) n = if c.toNat < 97 + n then f (c.toNat - 97) else 0
  | 0, _, h => by rw [if_neg (by omega)]; rfl
  | n + 1, hn, h => by
    have e : c = UInt8.ofNat (97 + n) ↔ c.toNat = 97 + n := by
      constructor
      · intro h; rw [h, UInt8.toNat_ofNat']; omega
      · intro h; rw [← h]; simp
    simp only [sumTo]
    rw [pick_sum f c n (by omega) h]
    by_cases hc : c = UInt8.ofNat (97 + n)
    · have h2 := e.1 hc
      rw [if_pos hc, if_neg (by omega), if_pos (by omega), show c.toNat - 97 = n by omega]
      omega
    · rw [if_neg hc]
      have h2 : c.toNat ≠ 97 + n := fun h => hc (e.2 h)
      by_cases h3 : c.toNat < 97 + n
      · rw [if_pos h3, if_pos (by omega)]; omega
      · rw [if_neg h3, if_neg (by omega)]; omega
theorem ltSum_cnt (f : Nat → Int) {n : Nat} (hn : n ≤ 100) : ∀ l : List UInt8, lets n l = true → ltSum f l = sumTo (fun t => f t * cnt l (UInt8.ofNat (97 + t))) n
  | [], _ => by rw [show (fun t => f t * cnt [] (UInt8.ofNat (97 + t))) = fun _ => 0 from funext fun t => by rw [cnt_nil]; omega, sumTo_zero]; rfl
  | c :: l, h => by
    unfold lets at h
    rw [List.all_cons, Bool.and_eq_true, inB_iff] at h
    rw [sumTo_congr (fun t _ => show f t * cnt (c :: l) (UInt8.ofNat (97 + t)) = f t * cnt l (UInt8.ofNat (97 + t)) + f t * (if c = UInt8.ofNat (97 + t) then (1 : Int) else 0) by rw [cnt_cons, Int.mul_add]), sumTo_add, ← ltSum_cnt f hn l h.2, pick_sum f c n hn (by omega), if_pos (by omega)]
    show f _ + ltSum f l = _
    omega
theorem lets_app {k : Int} {l r : List UInt8} : lets k (l ++ r) = (lets k l && lets k r) := by unfold lets; rw [List.all_append]
theorem word_lets {ss : List ByteArray} (h : isSubst ss = true) {c : UInt8} (hc : lets ss.length [c] = true) : lets ss.length (wordOf ss c) = true ∧ 1 ≤ (wordOf ss c).length ∧ (wordOf ss c).length ≤ 4 ∧ wordOf ss c = wl ss (c.toNat - 97) ∧ c.toNat - 97 < ss.length ∧ 97 ≤ c.toNat := by
  obtain ⟨k, s, hk, hlt, hs, hw, h4⟩ := subst_get h (l := [c]) hc (j := 0) rfl
  have hsw := subst_word h (List.mem_of_getElem? hs)
  rw [hw, size_list]
  exact ⟨hsw.2.2, hsw.1, h4, by rw [← hw]; rfl, by omega, by omega⟩
theorem lets_cons {k : Int} {c : UInt8} {l : List UInt8} (h : lets k (c :: l) = true) : lets k [c] = true ∧ lets k l = true := by
  rw [show c :: l = [c] ++ l from rfl, lets_app, Bool.and_eq_true] at h; exact h
theorem repl_lets {ss : List ByteArray} (h : isSubst ss = true) : ∀ {l : List UInt8}, lets ss.length l = true → lets ss.length (repl ss l) = true ∧ l.length ≤ (repl ss l).length ∧ (repl ss l).length ≤ 4 * l.length
  | [], _ => ⟨rfl, by simp [repl], by simp [repl]⟩
  | c :: l, hl => by
    obtain ⟨h1, h2⟩ := lets_cons hl
    obtain ⟨i1, i2, i3⟩ := repl_lets h h2
    obtain ⟨w1, w2, w3, _⟩ := word_lets h h1
    have e : repl ss (c :: l) = wordOf ss c ++ repl ss l := by simp [repl]
    rw [e, lets_app, w1, i1]
    simp only [List.length_append, List.length_cons]
    exact ⟨rfl, by omega, by omega⟩
theorem ltSum_repl {ss : List ByteArray} (h : isSubst ss = true) (f : Nat → Int) : ∀ {l : List UInt8}, lets ss.length l = true → ltSum f (repl ss l) = ltSum (fun j => sumTo (fun t => f t * at2 (ctOf ss) t j) ss.length) l
  | [], _ => by simp [repl, ltSum]
  | c :: l, hl => by
    obtain ⟨h1, h2⟩ := lets_cons hl
    obtain ⟨w1, w2, w3, w4, w5, w6⟩ := word_lets h h1
    have e : repl ss (c :: l) = wordOf ss c ++ repl ss l := by simp [repl]
    have hn := subst_len h
    rw [e, ltSum_app, ltSum_repl h f h2, ltSum_cnt f (by omega) _ w1]
    show _ = sumTo _ _ + ltSum _ l
    rw [sumTo_congr (fun t ht => show f t * cnt (wordOf ss c) (UInt8.ofNat (97 + t)) = f t * at2 (ctOf ss) t (c.toNat - 97) by rw [w4, ct_at2 h ht w5])]
/-- The length of a word that went on n times. -/
theorem itL_len {ss : List ByteArray} (h : isSubst ss = true) : ∀ (n : Nat) {l x : List UInt8}, lets ss.length l = true → itL ss l n = some x → lets ss.length x = true ∧ ∀ k, ltSum (rowsOf (at2 (ctOf ss)) ss.length k) x = ltSum (rowsOf (at2 (ctOf ss)) ss.length (k + n)) l
  | 0, l, x, hl, hx => by
    obtain rfl : l = x := by simpa [itL] using hx
    exact ⟨hl, fun k => rfl⟩
  | n + 1, l, x, hl, hx => by
    unfold itL at hx
    cases hy : itL ss l n with
    | none => rw [hy] at hx; cases hx
    | some y =>
      rw [hy] at hx
      obtain ⟨i1, i2⟩ := itL_len h n hl hy
      have hx2 : replO ss y = some x := hx
      unfold replO at hx2
      split at hx2
      · obtain rfl : repl ss y = x := by simpa using hx2
        refine ⟨(repl_lets h i1).1, fun k => ?_⟩
        rw [ltSum_repl h _ i1, show k + (n + 1) = (k + 1) + n by omega, ← i2 (k + 1)]
        rfl
      · cases hx2
theorem ltSum_nonneg {f : Nat → Int} {n : Nat} (hf : ∀ j, j < n → 0 ≤ f j) : ∀ {l : List UInt8}, lets n l = true → 0 ≤ ltSum f l ∧ ∀ c ∈ l, f (c.toNat - 97) ≤ ltSum f l
  | [], _ => ⟨Int.le_refl _, fun c hc => by simp at hc⟩
  | c :: l, hl => by
    obtain ⟨h1, h2⟩ := lets_cons hl
    obtain ⟨i1, i2⟩ := ltSum_nonneg hf h2
    unfold lets at h1
    rw [List.all_cons, Bool.and_eq_true, inB_iff] at h1
    have h3 := hf (c.toNat - 97) (by omega)
    refine ⟨by show 0 ≤ f _ + _; omega, fun d hd => ?_⟩
    show f (d.toNat - 97) ≤ f _ + ltSum f l
    rcases List.mem_cons.1 hd with rfl | hd
    · omega
    · have := i2 d hd; omega
/-- Lengths of letters' words add up to the word's. -/
theorem times_len {ss : List ByteArray} {s : ByteArray} {m : Int} {x : List UInt8} (hx : timesO ss s m = some x) : ltSum (fun j => lenOf ss j m) s.data.toList = x.length ∧ lets ss.length s.data.toList = true := by
  unfold timesO at hx
  split at hx
  · rename_i hc
    obtain ⟨h, hl, hm⟩ := hc
    rw [inB_iff] at hm
    obtain ⟨hl1, hl2⟩ := longB_iff.1 hl
    obtain ⟨i1, i2⟩ := itL_len h m.toNat hl1 hx
    have i3 := i2 0
    rw [show rowsOf (at2 (ctOf ss)) ss.length 0 = fun _ => 1 from rfl, ltSum_one, Nat.zero_add] at i3
    have hnn := fun j hj => rows_nonneg (M := at2 (ctOf ss)) (n := ss.length) (fun i j hi hj => ((ct_facts h).1 i j hi hj).1) m.toNat j hj
    obtain ⟨_, n2⟩ := ltSum_nonneg hnn hl1
    have hxl : x.length ≤ 300 := by
      cases hmn : m.toNat with
      | zero =>
        rw [hmn] at hx
        obtain rfl : s.data.toList = x := by simpa [itL] using hx
        rw [size_list]; exact hl2
      | succ q =>
        rw [hmn] at hx
        unfold itL at hx
        cases hy : itL ss s.data.toList q with
        | none => rw [hy] at hx; cases hx
        | some y => rw [hy] at hx; exact replO_len (show replO ss y = some x from hx)
    refine ⟨?_, hl1⟩
    rw [i3]
    have hall : ∀ c ∈ s.data.toList, lenOf ss ((c.toNat - 97 : Nat) : Int) m = rowsOf (at2 (ctOf ss)) ss.length m.toNat (c.toNat - 97) := fun c hc => by
      have h1 := List.all_eq_true.1 hl1 c hc
      rw [inB_iff] at h1
      have h2 := n2 c hc
      unfold lenOf
      rw [if_pos ⟨h, ⟨by omega, by omega⟩, by omega, by omega⟩, Int.toNat_natCast, if_pos (by omega)]
    clear i3 i2 i1 n2 hx hl hl1 hl2 hxl
    generalize s.data.toList = l at hall
    induction l with
    | nil => rfl
    | cons c l ih =>
      show lenOf ss ((c.toNat - 97 : Nat) : Int) m + ltSum _ l = _ + ltSum _ l
      rw [hall c (List.mem_cons_self ..), ih fun d hd => hall d (List.mem_cons_of_mem _ hd)]
  · cases hx
/-- A fixed sequence's start is what the substitution makes of an earlier start. -/
theorem fsN_repl {ss : List ByteArray} (h : isSubst ss = true) {w0 : List UInt8} (hw : lets ss.length w0 = true) (h2 : 2 ≤ w0.length) (h4 : w0.length ≤ 4) (h0 : wordOf ss (w0.getD 0 0) = w0) : ∀ k, fsN ss w0 k = repl ss ((fsN ss w0 k).take (k + 1))
  | 0 => by
    obtain ⟨c, l, rfl⟩ : ∃ c l, w0 = c :: l := by cases w0 with | nil => simp at h2 | cons c l => exact ⟨c, l, rfl⟩
    have h0' : wordOf ss c = c :: l := h0
    simp [fsN, repl, h0']
  | k + 1 => by
    obtain ⟨i1, i2, i3⟩ := fsN_inv h hw h2 h4 k
    obtain ⟨c, hc⟩ := get_some (l := fsN ss w0 k) (n := k + 1) (by omega)
    have e : fsN ss w0 (k + 1) = fsN ss w0 k ++ wordOf ss c := by
      show fsN ss w0 k ++ wordOf ss ((fsN ss w0 k).getD (k + 1) 0) = _
      rw [List.getD_eq_getElem?_getD, hc, Option.getD_some]
    have et : (fsN ss w0 (k + 1)).take (k + 1 + 1) = (fsN ss w0 k).take (k + 1) ++ [c] := by
      rw [e, List.take_append_of_le_length (by omega), List.take_add_one, hc]; rfl
    rw [et, repl_snoc, ← fsN_repl h hw h2 h4 h0 k, e]
theorem fix_facts {ss : List ByteArray} {x m : Int} {a : List UInt8} (ha : fixO ss x m = some a) : (a.length : Int) = m ∧ lets ss.length a = true ∧ isSubst ss = true ∧ (repl ss a).take m.toNat = a := by
  unfold fixO at ha
  split at ha
  · rename_i hc
    obtain ⟨h, hx, hm, hsz, hfst⟩ := hc
    obtain ⟨s, hs⟩ := get_some (l := ss) (n := x.toNat) (by omega)
    have hgd : ss.getD x.toNat ByteArray.empty = s := by rw [List.getD_eq_getElem?_getD, hs]; rfl
    rw [hgd] at hsz hfst ha
    have hsw := subst_word h (List.mem_of_getElem? hs)
    obtain ⟨w0, hw0⟩ : ∃ w0, w0 = s.data.toList := ⟨_, rfl⟩
    have hl0 : w0.length = s.size := by rw [hw0, size_list]
    rw [← hw0] at hfst ha hsw
    have h0 : wordOf ss (w0.getD 0 0) = w0 := by
      rw [wordOf, show (w0.getD 0 0).toNat - 97 = x.toNat by omega, List.getD_eq_getElem?_getD, hs, hw0]; rfl
    obtain ⟨i1, i2, i3⟩ := fsN_inv h hsw.2.2 (by omega) (by omega) m.toNat
    have hr := fsN_repl h hsw.2.2 (by omega) (by omega) h0 m.toNat
    obtain rfl : (fsN ss w0 m.toNat).take m.toNat = a := by simpa using ha
    have hlen : ((fsN ss w0 m.toNat).take m.toNat).length = m.toNat := by simp; omega
    have hlets : lets ss.length ((fsN ss w0 m.toNat).take m.toNat) = true := by
      rw [← List.take_append_drop m.toNat (fsN ss w0 m.toNat), lets_app, Bool.and_eq_true] at i1; exact i1.1
    refine ⟨by omega, hlets, h, ?_⟩
    obtain ⟨c, hc⟩ := get_some (l := fsN ss w0 m.toNat) (n := m.toNat) (by omega)
    rw [repl_take hc] at hr
    have hrl := (repl_lets h hlets).2.1
    conv => rhs; rw [hr]
    rw [List.take_append_of_le_length (by omega)]
  · cases ha
end Go.Proofs.Ytcfjchaklgjmkaa
