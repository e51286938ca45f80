/- Rings that stay are the closed walks of windows that are good. No condition but a code that fits. -/
import Derived.Test.YtccknookhkahbaaGreatLen
import Derived.Test.YtccknookhkahbaaGreatFixedR
namespace Go.Proofs.YtccknookhkahbaaGreat
open Go.RowKit

def ind (b : Bool) : Int := if b then 1 else 0
theorem ind_bd (b : Bool) : 0 ≤ ind b ∧ ind b ≤ 1 := by cases b <;> simp [ind]
theorem sumTo_double (f : Nat → Int) : ∀ n, sumTo f (2 * n) = sumTo (fun i => f (2 * i) + f (2 * i + 1)) n
  | 0 => rfl
  | n + 1 => by
    show sumTo f (2 * n + 2) = _
    simp only [sumTo]
    rw [sumTo_double f n]; omega
theorem sumTo_plus (f : Nat → Int) (p : Nat) : ∀ q, sumTo f (p + q) = sumTo f p + sumTo (fun x => f (p + x)) q
  | 0 => by simp [sumTo]
  | q + 1 => by
    show sumTo f (p + q) + f (p + q) = _
    rw [sumTo_plus f p q]; simp only [sumTo]; omega
theorem sumTo_block (f : Nat → Int) (b : Nat) : ∀ a, sumTo f (a * b) = sumTo (fun u => sumTo (fun x => f (u * b + x)) b) a
  | 0 => by simp [sumTo]
  | a + 1 => by
    rw [Nat.succ_mul, sumTo_plus, sumTo_block f b a]; rfl
theorem sumTo_delta0 (f : Nat → Int) {i : Nat} : ∀ {n : Nat}, n ≤ i → sumTo (fun j => if j = i then f j else 0) n = 0
  | 0, _ => rfl
  | n + 1, h => by
    simp only [sumTo]
    rw [sumTo_delta0 f (by omega), if_neg (by omega)]; rfl
theorem sumTo_delta (f : Nat → Int) {i : Nat} : ∀ {n : Nat}, i < n → sumTo (fun j => if j = i then f j else 0) n = f i
  | n + 1, h => by
    simp only [sumTo]
    by_cases hi : i = n
    · subst hi; rw [sumTo_delta0 f (Nat.le_refl _), if_pos rfl]; omega
    · rw [sumTo_delta f (by omega), if_neg (fun e => hi e.symm)]; omega
theorem sumTo_filter (p : Nat → Bool) : ∀ n, sumTo (fun i => ind (p i)) n = (((List.range n).filter p).length : Int)
  | 0 => rfl
  | n + 1 => by
    simp only [sumTo]
    rw [sumTo_filter p n, List.range_succ, List.filter_append, List.length_append]
    cases h : p n <;> simp [ind, h]
theorem sumTo_ind_bd (p : Nat → Bool) (n : Nat) : 0 ≤ sumTo (fun i => ind (p i)) n ∧ sumTo (fun i => ind (p i)) n ≤ n := by
  rw [sumTo_filter]
  have := List.length_filter_le p (List.range n)
  rw [List.length_range] at this
  omega
/-- Whether the windows behind the last t letters of X are good; S: how many ends there are. -/
def gw (good : Nat → Bool) (S X : Nat) : Nat → Bool
  | 0 => true
  | t + 1 => good (X % (2 * S)) && gw good S (X / 2) t
theorem gw_succ (good : Nat → Bool) (S X t : Nat) : gw good S X (t + 1) = (good (X % (2 * S)) && gw good S (X / 2) t) := rfl
theorem gw_iff (good : Nat → Bool) (S : Nat) : ∀ t X, gw good S X t = true ↔ ∀ j, j < t → good (X / 2 ^ j % (2 * S)) = true
  | 0, X => by simp [gw]
  | t + 1, X => by
    rw [gw_succ, Bool.and_eq_true, gw_iff good S t (X / 2)]
    constructor
    · rintro ⟨h1, h2⟩ j hj
      cases j with
      | zero => simpa using h1
      | succ j =>
        have := h2 j (by omega)
        rwa [Nat.div_div_eq_div_mul, Nat.mul_comm 2, ← Nat.pow_succ] at this
    · intro h
      refine ⟨by simpa using h 0 (by omega), fun j hj => ?_⟩
      have := h (j + 1) (by omega)
      rwa [Nat.div_div_eq_div_mul, Nat.mul_comm 2, ← Nat.pow_succ]
/-- How many walks of t letters lead from u to v. -/
def wkN (good : Nat → Bool) (S u t v : Nat) : Int := sumTo (fun x => ind (gw good S (u * 2 ^ t + x) t && decide ((u * 2 ^ t + x) % S = v))) (2 ^ t)
def mAt (good : Nat → Bool) (S u v : Nat) : Int := ind (good (2 * u) && decide (2 * u % S = v)) + ind (good (2 * u + 1) && decide ((2 * u + 1) % S = v))
theorem two_mod (S X b : Nat) (hb : b < 2) : (2 * X + b) % (2 * S) = 2 * (X % S) + b := by
  rcases Nat.eq_zero_or_pos S with rfl | hS
  · simp
  · have h1 := Nat.div_add_mod X S
    have h2 := Nat.mod_lt X hS
    have e : 2 * X + b = (2 * (X % S) + b) + 2 * S * (X / S) := by rw [Nat.mul_assoc]; omega
    rw [e, Nat.add_mul_mod_self_left, Nat.mod_eq_of_lt (by omega)]
theorem two_mod2 (S X b : Nat) : (2 * X + b) % S = (2 * (X % S) + b) % S := by
  rw [Nat.add_mod, Nat.mul_mod, ← Nat.add_mod]
  conv => rhs; rw [Nat.add_mod, Nat.mul_mod, Nat.mod_mod, ← Nat.add_mod]
theorem wkN_term (good : Nat → Bool) (S X t v b : Nat) (hb : b < 2) : ind (gw good S (2 * X + b) (t + 1) && decide ((2 * X + b) % S = v)) = ind (gw good S X t) * ind (good (2 * (X % S) + b) && decide ((2 * (X % S) + b) % S = v)) := by
  rw [gw_succ, two_mod S X b hb, two_mod2 S X b, show (2 * X + b) / 2 = X by omega]
  cases good (2 * (X % S) + b) <;> cases gw good S X t <;> simp [ind]
theorem wkN_step (good : Nat → Bool) {S : Nat} (hS : 0 < S) (u t v : Nat) : wkN good S u (t + 1) v = sumTo (fun w => wkN good S u t w * mAt good S w v) S := by
  have e1 : wkN good S u (t + 1) v = sumTo (fun x => ind (gw good S (u * 2 ^ t + x) t) * mAt good S ((u * 2 ^ t + x) % S) v) (2 ^ t) := by
    unfold wkN
    rw [Nat.pow_succ, Nat.mul_comm (2 ^ t) 2, sumTo_double]
    refine sumTo_congr fun x _ => ?_
    have h0 : u * (2 * 2 ^ t) + 2 * x = 2 * (u * 2 ^ t + x) + 0 := by rw [Nat.mul_add, Nat.mul_left_comm]; rfl
    have h1 : u * (2 * 2 ^ t) + (2 * x + 1) = 2 * (u * 2 ^ t + x) + 1 := by rw [Nat.mul_add, Nat.mul_left_comm]; omega
    rw [h0, h1, wkN_term _ _ _ _ _ _ (by omega), wkN_term _ _ _ _ _ _ (by omega), ← Int.mul_add]
    rfl
  rw [e1]
  have e2 : ∀ w, wkN good S u t w * mAt good S w v = sumTo (fun x => ind (gw good S (u * 2 ^ t + x) t && decide ((u * 2 ^ t + x) % S = w)) * mAt good S w v) (2 ^ t) := fun w => (sumTo_mul _ _ _).symm
  rw [sumTo_congr (fun w _ => e2 w), sumTo_comm]
  refine sumTo_congr fun x _ => ?_
  have e3 : ∀ w, ind (gw good S (u * 2 ^ t + x) t && decide ((u * 2 ^ t + x) % S = w)) * mAt good S w v = if w = (u * 2 ^ t + x) % S then ind (gw good S (u * 2 ^ t + x) t) * mAt good S w v else 0 := fun w => by
    by_cases h : w = (u * 2 ^ t + x) % S
    · rw [if_pos h, decide_eq_true h.symm, Bool.and_true]
    · rw [if_neg h, decide_eq_false (fun e => h e.symm), Bool.and_false]; simp [ind]
  rw [sumTo_congr (fun w _ => e3 w), sumTo_delta (fun w => ind (gw good S (u * 2 ^ t + x) t) * mAt good S w v) (Nat.mod_lt _ hS)]
theorem wkN_zero (good : Nat → Bool) {S u : Nat} (hu : u < S) (v : Nat) : wkN good S u 0 v = if u = v then 1 else 0 := by
  unfold wkN
  show (0 : Int) + _ = _
  simp only [gw, Nat.pow_zero, Nat.mul_one, Nat.add_zero, Bool.true_and, Nat.mod_eq_of_lt hu]
  by_cases h : u = v <;> simp [h, ind]
theorem wkN_bd (good : Nat → Bool) (S u t v : Nat) : 0 ≤ wkN good S u t v ∧ wkN good S u t v ≤ (2 ^ t : Nat) := sumTo_ind_bd _ _
theorem trace_law (good : Nat → Bool) {S k : Nat} (V : Nat → Nat) (hV : ∀ y, y < 2 ^ k → V y < S ∧ ∀ v, v < S → (v = (y * S + v) / 2 ^ k ↔ v = V y)) :
    sumTo (fun u => wkN good S u k u) S = (((List.range (2 ^ k)).filter fun y => gw good S (y * S + V y) k).length : Int) := by
  have hp : 0 < 2 ^ k := Nat.pow_pos (by omega)
  have e1 : sumTo (fun u => wkN good S u k u) S = sumTo (fun X => ind (gw good S X k && decide (X % S = X / 2 ^ k))) (S * 2 ^ k) := by
    rw [sumTo_block]
    refine sumTo_congr fun u _ => sumTo_congr fun x hx => ?_
    have : (u * 2 ^ k + x) / 2 ^ k = u := by rw [Nat.add_comm, Nat.add_mul_div_right _ _ hp, Nat.div_eq_of_lt hx, Nat.zero_add]
    rw [this]
  rw [e1, Nat.mul_comm, sumTo_block, ← sumTo_filter]
  refine sumTo_congr fun y hy => ?_
  obtain ⟨h1, h2⟩ := hV y hy
  have e2 : ∀ v, v < S → ind (gw good S (y * S + v) k && decide ((y * S + v) % S = (y * S + v) / 2 ^ k)) = if v = V y then ind (gw good S (y * S + v) k) else 0 := fun v hv => by
    have e3 : (y * S + v) % S = v := by rw [Nat.add_comm, Nat.add_mul_mod_self_right, Nat.mod_eq_of_lt hv]
    rw [e3]
    by_cases h : v = V y
    · rw [if_pos h, decide_eq_true ((h2 v hv).2 h), Bool.and_true]
    · rw [if_neg h, decide_eq_false (fun e => h ((h2 v hv).1 e)), Bool.and_false]; rfl
  rw [sumTo_congr (fun v hv => e2 v hv), sumTo_delta (fun v => ind (gw good S (y * S + v) k)) h1]
end Go.Proofs.YtccknookhkahbaaGreat
namespace Go.Proofs.YtccknookhkahbaaGreat
open Go.RowKit

theorem foldl_idx (k : Nat) : ∀ (l : List UInt8) (s : Nat), l.foldl (fun a c => a * k + (c.toNat - 97)) s = s * k ^ l.length + idxOf k l
  | [], s => by simp [idxOf]
  | c :: l, s => by
    show l.foldl _ (s * k + (c.toNat - 97)) = _
    rw [foldl_idx k l, show idxOf k (c :: l) = (0 * k + (c.toNat - 97)) * k ^ l.length + idxOf k l from foldl_idx k l _, List.length_cons, Nat.pow_succ, Nat.zero_mul, Nat.zero_add, Nat.add_mul, Nat.mul_assoc, Nat.mul_comm k, Nat.add_assoc]
theorem idxOf_append (k : Nat) (a b : List UInt8) : idxOf k (a ++ b) = idxOf k a * k ^ b.length + idxOf k b := by
  show (a ++ b).foldl _ 0 = _
  rw [List.foldl_append]
  exact foldl_idx k b (idxOf k a)
theorem wAt_split (k a : Nat) : ∀ b X, wAt k (a + b) X = wAt k a (X / k ^ b) ++ wAt k b X
  | 0, X => by simp [wAt]
  | b + 1, X => by
    show wAt k (a + b) (X / k) ++ [letB (X % k)] = wAt k a (X / k ^ (b + 1)) ++ (wAt k b (X / k) ++ [letB (X % k)])
    rw [wAt_split k a b, Nat.div_div_eq_div_mul, ← List.append_assoc, Nat.pow_succ, Nat.mul_comm k]
theorem wAt_low {k : Nat} (hk : 0 < k) (y : Nat) : ∀ e v, wAt k e (y * k ^ e + v) = wAt k e v
  | 0, _ => rfl
  | e + 1, v => by
    have h1 : y * k ^ (e + 1) + v = v + k * (y * k ^ e) := by rw [Nat.pow_succ, ← Nat.mul_assoc, Nat.mul_comm _ k, Nat.add_comm]
    show wAt k e ((y * k ^ (e + 1) + v) / k) ++ [letB ((y * k ^ (e + 1) + v) % k)] = wAt k e (v / k) ++ [letB (v % k)]
    rw [h1, Nat.add_mul_div_left _ _ hk, Nat.add_mul_mod_self_left, Nat.add_comm, wAt_low hk y e]
/-- The ring number y, gone on with by n - 1 letters: what is behind its m letters. -/
def vAt (m e y : Nat) : Nat := idxOf 2 ((cyc (wAt 2 m y) (m + e)).drop m)
theorem lets_take {k : Int} {l : List UInt8} (h : lets k l = true) (j : Nat) : lets k (l.take j) = true := List.all_eq_true.2 fun x hx => List.all_eq_true.1 h x (List.mem_of_mem_take hx)
theorem lets_drop {k : Int} {l : List UInt8} (h : lets k l = true) (j : Nat) : lets k (l.drop j) = true := List.all_eq_true.2 fun x hx => List.all_eq_true.1 h x (List.mem_of_mem_drop hx)
theorem cyc_lets (m e y : Nat) (hm : 1 ≤ m) : lets (2 : Nat) (cyc (wAt 2 m y) (m + e)) = true := lets_cyc (wAt_lets (by omega) m y) (by rw [wAt_len]; omega) _
theorem cyc_head (m e y : Nat) : (cyc (wAt 2 m y) (m + e)).take m = wAt 2 m y := by
  have h := cyc_self (wAt 2 m y)
  rw [wAt_len] at h
  rw [cyc_take _ (by omega), h]
theorem cyc_idx {m e y : Nat} (hy : y < 2 ^ m) : idxOf 2 (cyc (wAt 2 m y) (m + e)) = y * 2 ^ e + vAt m e y := by
  have h := idxOf_append 2 ((cyc (wAt 2 m y) (m + e)).take m) ((cyc (wAt 2 m y) (m + e)).drop m)
  rw [List.take_append_drop, cyc_head, idx_wAt (by omega) m y hy, List.length_drop, cyc_len] at h
  rw [h, show m + e - m = e by omega]; rfl
theorem vAt_law {m e y : Nat} (hm : 1 ≤ m) (hy : y < 2 ^ m) : vAt m e y < 2 ^ e ∧ ∀ v, v < 2 ^ e → (v = (y * 2 ^ e + v) / 2 ^ m ↔ v = vAt m e y) := by
  have hL := cyc_lets m e y hm
  have hlt : vAt m e y < 2 ^ e := by
    have := idx_bd (lets_drop hL m) (by omega)
    rwa [List.length_drop, cyc_len, show m + e - m = e by omega] at this
  refine ⟨hlt, fun v hv => ⟨fun h => ?_, fun h => ?_⟩⟩
  · have h1 : wAt 2 m y ++ wAt 2 e v = wAt 2 e v ++ wAt 2 m (y * 2 ^ e + v) := by
      have e1 := wAt_split 2 m e (y * 2 ^ e + v)
      have e2 := wAt_split 2 e m (y * 2 ^ e + v)
      rw [← h, Nat.add_comm e m, e1, wAt_low (by omega)] at e2
      have e3 : (y * 2 ^ e + v) / 2 ^ e = y := by rw [Nat.add_comm, Nat.add_mul_div_right _ _ (Nat.pow_pos (by omega)), Nat.div_eq_of_lt hv, Nat.zero_add]
      rw [e3] at e2
      exact e2
    have h2 : ∀ i, i < e → (wAt 2 e v)[i]? = some ((wAt 2 m y).getD (i % m) 0) := by
      intro i
      induction i using Nat.strongRecOn with
      | _ i ih =>
        intro hi
        have h3 : (wAt 2 m y ++ wAt 2 e v)[i]? = (wAt 2 e v ++ wAt 2 m (y * 2 ^ e + v))[i]? := by rw [h1]
        rw [List.getElem?_append_left (l₁ := wAt 2 e v) (by rw [wAt_len]; exact hi)] at h3
        rw [← h3]
        by_cases him : i < m
        · rw [List.getElem?_append_left (by rw [wAt_len]; exact him), Nat.mod_eq_of_lt him, List.getD_eq_getElem?_getD, List.getElem?_eq_getElem (by rw [wAt_len]; exact him)]; rfl
        · rw [List.getElem?_append_right (by rw [wAt_len]; omega), wAt_len, ih (i - m) (by omega) (by omega), Nat.mod_eq_sub_mod (a := i) (by omega)]
    have h4 : wAt 2 e v = (cyc (wAt 2 m y) (m + e)).drop m := by
      refine List.ext_getElem? fun i => ?_
      by_cases hi : i < e
      · rw [h2 i hi, List.getElem?_drop, cyc_get (by omega), wAt_len, Nat.add_mod_left]
      · rw [List.getElem?_eq_none (by rw [wAt_len]; omega), List.getElem?_eq_none (by rw [List.length_drop, cyc_len]; omega)]
    unfold vAt
    rw [← h4, idx_wAt (by omega) e v hv]
  · subst h
    rw [← cyc_idx hy]
    have h1 := idxOf_append 2 ((cyc (wAt 2 m y) (m + e)).take e) ((cyc (wAt 2 m y) (m + e)).drop e)
    rw [List.take_append_drop, List.length_drop, cyc_len, show m + e - e = m by omega] at h1
    have h2 := idx_bd (lets_drop hL e) (by omega)
    rw [List.length_drop, cyc_len, show m + e - e = m by omega] at h2
    rw [h1, Nat.add_comm, Nat.add_mul_div_right _ _ (Nat.pow_pos (by omega)), Nat.div_eq_of_lt h2, Nat.zero_add]
    unfold vAt
    congr 1
    refine List.ext_getElem? fun i => ?_
    by_cases hi : i < e
    · rw [List.getElem?_drop, cyc_get (by omega), List.getElem?_take, if_pos hi, cyc_get (by omega), wAt_len, Nat.add_mod_left]
    · rw [List.getElem?_eq_none (by rw [List.length_drop, cyc_len]; omega), List.getElem?_eq_none (by rw [List.length_take]; omega)]
/-- Whether a code gives to the word number q its first letter. -/
def goodB (o : ByteArray) (n q : Nat) : Bool := decide (giveB o q = (wAt 2 n q).getD 0 0)
theorem stays_gw {o : ByteArray} {n m i : Nat} (h : RFit o n m) (hi : i < 2 ^ m) : stays o n m i = gw (goodB o n) (2 ^ (n - 1)) (i * 2 ^ (n - 1) + vAt m (n - 1) i) m := by
  have hn1 := h.n1
  have hm1 := h.m1
  obtain ⟨e, rfl⟩ : ∃ e, n = e + 1 := ⟨n - 1, by omega⟩
  rw [show e + 1 - 1 = e by omega]
  have hL := cyc_lets m e i hm1
  have hlen := cyc_len (wAt 2 m i) (m + e)
  obtain ⟨L, hLd⟩ : ∃ L, L = cyc (wAt 2 m i) (m + e) := ⟨_, rfl⟩
  have hY := cyc_idx (e := e) hi
  rw [← hLd] at hY hL hlen
  have hget : ∀ j, j < m → L[j]? = (wAt 2 m i)[j]? := fun j hj => by
    rw [hLd, cyc_get (by omega), wAt_len, Nat.mod_eq_of_lt hj, List.getD_eq_getElem?_getD, List.getElem?_eq_getElem (by rw [wAt_len]; exact hj)]; rfl
  have hwin : ∀ j, j < m → idxOf 2 L / 2 ^ (m - 1 - j) % (2 * 2 ^ e) = idxOf 2 ((L.drop j).take (e + 1)) ∧ ((L.drop j).take (e + 1)).length = e + 1 ∧ lets (2 : Nat) ((L.drop j).take (e + 1)) = true := fun j hj => by
    have hw := lets_take (lets_drop hL j) (e + 1)
    have hwl : ((L.drop j).take (e + 1)).length = e + 1 := by rw [List.length_take, List.length_drop, hlen]; omega
    have h1 := idxOf_append 2 (L.take j) (L.drop j)
    have h2 := idxOf_append 2 ((L.drop j).take (e + 1)) ((L.drop j).drop (e + 1))
    rw [List.take_append_drop] at h1 h2
    have h3 := idx_bd (lets_drop (lets_drop hL j) (e + 1)) (by omega)
    have h4 := idx_bd hw (by omega)
    have hl1 : ((L.drop j).drop (e + 1)).length = m - 1 - j := by rw [List.length_drop, List.length_drop, hlen]; omega
    have hl2 : (L.drop j).length = (e + 1) + (m - 1 - j) := by rw [List.length_drop, hlen]; omega
    rw [hl1] at h2 h3
    rw [hwl] at h4
    rw [hl2, h2, Nat.pow_add, ← Nat.mul_assoc, ← Nat.add_assoc, ← Nat.add_mul] at h1
    refine ⟨?_, hwl, hw⟩
    rw [h1, Nat.add_comm, Nat.add_mul_div_right _ _ (Nat.pow_pos (by omega)), Nat.div_eq_of_lt h3, Nat.zero_add, show 2 * 2 ^ e = 2 ^ (e + 1) by rw [Nat.pow_succ]; omega, Nat.add_comm, Nat.add_mul_mod_self_right, Nat.mod_eq_of_lt h4]
  have hgood : ∀ j, j < m → (goodB o (e + 1) (idxOf 2 ((L.drop j).take (e + 1))) = true ↔ apB o 2 (e + 1) L j = (wAt 2 m i).getD j 0) := fun j hj => by
    obtain ⟨_, h2, h3⟩ := hwin j hj
    unfold goodB apB
    rw [decide_eq_true_eq, wAt_idx (by omega) (e + 1) _ h2 h3, List.getD_eq_getElem?_getD, List.getElem?_take, if_pos (by omega), List.getElem?_drop, show j + 0 = j from rfl, hget j hj, List.getD_eq_getElem?_getD]
  rw [Bool.eq_iff_iff, gw_iff, ← hY]
  have hst : stays o (e + 1) m i = true ↔ rnB o (e + 1) m i = wAt 2 m i := by
    unfold stays
    rw [decide_eq_true_eq]
    exact ⟨fun e => by rw [← txt_list (rnB _ _ _ _), e]; rfl, fun e => by rw [e]; rfl⟩
  have hrn : rnB o (e + 1) m i = madeB (apB o 2 (e + 1) L) m := by
    unfold rnB ringB
    rw [wAt_len, show m + (e + 1) - 1 = m + e by omega, ← hLd]
  rw [hst, hrn]
  constructor
  · intro hE j hj
    have h1 := hwin (m - 1 - j) (by omega)
    rw [show m - 1 - (m - 1 - j) = j by omega] at h1
    rw [h1.1]
    refine (hgood (m - 1 - j) (by omega)).2 ?_
    rw [← hE, List.getD_eq_getElem?_getD]
    unfold madeB
    rw [List.getElem?_map, List.getElem?_range (by omega)]; rfl
  · intro hA
    refine List.ext_getElem? fun j => ?_
    unfold madeB
    by_cases hj : j < m
    · rw [List.getElem?_map, List.getElem?_range hj, Option.map_some]
      have h1 := hA (m - 1 - j) (by omega)
      rw [(hwin j hj).1, hgood j hj] at h1
      rw [h1, List.getD_eq_getElem?_getD, List.getElem?_eq_getElem (by rw [wAt_len]; exact hj)]; rfl
    · rw [List.getElem?_eq_none (by simp; omega), List.getElem?_eq_none (by rw [wAt_len]; omega)]
theorem closed_stays {o : ByteArray} {n m : Nat} (h : RFit o n m) : sumTo (fun u => wkN (goodB o n) (2 ^ (n - 1)) u m u) (2 ^ (n - 1)) = (cntS o n m : Int) := by
  rw [trace_law (goodB o n) (vAt m (n - 1)) fun y hy => vAt_law h.m1 hy]
  unfold cntS
  rw [List.filter_congr fun i hi => stays_gw h (List.mem_range.1 hi)]
/-- The matrix of the law as it grows. -/
def mTo (good : Nat → Bool) (S j u v : Nat) : Int := sumTo (fun i => ind (good i && (decide (i / 2 = u) && decide (i % S = v)))) j
theorem mTo_end (good : Nat → Bool) {S u : Nat} (hu : u < S) (v : Nat) : mTo good S (2 * S) u v = mAt good S u v := by
  unfold mTo
  rw [sumTo_double]
  have e : ∀ i, ind (good (2 * i) && (decide (2 * i / 2 = u) && decide (2 * i % S = v))) + ind (good (2 * i + 1) && (decide ((2 * i + 1) / 2 = u) && decide ((2 * i + 1) % S = v))) = if i = u then mAt good S i v else 0 := fun i => by
    rw [show 2 * i / 2 = i by omega, show (2 * i + 1) / 2 = i by omega]
    by_cases hi : i = u
    · rw [if_pos hi, decide_eq_true hi, Bool.true_and, Bool.true_and]; rfl
    · rw [if_neg hi, decide_eq_false hi]; simp [ind]
  rw [sumTo_congr (fun i _ => e i), sumTo_delta (fun i => mAt good S i v) hu]
theorem mTo_bd (good : Nat → Bool) (S j u v : Nat) : 0 ≤ mTo good S j u v ∧ mTo good S j u v ≤ j := sumTo_ind_bd _ _
theorem mTo_yes {good : Nat → Bool} {S j : Nat} (h : good j = true) (u v : Nat) : mTo good S (j + 1) u v = if j / 2 = u ∧ j % S = v then mTo good S j u v + 1 else mTo good S j u v := by
  show mTo good S j u v + ind (good j && (decide (j / 2 = u) && decide (j % S = v))) = _
  rw [h]
  by_cases h1 : j / 2 = u <;> by_cases h2 : j % S = v <;> simp [h1, h2, ind]
theorem mTo_no {good : Nat → Bool} {S j : Nat} (h : good j = false) (u v : Nat) : mTo good S (j + 1) u v = mTo good S j u v := by
  show mTo good S j u v + ind (good j && (decide (j / 2 = u) && decide (j % S = v))) = _
  rw [h]; simp [ind]
end Go.Proofs.YtccknookhkahbaaGreat
