/- Plain law of parts: counts grow by special parts, returns and places say what they say, and the word of the golden substitution. No condition. -/
import Derived.Test.YtcfjchaklgjmkaaSpecS
import Derived.Test.YtcfjchaklgjmkaaFixed
import Derived.Test.YtcfjchaklgjmkaaBal
namespace Go.Proofs.Ytcfjchaklgjmkaa
open Go.RowKit

theorem bytes_of_list {a b : ByteArray} (h : a.data.toList = b.data.toList) : a = b := bytes_eq h
theorem pl_at {s p : List UInt8} {k : Nat} {x : Int} (h : (plOf s p)[k]? = some x) : ∃ q : Nat, x = q ∧ p ≠ [] ∧ occ s p q = true ∧ q + p.length ≤ s.length := by
  unfold plOf at h
  split at h
  · rename_i hc
    obtain ⟨q, hq, e⟩ := List.mem_map.1 (List.mem_of_getElem? h)
    have hq2 := (List.mem_filter.1 hq).2
    refine ⟨q, e.symm, hc.1, hq2, ?_⟩
    rcases occ_len hq2 with e2 | h2
    · exact absurd e2 hc.1
    · exact h2
  · simp at h
theorem pl_inc {s p : List UInt8} {k : Nat} {x y : Int} (hx : (plOf s p)[k]? = some x) (hy : (plOf s p)[k + 1]? = some y) : x < y := by
  unfold plOf at hx hy
  split at hx
  · rename_i hc
    rw [if_pos hc] at hy
    obtain ⟨h1, e1⟩ := List.getElem?_eq_some_iff.1 hx
    obtain ⟨h2, e2⟩ := List.getElem?_eq_some_iff.1 hy
    have := List.pairwise_iff_getElem.1 (pl_sorted s p s.length) k (k + 1) h1 h2 (by omega)
    rw [e1, e2] at this
    exact this
  · simp at hx
theorem occ_take {s p : List UInt8} {q : Nat} (h : occ s p q = true) : (s.drop q).take p.length = p := by
  have := List.isPrefixOf_iff_prefix.1 h
  rw [List.prefix_iff_eq_take] at this
  exact this.symm
theorem ext_list (s : ByteArray) (i n : Nat) : (s.extract i (i + n)).data.toList = (s.data.toList.drop i).take n := part_list s i n
theorem pl_facts {s p : ByteArray} {k : Nat} {x : Int} (h : (plOf s.data.toList p.data.toList)[k]? = some x) : ∃ q : Nat, x = q ∧ q + p.size ≤ s.size ∧ s.extract q (q + p.size) = p := by
  obtain ⟨q, e, _, ho, hl⟩ := pl_at h
  rw [size_list, size_list] at hl
  refine ⟨q, e, hl, bytes_of_list ?_⟩
  rw [ext_list, ← size_list p]
  exact occ_take ho
theorem addB_mem {acc : List ByteArray} {x y : ByteArray} (h : y ∈ addB acc x) : y = x ∨ y ∈ acc := by
  unfold addB at h
  split at h
  · exact .inr h
  · rcases List.mem_append.1 h with h | h
    · exact .inr h
    · simp at h; exact .inl h
theorem rtN_mem {s : ByteArray} {ps : List Int} {u : ByteArray} : ∀ {k : Nat}, u ∈ rtN s ps k → ∃ i, i < k ∧ u = s.extract (ps.getD i 0).toNat (ps.getD (i + 1) 0).toNat
  | 0, h => by cases h
  | k + 1, h => by
    rcases addB_mem h with e | h
    · exact ⟨k, by omega, e⟩
    · obtain ⟨i, hi, e⟩ := rtN_mem h
      exact ⟨i, by omega, e⟩
theorem rt_facts {s p u : ByteArray} (h : u ∈ rtOf s p) : u.size ≠ 0 ∧ (u ++ p).size ≤ s.size ∧ (u ++ p).extract 0 p.size = p ∧ ∃ i, i + (u ++ p).size ≤ s.size ∧ s.extract i (i + (u ++ p).size) = u ++ p := by
  obtain ⟨i, hi, e⟩ := rtN_mem h
  obtain ⟨x, hx⟩ := get_some (l := plOf s.data.toList p.data.toList) (n := i) (by omega)
  obtain ⟨y, hy⟩ := get_some (l := plOf s.data.toList p.data.toList) (n := i + 1) (by omega)
  have hxy := pl_inc hx hy
  rw [List.getD_eq_getElem?_getD, hx, List.getD_eq_getElem?_getD, hy, Option.getD_some, Option.getD_some] at e
  obtain ⟨q1, rfl, _, ho1, hl1⟩ := pl_at hx
  obtain ⟨q2, rfl, _, ho2, hl2⟩ := pl_at hy
  rw [Int.toNat_natCast, Int.toNat_natCast] at e
  obtain ⟨d, rfl⟩ : ∃ d, q2 = q1 + d := ⟨q2 - q1, by omega⟩
  rw [size_list, size_list] at hl2
  have hd : 0 < d := by omega
  have hu : u.size = d := by rw [e, ByteArray.size_extract]; omega
  have hlong : (u ++ p).data.toList = (s.data.toList.drop q1).take (d + p.size) := by
    rw [ByteArray.data_append, Array.toList_append, e, ext_list, List.take_add, List.drop_drop]
    congr 1
    rw [← size_list p]
    exact (occ_take ho2).symm
  have hsz : (u ++ p).size = d + p.size := by rw [ByteArray.size_append, hu]
  refine ⟨by omega, by omega, bytes_of_list ?_, q1, by omega, bytes_of_list ?_⟩
  · rw [ext_take]
    show ((u ++ p).data.toList.take p.size) = _
    rw [hlong, List.take_take, Nat.min_eq_left (by omega), ← size_list p]
    exact occ_take ho1
  · rw [ext_list, hlong, hsz]
/-! Rows of counts. -/
theorem pts_mem {s : ByteArray} {n : Nat} {x : ByteArray} : x ∈ pts s n ↔ ∃ i, i + n ≤ s.size ∧ x = s.extract i (i + n) := by
  rw [show x ∈ pts s n ↔ x ∈ prs s n (s.size + 1 - n) from (insAll_facts ordB _).2 x]
  unfold prs
  rw [List.mem_map]
  constructor
  · rintro ⟨i, hi, e⟩
    have := List.mem_range.1 hi
    exact ⟨i, by omega, e.symm⟩
  · rintro ⟨i, hi, e⟩
    exact ⟨i, List.mem_range.2 (by omega), e.symm⟩
theorem asc_nodup {l : List ByteArray} (h : Asc ltB l) : l.Nodup := by
  rw [List.nodup_iff_pairwise_ne]
  exact h.imp fun hab e => by rw [e, ordB.irr] at hab; cases hab
theorem pts_zero (s : ByteArray) : (pts s 0).length = 1 := by
  have h1 : (pts s 0).length ≤ [s.extract 0 0].length := nodup_le _ _ (asc_nodup (pts_asc s 0)) fun x hx => by
    obtain ⟨i, hi, e⟩ := pts_mem.1 hx
    rw [e, List.mem_singleton]
    apply bytes_of_list
    rw [show i + 0 = i + 0 from rfl, ext_list, show (0 : Nat) = 0 + 0 from rfl, ext_list]
    simp
  have h2 : s.extract 0 0 ∈ pts s 0 := pts_mem.2 ⟨0, by omega, rfl⟩
  have h3 := List.length_pos_of_mem h2
  simp at h1
  omega
theorem row_facts {s : ByteArray} {n : Int} {i : Nat} {x : Int} (h : (rowOf s n)[i]? = some x) : x = cntOf s i ∧ (i = 0 → x = 1) ∧ i ≤ 20 := by
  unfold rowOf at h
  split at h
  · rename_i hc
    rw [Bool.and_eq_true, inB_iff] at hc
    unfold rws at h
    rw [List.getElem?_map] at h
    cases hr : (List.range (n.toNat + 1))[i]? with
    | none => rw [hr] at h; cases h
    | some j =>
      rw [hr] at h
      obtain ⟨h1, h2⟩ := List.getElem?_eq_some_iff.1 hr
      rw [List.getElem_range] at h2
      rw [List.length_range] at h1
      subst h2
      injection h with h
      refine ⟨?_, fun e => ?_, by omega⟩
      · rw [← h]
        unfold cntOf
        rw [hc.1, inB_t (by omega), if_pos (show (true && true) = true from rfl), Int.toNat_natCast]
      · rw [← h, e]
        have := pts_zero s
        simp [this]
  · simp at h
/-! What is one longer is counted by what goes on. -/
def firstOf (n : Nat) (L : List ByteArray) (x : ByteArray) : Bool := L.all fun y => !(ltB y x && (dl (pf n y) == dl (pf n x)))
theorem sq_keep {L : List ByteArray} {n : Nat} {a : ByteArray} : ∀ {j k : Nat}, a ∈ sq L n j → j ≤ k → a ∈ sq L n k
  | j, 0, h, hk => by obtain rfl : j = 0 := by omega
                      exact h
  | j, k + 1, h, hk => by
    by_cases e : j = k + 1
    · rw [← e]; exact h
    · have := sq_keep h (show j ≤ k by omega)
      unfold sq
      split
      · exact ins_mem.2 (.inr this)
      · exact this
theorem le_of_asc {L : List ByteArray} (hL : Asc ltB L) {i j : Nat} {x y : ByteArray} (hx : L[i]? = some x) (hy : L[j]? = some y) (h : ltB x y = true) : i < j := by
  obtain ⟨h1, e1⟩ := List.getElem?_eq_some_iff.1 hx
  obtain ⟨h2, e2⟩ := List.getElem?_eq_some_iff.1 hy
  rcases Nat.lt_trichotomy i j with h3 | h3 | h3
  · exact h3
  · subst h3
    rw [e1] at e2
    rw [e2, ordB.irr] at h
    cases h
  · have := List.pairwise_iff_getElem.1 hL j i h2 h1 h3
    rw [e1, e2] at this
    rw [ordB.asym h] at this
    cases this
theorem sq_has {L : List ByteArray} {n : Nat} (hL : Asc ltB L) {x y : ByteArray} (hx : x ∈ L) (hy : y ∈ L) (h : ltB y x = true) (he : pf n y = pf n x) : pf n x ∈ sq L n (L.length - 1) := by
  obtain ⟨i, hi, ei⟩ := List.getElem_of_mem hx
  obtain ⟨j, hj, ej⟩ := List.getElem_of_mem hy
  have hji : j < i := le_of_asc hL (List.getElem?_eq_some_iff.2 ⟨hj, ej⟩) (List.getElem?_eq_some_iff.2 ⟨hi, ei⟩) h
  obtain ⟨k, rfl⟩ : ∃ k, i = k + 1 := ⟨i - 1, by omega⟩
  have hk : k < L.length := by omega
  have hk1 : ltB L[k] x = true := by
    have := List.pairwise_iff_getElem.1 hL k (k + 1) hk hi (by omega)
    rw [ei] at this
    exact this
  have hyk : pf n L[k] = pf n x := by
    have hz : ltB (pf n x) (pf n L[k]) = false := pf_mono hk1
    rcases Nat.lt_or_ge j k with h3 | h3
    · have h4 := List.pairwise_iff_getElem.1 hL j k hj hk h3
      rw [ej] at h4
      have h5 := pf_mono (n := n) h4
      rw [he] at h5
      exact ordB.tot _ _ h5 hz
    · obtain rfl : j = k := by omega
      rw [ej]; exact he
  refine sq_keep (j := k + 1) ?_ (by omega)
  unfold sq
  rw [List.getD_eq_getElem?_getD, List.getD_eq_getElem?_getD, List.getElem?_eq_getElem hi, List.getElem?_eq_getElem hk, Option.getD_some, Option.getD_some, ei, if_pos hyk.symm]
  exact ins_mem.2 (.inl rfl)
theorem last_list {x : ByteArray} {n : Nat} (h : x.size = n + 1) : ∃ c, dl x = dl (pf n x) ++ [c] := by
  have h1 : (dl x).length = n + 1 := by unfold dl; rw [size_list]; exact h
  rw [pf_dl]
  refine ⟨(dl x)[n], ?_⟩
  rw [List.take_append_getElem (by omega), List.take_of_length_le (by omega)]
theorem lt_last {P : List UInt8} {a b : UInt8} (h : ltL (P ++ [a]) (P ++ [b]) = true) : a < b := by
  induction P with
  | nil =>
    simp only [ltL, decide_eq_true_eq, List.nil_append, List.cons_lt_cons_iff] at h
    rcases h with h | ⟨_, h⟩
    · exact h
    · exact absurd h (List.lt_irrefl _)
  | cons p P ih =>
    simp only [ltL, decide_eq_true_eq, List.cons_append, List.cons_lt_cons_iff] at h
    rcases h with h | ⟨_, h⟩
    · exact absurd h (UInt8.lt_irrefl _)
    · exact ih (by simp only [ltL, decide_eq_true_eq]; exact h)
def addL (c : UInt8) (u : ByteArray) : ByteArray := ⟨(dl u ++ [c]).toArray⟩
theorem addL_dl (c : UInt8) (u : ByteArray) : dl (addL c u) = dl u ++ [c] := by simp [addL, dl]
theorem pts_lets {s : ByteArray} (hs : lets 3 s.data.toList = true) {n : Nat} {x : ByteArray} (h : x ∈ pts s n) : lets 3 (dl x) = true := by
  obtain ⟨i, hi, e⟩ := pts_mem.1 h
  rw [e]
  unfold dl
  rw [ext_list]
  exact part_lets hs i n
theorem last_letter {P : List UInt8} {c : UInt8} (h : lets 3 (P ++ [c]) = true) : 97 ≤ c.toNat ∧ c.toNat ≤ 99 := by
  have := List.all_eq_true.1 h c (by simp)
  rw [inB_iff] at this
  omega
theorem part_pf {s : ByteArray} {n : Nat} {x : ByteArray} (h : x ∈ pts s (n + 1)) : pf n x ∈ pts s n := by
  obtain ⟨i, hi, e⟩ := pts_mem.1 h
  refine pts_mem.2 ⟨i, by omega, bytes_of_list ?_⟩
  show dl (pf n x) = _
  rw [pf_dl, e]
  unfold dl
  rw [ext_list, ext_list, List.take_take, Nat.min_eq_left (by omega)]
theorem not_first {s : ByteArray} (hs : lets 3 s.data.toList = true) {n : Nat} {x : ByteArray} (h : x ∈ pts s (n + 1)) (hf : firstOf n (pts s (n + 1)) x = false) : x ∈ (specials s n).map (addL 98) ++ (specials s n).map (addL 99) := by
  unfold firstOf at hf
  rw [List.all_eq_false] at hf
  obtain ⟨y, hy, hf⟩ := hf
  simp only [Bool.not_eq_true', Bool.not_eq_false, Bool.and_eq_true, beq_iff_eq] at hf
  obtain ⟨hlt, hpe⟩ := hf
  have hsp : pf n x ∈ specials s n := sq_has (pts_asc s (n + 1)) h hy hlt (dl_inj hpe)
  obtain ⟨a, ha⟩ := last_list (pts_size hy)
  obtain ⟨b, hb⟩ := last_list (pts_size h)
  rw [hpe] at ha
  have hab : a < b := by
    rw [ltB_eq] at hlt
    have hlt : ltL (dl y) (dl x) = true := hlt
    rw [ha, hb] at hlt
    exact lt_last hlt
  have h1 := pts_lets hs hy
  rw [ha] at h1
  have h2 := pts_lets hs h
  rw [hb] at h2
  have h1 := last_letter h1
  have h2 := last_letter h2
  have hab2 : a.toNat < b.toNat := hab
  rw [List.mem_append, List.mem_map, List.mem_map]
  rcases (by omega : b.toNat = 98 ∨ b.toNat = 99) with e | e
  · refine .inl ⟨pf n x, hsp, dl_inj ?_⟩
    rw [addL_dl, hb, show b = 98 from UInt8.toNat_inj.1 e]
  · refine .inr ⟨pf n x, hsp, dl_inj ?_⟩
    rw [addL_dl, hb, show b = 99 from UInt8.toNat_inj.1 e]
theorem filter_two {α : Type} (p : α → Bool) : ∀ l : List α, l.length = (l.filter p).length + (l.filter fun x => !p x).length
  | [] => rfl
  | x :: l => by
    have := filter_two p l
    cases hx : p x <;> simp [List.filter_cons, hx] <;> omega
theorem pts_grow {s : ByteArray} (hs : lets 3 s.data.toList = true) (n : Nat) : (pts s (n + 1)).length ≤ (pts s n).length + 2 * (specials s n).length := by
  have hA := pts_asc s (n + 1)
  rw [filter_two (firstOf n (pts s (n + 1))) (pts s (n + 1))]
  have h1 : ((pts s (n + 1)).filter (firstOf n (pts s (n + 1)))).length ≤ (pts s n).length := by
    rw [← List.length_map (f := pf n)]
    refine nodup_le _ _ ?_ fun x hx => ?_
    · rw [List.nodup_iff_pairwise_ne, List.pairwise_map]
      refine (List.Pairwise.filter _ hA).imp_of_mem fun {a b} ha hb hab e => ?_
      have hb2 := (List.mem_filter.1 hb).2
      unfold firstOf at hb2
      have := List.all_eq_true.1 hb2 a (List.mem_filter.1 ha).1
      rw [hab, e] at this
      simp at this
    · obtain ⟨y, hy, e⟩ := List.mem_map.1 hx
      rw [← e]
      exact part_pf (List.mem_filter.1 hy).1
  have h2 : ((pts s (n + 1)).filter fun x => !firstOf n (pts s (n + 1)) x).length ≤ ((specials s n).map (addL 98) ++ (specials s n).map (addL 99)).length := by
    refine nodup_le _ _ ?_ fun x hx => ?_
    · exact asc_nodup (List.Pairwise.filter _ hA)
    · obtain ⟨h3, h4⟩ := List.mem_filter.1 hx
      exact not_first hs h3 (by simpa using h4)
  rw [List.length_append, List.length_map, List.length_map] at h2
  omega
theorem cnt_grow {s : ByteArray} {n : Int} (h0 : 0 ≤ n) (h1 : n ≤ 19) (hp : 0 < cntOf s n) : cntOf s (n + 1) ≤ cntOf s n + 2 * ((specOf s n).length : Int) := by
  obtain ⟨k, rfl⟩ : ∃ k : Nat, n = k := ⟨n.toNat, by omega⟩
  unfold cntOf at *
  unfold specOf
  rw [inB_t (show (0 : Int) ≤ (k : Int) ∧ (k : Int) ≤ 20 by omega)] at *
  rw [inB_t (show (0 : Int) ≤ (k : Int) + 1 ∧ (k : Int) + 1 ≤ 20 by omega)]
  split at hp
  · rename_i hc
    have hc2 : fitW s = true := by simpa using hc
    rw [if_pos hc, if_pos hc]
    have hl : lets 3 s.data.toList = true := by
      unfold fitW at hc2
      rw [Bool.and_eq_true] at hc2
      exact hc2.1
    have := pts_grow hl k
    rw [show ((k : Int) + 1).toNat = k + 1 by omega, Int.toNat_natCast]
    rw [if_pos (by simpa using hc2)]
    omega
  · omega
/-! The word of the golden substitution. -/
def fibS : List ByteArray := [⟨#[97, 98]⟩, ⟨#[97]⟩]
def fibL : List UInt8 := [97, 98, 97, 97, 98, 97, 98, 97, 97, 98, 97, 97, 98, 97, 98, 97, 97, 98, 97, 98, 97, 97, 98, 97, 97, 98, 97, 98, 97, 97, 98, 97, 97, 98, 97, 98, 97, 97, 98, 97, 98, 97, 97, 98, 97, 97, 98, 97, 98, 97, 97, 98, 97, 98, 97, 97, 98, 97, 97, 98]
def fibW : ByteArray := ⟨fibL.toArray⟩
theorem fib_fix : fixO fibS 0 60 = some fibL := by
  unfold fixO
  rw [if_pos (by decide)]
  congr 1
theorem fib_row : rowOf fibW 6 = [1, 2, 3, 4, 5, 6, 7] := by decide +kernel
theorem fib_bal : balW fibW = true := by decide +kernel
theorem fib_ret : (rtOf fibW ⟨#[97, 98]⟩).length = 2 := by decide +kernel
end Go.Proofs.Ytcfjchaklgjmkaa
