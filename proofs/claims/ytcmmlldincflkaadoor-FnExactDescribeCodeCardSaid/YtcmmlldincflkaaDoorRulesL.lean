/- What FnRules asks of codes: mirrors and exchanges are undone; onto and one to one are kept; classes are the same for their members. Plain law. No condition. -/
import Derived.Test.YtcmmlldincflkaaDoorSrc
import Derived.Test.YtcmmlldincflkaaDoorOneS
import Derived.Test.YtcmmlldincflkaaDoorClassW
namespace Go.Proofs.YtcmmlldincflkaaDoor
open Go.RowKit

theorem give_out {f : Nat → UInt8} {m i : Nat} (h : i < m) : giveB ⟨(outB f m).toArray⟩ i = f i := by
  unfold giveB outB
  rw [List.getD_eq_getElem?_getD]
  simp [h]
theorem code_ext {o o' : ByteArray} (hs : o.size = o'.size) (h : ∀ i, i < o.size → giveB o i = giveB o' i) : o = o' := by
  have hl : o.data.toList = o'.data.toList := by
    apply List.ext_getElem?
    intro i
    by_cases hi : i < o.size
    · rw [byte_at o i hi, byte_at o' i (by omega), ← giveB_at hi, ← giveB_at (by omega), h i hi]
    · have h1 : o.data.toList.length = o.size := Array.length_toList
      have h2 : o'.data.toList.length = o'.size := Array.length_toList
      rw [List.getElem?_eq_none (by omega), List.getElem?_eq_none (by omega)]
  apply ByteArray.ext
  exact Array.toList_inj.1 hl
theorem letB_back {c : UInt8} {a : Nat} (h : c.toNat = 97 + a) : c = letB a := by
  apply UInt8.toNat_inj.1
  have := UInt8.toNat_lt c
  unfold letB
  rw [UInt8.toNat_ofNat']
  omega
theorem lets_LW {k : Nat} {l : List UInt8} (h : lets k l = true) : LW k l := fun c hc => by
  have := List.all_eq_true.1 h c hc
  rw [inB_iff] at this
  exact ⟨c.toNat - 97, by omega, letB_back (by omega)⟩
theorem LW_lets {k : Nat} (hk3 : k ≤ 3) {l : List UInt8} (h : LW k l) : lets k l = true := by
  unfold lets
  rw [List.all_eq_true]
  intro c hc
  obtain ⟨a, ha, e⟩ := h c hc
  have := letB_nat (show a < 100 by omega)
  rw [inB_iff, e]
  omega
/-- A code, as plain facts. -/
structure CodeP (o : ByteArray) (k n : Nat) : Prop where
  k23 : k = 2 ∨ k = 3
  n1 : 1 ≤ n
  n4 : n ≤ 4
  fits : k ^ n ≤ 27
  size : o.size = k ^ n
  lw : LW k o.data.toList
theorem code_P {k n : Nat} {o : ByteArray} (h : isCode k n o = true) : CodeP o k n := by
  obtain ⟨kk, nn, h1, h2, hk, ⟨hn1, hn4⟩, hp, hos, hl⟩ := code_facts h
  obtain rfl : kk = k := by omega
  obtain rfl : nn = n := by omega
  exact ⟨hk, hn1, hn4, hp, hos, lets_LW hl⟩
theorem CodeP.code {k n : Nat} {o : ByteArray} (h : CodeP o k n) : isCode k n o = true := by
  have hk := h.k23
  have h1 := h.n1
  have h4 := h.n4
  simp only [isCode, Bool.and_eq_true, decide_eq_true_eq, Int.toNat_natCast]
  exact ⟨⟨by omega, by omega, h.fits, h.size⟩, LW_lets (by omega) h.lw⟩
theorem CodeP.give {k n : Nat} {o : ByteArray} (h : CodeP o k n) {i : Nat} (hi : i < k ^ n) : ∃ a, a < k ∧ giveB o i = letB a := by
  have hio : i < o.size := by rw [h.size]; exact hi
  rw [giveB_at hio]
  exact h.lw _ (List.mem_of_getElem? (byte_at o i hio))
theorem out_code {f : Nat → UInt8} {k n : Nat} (hk : k = 2 ∨ k = 3) (h1 : 1 ≤ n) (h4 : n ≤ 4) (hp : k ^ n ≤ 27) (hf : ∀ i, i < k ^ n → ∃ a, a < k ∧ f i = letB a) : CodeP ⟨(outB f (k ^ n)).toArray⟩ k n :=
  ⟨hk, h1, h4, hp, by show (outB f (k ^ n)).toArray.size = k ^ n; simp [outB_len], fun c hc => by
    have hc' : c ∈ outB f (k ^ n) := hc
    unfold outB at hc'
    obtain ⟨i, hi, rfl⟩ := List.mem_map.1 hc'
    exact hf i (List.mem_range.1 hi)⟩
theorem mir_h {o : ByteArray} {k n : Nat} (hk : 0 < k) (hk3 : k ≤ 3) (W : List UInt8) (hW : LW k W) (hl : W.length = n) : giveB (mirOut o k n) (idxOf k W) = giveB o (idxOf k W.reverse) := by
  have hlt := LW.lt hk3 hW
  rw [hl] at hlt
  unfold mirOut
  rw [give_out hlt]
  unfold mirB
  rw [wAt_idxL hk hk3 n W hl hW]
theorem CodeP.mir {k n : Nat} {o : ByteArray} (h : CodeP o k n) : CodeP (mirOut o k n) k n := by
  have hk := h.k23
  have hk3 : k ≤ 3 := by omega
  refine out_code hk h.n1 h.n4 h.fits fun i hi => ?_
  have h2 := LW.lt hk3 (wAt_LW (show 0 < k by omega) n i).rev
  rw [List.length_reverse, wAt_len] at h2
  exact h.give h2
theorem CodeP.mir_mir {k n : Nat} {o : ByteArray} (h : CodeP o k n) : mirOut (mirOut o k n) k n = o := by
  have hk := h.k23
  have hk3 : k ≤ 3 := by omega
  have hk0 : 0 < k := by omega
  refine code_ext ?_ fun i hi => ?_
  · rw [h.mir.mir.size, h.size]
  · rw [h.mir.mir.size] at hi
    have hW := wAt_LW hk0 n i
    have e := idx_wAtL hk0 hk3 n i hi
    have h1 := mir_h (o := mirOut o k n) (n := n) hk0 hk3 _ hW (wAt_len k n i)
    have h2 := mir_h (o := o) (n := n) hk0 hk3 _ hW.rev ((List.length_reverse).trans (wAt_len k n i))
    rw [e] at h1
    rw [List.reverse_reverse, e] at h2
    rw [h1, h2]
theorem ex_h {o : ByteArray} {n : Nat} (h : CodeP o 2 n) (W : List UInt8) (hW : LW 2 W) (hl : W.length = n) : giveB (exOut o n) (idxOf 2 W) = swB (giveB o (idxOf 2 (W.map swB))) ∧ (giveB o (idxOf 2 (W.map swB)) = 97 ∨ giveB o (idxOf 2 (W.map swB)) = 98) := by
  have hlt := LW.lt (by omega) hW
  rw [hl] at hlt
  constructor
  · unfold exOut
    rw [give_out hlt]
    unfold exB
    rw [wAt_idxL (by omega) (by omega) n W hl hW]
  · have h2 := LW.lt (show (2 : Nat) ≤ 3 by omega) (LW_sw W)
    rw [List.length_map, hl] at h2
    obtain ⟨a, ha, e⟩ := h.give h2
    rw [e]
    rcases (by omega : a = 0 ∨ a = 1) with rfl | rfl
    · exact .inl rfl
    · exact .inr rfl
theorem swB_LW (c : UInt8) : ∃ a, a < 2 ∧ swB c = letB a := by
  unfold swB
  split
  · exact ⟨1, by omega, rfl⟩
  · exact ⟨0, by omega, rfl⟩
theorem CodeP.ex {n : Nat} {o : ByteArray} (h : CodeP o 2 n) : CodeP (exOut o n) 2 n :=
  out_code h.k23 h.n1 h.n4 h.fits fun i _ => swB_LW _
theorem CodeP.ex_ex {n : Nat} {o : ByteArray} (h : CodeP o 2 n) : exOut (exOut o n) n = o := by
  refine code_ext ?_ fun i hi => ?_
  · rw [h.ex.ex.size, h.size]
  · rw [h.ex.ex.size] at hi
    have hW := wAt_LW (show 0 < 2 by omega) n i
    have e := idx_wAtL (show 0 < 2 by omega) (show (2 : Nat) ≤ 3 by omega) n i hi
    have h1 := (ex_h h.ex _ hW (wAt_len 2 n i)).1
    have h2 := ex_h h _ (LW_sw (wAt 2 n i)) ((List.length_map _).trans (wAt_len 2 n i))
    rw [e] at h1
    rw [map_sw_sw hW, e] at h2
    rw [h1, h2.1, swB_swB h2.2]
theorem mir_onto {k n : Nat} {o : ByteArray} (h : CodeP o k n) : OntoP (mirOut o k n) k (n - 1) ↔ OntoP o k (n - 1) := by
  have hk := h.k23
  have h1 := h.n1
  exact onto_mirror fun W hW hl => mir_h (by omega) (by omega) W hW (by omega)
theorem ex_onto {n : Nat} {o : ByteArray} (h : CodeP o 2 n) : OntoP (exOut o n) 2 (n - 1) ↔ OntoP o 2 (n - 1) := by
  have h1 := h.n1
  exact onto_swap fun W hW hl => ex_h h W hW (by omega)
theorem powN_pow (k : Nat) : ∀ m, powN k m = k ^ m
  | 0 => rfl
  | m + 1 => by
    first
    | (show powN k m * k = k ^ (m + 1); rw [powN_pow k m, Nat.pow_succ])
    | (show k * powN k m = k ^ (m + 1); rw [powN_pow k m, Nat.pow_succ, Nat.mul_comm])
theorem step_is {o : ByteArray} {k S : Nat} : StepIs o k S (edg (stepRows o k S (S * S))) := fun _ _ hp => edg_step hp
theorem mir_one1 {k n : Nat} {o : ByteArray} (h : CodeP o k n) (hO : OneP o k n) : OneP (mirOut o k n) k n := by
  have hk := h.k23
  have hn := h.n1
  by_cases h1 : n = 1
  · subst h1
    have e : mirOut o k 1 = o := by
      refine code_ext (by rw [h.mir.size, h.size]) fun i hi => ?_
      rw [h.mir.size] at hi
      unfold mirOut
      rw [give_out hi]
      unfold mirB
      have e := idx_wAtL (show 0 < k by omega) (show k ≤ 3 by omega) 1 i hi
      rw [show (wAt k 1 i).reverse = wAt k 1 i by simp [wAt], e]
    rw [e]; exact hO
  · unfold OneP at hO ⊢
    rw [if_neg h1] at hO ⊢
    rw [powN_pow] at hO ⊢
    exact diag_back (by omega) (by omega) (by omega) (fun W hW hl => mir_h (by omega) (by omega) W hW (by omega)) step_is step_is hO
theorem mir_one {k n : Nat} {o : ByteArray} (h : CodeP o k n) : OneP (mirOut o k n) k n ↔ OneP o k n :=
  ⟨fun hO => by have := mir_one1 h.mir hO; rwa [h.mir_mir] at this, mir_one1 h⟩
end Go.Proofs.YtcmmlldincflkaaDoor
