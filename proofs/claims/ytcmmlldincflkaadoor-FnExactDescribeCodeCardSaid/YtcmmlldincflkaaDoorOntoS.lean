/- Onto: the reference's function. Conditions: sizes within the reach. -/
import Derived.Test.YtcmmlldincflkaaDoorOrpS
namespace Go.Proofs.YtcmmlldincflkaaDoor
open Go.RowKit

theorem onto_iff {o : ByteArray} {k e : Nat} (hk : k = 2 ∨ k = 3) (h9 : k ^ e ≤ 9) : srchAll (fun s a => stepS o k (k ^ e) s a) k (2 ^ k ^ e - 1) = none ↔ OntoP o k e := by
  have hk3 : k ≤ 3 := by omega
  have hk0 : 0 < k := by omega
  have hS1 : 1 ≤ k ^ e := Nat.pow_pos hk0
  have h2 : 2 ≤ 2 ^ k ^ e := by have := Nat.pow_le_pow_right (n := 2) (show 0 < 2 by omega) hS1; simpa using this
  have h512 : 2 ^ k ^ e ≤ 512 := Nat.le_trans (Nat.pow_le_pow_right (n := 2) (by omega) h9) (show (2 : Nat) ^ 9 ≤ 512 by decide)
  have hf : 2 ^ k ^ e - 1 ≠ 0 := by omega
  have hall : srchAll (fun s a => stepS o k (k ^ e) s a) k (2 ^ k ^ e - 1) = (srchTo (fun s a => stepS o k (k ^ e) s a) k (2 ^ k ^ e - 1) 600).1 := rfl
  obtain ⟨q, hq⟩ : ∃ q, q = 600 := ⟨_, rfl⟩
  rw [← hq] at hall
  rw [hall]
  clear hall
  cases hs : srchTo (fun s a => stepS o k (k ^ e) s a) k (2 ^ k ^ e - 1) q with
  | mk f ys =>
    cases f with
    | some r =>
      obtain ⟨h1, hl⟩ := srch_some hk3 hf hs
      constructor
      · intro h; cases h
      · intro hO
        exact absurd h1 ((reach_zero hk0 hk3 hl).2 (hO r hl))
    | none =>
      have h0 := srchTo_ok (st := fun s a => stepS o k (k ^ e) s a) hk3 hf q
      rw [hs] at h0
      have hl := srchOk_len h0.1 (N := 2 ^ k ^ e) (by omega) (fun s a => stepS_lt (by omega))
      constructor
      · intro _ w hw
        exact (reach_zero hk0 hk3 hw).1 (srch_none hk3 hf hs (by omega) w hw)
      · intro _; rfl
set_option maxHeartbeats 4000000 in
set_option maxRecDepth 100000 in
theorem spec_IsOnto_no (k n : Int) (o : ByteArray) (w : World) (ho : o.size ≤ maxLen) (h : isCode k n o = false) :
    Calls Tryd.prog 9 #[.agg #[.int .i64 k, .int .i64 n, .string o]] w fun e w' => e = .returned (.bool false) ∧ Below w.heap.size w w' := by
  have HI := hid (fun w : World => spec_IsCode_c k n o w ho)
  rw [h] at HI
  clear h
  go_enter Tryd.func9, Tryd.ntmps9
  go_wp2_with fail
  refine (HI.out _).mono ?_
  rintro e w1 ⟨rfl, hb⟩
  have hb2 : Below w.heap.size w w1 := ((Below.refl _ _).alloc (Nat.le_refl _) _).trans (hb.mono (by simp))
  clear hb HI
  go_wp2
  go_ret
  exact ⟨rfl, hb2⟩
set_option maxHeartbeats 4000000 in
set_option maxRecDepth 100000 in
theorem spec_IsOnto_yes (k n : Nat) (o : ByteArray) (w : World) (ho : o.size ≤ maxLen) (h : isCode k n o = true) :
    Calls Tryd.prog 9 #[.agg #[.int .i64 k, .int .i64 n, .string o]] w (OnePost (OntoP o k (n - 1)) w) := by
  have hP := code_P h
  have hk := hP.k23
  have hn1 := hP.n1
  have hn4 := hP.n4
  obtain ⟨hS1, hS9, hSk⟩ := powN_facts hk hn1 hn4 hP.fits
  have HI := hid (fun w : World => spec_IsCode_c k n o w ho)
  rw [h] at HI
  have HO := hid (fun w : World => spec_l12Orphan_c k n o w hk hn1 hn4 _ rfl hS9 hS1 (by rw [hP.size, hSk]))
  have HF := hid (onto_iff (o := o) (e := n - 1) hk (by rw [← powN_pow]; exact hS9))
  rw [← powN_pow] at HF
  obtain ⟨b, v, hv, hb⟩ : ∃ (b : Bool) (v : ByteArray), orphV o k (powN k (n - 1)) = .tuple #[.string v, .bool b] ∧ (b = false ↔ OntoP o k (n - 1)) := by
    cases hs : srchAll (fun s a => stepS o k (powN k (n - 1)) s a) k (2 ^ powN k (n - 1) - 1) with
    | some r => exact ⟨true, _, orphV_some hs, ⟨(fun h => nomatch h), (fun h => by have := HF.out.2 h; rw [hs] at this; cases this)⟩⟩
    | none => exact ⟨false, _, orphV_none hs, ⟨fun _ => HF.out.1 hs, fun _ => rfl⟩⟩
  rw [hv] at HO
  have HB := hid hb
  clear hb hv HF hS1 hS9 hSk hP h hk hn1 hn4
  unfold OnePost
  go_enter Tryd.func9, Tryd.ntmps9
  go_wp2_with fail
  refine (HI.out _).mono ?_
  rintro e w1 ⟨rfl, hb⟩
  obtain ⟨⟨s0, s1, s2⟩, _, hz⟩ := box3 hb
  have hb2 : Below w.heap.size w w1 := ((Below.refl _ _).alloc (Nat.le_refl _) _).trans (hb.mono (by simp))
  clear hb HI
  go_wp2_with fail
  refine (HO.out _).mono ?_
  rintro e w2 ⟨rfl, hb3⟩
  have hb4 := bs hb2 hb3
  clear HO s0 s1 s2
  cases b
  all_goals
    go_wp2
    go_ret
    refine ⟨_, rfl, ?_, hb4⟩
  · simp only [true_iff]; exact (by simpa using HB.out)
  · simp only [Bool.false_eq_true, false_iff]; exact (by simpa using HB.out)
end Go.Proofs.YtcmmlldincflkaaDoor
