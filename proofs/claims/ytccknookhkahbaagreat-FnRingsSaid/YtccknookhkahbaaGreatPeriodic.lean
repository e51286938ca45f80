/- Rings that come again: the plain law, and impl.CountOnRings. No condition but the sizes. -/
import Derived.Test.YtccknookhkahbaaGreatFixedR
import Derived.Test.YtccknookhkahbaaGreatIns
namespace Go.Proofs.YtccknookhkahbaaGreat
open Go.RowKit

theorem itr_mod {f : List UInt8 → List UInt8} {l : List UInt8} {t p : Nat} (h : IsTail f l t p) : ∀ k, t ≤ k → ∃ s, t ≤ s ∧ s < t + p ∧ itr f l k = itr f l s
  | 0, hk => ⟨0, by omega, by have := h.pos; omega, rfl⟩
  | k + 1, hk => by
    rcases Nat.lt_or_ge k t with h1 | h1
    · exact ⟨k + 1, by omega, by have := h.pos; omega, rfl⟩
    · obtain ⟨s, hs1, hs2, he⟩ := itr_mod h k h1
      have e : itr f l (k + 1) = itr f l (s + 1) := by show f (itr f l k) = f (itr f l s); rw [he]
      rcases Nat.lt_or_ge (s + 1) (t + p) with h2 | h2
      · exact ⟨s + 1, by omega, h2, e⟩
      · have h3 : s + 1 = t + p := by omega
        exact ⟨t, by omega, by have := h.pos; omega, by rw [e, h3, h.eq]⟩
/-- A word that comes again. -/
def Again (f : List UInt8 → List UInt8) (l : List UInt8) : Prop := ∃ p, 1 ≤ p ∧ itr f l p = l
theorem again_iff {f : List UInt8 → List UInt8} {l : List UInt8} {t p : Nat} (h : IsTail f l t p) : Again f l ↔ t = 0 := by
  constructor
  · rintro ⟨q, hq, e⟩
    refine Classical.byContradiction fun ht => ?_
    rcases Nat.lt_or_ge q (t + p) with h1 | h1
    · exact h.new 0 q (by omega) h1 e.symm
    · obtain ⟨s, hs1, hs2, he⟩ := itr_mod h q (by omega)
      exact h.new 0 s (by omega) hs2 (by rw [← he, e]; rfl)
  · rintro rfl
    exact ⟨p, h.pos, by have := h.eq; rw [Nat.zero_add] at this; exact this⟩
noncomputable def per (o : ByteArray) (n m i : Nat) : Bool := @decide (Again (ringB o 2 n) (wAt 2 m i)) (Classical.propDecidable _)
theorem per_iff {o : ByteArray} {n m i : Nat} : per o n m i = true ↔ Again (ringB o 2 n) (wAt 2 m i) := by unfold per; exact @decide_eq_true_iff _ (Classical.propDecidable _)
theorem per_tail {o : ByteArray} {n m i t p : Nat} (h : IsTail (ringB o 2 n) (wAt 2 m i) t p) : per o n m i = decide (t = 0) := by
  rw [Bool.eq_iff_iff, per_iff, again_iff h, decide_eq_true_iff]
noncomputable def cntP (o : ByteArray) (n m : Nat) : Nat := ((List.range (2 ^ m)).filter (per o n m)).length
set_option maxHeartbeats 2000000 in
theorem impl_CountOnRings_no (k n : Int) (o : ByteArray) (m : Int) (w : World) (ho : o.size ≤ maxLen) (h : fitsB k n o m = false) :
    Calls Tryz.prog 13 #[.agg #[.int .i64 k, .int .i64 n, .string o], .int .i64 m] w fun e w' => e = .returned (.int .i64 (-1)) ∧ Below w.heap.size w w' := by
  have HN := hid (fun w => impl_areRings_c k n o m w ho)
  rw [h] at HN
  clear h
  go_enter Tryz.func13, Tryz.ntmps13
  go_wp2_with fail
  refine (HN.out _).mono ?_
  rintro e w1 ⟨rfl, hb1⟩
  go_wp2
  go_ret
  exact ⟨rfl, ((Below.refl _ _).alloc (Nat.le_refl _) _).trans (hb1.mono (by simp))⟩
theorem impl_tail_wd {o : ByteArray} {n m : Nat} (h : RFit o n m) (i : Nat) (w : World) :
    Calls Tryz.prog 29 #[.agg #[.int .i64 (2 : Nat), .int .i64 n, .string o], .string (wdB 2 m i)] w (TailPost (ringB o 2 n) (wAt 2 m i) w) := by
  have h1 := h.m1
  have h2 := h.m8
  exact impl_tail_c 2 n o (wdB 2 m i) w (by omega) h.n1 h.n4 h.os h.lo (wAt_lets (k := 2) (by omega) m i) (by rw [wdB_size]; omega) (by rw [wdB_size]; omega)
set_option maxHeartbeats 2000000 in
set_option maxRecDepth 100000 in
theorem impl_CountOnRings_yes (n m : Nat) (o : ByteArray) (w : World) (ho : o.size ≤ maxLen) (h : RFit o n m) (hf : fitsB 2 n o m = true) :
    Calls Tryz.prog 13 #[.agg #[.int .i64 2, .int .i64 n, .string o], .int .i64 m] w fun e w' => e = .returned (.int .i64 (cntP o n m : Int)) ∧ Below w.heap.size w w' := by
  have hps := pow_small (k := 2) (by omega) h.m8
  have HN := hid (fun w => impl_areRings_c 2 n o m w ho)
  rw [hf] at HN
  have HWO := hid (fun w : World => show Calls Tryz.prog 38 #[.int .i64 2, .int .i64 m] w (WordsPost 2 m w) from impl_wordsOf_c 2 m w (by omega) h.m8)
  have HT := hid (fun (i : Nat) (w : World) => show Calls Tryz.prog 29 #[.agg #[.int .i64 2, .int .i64 n, .string o], .string (wdB 2 m i)] w (TailPost (ringB o 2 n) (wAt 2 m i) w) from impl_tail_wd h i w)
  unfold WordsPost at HWO
  unfold cntP
  obtain ⟨M, hM⟩ : ∃ M, M = 2 ^ m := ⟨_, rfl⟩
  have hM1 : 1 ≤ M := by rw [hM]; exact Nat.one_le_pow _ _ (by omega)
  rw [← hM] at HWO hps
  rw [← hM]
  clear hM hf h
  go_enter Tryz.func13, Tryz.ntmps13
  go_wp2_with fail
  refine (HN.out _).mono ?_
  rintro e w1 ⟨rfl, hb1⟩
  obtain ⟨⟨hc0, hc1, hc2⟩, _, hzz⟩ := box3 hb1
  have hbw1 : Below w.heap.size w w1 := ((Below.refl _ _).alloc (Nat.le_refl _) _).trans (hb1.mono (by simp))
  go_wp2_with fail
  refine (HWO.out _).mono ?_
  rintro e w2 ⟨v, rfl, hown, hb2⟩
  have HK := hid (fun (V : World) (hV : Below w2.heap.size w2 V) => (⟨(hV.cell (p := ⟨w.heap.size, 0, none⟩) (Nat.lt_of_lt_of_le hzz hb2.size)).trans ((hb2.cell (p := ⟨w.heap.size, 0, none⟩) hzz).trans hc0), (hV.cell (p := ⟨w.heap.size, 1, none⟩) (Nat.lt_of_lt_of_le hzz hb2.size)).trans ((hb2.cell (p := ⟨w.heap.size, 1, none⟩) hzz).trans hc1), (hV.cell (p := ⟨w.heap.size, 2, none⟩) (Nat.lt_of_lt_of_le hzz hb2.size)).trans ((hb2.cell (p := ⟨w.heap.size, 2, none⟩) hzz).trans hc2)⟩ : V.cell? ⟨w.heap.size, 0, none⟩ = some (.int .i64 2) ∧ V.cell? ⟨w.heap.size, 1, none⟩ = some (.int .i64 n) ∧ V.cell? ⟨w.heap.size, 2, none⟩ = some (.string o)))
  obtain ⟨a5, c5, rfl, hr5⟩ := owns_rowAt hown (by omega)
  obtain ⟨b5, o5, rfl, hb5, hcl5⟩ := hr5.at_ (by omega)
  have HC5 := hid hcl5
  have hbw2 := bs hbw1 hb2
  clear hc0 hc1 hc2 hb1 hown hr5 hcl5
  go_wp2
  go_loopw [5, 17] (fun c i wr => ∃ j q : Nat, j ≤ M ∧ i = .int .i64 j ∧ c = .int .i64 q ∧ q ≤ j ∧ Hid (q = ((List.range j).filter (per o n m)).length) ∧ Below w2.heap.size w2 wr) (fun _ i _ => M - (intOf i).toNat)
  case atStart => exact ⟨0, 0, by omega, rfl, rfl, by omega, rfl, Below.refl _ _⟩
  case round =>
    obtain ⟨j, q, hj, rfl, rfl, hqj, HQ, hbel⟩ := hrel
    by_cases hlt : j < M
    · have hcell := (hbel.cell (p := ⟨b5, o5 + j, none⟩) hb5).trans (HC5.out j _ (strVals_get (wds_get hlt)))
      obtain ⟨h0, h1, h2⟩ := HK.out _ hbel
      have HTj := hid (HT.out j)
      unfold TailPost at HTj
      go_wp2_with fail
      refine (HTj.out _).mono ?_
      rintro e w3 ⟨t, p, hT, hle, rfl, hb3⟩
      have hper := per_tail hT
      have hbel3 := hbel.trans (hb3.mono hbel.size)
      clear hT
      cases hb : per o n m j
      · rw [hb] at hper
        have ht0 : ¬ (t = 0) := by simpa using hper.symm
        have hti : ((t : Int) == 0) = false := by rw [beq_eq_false_iff_ne]; omega
        have HB := hid hb
        clear hb hper
        go_wp2
        go_roundw
        case rel => exact ⟨j + 1, q, by omega, by go_num, by go_num, by omega, by show _ = _; rw [cn_no HB.out]; exact HQ.out, hbel3⟩
        case measure => simp [intOf]; omega
      · rw [hb] at hper
        obtain rfl : t = 0 := by simpa using hper.symm
        have HB := hid hb
        clear hb hper
        go_wp2
        go_roundw
        case rel => exact ⟨j + 1, q + 1, by omega, by go_num, by go_num, by omega, by show _ = _; rw [cn_yes HB.out]; rw [HQ.out], hbel3⟩
        case measure => simp [intOf]; omega
    · obtain rfl : j = M := by omega
      go_wp2
      go_ret
      exact ⟨ret_int (by rw [HQ.out]), hbw2.trans (hbel.mono hbw2.size)⟩
end Go.Proofs.YtccknookhkahbaaGreat
