/- A number read: the reference's functions. Conditions: sizes of at most 1048576 bytes. -/
import Derived.Test.YtcmmlldincflkaaFmt
import Derived.Lib.Atoi
import Derived.Lib.IndexBytes
import Derived.Lib.Walk
import Derived.Deep.CutRange
namespace Go.Proofs.Ytcmmlldincflkaa
open Go.RowKit

def rdNeg (s : ByteArray) : Bool := s.data.toList.head? == some 45
def rdTxt (s : ByteArray) : List UInt8 := if rdNeg s then s.data.toList.drop 1 else s.data.toList
/-- The number that a text of so many digits at most writes. -/
def readO (s : ByteArray) (most : Nat) : Option Int :=
  if 1 ≤ (rdTxt s).length ∧ (rdTxt s).length ≤ most then
    match Lib.decFrom 0 (rdTxt s) with
    | none => none
    | some n => if fmtB (if rdNeg s then -(n : Int) else n) = s then some (if rdNeg s then -(n : Int) else n) else none
  else none
theorem read_bd {s : ByteArray} {most : Nat} {x : Int} (hm : most ≤ 12) (h : readO s most = some x) : -1000000000000 ≤ x ∧ x ≤ 1000000000000 := by
  unfold readO at h
  split at h
  · rename_i hl
    split at h
    · cases h
    · rename_i n hn
      have h1 := Lib.decFrom_lt _ 0 n hn
      have h2 : (10 : Nat) ^ (rdTxt s).length ≤ 10 ^ 12 := Nat.pow_le_pow_right (by omega) (by omega)
      have h3 : (10 : Nat) ^ 12 = 1000000000000 := by decide
      have key : ∀ m : Int, -1000000000000 ≤ m → m ≤ 1000000000000 → (if fmtB m = s then some m else none) = some x → -1000000000000 ≤ x ∧ x ≤ 1000000000000 := by
        intro m h4 h5 h6
        split at h6
        · injection h6 with h6
          omega
        · cases h6
      cases hn : rdNeg s
      · rw [hn] at h
        exact key n (by omega) (by omega) h
      · rw [hn] at h
        exact key (-n) (by omega) (by omega) h
  · cases h
theorem dig_get {l : List UInt8} {j acc : Nat} {c : UInt8} (h : Lib.decFrom 0 (l.take j) = some acc) (hc : l[j]? = some c) (h1 : 48 ≤ c.toNat) (h2 : c.toNat ≤ 57) : Lib.decFrom 0 (l.take (j + 1)) = some (acc * 10 + (c.toNat - 48)) :=
  Lib.decFrom_take l j 0 acc c (c.toNat - 48) h hc (by unfold Lib.digitVal; rw [if_pos ⟨h1, h2⟩])
theorem dig_bad {l : List UInt8} {j : Nat} {c : UInt8} (hc : l[j]? = some c) (h : c.toNat < 48 ∨ 57 < c.toNat) : Lib.decFrom 0 l = none := by
  cases hd : Lib.decFrom 0 l with
  | none => rfl
  | some n =>
    obtain ⟨d, hd2⟩ := Lib.digit_of_decFrom l 0 n hd j c hc
    have := Lib.digitVal_eq hd2
    omega
theorem readO_none {s : ByteArray} {most : Nat} (h : ¬ (1 ≤ (rdTxt s).length ∧ (rdTxt s).length ≤ most) ∨ Lib.decFrom 0 (rdTxt s) = none) : readO s most = none := by
  unfold readO
  rcases h with h | h
  · rw [if_neg h]
  · rw [h]; simp
theorem readO_val {s : ByteArray} {most n : Nat} {m : Int} (h : 1 ≤ (rdTxt s).length ∧ (rdTxt s).length ≤ most) (hn : Lib.decFrom 0 (rdTxt s) = some n) (hm : m = if rdNeg s then -(n : Int) else n) : readO s most = if fmtB m = s then some m else none := by
  unfold readO
  rw [if_pos h, hn, hm]
theorem str_beq (a b : ByteArray) : (a.toList == b.toList) = decide (a = b) := by
  by_cases h : a = b
  · rw [h]; simp
  · rw [decide_eq_false h, beq_eq_false_iff_ne]
    intro e
    rw [Lib.toList_data, Lib.toList_data] at e
    refine h ?_
    cases a; cases b; simp at e; rw [e]
set_option maxHeartbeats 2000000 in
theorem l1Read_c (s : ByteArray) (most : Nat) (w : World) (hs : s.size ≤ 1048576) (hm : most ≤ 12) :
    Calls Try.prog 91 #[.string s, .int .i64 most] w fun e w' => e = .returned (.tuple #[.int .i64 ((readO s most).getD 0), .bool (readO s most).isSome]) ∧ Below w.heap.size w w' := by
  by_cases h0 : s.size = 0
  · have HN := hid (readO_none (s := s) (most := most) (Or.inl (by
      have : s.data.toList = [] := List.eq_nil_of_length_eq_zero (by rw [size_list]; exact h0)
      unfold rdTxt
      rw [this]
      split <;> simp)))
    have h0' : ¬ ((0 : Int) < (s.size : Int)) := by omega
    have h1' : (s.size : Int) < 1 := by omega
    go_enter Try.func91, Try.ntmps91
    go_wp2
    go_ret2
    exact ⟨by rw [HN.out]; rfl, Below.refl _ _⟩
  · have hpos : 0 < s.size := by omega
    have hpos' : (0 : Int) < (s.size : Int) := by omega
    have hhd : s.data.toList.head? = some s[0] := by rw [← byte_at s 0 hpos, List.head?_eq_getElem?]
    by_cases hx : s[0] = 45
    · have HNB := hid (show rdNeg s = true by unfold rdNeg; rw [hhd, hx]; rfl)
      have hx2 : (s[0].toNat : Int) = 45 := by rw [hx]; rfl
      obtain ⟨t, ht⟩ : ∃ t, t = s.extract 1 s.size := ⟨_, rfl⟩
      have HT := hid (show t.data.toList = rdTxt s by
        unfold rdTxt
        rw [HNB.out, if_pos rfl, ht, Lib.extract_data, List.take_of_length_le (by rw [List.length_drop, size_list]; exact Nat.le_refl _)])
      have HTT := hid ht
      have hts : t.size ≤ s.size := by rw [ht, ByteArray.size_extract]; omega
      clear hhd hx ht
      go_enter Try.func91, Try.ntmps91
      go_upto_region 5 with fail
      rw [← HTT.out]
      by_cases hl1 : 1 ≤ t.size
      · by_cases hl2 : t.size ≤ most
        · have hl2' : (t.size : Int) ≤ (most : Int) := by omega
          have hl1' : ¬ ((t.size : Int) < 1) := by omega
          go_wp2
          go_loop [8, 9] (fun n i => ∃ j acc : Nat, j ≤ t.size ∧ i = .int .i64 j ∧ n = .int .i64 acc ∧ Hid (Lib.decFrom 0 (t.data.toList.take j) = some acc)) (fun _ i => t.size - (intOf i).toNat)
          case atStart => exact ⟨0, 0, by omega, rfl, rfl, by show _ = _; simp [Lib.decFrom]⟩
          case round =>
            obtain ⟨j, acc, hj, rfl, rfl, HA⟩ := hrel
            have hacc := Lib.decFrom_take_lt HA.out (by omega)
            by_cases hlt : j < t.size
            · have hji : (j : Int) < (t.size : Int) := by omega
              have hc255 := (t[j]).toNat_lt
              by_cases hc1 : t[j].toNat < 48
              · have HN := hid (readO_none (s := s) (most := most) (Or.inr (by rw [← HT.out]; exact dig_bad (byte_at t j hlt) (Or.inl hc1))))
                have hc1' : (t[j].toNat : Int) < 48 := by omega
                go_wp2
                go_ret2
                exact ⟨by rw [HN.out]; rfl, Below.refl _ _⟩
              · by_cases hc2 : 57 < t[j].toNat
                · have HN := hid (readO_none (s := s) (most := most) (Or.inr (by rw [← HT.out]; exact dig_bad (byte_at t j hlt) (Or.inr hc2))))
                  have hc1' : ¬ ((t[j].toNat : Int) < 48) := by omega
                  have hc2' : (57 : Int) < (t[j].toNat : Int) := by omega
                  go_wp2
                  go_ret2
                  exact ⟨by rw [HN.out]; rfl, Below.refl _ _⟩
                · have HN := hid (dig_get HA.out (byte_at t j hlt) (by omega) (by omega))
                  obtain ⟨d, hd⟩ : ∃ d, t[j].toNat = 48 + d := ⟨t[j].toNat - 48, by omega⟩
                  rw [show t[j].toNat - 48 = d by omega] at HN
                  have hd9 : d ≤ 9 := by omega
                  go_wp2
                  go_round
                  case rel => exact ⟨j + 1, acc * 10 + d, by omega, by go_num, by go_num, HN⟩
                  case measure => simp [intOf] <;> omega
            · obtain rfl : j = t.size := by omega
              have hfin := HA.out
              rw [List.take_of_length_le (by rw [size_list]; exact Nat.le_refl _), HT.out] at hfin
              have HV := hid (fun (m : Int) (hm : m = if rdNeg s then -(acc : Int) else acc) => readO_val (s := s) (most := most) (by rw [← HT.out, size_list]; omega) hfin hm)
              clear hfin HA
              obtain ⟨m, hm⟩ : ∃ m : Int, m = if rdNeg s then -(acc : Int) else acc := ⟨_, rfl⟩
              have HVM := hid (HV.out m hm)
              rw [HNB.out] at hm
              simp only [if_true, if_false, Bool.false_eq_true, reduceIte] at hm
              have HF := hid (fun w => spec_FormatInt_c m w (by omega) (by omega))
              subst hm
              go_wp2_with fail
              refine (HF.out _).mono ?_
              rintro e w1 ⟨rfl, hb⟩
              have hq := str_beq (fmtB (-↑acc)) s
              by_cases hf : fmtB (-↑acc) = s
              · rw [decide_eq_true hf] at hq
                have HV2 := hid (show readO s most = some (-↑acc) by rw [HVM.out, if_pos hf])
                clear hf
                go_wp2
                go_ret2
                exact ⟨by rw [HV2.out]; rfl, hb⟩
              · rw [decide_eq_false hf] at hq
                have HV2 := hid (show readO s most = none by rw [HVM.out, if_neg hf])
                clear hf
                go_wp2
                go_ret2
                exact ⟨by rw [HV2.out]; rfl, hb⟩
        · have HN := hid (readO_none (s := s) (most := most) (Or.inl (by rw [← HT.out, size_list]; omega)))
          have hl2' : (most : Int) < (t.size : Int) := by omega
          have hl1' : ¬ ((t.size : Int) < 1) := by omega
          go_wp2
          go_ret2
          exact ⟨by rw [HN.out]; rfl, Below.refl _ _⟩
      · have HN := hid (readO_none (s := s) (most := most) (Or.inl (by rw [← HT.out, size_list]; omega)))
        have hl1' : (t.size : Int) < 1 := by omega
        go_wp2
        go_ret2
        exact ⟨by rw [HN.out]; rfl, Below.refl _ _⟩
    · have HNB := hid (show rdNeg s = false by unfold rdNeg; rw [hhd]; simp [hx])
      have hx2 : ((s[0].toNat : Int) == 45) = false := by
        rw [beq_eq_false_iff_ne]
        intro e
        exact hx (UInt8.toNat_inj.1 (by show _ = 45; omega))
      have HT := hid (show s.data.toList = rdTxt s by unfold rdTxt; rw [HNB.out]; rfl)
      clear hhd hx
      go_enter Try.func91, Try.ntmps91
      by_cases hl1 : 1 ≤ s.size
      · by_cases hl2 : s.size ≤ most
        · have hl2' : (s.size : Int) ≤ (most : Int) := by omega
          have hl1' : ¬ ((s.size : Int) < 1) := by omega
          go_wp2
          go_loop [8, 9] (fun n i => ∃ j acc : Nat, j ≤ s.size ∧ i = .int .i64 j ∧ n = .int .i64 acc ∧ Hid (Lib.decFrom 0 (s.data.toList.take j) = some acc)) (fun _ i => s.size - (intOf i).toNat)
          case atStart => exact ⟨0, 0, by omega, rfl, rfl, by show _ = _; simp [Lib.decFrom]⟩
          case round =>
            obtain ⟨j, acc, hj, rfl, rfl, HA⟩ := hrel
            have hacc := Lib.decFrom_take_lt HA.out (by omega)
            by_cases hlt : j < s.size
            · have hji : (j : Int) < (s.size : Int) := by omega
              have hc255 := (s[j]).toNat_lt
              by_cases hc1 : s[j].toNat < 48
              · have HN := hid (readO_none (s := s) (most := most) (Or.inr (by rw [← HT.out]; exact dig_bad (byte_at s j hlt) (Or.inl hc1))))
                have hc1' : (s[j].toNat : Int) < 48 := by omega
                go_wp2
                go_ret2
                exact ⟨by rw [HN.out]; rfl, Below.refl _ _⟩
              · by_cases hc2 : 57 < s[j].toNat
                · have HN := hid (readO_none (s := s) (most := most) (Or.inr (by rw [← HT.out]; exact dig_bad (byte_at s j hlt) (Or.inr hc2))))
                  have hc1' : ¬ ((s[j].toNat : Int) < 48) := by omega
                  have hc2' : (57 : Int) < (s[j].toNat : Int) := by omega
                  go_wp2
                  go_ret2
                  exact ⟨by rw [HN.out]; rfl, Below.refl _ _⟩
                · have HN := hid (dig_get HA.out (byte_at s j hlt) (by omega) (by omega))
                  obtain ⟨d, hd⟩ : ∃ d, s[j].toNat = 48 + d := ⟨s[j].toNat - 48, by omega⟩
                  rw [show s[j].toNat - 48 = d by omega] at HN
                  have hd9 : d ≤ 9 := by omega
                  go_wp2
                  go_round
                  case rel => exact ⟨j + 1, acc * 10 + d, by omega, by go_num, by go_num, HN⟩
                  case measure => simp [intOf] <;> omega
            · obtain rfl : j = s.size := by omega
              have hfin := HA.out
              rw [List.take_of_length_le (by rw [size_list]; exact Nat.le_refl _), HT.out] at hfin
              have HV := hid (fun (m : Int) (hm : m = if rdNeg s then -(acc : Int) else acc) => readO_val (s := s) (most := most) (by rw [← HT.out, size_list]; omega) hfin hm)
              clear hfin HA
              obtain ⟨m, hm⟩ : ∃ m : Int, m = if rdNeg s then -(acc : Int) else acc := ⟨_, rfl⟩
              have HVM := hid (HV.out m hm)
              rw [HNB.out] at hm
              simp only [if_true, if_false, Bool.false_eq_true, reduceIte] at hm
              have HF := hid (fun w => spec_FormatInt_c m w (by omega) (by omega))
              subst hm
              go_wp2_with fail
              refine (HF.out _).mono ?_
              rintro e w1 ⟨rfl, hb⟩
              have hq := str_beq (fmtB (↑acc)) s
              by_cases hf : fmtB (↑acc) = s
              · rw [decide_eq_true hf] at hq
                have HV2 := hid (show readO s most = some (↑acc) by rw [HVM.out, if_pos hf])
                clear hf
                go_wp2
                go_ret2
                exact ⟨by rw [HV2.out]; rfl, hb⟩
              · rw [decide_eq_false hf] at hq
                have HV2 := hid (show readO s most = none by rw [HVM.out, if_neg hf])
                clear hf
                go_wp2
                go_ret2
                exact ⟨by rw [HV2.out]; rfl, hb⟩
        · have HN := hid (readO_none (s := s) (most := most) (Or.inl (by rw [← HT.out, size_list]; omega)))
          have hl2' : (most : Int) < (s.size : Int) := by omega
          have hl1' : ¬ ((s.size : Int) < 1) := by omega
          go_wp2
          go_ret2
          exact ⟨by rw [HN.out]; rfl, Below.refl _ _⟩
      · have HN := hid (readO_none (s := s) (most := most) (Or.inl (by rw [← HT.out, size_list]; omega)))
        have hl1' : (s.size : Int) < 1 := by omega
        go_wp2
        go_ret2
        exact ⟨by rw [HN.out]; rfl, Below.refl _ _⟩
end Go.Proofs.Ytcmmlldincflkaa
