/- Balanced words. Conditions: sizes within the reach. -/
import Derived.Test.YtcfjchaklgjmkaaCounts
import Derived.Test.YtcfjchaklgjmkaaSmall
import Derived.Lib.IndexBytes
namespace Go.Proofs.Ytcfjchaklgjmkaa
open Go.RowKit

/-- How often a stands in the part of length n at the place i. -/
def cw (l : List UInt8) (n i : Nat) : Int := cnt ((l.drop i).take n) 97
def loA (l : List UInt8) (n : Nat) : Nat → Int | 0 => n | i + 1 => min (loA l n i) (cw l n i)
def hiA (l : List UInt8) (n : Nat) : Nat → Int | 0 => 0 | i + 1 => max (hiA l n i) (cw l n i)
def okN (l : List UInt8) (n : Nat) : Bool := decide (hiA l n (l.length + 1 - n) - loA l n (l.length + 1 - n) ≤ 1)
def balTo (l : List UInt8) : Nat → Bool | 0 => true | n + 1 => balTo l n && okN l (n + 1)
def balW (s : ByteArray) : Bool := longB 2 s && balTo s.data.toList (min 20 s.size)
theorem cw_bd (l : List UInt8) (n i : Nat) : 0 ≤ cw l n i ∧ cw l n i ≤ n := by
  have h := cnt_bd ((l.drop i).take n) 97
  have h2 : ((l.drop i).take n).length ≤ n := List.length_take_le _ _
  unfold cw; omega
theorem lo_bd (l : List UInt8) (n : Nat) : ∀ i, 0 ≤ loA l n i ∧ loA l n i ≤ n
  | 0 => by simp [loA]
  | i + 1 => by have := lo_bd l n i; have := cw_bd l n i; simp only [loA]; omega
theorem hi_bd (l : List UInt8) (n : Nat) : ∀ i, 0 ≤ hiA l n i ∧ hiA l n i ≤ n
  | 0 => by simp [hiA]
  | i + 1 => by have := hi_bd l n i; have := cw_bd l n i; simp only [hiA]; omega
theorem balTo_no {l : List UInt8} {n : Nat} (h : okN l (n + 1) = false) : ∀ m, n < m → balTo l m = false
  | m + 1, hm => by
    by_cases he : n = m
    · subst he; simp [balTo, h]
    · simp [balTo, balTo_no h m (by omega)]
theorem balTo_step {l : List UInt8} {N : Nat} (h1 : 1 ≤ N) (h : balTo l (N - 1) = true) (ho : okN l N = true) : balTo l (N + 1 - 1) = true := by
  obtain ⟨n, rfl⟩ : ∃ n, N = n + 1 := ⟨N - 1, by omega⟩
  simp only [Nat.add_sub_cancel] at *
  rw [balTo, h, ho]; rfl
theorem balTo_no2 {l : List UInt8} {N : Nat} (h1 : 1 ≤ N) (ho : okN l N = false) (m : Nat) (hm : N ≤ m) : balTo l m = false := by
  obtain ⟨n, rfl⟩ : ∃ n, N = n + 1 := ⟨N - 1, by omega⟩
  exact balTo_no ho m (by omega)
theorem part_list (s : ByteArray) (i n : Nat) : (s.extract i (i + n)).data.toList = (s.data.toList.drop i).take n := by
  rw [Lib.extract_data, Nat.add_sub_cancel_left]
theorem part_lets {k : Int} {l : List UInt8} (h : lets k l = true) (i n : Nat) : lets k ((l.drop i).take n) = true := by
  unfold lets at *
  rw [List.all_eq_true] at *
  exact fun x hx => h x (List.mem_of_mem_drop (List.mem_of_mem_take hx))
theorem lets_mono {l : List UInt8} (h : lets 2 l = true) : lets 3 l = true := by
  unfold lets at *
  rw [List.all_eq_true] at *
  intro x hx
  have := h x hx
  rw [inB_iff] at *
  omega

set_option maxHeartbeats 2000000 in
theorem impl_IsBalancedWord_c (s : ByteArray) (w : World) (hs : s.size ≤ maxLen) :
    Calls Try.prog 44 #[.string s] w fun e w' => e = .returned (.bool (balW s)) ∧ w = w' := by
  have hs0 := hs
  unfold maxLen at hs0
  have HS := hid hs
  clear hs
  by_cases hl : longB 2 s = true
  · have hs300 : s.size ≤ 300 := (longB_iff.1 hl).2
    have hlets : lets 2 s.data.toList = true := (longB_iff.1 hl).1
    obtain ⟨M, hM⟩ : ∃ M, M = min 20 s.size := ⟨_, rfl⟩
    have hM20 : M ≤ 20 := by omega
    have hMs : M ≤ s.size := by omega
    have HB := hid (show balW s = balTo s.data.toList M by rw [balW, hl, hM]; rfl)
    have HM := hid hM
    clear hM
    have hd3 : decide ((300 : Int) < (s.size : Int)) = false := by simp; omega
    go_enter Try.func44, Try.ntmps44
    go_wp2_with (go_at_call 67; refine (areLetters_c _ _ _ HS.out (by omega)).mono ?_; rintro e w' ⟨rfl, rfl⟩)
    go_loop [3, 4, 5, 6, 7] (fun n _ _ _ _ => ∃ N : Nat, 1 ≤ N ∧ N ≤ M + 1 ∧ n = .int .i64 N ∧ Hid (balTo s.data.toList (N - 1) = true)) (fun n _ _ _ _ => M + 1 - (intOf n).toNat)
    case atStart => exact ⟨1, by omega, by omega, rfl, rfl⟩
    case round =>
      obtain ⟨N, hN1, hNM, rfl, HT⟩ := hrel
      by_cases hlt : N ≤ M
      · have hmin : (N : Int) ≤ min 20 (s.size : Int) := by omega
        go_wp2
        go_loop [4, 5, 6, 7] (fun lo hi i _ => ∃ j : Nat, j ≤ s.size + 1 - N ∧ i = .int .i64 j ∧ lo = .int .i64 (loA s.data.toList N j) ∧ hi = .int .i64 (hiA s.data.toList N j)) (fun _ _ i _ => s.size + 1 - N - (intOf i).toNat)
        case atStart => exact ⟨0, by omega, rfl, rfl, rfl⟩
        case round =>
          obtain ⟨j, hj, rfl, rfl, rfl⟩ := hrel
          have hb1 := lo_bd s.data.toList N j
          have hb2 := hi_bd s.data.toList N j
          have hb3 := cw_bd s.data.toList N j
          by_cases hlt2 : j + N ≤ s.size
          · have hcw : cnt (s.extract j (j + N)).data.toList 97 = cw s.data.toList N j := by rw [part_list]; rfl
            go_wp2_with (go_at_call 78; refine (stringsCount1_c _ _ _).mono ?_; rintro e w' ⟨rfl, rfl⟩)
            go_round
            case rel => exact ⟨j + 1, by omega, by go_num, rfl, rfl⟩
            case measure => simp [intOf]; omega
          · have hje : j = s.size + 1 - N := by omega
            have HOK := hid (show okN s.data.toList N = decide (hiA s.data.toList N j - loA s.data.toList N j ≤ 1) by rw [okN, size_list, ← hje])
            clear hje
            generalize loA s.data.toList N j = lo at *
            generalize hiA s.data.toList N j = hi at *
            generalize cw s.data.toList N j = cc at *
            by_cases hok : hi - lo ≤ 1
            · have HO1 := hid (show okN s.data.toList N = true by rw [HOK.out]; simpa using hok)
              go_wp2
              go_round
              case rel => exact ⟨N + 1, by omega, by omega, by go_num, balTo_step hN1 HT.out HO1.out⟩
              case measure => simp [intOf]; omega
            · have HO1 := hid (show okN s.data.toList N = false by rw [HOK.out]; simpa using hok)
              go_wp2
              go_ret
              exact ⟨ret_bool (by rw [HB.out, balTo_no2 hN1 HO1.out M (by omega)]), rfl⟩
      · have hmin : min 20 (s.size : Int) < (N : Int) := by have := HM.out; omega
        have HF := hid (show balTo s.data.toList M = true by have := HT.out; rwa [show N - 1 = M by omega] at this)
        go_wp2
        go_ret
        exact ⟨ret_bool (by rw [HB.out, HF.out]), rfl⟩
  · have HX := hid (show balW s = false by simp [balW, hl])
    by_cases h3 : s.size ≤ 300
    · have hd3 : decide ((300 : Int) < (s.size : Int)) = false := by simp; omega
      have hlt : lets 2 s.data.toList = false := by
        cases hq : lets 2 s.data.toList
        · rfl
        · exact absurd (longB_iff.2 ⟨hq, h3⟩) hl
      clear hl
      go_enter Try.func44, Try.ntmps44
      go_wp2_with (go_at_call 67; refine (areLetters_c _ _ _ HS.out (by omega)).mono ?_; rintro e w' ⟨rfl, rfl⟩)
      go_ret
      exact ⟨ret_bool HX.out.symm, rfl⟩
    · have hd3 : decide ((300 : Int) < (s.size : Int)) = true := by simp; omega
      clear hl
      go_enter Try.func44, Try.ntmps44
      go_wp2_with (go_at_call 67; refine (areLetters_c _ _ _ HS.out (by omega)).mono ?_; rintro e w' ⟨rfl, rfl⟩)
      go_ret
      exact ⟨ret_bool HX.out.symm, rfl⟩

set_option maxHeartbeats 2000000 in
theorem spec_IsBalancedWord_c (s : ByteArray) (w : World) (hs : s.size ≤ maxLen) :
    Calls Try.prog 45 #[.string s] w fun e w' => e = .returned (.bool (balW s)) ∧ Below w.heap.size w w' := by
  have hs0 := hs
  unfold maxLen at hs0
  have HS := hid hs
  clear hs
  by_cases hl : longB 2 s = true
  · have hs300 : s.size ≤ 300 := (longB_iff.1 hl).2
    have hlets : lets 2 s.data.toList = true := (longB_iff.1 hl).1
    obtain ⟨M, hM⟩ : ∃ M, M = min 20 s.size := ⟨_, rfl⟩
    have hM20 : M ≤ 20 := by omega
    have hMs : M ≤ s.size := by omega
    have HB := hid (show balW s = balTo s.data.toList M by rw [balW, hl, hM]; rfl)
    have HM := hid hM
    have HLET := hid (lets_mono hlets)
    clear hM hlets
    go_enter Try.func45, Try.ntmps45
    go_wp2_with (go_at_call 56; refine (l30LongB_c _ _ _ HS.out (by omega)).mono ?_; rintro e w' ⟨rfl, rfl⟩)
    go_loopw [3, 4, 5, 6, 7] (fun n _ _ _ _ wr => ∃ N : Nat, 1 ≤ N ∧ N ≤ M + 1 ∧ n = .int .i64 N ∧ Hid (balTo s.data.toList (N - 1) = true) ∧ Below w.heap.size w wr) (fun n _ _ _ _ _ => M + 1 - (intOf n).toNat)
    case atStart => exact ⟨1, by omega, by omega, rfl, rfl, Below.refl _ _⟩
    case round =>
      obtain ⟨N, hN1, hNM, rfl, HT, hbel0⟩ := hrel
      by_cases hlt : N ≤ M
      · have h20 : N ≤ 20 := by omega
        have hNs : N ≤ s.size := by omega
        go_wp2
        obtain ⟨wo, rfl⟩ : ∃ wo : World, wo = wr := ⟨_, rfl⟩
        go_loopw [4, 5, 6, 7] (fun lo hi i _ wr => ∃ j : Nat, j ≤ s.size + 1 - N ∧ i = .int .i64 j ∧ lo = .int .i64 (loA s.data.toList N j) ∧ hi = .int .i64 (hiA s.data.toList N j) ∧ Below w.heap.size w wr) (fun _ _ i _ _ => s.size + 1 - N - (intOf i).toNat)
        case atStart => exact ⟨0, by omega, rfl, rfl, rfl, hbel0⟩
        case round =>
          obtain ⟨j, hj, rfl, rfl, rfl, hbel⟩ := hrel
          have hb1 := lo_bd s.data.toList N j
          have hb2 := hi_bd s.data.toList N j
          have hb3 := cw_bd s.data.toList N j
          by_cases hlt2 : j + N ≤ s.size
          · have hsz : (s.extract j (j + N)).size = N := by rw [ByteArray.size_extract]; omega
            have hlc : lcOf (s.extract j (j + N)) = [cw s.data.toList N j, cnt ((s.data.toList.drop j).take N) 98, cnt ((s.data.toList.drop j).take N) 99] := by
              rw [lcOf, if_pos (longB_iff.2 ⟨by rw [part_list]; exact part_lets HLET.out j N, by omega⟩), part_list]; rfl
            have HLC := hid hlc
            have HSZ := hid hsz
            clear hlc hsz
            go_wp2_with fail
            refine (spec_LetterCounts_c (s.extract j (j + N)) _ (by rw [HSZ.out]; unfold maxLen; omega)).mono ?_
            rintro e w2 ⟨v, rfl, hown, hb⟩
            rw [HLC.out] at hown
            obtain ⟨av, cv, rfl, hrv⟩ := owns_rowAt hown (by simp)
            obtain ⟨bb, oo, rfl, hbb, hcc⟩ := hrv.at_ (by simp)
            have hcell := hcc 0 (.int .i64 (cw s.data.toList N j)) rfl
            simp only [Nat.add_zero] at hcell
            have hb5 := hbel.trans (hb.mono hbel.size)
            clear hcc hrv hown hb
            go_wp2_with (first | (go_at_call 64; refine (l1Min_c _ _ _).mono ?_; rintro e w' ⟨rfl, rfl⟩) | (go_at_call 79; refine (l1Max_c _ _ _).mono ?_; rintro e w' ⟨rfl, rfl⟩))
            go_roundw
            case rel => exact ⟨j + 1, by omega, by go_num, rfl, rfl, hb5⟩
            case measure => simp [intOf]; omega
          · have hje : j = s.size + 1 - N := by omega
            have HOK := hid (show okN s.data.toList N = decide (hiA s.data.toList N j - loA s.data.toList N j ≤ 1) by rw [okN, size_list, ← hje])
            clear hje
            generalize loA s.data.toList N j = lo at *
            generalize hiA s.data.toList N j = hi at *
            generalize cw s.data.toList N j = cc at *
            by_cases hok : hi - lo ≤ 1
            · have HO1 := hid (show okN s.data.toList N = true by rw [HOK.out]; simpa using hok)
              go_wp2
              go_roundw
              case rel => exact ⟨N + 1, by omega, by omega, by go_num, balTo_step hN1 HT.out HO1.out, hbel⟩
              case measure => simp [intOf]; omega
            · have HO1 := hid (show okN s.data.toList N = false by rw [HOK.out]; simpa using hok)
              go_wp2
              go_ret
              exact ⟨ret_bool (by rw [HB.out, balTo_no2 hN1 HO1.out M (by omega)]), hbel⟩
      · have hmin : 20 < N ∨ s.size < N := by have := HM.out; omega
        have HF := hid (show balTo s.data.toList M = true by have := HT.out; rwa [show N - 1 = M by omega] at this)
        rcases hmin with h | h
        · go_wp2
          go_ret
          exact ⟨ret_bool (by rw [HB.out, HF.out]), hbel0⟩
        · go_wp2
          all_goals
            go_ret
            exact ⟨ret_bool (by rw [HB.out, HF.out]), hbel0⟩
  · have hl2 : longB 2 s = false := by simpa using hl
    have HX := hid (show balW s = false by simp [balW, hl2])
    clear hl
    go_enter Try.func45, Try.ntmps45
    go_wp2_with (go_at_call 56; refine (l30LongB_c _ _ _ HS.out (by omega)).mono ?_; rintro e w' ⟨rfl, rfl⟩)
    go_ret
    exact ⟨ret_bool HX.out.symm, Below.refl _ _⟩
end Go.Proofs.Ytcfjchaklgjmkaa
