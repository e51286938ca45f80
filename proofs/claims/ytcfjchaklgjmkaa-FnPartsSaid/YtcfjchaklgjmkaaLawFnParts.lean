/- The law FnParts returns true for all bytes. No condition. -/
import Derived.Test.YtcfjchaklgjmkaaBig
import Derived.Test.YtcfjchaklgjmkaaDraw5
import Derived.Test.YtcfjchaklgjmkaaPartsL
import Derived.Test.YtcfjchaklgjmkaaSpecW
import Derived.Test.YtcfjchaklgjmkaaReturns2
import Derived.Test.YtcfjchaklgjmkaaOcc
import Derived.Test.YtcfjchaklgjmkaaSame
import Derived.Test.YtcfjchaklgjmkaaBytesIn
import Derived.Deep.CutRange
import Derived.Deep.RegionHeld3
namespace Go.Proofs.Ytcfjchaklgjmkaa
open Go.ChangeShapes Go.WideShapes Go.ChangeAt Go.RowKit
open Go.ChangeMaps (open_string shut_string)

theorem cnt_bdP (s : ByteArray) (n : Int) : -1 ≤ cntOf s n ∧ cntOf s n ≤ 301 := by
  unfold cntOf
  split
  · rename_i h
    rw [Bool.and_eq_true] at h
    have := fitW_size h.1
    have := pts_le s n.toNat
    omega
  · omega
theorem rt_leP (s p : ByteArray) : (rtOf s p).length ≤ s.size := by
  have h1 := rtN_len s (plOf s.data.toList p.data.toList) ((plOf s.data.toList p.data.toList).length - 1)
  have h2 : (plOf s.data.toList p.data.toList).length ≤ s.size := by
    unfold plOf
    split
    · have := pl_le s.data.toList p.data.toList s.data.toList.length
      rw [size_list] at this
      rw [size_list]
      exact this
    · simp
  unfold rtOf
  omega
theorem pl_leP (s p : ByteArray) : (plOf s.data.toList p.data.toList).length ≤ s.size := by
  unfold plOf
  split
  · have := pl_le s.data.toList p.data.toList s.data.toList.length
    rw [size_list] at this
    rw [size_list]
    exact this
  · simp
theorem fib_all : ∃ F : ByteArray,
    (∀ (b : Option Addr) (V : World), RowAt V b 2 (strVals fibS) → Calls Try.prog 14 #[.slice b 2 2, .int .i64 0, .int .i64 60] V fun e w' => e = .returned (.tuple #[.string F, .bool true]) ∧ V = w') ∧
    (∀ V : World, Calls Try.prog 29 #[.string F, .int .i64 6] V fun e w' => ∃ v, e = .returned v ∧ w'.ownsRow V.heap.size 3 1 v 7 (intVals [1, 2, 3, 4, 5, 6, 7]) ∧ Below V.heap.size V w') ∧
    (∀ V : World, Calls Try.prog 44 #[.string F] V fun e w' => e = .returned (.bool true) ∧ V = w') ∧
    (∀ V : World, Calls Try.prog 32 #[.string F, .string ⟨#[97, 98]⟩] V fun e w' => ∃ g d, e = .returned (.slice g 2 d) ∧ Below V.heap.size V w') := by
  refine ⟨fibW, fun b V hr => ?_, fun V => ?_, fun V => ?_, fun V => ?_⟩
  · have h := spec_FixedStart_c b 2 2 fibS 0 60 V hr (fun t ht => by
      have : ∀ z ∈ fibS, z.size ≤ 2 := by decide
      exact Nat.le_trans (this t ht) (by unfold maxLen; omega))
    rw [fib_fix] at h
    exact h
  · have h := impl_PartRow_c fibW 6 V (by unfold maxLen; decide)
    unfold RowPost at h
    rw [fib_row] at h
    exact h
  · have h := impl_IsBalancedWord_c fibW V (by unfold maxLen; decide)
    rw [fib_bal] at h
    exact h
  · have h := impl_ReturnsTo_c fibW ⟨#[97, 98]⟩ V (by decide) (by decide)
    unfold RtPost at h
    rw [fib_ret] at h
    refine h.mono ?_
    rintro e w' ⟨v, rfl, ho, hb⟩
    obtain ⟨g, d, rfl, _⟩ := owns_rowAt ho (by omega)
    exact ⟨g, d, rfl, hb⟩
set_option maxHeartbeats 4000000 in
set_option maxRecDepth 100000 in
theorem walk_FnParts (W : World) (v : Value) (h : BytesIn W v) :
    Calls Try.prog 4 #[v] W fun e W' => e = .returned (.bool true) ∧ Below W.heap.size W W' := by
  obtain ⟨a, n, c, lb, rfl, hr⟩ := h
  have hlim := hr.lim
  by_cases hbig : 1048576 < n
  · go_enter Try.func4, Try.ntmps4
    go_wp2_with fail
    refine (big_c a n c _ hlim).mono ?_
    rintro e w1 ⟨rfl, rfl⟩
    rw [decide_eq_true hbig]
    go_wp2
    go_ret
    exact ⟨rfl, Below.refl _ _⟩
  have HR := hid hr
  have HB := hid (Below.refl W.heap.size W)
  clear hr
  go_enter Try.func4, Try.ntmps4
  go_wp2_with fail
  refine (big_c a n c _ hlim).mono ?_
  rintro e w1 ⟨rfl, rfl⟩
  rw [decide_eq_false hbig]
  go_wp2_with fail
  refine (DrawSpecialParts_c a n c lb _ HR.out).mono ?_
  rintro e w1 ⟨s1, n1, rfl, hs1, hn1, hb⟩
  have HR := hid (HR.out.below hb (Nat.le_refl _))
  have HB := hid (bs HB.out hb)
  clear hb
  obtain ⟨X1, hX1⟩ : ∃ X, X = specOf s1 n1 := ⟨_, rfl⟩
  obtain ⟨c0, hc0⟩ : ∃ x, x = cntOf s1 n1 := ⟨_, rfl⟩
  obtain ⟨c1, hc1⟩ : ∃ x, x = cntOf s1 (n1 + 1) := ⟨_, rfl⟩
  have hX1l : X1.length ≤ 1048577 := by rw [hX1]; exact specOf_le _ _ (by omega)
  have hc0b : -1 ≤ c0 ∧ c0 ≤ 301 := by rw [hc0]; exact cnt_bdP _ _
  have hc1b : -1 ≤ c1 ∧ c1 ≤ 301 := by rw [hc1]; exact cnt_bdP _ _
  have HGR := hid (fun h1 h2 h3 => cnt_grow (s := s1) (n := n1) h1 h2 h3)
  rw [← hX1, ← hc0, ← hc1] at HGR
  have HI := hid (fun w => impl_SpecialParts_c s1 n1 w (by unfold maxLen; omega))
  have HS1 := hid (fun w => spec_SpecialParts_c s1 n1 w (by unfold maxLen; omega))
  unfold SpecPost at HI HS1
  rw [← hX1] at HI HS1
  have HC0 := hid (fun w => impl_PartCount_c s1 n1 w (by unfold maxLen; omega))
  have HC1 := hid (fun w => impl_PartCount_c s1 (n1 + 1) w (by unfold maxLen; omega))
  rw [← hc0] at HC0
  rw [← hc1] at HC1
  clear hX1 hc0 hc1
  go_wp2_with fail
  refine (HI.out _).mono ?_
  rintro e w2 ⟨v1, rfl, ho, hb⟩
  obtain ⟨a1, d1, rfl, hr1⟩ := owns_rowAt ho (by omega)
  have L1 := hid hr1
  have HR := hid (HR.out.below hb (Nat.le_refl _))
  have HB := hid (bs HB.out hb)
  clear ho hr1 hb HI
  go_wp2_with fail
  refine (DrawPartRow_c a n c lb _ HR.out).mono ?_
  rintro e w3 ⟨s2, n2, rfl, hs2, hn2, hb⟩
  have HR := hid (HR.out.below hb (Nat.le_refl _))
  have HB := hid (bs HB.out hb)
  have L1 := hid (L1.out.below hb (Nat.le_refl _))
  clear hb
  have hX2f := fun (i : Nat) (x : Int) (h : (rowOf s2 n2)[i]? = some x) => row_facts h
  have hX2l := rowOf_le s2 n2
  have HI := hid (fun w => impl_PartRow_c s2 n2 w (by unfold maxLen; omega))
  have HS2 := hid (fun w => spec_PartRow_c s2 n2 w (by unfold maxLen; omega))
  unfold RowPost at HI HS2
  obtain ⟨X2, hX2⟩ : ∃ X, X = rowOf s2 n2 := ⟨_, rfl⟩
  rw [← hX2] at HI HS2 hX2l
  rw [← hX2] at hX2f
  have HX2 := hid hX2f
  have HC2 := hid (fun (j : Nat) w => impl_PartCount_c s2 (j : Int) w (by unfold maxLen; omega))
  clear hX2 hX2f
  go_wp2_with fail
  refine (HI.out _).mono ?_
  rintro e w4 ⟨v2, rfl, ho, hb⟩
  obtain ⟨a2, d2, rfl, hr2⟩ := owns_rowAt ho (by omega)
  have L2 := hid hr2
  have HR := hid (HR.out.below hb (Nat.le_refl _))
  have HB := hid (bs HB.out hb)
  have L1 := hid (L1.out.below hb (Nat.le_refl _))
  clear ho hr2 hb HI
  go_wp2_with fail
  refine (DrawPartCount_c a n c lb _ HR.out).mono ?_
  rintro e w5 ⟨s3, n3, rfl, hs3, hn3, hb⟩
  have HR := hid (HR.out.below hb (Nat.le_refl _))
  have HB := hid (bs HB.out hb)
  have L1 := hid (L1.out.below hb (Nat.le_refl _))
  have L2 := hid (L2.out.below hb (Nat.le_refl _))
  clear hb
  have HI3 := hid (fun w => impl_PartCount_c s3 n3 w (by unfold maxLen; omega))
  have HS3 := hid (fun w => spec_PartCount_c s3 n3 w (by unfold maxLen; omega))
  obtain ⟨c3, hc3⟩ : ∃ x, x = cntOf s3 n3 := ⟨_, rfl⟩
  rw [← hc3] at HI3 HS3
  clear hc3
  go_wp2_with fail
  refine (DrawReturnsTo_c a n c lb _ HR.out).mono ?_
  rintro e w6 ⟨s4, p4, rfl, hs4, hp4, hb⟩
  have HR := hid (HR.out.below hb (Nat.le_refl _))
  have HB := hid (bs HB.out hb)
  have L1 := hid (L1.out.below hb (Nat.le_refl _))
  have L2 := hid (L2.out.below hb (Nat.le_refl _))
  clear hb
  have HI := hid (fun w => impl_ReturnsTo_c s4 p4 w (by omega) (by omega))
  have HS4 := hid (fun w => spec_ReturnsTo_c s4 p4 w (by omega) (by omega))
  unfold RtPost at HI HS4
  have hX4l := rt_leP s4 p4
  have hX4f := fun (u : ByteArray) (h : u ∈ rtOf s4 p4) => rt_facts h
  obtain ⟨X4, hX4⟩ : ∃ X, X = rtOf s4 p4 := ⟨_, rfl⟩
  rw [← hX4] at HI HS4 hX4l
  rw [← hX4] at hX4f
  have HX4 := hid hX4f
  clear hX4 hX4f
  go_wp2_with fail
  refine (HI.out _).mono ?_
  rintro e w7 ⟨v4, rfl, ho, hb⟩
  obtain ⟨a4, d4, rfl, hr4⟩ := owns_rowAt ho (by omega)
  have L4 := hid hr4
  have HR := hid (HR.out.below hb (Nat.le_refl _))
  have HB := hid (bs HB.out hb)
  have L1 := hid (L1.out.below hb (Nat.le_refl _))
  have L2 := hid (L2.out.below hb (Nat.le_refl _))
  clear ho hr4 hb HI
  go_wp2_with fail
  refine (DrawPlacesIn_c a n c lb _ HR.out).mono ?_
  rintro e w8 ⟨s5, p5, rfl, hs5, hp5, hb⟩
  have HR := hid (HR.out.below hb (Nat.le_refl _))
  have HB := hid (bs HB.out hb)
  have L1 := hid (L1.out.below hb (Nat.le_refl _))
  have L2 := hid (L2.out.below hb (Nat.le_refl _))
  have L4 := hid (L4.out.below hb (Nat.le_refl _))
  clear hb
  have HI := hid (fun w => impl_PlacesIn_c s5 p5 w (by omega) (by omega))
  have HS5 := hid (fun w => spec_PlacesIn_c s5 p5 w (by omega) (by omega))
  unfold PlPost at HI HS5
  have hX5l := pl_leP s5 p5
  have hX5f := fun (k : Nat) (x : Int) (h : (plOf s5.data.toList p5.data.toList)[k]? = some x) => pl_facts h
  have hX5g := fun (k : Nat) (x y : Int) (h : (plOf s5.data.toList p5.data.toList)[k]? = some x) (g : (plOf s5.data.toList p5.data.toList)[k + 1]? = some y) => pl_inc h g
  obtain ⟨X5, hX5⟩ : ∃ X, X = plOf s5.data.toList p5.data.toList := ⟨_, rfl⟩
  rw [← hX5] at HI HS5 hX5l
  rw [← hX5] at hX5f
  rw [← hX5] at hX5g
  have HX5 := hid hX5f
  have HY5 := hid hX5g
  clear hX5 hX5f hX5g
  go_wp2_with fail
  refine (HI.out _).mono ?_
  rintro e w9 ⟨v5, rfl, ho, hb⟩
  obtain ⟨a5, d5, rfl, hr5⟩ := owns_rowAt ho (by omega)
  have L5 := hid hr5
  have HR := hid (HR.out.below hb (Nat.le_refl _))
  have HB := hid (bs HB.out hb)
  have L1 := hid (L1.out.below hb (Nat.le_refl _))
  have L2 := hid (L2.out.below hb (Nat.le_refl _))
  have L4 := hid (L4.out.below hb (Nat.le_refl _))
  clear ho hr5 hb HI
  go_wp2_with fail
  refine (DrawIsBalancedWord_c a n c lb _ HR.out).mono ?_
  rintro e w10 ⟨s6, rfl, hs6, hb⟩
  have HB := hid (bs HB.out hb)
  have L2 := hid (L2.out.below hb (Nat.le_refl _))
  have L4 := hid (L4.out.below hb (Nat.le_refl _))
  have L5 := hid (L5.out.below hb (Nat.le_refl _))
  have L1 := hid (L1.out.below hb (Nat.le_refl _))
  clear hb HR
  have HS6 := hid (fun w => spec_IsBalancedWord_c s6 w (by unfold maxLen; omega))
  have HI6 := hid (fun w => impl_IsBalancedWord_c s6 w (by unfold maxLen; omega))
  have HSL := hid (fun w => spec_LetterCounts_c s6 w (by unfold maxLen; omega))
  have HIL := hid (fun w => impl_LetterCounts_c s6 w (by unfold maxLen; omega))
  unfold LcPost at HSL HIL
  have hX6l := lcOf_len s6
  obtain ⟨b6, hb6⟩ : ∃ b, b = balW s6 := ⟨_, rfl⟩
  rw [← hb6] at HS6 HI6
  obtain ⟨X6, hX6⟩ : ∃ b, b = lcOf s6 := ⟨_, rfl⟩
  rw [← hX6] at HSL HIL hX6l
  clear hb6 hX6
  go_wp2_with fail
  refine (HS1.out _).mono ?_
  rintro e w11 ⟨v1, rfl, ho, hb⟩
  obtain ⟨a7, d7, rfl, hr7⟩ := owns_rowAt ho (by omega)
  have HB := hid (bs HB.out hb)
  have L2 := hid (L2.out.below hb (Nat.le_refl _))
  have L4 := hid (L4.out.below hb (Nat.le_refl _))
  have L5 := hid (L5.out.below hb (Nat.le_refl _))
  have L1 := hid (L1.out.below hb (Nat.le_refl _))
  have HQ := hid (sameTexts_c a1 a7 X1.length d1 d7 X1 _ L1.out hr7)
  clear ho hr7 hb HS1
  go_wp2_with fail
  refine HQ.out.mono ?_
  rintro e w12 ⟨rfl, hb⟩
  have HB := hid (bs HB.out hb)
  have L2 := hid (L2.out.below hb (Nat.le_refl _))
  have L4 := hid (L4.out.below hb (Nat.le_refl _))
  have L5 := hid (L5.out.below hb (Nat.le_refl _))
  clear hb HQ L1
  go_wp2_with fail
  refine (HS2.out _).mono ?_
  rintro e w13 ⟨v2, rfl, ho, hb⟩
  obtain ⟨a7, d7, rfl, hr7⟩ := owns_rowAt ho (by omega)
  have HB := hid (bs HB.out hb)
  have L2 := hid (L2.out.below hb (Nat.le_refl _))
  have L4 := hid (L4.out.below hb (Nat.le_refl _))
  have L5 := hid (L5.out.below hb (Nat.le_refl _))
  have HQ := hid (sameInts_c a2 a7 X2.length d2 d7 X2 _ L2.out hr7)
  clear ho hr7 hb HS2
  go_wp2_with fail
  refine HQ.out.mono ?_
  rintro e w14 ⟨rfl, hb⟩
  have HB := hid (bs HB.out hb)
  have L2 := hid (L2.out.below hb (Nat.le_refl _))
  have L4 := hid (L4.out.below hb (Nat.le_refl _))
  have L5 := hid (L5.out.below hb (Nat.le_refl _))
  clear hb HQ
  go_wp2_with fail
  refine (HI3.out _).mono ?_
  rintro e w15 ⟨rfl, hb⟩
  have HB := hid (bs HB.out hb)
  have L2 := hid (L2.out.below hb (Nat.le_refl _))
  have L4 := hid (L4.out.below hb (Nat.le_refl _))
  have L5 := hid (L5.out.below hb (Nat.le_refl _))
  clear hb HI3
  go_wp2_with fail
  refine (HS3.out _).mono ?_
  rintro e w16 ⟨rfl, hb⟩
  have HB := hid (bs HB.out hb)
  have L2 := hid (L2.out.below hb (Nat.le_refl _))
  have L4 := hid (L4.out.below hb (Nat.le_refl _))
  have L5 := hid (L5.out.below hb (Nat.le_refl _))
  clear hb HS3
  go_wp2_with fail
  refine (HS4.out _).mono ?_
  rintro e w17 ⟨v2, rfl, ho, hb⟩
  obtain ⟨a7, d7, rfl, hr7⟩ := owns_rowAt ho (by omega)
  have HB := hid (bs HB.out hb)
  have L2 := hid (L2.out.below hb (Nat.le_refl _))
  have L4 := hid (L4.out.below hb (Nat.le_refl _))
  have L5 := hid (L5.out.below hb (Nat.le_refl _))
  have HQ := hid (sameTexts_c a4 a7 X4.length d4 d7 X4 _ L4.out hr7)
  clear ho hr7 hb HS4
  go_wp2_with fail
  refine HQ.out.mono ?_
  rintro e w18 ⟨rfl, hb⟩
  have HB := hid (bs HB.out hb)
  have L2 := hid (L2.out.below hb (Nat.le_refl _))
  have L4 := hid (L4.out.below hb (Nat.le_refl _))
  have L5 := hid (L5.out.below hb (Nat.le_refl _))
  clear hb HQ
  go_wp2_with fail
  refine (HS5.out _).mono ?_
  rintro e w19 ⟨v2, rfl, ho, hb⟩
  obtain ⟨a7, d7, rfl, hr7⟩ := owns_rowAt ho (by omega)
  have HB := hid (bs HB.out hb)
  have L2 := hid (L2.out.below hb (Nat.le_refl _))
  have L4 := hid (L4.out.below hb (Nat.le_refl _))
  have L5 := hid (L5.out.below hb (Nat.le_refl _))
  have HQ := hid (sameInts_c a5 a7 X5.length d5 d7 X5 _ L5.out hr7)
  clear ho hr7 hb HS5
  go_wp2_with fail
  refine HQ.out.mono ?_
  rintro e w20 ⟨rfl, hb⟩
  have HB := hid (bs HB.out hb)
  have L2 := hid (L2.out.below hb (Nat.le_refl _))
  have L4 := hid (L4.out.below hb (Nat.le_refl _))
  have L5 := hid (L5.out.below hb (Nat.le_refl _))
  clear hb HQ
  go_wp2_with fail
  refine (HI6.out _).mono ?_
  rintro e w21 ⟨rfl, rfl⟩
  clear HI6
  go_wp2_with fail
  refine (HS6.out _).mono ?_
  rintro e w21 ⟨rfl, hb⟩
  have HB := hid (bs HB.out hb)
  have L2 := hid (L2.out.below hb (Nat.le_refl _))
  have L4 := hid (L4.out.below hb (Nat.le_refl _))
  have L5 := hid (L5.out.below hb (Nat.le_refl _))
  clear hb HS6
  go_wp2_with fail
  refine (HIL.out _).mono ?_
  rintro e w22 ⟨v6, rfl, ho6, hb⟩
  obtain ⟨a6, d6, rfl, hr6⟩ := owns_rowAt ho6 (by omega)
  have L6 := hid hr6
  have HB := hid (bs HB.out hb)
  have L2 := hid (L2.out.below hb (Nat.le_refl _))
  have L4 := hid (L4.out.below hb (Nat.le_refl _))
  have L5 := hid (L5.out.below hb (Nat.le_refl _))
  clear ho6 hr6 hb HIL
  go_wp2_with fail
  refine (HSL.out _).mono ?_
  rintro e w23 ⟨v7, rfl, ho, hb⟩
  obtain ⟨a7, d7, rfl, hr7⟩ := owns_rowAt ho (by omega)
  have HB := hid (bs HB.out hb)
  have L2 := hid (L2.out.below hb (Nat.le_refl _))
  have L4 := hid (L4.out.below hb (Nat.le_refl _))
  have L5 := hid (L5.out.below hb (Nat.le_refl _))
  have HQ := hid (sameInts_c a6 a7 X6.length d6 d7 X6 _ (L6.out.below hb (Nat.le_refl _)) hr7)
  clear ho hr7 hb HSL L6
  go_wp2_with fail
  refine HQ.out.mono ?_
  rintro e w24 ⟨rfl, hb⟩
  have HB := hid (bs HB.out hb)
  have L2 := hid (L2.out.below hb (Nat.le_refl _))
  have L4 := hid (L4.out.below hb (Nat.le_refl _))
  have L5 := hid (L5.out.below hb (Nat.le_refl _))
  clear hb HQ
  go_wp2
  go_loopw [18] (fun i wr => ∃ j : Nat, j ≤ X2.length ∧ i = .int .i64 j ∧ Below w24.heap.size w24 wr) (fun i _ => X2.length - (intOf i).toNat)
  case atStart => exact ⟨0, by omega, rfl, Below.refl _ _⟩
  case round =>
    obtain ⟨j, hj, rfl, hbel⟩ := hrel
    by_cases hlt : j < X2.length
    · obtain ⟨x, hx⟩ := get_some (l := X2) (n := j) hlt
      obtain ⟨hxe, hx1, hj20⟩ := HX2.out j x hx
      obtain ⟨b2, o2, rfl, hb2, hcl⟩ := L2.out.at_ (by omega)
      have hcell := (hbel.cell (p := ⟨b2, o2 + j, none⟩) hb2).trans (hcl j _ (intVals_get hx))
      have HCj := hid (HC2.out j)
      rw [← hxe] at HCj
      clear hx hcl hxe
      have hji : (j : Int) < (X2.length : Int) := by omega
      by_cases hj0 : j = 0
      · subst hj0
        obtain rfl := hx1 rfl
        simp only [Nat.add_zero] at hcell
        go_wp2
        go_region_held3 (fun V => V.cell? ⟨b2, o2, none⟩ = some (.int .i64 1) ∧ Below w24.heap.size w24 V)
          (first | exact ⟨hcell, hbel.drew⟩ | exact ⟨(hb3.cell (p := ⟨b2, o2, none⟩) (Nat.lt_of_lt_of_le hb2 hbel.size)).trans hcell, hbel.drew.trans (hb3.mono hbel.size)⟩)
          (first | (go_at_call 40; refine (HCj.out _).mono ?_; rintro e w25 ⟨rfl, hb3⟩))
        all_goals
          have hS : Below w24.heap.size w24 _ := (by assumption : _ ∧ _).2
          go_wp2
          go_roundw
          case rel => exact ⟨0 + 1, by omega, by go_num, hS⟩
          case measure => simp [intOf]; omega
      · have hj0' : ((j : Int) == 0) = false := by simp; omega
        clear hx1
        go_wp2
        refine wp_region_held_drew (S := fun V => V.cell? ⟨b2, o2 + j, none⟩ = some (.int .i64 x) ∧ Below w24.heap.size w24 V) (by kernel_rfl) ⟨hcell, hbel.drew⟩ (fun hHeld => ?_)
        refine wpAnyH_take (i := 0) (oi := _) (v := ?_) rfl (by kernel_rfl) (by kernel_rfl) (by kernel_rfl) (fun _ _ _ h => h) (Or.inl ⟨by rfl, ?_⟩) (by assumption) ?_
        rotate_left
        · ((intro w hSw; (try dsimp only at hSw); go_simp) <;> with_reducible rfl)
        try simp only [List.getElem_toArray, List.getElem_cons_succ, List.getElem_cons_zero, Act.put, List.setIfInBounds_toArray, List.set_cons_zero, List.set_cons_succ]
        refine wpAnyH_take (i := 1) (oi := _) (v := ?_) rfl (by kernel_rfl) (by kernel_rfl) (by kernel_rfl) (fun _ _ _ h => h) (Or.inl ⟨by rfl, ?_⟩) (by assumption) ?_
        rotate_left
        · ((intro w hSw; (try dsimp only at hSw); go_simp) <;> with_reducible rfl)
        try simp only [List.getElem_toArray, List.getElem_cons_succ, List.getElem_cons_zero, Act.put, List.setIfInBounds_toArray, List.set_cons_zero, List.set_cons_succ]
        refine wpAnyH_take (i := 2) (oi := _) (v := ?_) rfl (by kernel_rfl) (by kernel_rfl) (by kernel_rfl) (fun _ _ _ h => h) (Or.inl ⟨by rfl, ?_⟩) (by assumption) ?_
        rotate_left
        · ((intro w hSw; (try dsimp only at hSw); go_simp) <;> with_reducible rfl)
        try simp only [List.getElem_toArray, List.getElem_cons_succ, List.getElem_cons_zero, Act.put, List.setIfInBounds_toArray, List.set_cons_zero, List.set_cons_succ]
        refine wpAnyH_take (i := 3) (oi := _) (v := ?_) rfl (by kernel_rfl) (by kernel_rfl) (by kernel_rfl) (fun _ _ _ h => h) (Or.inl ⟨by rfl, ?_⟩) (by assumption) ?_
        rotate_left
        · ((intro w hSw; (try dsimp only at hSw); go_simp) <;> with_reducible rfl)
        try simp only [List.getElem_toArray, List.getElem_cons_succ, List.getElem_cons_zero, Act.put, List.setIfInBounds_toArray, List.set_cons_zero, List.set_cons_succ]
        refine wpAnyH_take (i := 4) (oi := _) (v := ?_) rfl (by kernel_rfl) (by kernel_rfl) (by kernel_rfl) (fun _ _ _ h => h) (Or.inl ⟨by rfl, ?_⟩) (by assumption) ?_
        rotate_left
        · ((intro w hSw; (try dsimp only at hSw); go_simp) <;> with_reducible rfl)
        try simp only [List.getElem_toArray, List.getElem_cons_succ, List.getElem_cons_zero, Act.put, List.setIfInBounds_toArray, List.set_cons_zero, List.set_cons_succ]
        refine wpAnyH_take (i := 5) (oi := _) (v := ?_) rfl (by kernel_rfl) (by kernel_rfl) (by kernel_rfl) (fun _ _ _ h => h) (Or.inl ⟨by rfl, ?_⟩) (by assumption) ?_
        rotate_left
        · ((intro w hSw; (try dsimp only at hSw); go_simp) <;> with_reducible rfl)
        try simp only [List.getElem_toArray, List.getElem_cons_succ, List.getElem_cons_zero, Act.put, List.setIfInBounds_toArray, List.set_cons_zero, List.set_cons_succ]
        refine wpAnyH_ready (rs := [6]) (by kernel_rfl) (by simp) ?_
        refine AllReadyH.cons rfl (fun K hK => ?_) AllReadyH.nil
        go_simp
        go_wp2_with (first | (go_at_call 40; refine (HCj.out _).mono ?_; rintro e w25 ⟨rfl, hb3⟩))
        have hbel2 : Below w24.heap.size w24 w25 := hbel.drew.trans (hb3.mono hbel.size)
        have hS2 : w25.cell? ⟨b2, o2 + j, none⟩ = some (.int .i64 x) ∧ Below w24.heap.size w24 w25 := ⟨(hb3.cell (p := ⟨b2, o2 + j, none⟩) (Nat.lt_of_lt_of_le hb2 hbel.size)).trans hcell, hbel2⟩
        refine hK.out _ _ hS2 (fun hHeld2 => ?_)
        clear hK
        refine wpAnyH_take (i := 7) (oi := _) (v := ?_) rfl (by kernel_rfl) (by kernel_rfl) (by kernel_rfl) (fun _ _ _ h => h) (Or.inl ⟨by rfl, ?_⟩) (by assumption) ?_
        rotate_left
        · ((intro w hSw; (try dsimp only at hSw); go_simp) <;> with_reducible rfl)
        try simp only [List.getElem_toArray, List.getElem_cons_succ, List.getElem_cons_zero, Act.put, List.setIfInBounds_toArray, List.set_cons_zero, List.set_cons_succ]
        refine wpAnyH_take (i := 8) (oi := _) (v := ?_) rfl (by kernel_rfl) (by kernel_rfl) (by kernel_rfl) (fun _ _ _ h => h) (Or.inl ⟨by rfl, ?_⟩) (by assumption) ?_
        rotate_left
        · ((intro w hSw; (try dsimp only at hSw); go_simp) <;> with_reducible rfl)
        try simp only [List.getElem_toArray, List.getElem_cons_succ, List.getElem_cons_zero, Act.put, List.setIfInBounds_toArray, List.set_cons_zero, List.set_cons_succ]
        refine wpAnyH_take (i := 9) (oi := _) (v := ?_) rfl (by kernel_rfl) (by kernel_rfl) (by kernel_rfl) (fun _ _ _ h => h) (Or.inl ⟨by rfl, ?_⟩) (by assumption) ?_
        rotate_left
        · ((intro w hSw; (try dsimp only at hSw); go_simp) <;> with_reducible rfl)
        try simp only [List.getElem_toArray, List.getElem_cons_succ, List.getElem_cons_zero, Act.put, List.setIfInBounds_toArray, List.set_cons_zero, List.set_cons_succ]
        refine wpAnyH_take (i := 10) (oi := _) (v := ?_) rfl (by kernel_rfl) (by kernel_rfl) (by kernel_rfl) (fun _ _ _ h => h) (Or.inl ⟨by rfl, ?_⟩) (by assumption) ?_
        rotate_left
        · ((intro w hSw; (try dsimp only at hSw); go_simp) <;> with_reducible rfl)
        try simp only [List.getElem_toArray, List.getElem_cons_succ, List.getElem_cons_zero, Act.put, List.setIfInBounds_toArray, List.set_cons_zero, List.set_cons_succ]
        refine wpAnyH_take (i := 11) (oi := _) (v := ?_) rfl (by kernel_rfl) (by kernel_rfl) (by kernel_rfl) (fun _ _ _ h => h) (Or.inl ⟨by rfl, ?_⟩) (by assumption) ?_
        rotate_left
        · ((intro w hSw; (try dsimp only at hSw); go_simp) <;> with_reducible rfl)
        try simp only [List.getElem_toArray, List.getElem_cons_succ, List.getElem_cons_zero, Act.put, List.setIfInBounds_toArray, List.set_cons_zero, List.set_cons_succ]
        refine wpAnyH_take (i := 12) (oi := _) (v := undef) rfl (by kernel_rfl) (by kernel_rfl) (by kernel_rfl) (fun _ _ _ h => h) (Or.inr ⟨by rfl, rfl⟩) (by assumption) ?_
        try simp only [List.getElem_toArray, List.getElem_cons_succ, List.getElem_cons_zero, Act.put, List.setIfInBounds_toArray, List.set_cons_zero, List.set_cons_succ]
        refine wpAnyH_take (i := 13) (oi := _) (v := undef) rfl (by kernel_rfl) (by kernel_rfl) (by kernel_rfl) (fun _ _ _ h => h) (Or.inr ⟨by rfl, rfl⟩) (by assumption) ?_
        try simp only [List.getElem_toArray, List.getElem_cons_succ, List.getElem_cons_zero, Act.put, List.setIfInBounds_toArray, List.set_cons_zero, List.set_cons_succ]
        refine wpAnyH_take (i := 14) (oi := _) (v := undef) rfl (by kernel_rfl) (by kernel_rfl) (by kernel_rfl) (fun _ _ _ h => h) (Or.inr ⟨by rfl, rfl⟩) (by assumption) ?_
        try simp only [List.getElem_toArray, List.getElem_cons_succ, List.getElem_cons_zero, Act.put, List.setIfInBounds_toArray, List.set_cons_zero, List.set_cons_succ]
        refine wpAnyH_take (i := 15) (oi := _) (v := undef) rfl (by kernel_rfl) (by kernel_rfl) (by kernel_rfl) (fun _ _ _ h => h) (Or.inr ⟨by rfl, rfl⟩) (by assumption) ?_
        try simp only [List.getElem_toArray, List.getElem_cons_succ, List.getElem_cons_zero, Act.put, List.setIfInBounds_toArray, List.set_cons_zero, List.set_cons_succ]
        refine wpAnyH_take (i := 16) (oi := _) (v := undef) rfl (by kernel_rfl) (by kernel_rfl) (by kernel_rfl) (fun _ _ _ h => h) (Or.inr ⟨by rfl, rfl⟩) (by assumption) ?_
        try simp only [List.getElem_toArray, List.getElem_cons_succ, List.getElem_cons_zero, Act.put, List.setIfInBounds_toArray, List.set_cons_zero, List.set_cons_succ]
        refine wpAnyH_take (i := 17) (oi := _) (v := ?_) rfl (by kernel_rfl) (by kernel_rfl) (by kernel_rfl) (fun _ _ _ h => h) (Or.inl ⟨by rfl, ?_⟩) (by assumption) ?_
        rotate_left
        · ((intro w hSw; (try dsimp only at hSw); go_simp) <;> with_reducible rfl)
        try simp only [List.getElem_toArray, List.getElem_cons_succ, List.getElem_cons_zero, Act.put, List.setIfInBounds_toArray, List.set_cons_zero, List.set_cons_succ]
        refine wpAnyH_take (i := 18) (oi := _) (v := ?_) rfl (by kernel_rfl) (by kernel_rfl) (by kernel_rfl) (fun _ _ _ h => h) (Or.inl ⟨by rfl, ?_⟩) (by assumption) ?_
        rotate_left
        · ((intro w hSw; (try dsimp only at hSw); go_simp) <;> with_reducible rfl)
        try simp only [List.getElem_toArray, List.getElem_cons_succ, List.getElem_cons_zero, Act.put, List.setIfInBounds_toArray, List.set_cons_zero, List.set_cons_succ]
        refine wpAnyH_done (by kernel_rfl) ?_ _
        go_wp2
        go_roundw
        case rel => exact ⟨j + 1, by omega, by go_num, hbel2⟩
        case measure => simp [intOf]; omega
    · obtain rfl : j = X2.length := by omega
      have HB := hid (bs HB.out hbel)
      have L4 := hid (L4.out.below hbel (Nat.le_refl _))
      have L5 := hid (L5.out.below hbel (Nat.le_refl _))
      clear hbel L2 HC2 HX2 hX2l hj hlt
      go_upto_region 20 with fail
      go_cut [170] from 145 to 170 (fun cx wx => cx = .bool false ∧ Below wr.heap.size wr wx)
      case first =>
        by_cases h0 : 0 ≤ n1
        · by_cases h19 : n1 ≤ 19
          · by_cases hp : 0 < c0
            · have hgr : ¬ (c0 + 2 * (X1.length : Int) < c1) := by have := HGR.out h0 h19 hp; omega
              go_wp2_with fail
              refine (HC0.out _).mono ?_
              rintro e w25 ⟨rfl, hb3⟩
              go_wp2_with fail
              refine (HC1.out _).mono ?_
              rintro e w26 ⟨rfl, hb4⟩
              go_wp2_with fail
              refine (HC0.out _).mono ?_
              rintro e w27 ⟨rfl, hb5⟩
              go_wp2
              go_meet
              case rel => exact ⟨congrArg Value.bool (decide_eq_false (by omega)), bs (bs hb3 hb4) hb5⟩
            · go_wp2_with fail
              refine (HC0.out _).mono ?_
              rintro e w25 ⟨rfl, hb3⟩
              go_wp2
              go_meet
              case rel => exact ⟨rfl, hb3⟩
          · go_wp2
            go_meet
            case rel => exact ⟨rfl, Below.refl _ _⟩
        · go_wp2
          go_meet
          case rel => exact ⟨rfl, Below.refl _ _⟩
      case rest =>
        obtain ⟨rfl, hcut⟩ := hcut
        have HB := hid (bs HB.out hcut)
        have L4 := hid (L4.out.below hcut (Nat.le_refl _))
        have L5 := hid (L5.out.below hcut (Nat.le_refl _))
        clear hcut HGR HC0 HC1 hX1l hc0b hc1b
        go_wp2
        go_loopw [19, 20] (fun i _ wr => ∃ j : Nat, j ≤ X4.length ∧ i = .int .i64 j ∧ Below wc.heap.size wc wr) (fun i _ _ => X4.length - (intOf i).toNat)
        case atStart => exact ⟨0, by omega, rfl, Below.refl _ _⟩
        case round =>
          obtain ⟨j, hj, rfl, hbel⟩ := hrel
          by_cases hlt : j < X4.length
          · obtain ⟨u, hu⟩ := get_some (l := X4) (n := j) hlt
            obtain ⟨hu0, hul, hup, hoc⟩ := HX4.out u (List.mem_of_getElem? hu)
            obtain ⟨b4, o4, rfl, hb4, hcl⟩ := L4.out.at_ (by omega)
            have hcell := (hbel.cell (p := ⟨b4, o4 + j, none⟩) hb4).trans (hcl j _ (strVals_get hu))
            obtain ⟨y, hy⟩ : ∃ y, y = u ++ p4 := ⟨_, rfl⟩
            have HO := hid (fun w => OccursIn_yes s4 (u ++ p4) w (by omega) hoc)
            have hul2 : (u.size : Int) + (p4.size : Int) ≤ (s4.size : Int) := by rw [ByteArray.size_append] at hul; omega
            have hu0' : ((u.size : Int) == 0) = false := by rw [beq_eq_false_iff_ne]; omega
            have hp4y : (p4.size : Int) ≤ (y.size : Int) := by rw [hy, ByteArray.size_append]; omega
            have hupb : ((y.extract 0 p4.size).toList == p4.toList) = true := by rw [hy, hup]; simp
            rw [← hy] at HO
            have HY := hid hy
            have hji : (j : Int) < (X4.length : Int) := by omega
            clear hu hcl hoc hup hul hy
            go_wp2_with fail
            rw [← HY.out]
            refine (HO.out _).mono ?_
            rintro e w26 ⟨rfl, rfl⟩
            go_wp2
            go_roundw
            case rel => exact ⟨j + 1, by omega, by go_num, hbel⟩
            case measure => simp [intOf]; omega
          · obtain rfl : j = X4.length := by omega
            have HB := hid (bs HB.out hbel)
            have L5 := hid (L5.out.below hbel (Nat.le_refl _))
            clear hbel L4 HX4 hX4l hj hlt
            go_wp2
            go_loopw [21] (fun i wx => ∃ j : Nat, j ≤ X5.length ∧ i = .int .i64 j ∧ Below wr.heap.size wr wx) (fun i _ => X5.length - (intOf i).toNat)
            case atStart => exact ⟨0, by omega, rfl, Below.refl _ _⟩
            case round =>
              obtain ⟨j, hj, rfl, hbel⟩ := hrel
              by_cases hlt : j < X5.length
              · obtain ⟨x, hx⟩ := get_some (l := X5) (n := j) hlt
                obtain ⟨q, rfl, hq, hqe⟩ := HX5.out j x hx
                obtain ⟨b5, o5, rfl, hb5, hcl⟩ := L5.out.at_ (by omega)
                have hcell := (hbel.cell (p := ⟨b5, o5 + j, none⟩) hb5).trans (hcl j _ (intVals_get hx))
                have hq1 : (q : Int) + (p5.size : Int) ≤ (s5.size : Int) := by omega
                have hqb : ((s5.extract q (q + p5.size)).toList == p5.toList) = true := by rw [hqe]; simp
                have hji : (j : Int) < (X5.length : Int) := by omega
                by_cases hj0 : j = 0
                · subst hj0
                  simp only [Nat.add_zero] at hcell
                  clear hx hcl hqe
                  go_wp2
                  go_quiet (fail)
                  go_wp2
                  go_roundw
                  case rel => exact ⟨0 + 1, by omega, by go_num, below_drewN hbel _⟩
                  case measure => simp [intOf]; omega
                · obtain ⟨k, rfl⟩ : ∃ k, j = k + 1 := ⟨j - 1, by omega⟩
                  obtain ⟨y, hy⟩ := get_some (l := X5) (n := k) (by omega)
                  have hyx := HY5.out k y _ hy hx
                  obtain ⟨r, rfl, hr, _⟩ := HX5.out k y hy
                  have hcell2 := (hbel.cell (p := ⟨b5, o5 + k, none⟩) hb5).trans (hcl k _ (intVals_get hy))
                  have hyx2 : ¬ ((q : Int) ≤ (r : Int)) := by omega
                  have hki : (k : Int) < (X5.length : Int) := by omega
                  have hk1 : (0 : Int) < (k : Int) + 1 := by omega
                  clear hx hy hcl hqe
                  go_wp2
                  go_quiet (fail)
                  go_wp2
                  go_roundw
                  case rel => exact ⟨k + 1 + 1, by omega, by go_num, below_drewN hbel _⟩
                  case measure => simp [intOf]; omega
              · obtain rfl : j = X5.length := by omega
                have HB := hid (bs HB.out hbel)
                clear hbel L5 HX5 HY5 hX5l hj hlt
                obtain ⟨F, hF1, hF2, hF3, hF4⟩ := fib_all
                have F1 := hid hF1
                have F2 := hid hF2
                have F3 := hid hF3
                have F4 := hid hF4
                clear hF1 hF2 hF3 hF4
                go_wp2_with fail
                refine (F1.out _ _ (lit_row _ _ _ rfl (fun j v hj => by simpa [strVals, fibS] using hj) (by omega))).mono ?_
                rintro e w30 ⟨rfl, rfl⟩
                have HB := hid (HB.out.alloc HB.out.size (.cells #[.string ⟨#[97, 98]⟩, .string ⟨#[97]⟩] 9))
                go_wp2_with fail
                refine (F2.out _).mono ?_
                rintro e w31 ⟨v7, rfl, ho, hb⟩
                obtain ⟨a7, d7, rfl, hr7⟩ := owns_rowAt ho (by omega)
                have HB := hid (bs HB.out hb)
                have HQ := hid (sameInts_c a7 (some ⟨w31.heap.size, 0, none⟩) 7 d7 7 [1, 2, 3, 4, 5, 6, 7] (w31.alloc (.cells #[.int .i64 1, .int .i64 2, .int .i64 3, .int .i64 4, .int .i64 5, .int .i64 6, .int .i64 7] 3)) (hr7.below ((Below.refl _ _).alloc (Nat.le_refl _) _) (Nat.le_refl _)) (lit_rowI _ _ _ rfl (fun j v hj => by simpa [intVals] using hj) (by omega)))
                have HB := hid (HB.out.alloc HB.out.size (.cells #[.int .i64 1, .int .i64 2, .int .i64 3, .int .i64 4, .int .i64 5, .int .i64 6, .int .i64 7] 3))
                clear ho hr7 hb F2 F1
                go_wp2_with fail
                refine HQ.out.mono ?_
                rintro e w32 ⟨rfl, hb⟩
                have HB := hid (bs HB.out hb)
                clear hb HQ
                go_wp2_with fail
                refine (F3.out _).mono ?_
                rintro e w33 ⟨rfl, rfl⟩
                go_wp2_with fail
                refine (F4.out _).mono ?_
                rintro e w33 ⟨g, d, rfl, hb⟩
                have HB := hid (bs HB.out hb)
                clear hb
                go_wp2
                go_ret
                exact ⟨rfl, HB.out⟩
set_option maxRecDepth 100000 in
theorem lifted_FnParts (os : Os) (started : os.Started) (H : Type) (enc : TypeId × Value → H) :
    ReturnsInHanded {} Try.checked os 4 .any (Rows.fnPartsSpec.pre6 enc Try.prog Try.f4 Rows.fnPartsRow.domain false) (Rows.fnPartsSpec.post enc Try.prog Try.f4 false true false false) := by
  refine returnsInHanded_of_change_sized (C := Try.checked) own started (by kernel_rfl) Try.func4
    (ChangeSpec.witness6 (enc := enc) (C := Try.checked) false ⟨#[], #[.slice none 0 0], []⟩ 8 (by kernel_rfl) (by kernel_rfl) (by kernel_rfl) (by kernel_rfl)) ?_
  intro W base args ds gs before hval0 hW hcnd hsz0 _
  have hsz : (DataW.weightsEach Try.prog (Try.f4.params.toList ++ Rows.fnPartsSpec.plain.varTypes Try.prog) (ds ++ gs)).all (· ≤ reachBytes) = true := hsz0
  clear hsz0
  have hval : ∀ (j : Nat) t v, Try.f4.params[j]? = some t → args[j]? = some v → Value.okWide Try.prog W .any base t v := hval0
  have hW' := hW
  obtain ⟨p, q, hA0, hV, rfl, hfz, hnd⟩ := hW
  have hA : DataW.TrodAll enc Try.prog W 0 (fun _ => true) true Try.f4.params.toList args.toList ds p := hA0
  rw [Try.params4] at hA hval hsz
  obtain ⟨v0, vs0, d0, ds0, p0, q0, hargs, rfl, rfl, h0, r0⟩ := trodAll_cons hA
  obtain ⟨rfl, rfl, rfl⟩ := trodAll_nil r0
  obtain rfl : args = #[v0] := by cases args; simp_all
  obtain ⟨rfl, rfl⟩ := trodVars_none hV
  have k0 := h0
  have lt0 : ∀ x ∈ p0, x.block < W.heap.size := by obtain ⟨m, hm⟩ := k0; exact DataW.trod_lt m _ _ _ hm
  have w0 := open_bytes (enc := enc) (hval 0 22 v0 rfl rfl) h0 (fun x hx => DataW.weights_mem_each (j := 0) rfl rfl x hx) hsz
  clear hA0 hval0
  refine (walk_FnParts W v0 w0).mono fun e W' ⟨he, bel⟩ => ?_
  subst he
  exact ⟨_, rfl, _, _, _, [], _, [], hW', trodAll_mk1 (shut_bool Try.underlying4 _), (trodAll_cons_mk (Below.trod laidOut (by kernel_rfl) (of_decide_eq_true (by kernel_rfl)) k0 bel lt0) trodAll_mk0), rfl, bel.frame _, fun h => by cases h⟩

theorem closed_FnParts : joinedFacts Try.prog 4 Try.f4 Rows.fnPartsSpec Rows.fnPartsRow = true := by
  unfold joinedFacts
  rw [headMayEnter, headLiftsFinal, headMake]
  kernel_rfl
/-- The law returns true for every input, and its arguments read as before: the given statement. -/
theorem fnParts_holds : Rows.FnPartsSaid :=
  OpenClaim.holds_of_wide 4 Try.f4 rfl rfl rfl rfl rfl rfl rfl ⟨rfl, rfl, rfl, rfl, rfl⟩ rfl rfl rfl rfl rfl (by as_aux_lemma => kernel_rfl) Try.func4 closed_FnParts
    (by as_aux_lemma => exact of_decide_eq_true (by kernel_rfl)) (by unfold Func.isWrapper; first | (rw [if_pos (by decide +kernel)]; kernel_rfl) | (rw [if_neg (by decide +kernel)]; exact ⟨rfl, rfl⟩))
    (fun os started H enc _ => lifted_FnParts os started H enc)
#print axioms fnParts_holds

end Go.Proofs.Ytcfjchaklgjmkaa
