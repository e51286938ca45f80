/- The law FnSubsts returns true for all bytes. No condition. -/
import Derived.Test.YtcfjchaklgjmkaaDraw4
import Derived.Test.YtcfjchaklgjmkaaSubsL
import Derived.Test.YtcfjchaklgjmkaaLenSpec
import Derived.Test.YtcfjchaklgjmkaaLenImpl
import Derived.Test.YtcfjchaklgjmkaaFixed2
import Derived.Test.YtcfjchaklgjmkaaMixing
import Derived.Test.YtcfjchaklgjmkaaSame
import Derived.Test.YtcfjchaklgjmkaaBytesIn
namespace Go.Proofs.Ytcfjchaklgjmkaa
open Go.ChangeShapes Go.WideShapes Go.ChangeAt Go.RowKit
open Go.ChangeMaps (open_string shut_string)

theorem big_c (a : Option Addr) (n c : Nat) (w : World) (hn : n ≤ 140737488351232) : Calls Try.prog 5 #[.slice a n c] w fun e w' => e = .returned (.bool (decide (1048576 < n))) ∧ w = w' := by
  by_cases h : 1048576 < n
  · have h2 : (1048576 : Int) < (n : Int) := by omega
    go_enter Try.func5, Try.ntmps5
    go_wp2
    go_ret
    exact ⟨by simp [h], rfl⟩
  · have h2 : ¬ ((1048576 : Int) < (n : Int)) := by omega
    go_enter Try.func5, Try.ntmps5
    go_wp2
    go_ret
    exact ⟨by simp [h], rfl⟩
theorem sub_row {w : World} {B : Nat} {v : Value} {ss : List ByteArray} (h : SubOwn w B v ss) : ∃ a c, v = .slice a ss.length c ∧ RowAt w a ss.length (strVals ss) ∧ ∀ t ∈ ss, t.size ≤ maxLen := by
  obtain ⟨h1, h2, h3⟩ := h
  obtain ⟨a, c, rfl, hr⟩ := owns_rowAt h1 (by omega)
  exact ⟨a, c, rfl, hr, fun t ht => Nat.le_trans (h3 t ht) (by unfold maxLen; omega)⟩
theorem ct_count (ss : List ByteArray) : (isSubst ss = true ∧ (ctOf ss).length = ss.length ∧ 2 ≤ ss.length) ∨ (isSubst ss = false ∧ (ctOf ss).length = 0) := by
  cases h : isSubst ss
  · exact .inr ⟨rfl, by simp [ctOf, h]⟩
  · have := subst_len h
    exact .inl ⟨rfl, by rw [ctOf, if_pos h, ct_len], by omega⟩
theorem abc_ext : ∀ {pp : Nat}, pp < 3 → ((⟨#[97, 98, 99]⟩ : ByteArray).extract pp (pp + 1)).data.toList = [UInt8.ofNat (97 + pp)]
  | 0, _ => by decide
  | 1, _ => by decide
  | 2, _ => by decide
theorem letter_len {ss : List ByteArray} {pp : Nat} {q : Int} (hp : pp < 3) (h : okO (timesO ss ((⟨#[97, 98, 99]⟩ : ByteArray).extract pp (pp + 1)) q) = true) : ((strO (timesO ss ((⟨#[97, 98, 99]⟩ : ByteArray).extract pp (pp + 1)) q)).size : Int) = lenOf ss pp q := by
  have h1 := (times_len (strO_some h)).1
  rw [abc_ext hp] at h1
  have h2 : (UInt8.ofNat (97 + pp)).toNat - 97 = pp := by rw [UInt8.toNat_ofNat']; omega
  simp only [ltSum, h2] at h1
  rw [size_list] at h1
  omega
theorem len_place {ss : List ByteArray} {p q : Int} (h : 0 ≤ lenOf ss p q) : ∃ pp : Nat, p = (pp : Int) ∧ pp < 3 := by
  unfold lenOf at h
  split at h
  · rename_i hc
    have := subst_len hc.1
    exact ⟨p.toNat, by omega, by omega⟩
  · omega
theorem lenOf_bd (ss : List ByteArray) (x n : Int) : -1 ≤ lenOf ss x n ∧ lenOf ss x n ≤ 1000000 := by
  unfold lenOf
  split
  · rename_i hc
    have := rows_nonneg (M := at2 (ctOf ss)) (n := ss.length) (fun i j hi hj => ((ct_facts hc.1).1 i j hi hj).1) n.toNat x.toNat (by omega)
    split <;> omega
  · omega
theorem fix_repl {ss : List ByteArray} {k : Int} {av : ByteArray} (h : (av.data.toList.length : Int) = k ∧ lets ss.length av.data.toList = true ∧ isSubst ss = true ∧ (repl ss av.data.toList).take k.toNat = av.data.toList) (hk : k ≤ 60) :
    okO (replO ss av.data.toList) = true ∧ k ≤ ((strO (replO ss av.data.toList)).size : Int) ∧ (strO (replO ss av.data.toList)).extract 0 k.toNat = av := by
  obtain ⟨h1, h2, h3, h4⟩ := h
  have h5 := repl_lets h3 h2
  have e : replO ss av.data.toList = some (repl ss av.data.toList) := by
    unfold replO
    have hs := size_list av
    rw [if_pos ⟨h3, by rw [h2]; simp; omega, by omega⟩]
  have e2 : (strO (replO ss av.data.toList)).data.toList = repl ss av.data.toList := by rw [e]; simp [strO]
  refine ⟨by rw [e]; rfl, by rw [← size_list, e2]; omega, ?_⟩
  rw [ext_take, e2, h4]
set_option maxHeartbeats 4000000 in
set_option maxRecDepth 100000 in
theorem walk_FnSubsts (W : World) (v : Value) (h : BytesIn W v) :
    Calls Try.prog 3 #[v] W fun e W' => e = .returned (.bool true) ∧ Below W.heap.size W W' := by
  obtain ⟨a, n, c, lb, rfl, hr⟩ := h
  have hlim := hr.lim
  by_cases hbig : 1048576 < n
  · go_enter Try.func3, Try.ntmps3
    go_wp2_with fail
    refine (big_c a n c _ hlim).mono ?_
    rintro e w1 ⟨rfl, rfl⟩
    rw [decide_eq_true hbig]
    go_wp2
    go_ret
    exact ⟨rfl, Below.refl _ _⟩
  have HR := hid hr
  clear hr
  go_enter Try.func3, Try.ntmps3
  go_wp2_with fail
  refine (big_c a n c _ hlim).mono ?_
  rintro e w1 ⟨rfl, rfl⟩
  rw [decide_eq_false hbig]
  go_wp2_with fail
  refine (DrawReplaceTimes_c a n c lb _ HR.out).mono ?_
  rintro e w1 ⟨v1, s1, s, m, rfl, ho1, hs, hm, hb1⟩
  obtain ⟨a1, c1, rfl, hr1, hz1⟩ := sub_row ho1
  obtain ⟨x1, hx1⟩ : ∃ x, x = timesO s1 s m := ⟨_, rfl⟩
  have R1 := hid hr1
  have HB1 := hid hb1
  have HI := hid (impl_ReplaceTimes_c a1 s1.length c1 s1 s m w1 hr1 hz1 (by omega))
  have HS := hid (spec_ReplaceTimes_c a1 s1.length c1 s1 s m w1 hr1 hz1 (by omega))
  rw [← hx1] at HI HS
  clear hr1 ho1 hb1
  have hX1 := hid hx1
  clear hx1
  go_wp2_with fail
  refine HI.out.mono ?_
  rintro e w2 ⟨rfl, rfl⟩
  go_wp2_with fail
  refine HS.out.mono ?_
  rintro e w2 ⟨rfl, rfl⟩
  clear HI HS
  go_wp2_with fail
  refine (DrawReplace_c a n c lb _ (HR.out.below HB1.out (Nat.le_refl _))).mono ?_
  rintro e w2 ⟨v2, s2, t, rfl, ho2, ht, hb2⟩
  obtain ⟨a2, c2, rfl, hr2, hz2⟩ := sub_row ho2
  have HR := hid ((HR.out.below HB1.out (Nat.le_refl _)).below hb2 (Nat.le_refl _))
  have R1 := hid (R1.out.below hb2 (Nat.le_refl _))
  have HB := hid (bs HB1.out hb2)
  obtain ⟨x2, hx2⟩ : ∃ x, x = replO s2 t.data.toList := ⟨_, rfl⟩
  have HI := hid (impl_Replace_c a2 s2.length c2 s2 t w2 hr2 hz2 (by omega))
  have HS := hid (spec_Replace_c a2 s2.length c2 s2 t w2 hr2 hz2 (by omega))
  rw [← hx2] at HI HS
  clear hr2 ho2 hb2 hx2 HB1
  go_wp2_with fail
  refine HI.out.mono ?_
  rintro e w3 ⟨rfl, rfl⟩
  go_wp2_with fail
  refine HS.out.mono ?_
  rintro e w3 ⟨rfl, rfl⟩
  clear HI HS
  go_wp2_with fail
  refine (DrawFixedStart_c a n c lb _ HR.out).mono ?_
  rintro e w3 ⟨v3, s3, i3, k3, rfl, ho3, hi3, hk3, hb3⟩
  obtain ⟨a3, c3, rfl, hr3, hz3⟩ := sub_row ho3
  have HR := hid (HR.out.below hb3 (Nat.le_refl _))
  have R1 := hid (R1.out.below hb3 (Nat.le_refl _))
  have HB := hid (bs HB.out hb3)
  have R3 := hid hr3
  obtain ⟨x3, hx3⟩ : ∃ x, x = fixO s3 i3 k3 := ⟨_, rfl⟩
  have HI := hid (impl_FixedStart_c a3 s3.length c3 s3 i3 k3 w3 hr3 hz3)
  have HS := hid (spec_FixedStart_c a3 s3.length c3 s3 i3 k3 w3 hr3 hz3)
  rw [← hx3] at HI HS
  have hX3 := hid hx3
  clear hr3 ho3 hb3 hx3
  go_wp2_with fail
  refine HI.out.mono ?_
  rintro e w4 ⟨rfl, rfl⟩
  go_wp2_with fail
  refine HS.out.mono ?_
  rintro e w4 ⟨rfl, rfl⟩
  clear HI HS
  go_wp2_with fail
  refine (DrawCountTable_c a n c lb _ HR.out).mono ?_
  rintro e w4 ⟨v4, s4, rfl, ho4, hb4⟩
  obtain ⟨a4, c4, rfl, hr4, hz4⟩ := sub_row ho4
  have hl4 := ho4.2.1
  have HR := hid (HR.out.below hb4 (Nat.le_refl _))
  have R1 := hid (R1.out.below hb4 (Nat.le_refl _))
  have R3 := hid (R3.out.below hb4 (Nat.le_refl _))
  have HB := hid (bs HB.out hb4)
  have R4 := hid hr4
  clear hr4 ho4 hb4
  go_wp2_with fail
  refine (impl_CountTable_c a4 s4.length c4 s4 _ R4.out hz4).mono ?_
  rintro e w5 ⟨v5, rfl, hg5, hb5⟩
  obtain ⟨a5, c5, rfl, ht5⟩ := ct_tab hg5
  have HR := hid (HR.out.below hb5 (Nat.le_refl _))
  have R1 := hid (R1.out.below hb5 (Nat.le_refl _))
  have R3 := hid (R3.out.below hb5 (Nat.le_refl _))
  have R4 := hid (R4.out.below hb5 (Nat.le_refl _))
  have HB := hid (bs HB.out hb5)
  have T5 := hid ht5
  clear hg5 hb5 ht5
  go_wp2_with fail
  refine (DrawLengthAfter_c a n c lb _ HR.out).mono ?_
  rintro e w6 ⟨v6, s6, p6, q6, rfl, ho6, hp6, hq6, hb6⟩
  obtain ⟨a6, c6, rfl, hr6, hz6⟩ := sub_row ho6
  have R1 := hid (R1.out.below hb6 (Nat.le_refl _))
  have R3 := hid (R3.out.below hb6 (Nat.le_refl _))
  have R4 := hid (R4.out.below hb6 (Nat.le_refl _))
  have T5 := hid (T5.out.below hb6 (Nat.le_refl _))
  have HB := hid (bs HB.out hb6)
  have R6 := hid hr6
  obtain ⟨x6, hx6⟩ : ∃ x, x = lenOf s6 p6 q6 := ⟨_, rfl⟩
  have HI := hid (fun (w : World) (hw : RowAt w a6 s6.length (strVals s6)) => hx6 ▸ impl_LengthAfter_c a6 s6.length c6 s6 p6 q6 w hw hz6)
  have HS := hid (fun (w : World) (hw : RowAt w a6 s6.length (strVals s6)) => hx6 ▸ spec_LengthAfter_c a6 s6.length c6 s6 p6 q6 w hw hz6)
  have hX6 := hid hx6
  clear hr6 ho6 hb6 hx6 HR
  go_wp2_with fail
  refine (HI.out _ R6.out).mono ?_
  rintro e w7 ⟨rfl, hb7⟩
  have R1 := hid (R1.out.below hb7 (Nat.le_refl _))
  have R3 := hid (R3.out.below hb7 (Nat.le_refl _))
  have R4 := hid (R4.out.below hb7 (Nat.le_refl _))
  have R6 := hid (R6.out.below hb7 (Nat.le_refl _))
  have T5 := hid (T5.out.below hb7 (Nat.le_refl _))
  have HB := hid (bs HB.out hb7)
  clear hb7 HI
  go_wp2_with fail
  refine (spec_CountTable_c a4 s4.length c4 s4 _ R4.out hz4).mono ?_
  rintro e w8 ⟨v8, rfl, hg8, hb8⟩
  obtain ⟨a8, c8, rfl, ht8⟩ := ct_tab hg8
  have R1 := hid (R1.out.below hb8 (Nat.le_refl _))
  have R3 := hid (R3.out.below hb8 (Nat.le_refl _))
  have R4 := hid (R4.out.below hb8 (Nat.le_refl _))
  have R6 := hid (R6.out.below hb8 (Nat.le_refl _))
  have T5 := hid (T5.out.below hb8 (Nat.le_refl _))
  have HB := hid (bs HB.out hb8)
  have T8 := hid ht8
  clear hg8 ht8 hb8
  go_wp2_with fail
  refine (sameLists_c a5 a8 (ctOf s4).length c5 c8 (ctOf s4) _ T5.out T8.out).mono ?_
  rintro e w9 ⟨rfl, z9, hz9⟩
  have hb9 : Below w8.heap.size w8 w9 := by rw [hz9]; exact below_drewN (Below.refl _ _) z9
  have R1 := hid (R1.out.below hb9 (Nat.le_refl _))
  have R3 := hid (R3.out.below hb9 (Nat.le_refl _))
  have R4 := hid (R4.out.below hb9 (Nat.le_refl _))
  have R6 := hid (R6.out.below hb9 (Nat.le_refl _))
  have HB := hid (bs HB.out hb9)
  clear hz9 hb9 T8 T5
  go_wp2_with fail
  refine (HS.out _ R6.out).mono ?_
  rintro e w10 ⟨rfl, hb10⟩
  have R1 := hid (R1.out.below hb10 (Nat.le_refl _))
  have R3 := hid (R3.out.below hb10 (Nat.le_refl _))
  have R4 := hid (R4.out.below hb10 (Nat.le_refl _))
  have R6 := hid (R6.out.below hb10 (Nat.le_refl _))
  have HB := hid (bs HB.out hb10)
  clear hb10 HS
  go_wp2_with fail
  refine (impl_IsMixing_c a4 s4.length c4 s4 _ R4.out hz4).mono ?_
  rintro e w11 ⟨rfl, hb11⟩
  have R1 := hid (R1.out.below hb11 (Nat.le_refl _))
  have R3 := hid (R3.out.below hb11 (Nat.le_refl _))
  have R4 := hid (R4.out.below hb11 (Nat.le_refl _))
  have R6 := hid (R6.out.below hb11 (Nat.le_refl _))
  have HB := hid (bs HB.out hb11)
  clear hb11
  go_wp2_with fail
  refine (spec_IsMixing_c a4 s4.length c4 s4 _ R4.out hz4).mono ?_
  rintro e w12 ⟨rfl, hb12⟩
  have R1 := hid (R1.out.below hb12 (Nat.le_refl _))
  have R3 := hid (R3.out.below hb12 (Nat.le_refl _))
  have R4 := hid (R4.out.below hb12 (Nat.le_refl _))
  have R6 := hid (R6.out.below hb12 (Nat.le_refl _))
  have HB := hid (bs HB.out hb12)
  clear hb12
  go_wp2_with fail
  refine (impl_IsSubst_c a4 s4.length c4 s4 _ R4.out hz4).mono ?_
  rintro e w13 ⟨rfl, rfl⟩
  go_wp2_with fail
  refine (spec_IsSubst_c a4 s4.length c4 s4 _ R4.out hz4).mono ?_
  rintro e w13 ⟨rfl, rfl⟩
  have HC := hid (ct_count s4)
  cases hk1 : okO x1
  · cases hk3 : okO x3
    ·
      by_cases h6 : 0 ≤ x6 ∧ x6 ≤ 300
      ·
        obtain ⟨pp, hpp, hp3⟩ := len_place (ss := s6) (p := p6) (q := q6) (by rw [← hX6.out]; exact h6.1)
        subst hpp
        have h6b : 0 ≤ x6 := h6.1
        have h6c : x6 ≤ 300 := h6.2
        have hp3' : (pp : Int) + 1 ≤ 3 := by omega
        have hLS : ((⟨#[97, 98, 99]⟩ : ByteArray).extract pp (pp + 1)).size ≤ 1048576 := by
          have e := congrArg List.length (abc_ext hp3)
          rw [size_list] at e
          simp at e ⊢
          omega
        go_wp2_with fail
        refine (impl_ReplaceTimes_c a6 s6.length c6 s6 ((⟨#[97, 98, 99]⟩ : ByteArray).extract pp (pp + 1)) q6 _ R6.out hz6 hLS).mono ?_
        rintro e w14 ⟨rfl, rfl⟩
        cases hky : okO (timesO s6 ((⟨#[97, 98, 99]⟩ : ByteArray).extract pp (pp + 1)) q6)
        ·
          go_wp2_with fail
          refine (impl_IsSubst_c a4 s4.length c4 s4 _ R4.out hz4).mono ?_
          rintro e w14 ⟨rfl, rfl⟩
          rcases HC.out with ⟨g1, g2, g3⟩ | ⟨g1, g2⟩
          · rw [g1, g2]
            have g4 : (2 : Int) ≤ (s4.length : Int) := by omega
            go_wp2
            go_ret
            exact ⟨rfl, HB.out⟩
          · rw [g1, g2]
            by_cases g5 : s4.length = 0
            · rw [g5]
              go_wp2
              go_ret
              exact ⟨rfl, HB.out⟩
            · have g6 : ¬ ((0 : Int) = (s4.length : Int)) := by omega
              have g7 : ((0 : Int) == (s4.length : Int)) = false := by simpa using g6
              go_wp2
              go_ret
              exact ⟨rfl, HB.out⟩
        · have hsz := letter_len hp3 hky
          rw [← hX6.out] at hsz
          obtain ⟨dd, hdd⟩ : ∃ d, d = strO (timesO s6 ((⟨#[97, 98, 99]⟩ : ByteArray).extract pp (pp + 1)) q6) := ⟨_, rfl⟩
          rw [← hdd] at hsz ⊢
          have hne : ((dd.size : Int) != x6) = false := by simpa using hsz
          clear hdd hsz
          go_wp2_with fail
          refine (impl_IsSubst_c a4 s4.length c4 s4 _ R4.out hz4).mono ?_
          rintro e w14 ⟨rfl, rfl⟩
          rcases HC.out with ⟨g1, g2, g3⟩ | ⟨g1, g2⟩
          · rw [g1, g2]
            have g4 : (2 : Int) ≤ (s4.length : Int) := by omega
            go_wp2
            go_ret
            exact ⟨rfl, HB.out⟩
          · rw [g1, g2]
            by_cases g5 : s4.length = 0
            · rw [g5]
              go_wp2
              go_ret
              exact ⟨rfl, HB.out⟩
            · have g6 : ¬ ((0 : Int) = (s4.length : Int)) := by omega
              have g7 : ((0 : Int) == (s4.length : Int)) = false := by simpa using g6
              go_wp2
              go_ret
              exact ⟨rfl, HB.out⟩
      · have h6a : x6 < 0 ∨ 300 < x6 := by omega
        rcases h6a with h6a | h6a
        · have h6b : ¬ (0 ≤ x6) := by omega
          go_wp2_with fail
          refine (impl_IsSubst_c a4 s4.length c4 s4 _ R4.out hz4).mono ?_
          rintro e w14 ⟨rfl, rfl⟩
          rcases HC.out with ⟨g1, g2, g3⟩ | ⟨g1, g2⟩
          · rw [g1, g2]
            have g4 : (2 : Int) ≤ (s4.length : Int) := by omega
            go_wp2
            go_ret
            exact ⟨rfl, HB.out⟩
          · rw [g1, g2]
            by_cases g5 : s4.length = 0
            · rw [g5]
              go_wp2
              go_ret
              exact ⟨rfl, HB.out⟩
            · have g6 : ¬ ((0 : Int) = (s4.length : Int)) := by omega
              have g7 : ((0 : Int) == (s4.length : Int)) = false := by simpa using g6
              go_wp2
              go_ret
              exact ⟨rfl, HB.out⟩
        · have h6b : 0 ≤ x6 := by omega
          have h6c : ¬ (x6 ≤ 300) := by omega
          go_wp2_with fail
          refine (impl_IsSubst_c a4 s4.length c4 s4 _ R4.out hz4).mono ?_
          rintro e w14 ⟨rfl, rfl⟩
          rcases HC.out with ⟨g1, g2, g3⟩ | ⟨g1, g2⟩
          · rw [g1, g2]
            have g4 : (2 : Int) ≤ (s4.length : Int) := by omega
            go_wp2
            go_ret
            exact ⟨rfl, HB.out⟩
          · rw [g1, g2]
            by_cases g5 : s4.length = 0
            · rw [g5]
              go_wp2
              go_ret
              exact ⟨rfl, HB.out⟩
            · have g6 : ¬ ((0 : Int) = (s4.length : Int)) := by omega
              have g7 : ((0 : Int) == (s4.length : Int)) = false := by simpa using g6
              go_wp2
              go_ret
              exact ⟨rfl, HB.out⟩
    ·
      obtain ⟨av, hav⟩ : ∃ av, av = strO x3 := ⟨_, rfl⟩
      have HF := hid (fix_facts (ss := s3) (x := i3) (m := k3) (a := av.data.toList) (by rw [← hX3.out, hav]; exact strO_some hk3))
      rw [← hav]
      clear hav
      have hka : (av.size : Int) = k3 := by have := HF.out.1; rw [size_list] at this; exact this
      have hne3 : ((av.size : Int) != k3) = false := by simpa using hka
      by_cases hkk : 0 < k3 ∧ k3 ≤ 60
      · have hk0 : 0 < k3 := hkk.1
        have hk60 : k3 ≤ 60 := hkk.2
        have hrp := hid (fix_repl HF.out hkk.2)
        have HRP := hid (impl_Replace_c a3 s3.length c3 s3 av _ R3.out hz3 (by omega))
        obtain ⟨dv, hdv⟩ : ∃ d, d = strO (replO s3 av.data.toList) := ⟨_, rfl⟩
        rw [← hdv, hrp.out.1] at HRP
        have hd1 : k3 ≤ (dv.size : Int) := by rw [hdv]; exact hrp.out.2.1
        have hd2 := hid (show dv.extract 0 k3.toNat = av by rw [hdv]; exact hrp.out.2.2)
        clear hdv
        go_wp2_with fail
        refine HRP.out.mono ?_
        rintro e w13 ⟨rfl, rfl⟩
        have hd3 : ¬ ((dv.size : Int) < k3) := by omega
        have hd4 : 0 ≤ k3 := by omega
        have hd5 := hd2.out
        by_cases h6 : 0 ≤ x6 ∧ x6 ≤ 300
        ·
          obtain ⟨pp, hpp, hp3⟩ := len_place (ss := s6) (p := p6) (q := q6) (by rw [← hX6.out]; exact h6.1)
          subst hpp
          have h6b : 0 ≤ x6 := h6.1
          have h6c : x6 ≤ 300 := h6.2
          have hp3' : (pp : Int) + 1 ≤ 3 := by omega
          have hLS : ((⟨#[97, 98, 99]⟩ : ByteArray).extract pp (pp + 1)).size ≤ 1048576 := by
            have e := congrArg List.length (abc_ext hp3)
            rw [size_list] at e
            simp at e ⊢
            omega
          go_wp2_with fail
          refine (impl_ReplaceTimes_c a6 s6.length c6 s6 ((⟨#[97, 98, 99]⟩ : ByteArray).extract pp (pp + 1)) q6 _ R6.out hz6 hLS).mono ?_
          rintro e w14 ⟨rfl, rfl⟩
          cases hky : okO (timesO s6 ((⟨#[97, 98, 99]⟩ : ByteArray).extract pp (pp + 1)) q6)
          ·
            go_wp2_with fail
            refine (impl_IsSubst_c a4 s4.length c4 s4 _ R4.out hz4).mono ?_
            rintro e w14 ⟨rfl, rfl⟩
            rcases HC.out with ⟨g1, g2, g3⟩ | ⟨g1, g2⟩
            · rw [g1, g2]
              have g4 : (2 : Int) ≤ (s4.length : Int) := by omega
              go_wp2
              go_ret
              exact ⟨rfl, HB.out⟩
            · rw [g1, g2]
              by_cases g5 : s4.length = 0
              · rw [g5]
                go_wp2
                go_ret
                exact ⟨rfl, HB.out⟩
              · have g6 : ¬ ((0 : Int) = (s4.length : Int)) := by omega
                have g7 : ((0 : Int) == (s4.length : Int)) = false := by simpa using g6
                go_wp2
                go_ret
                exact ⟨rfl, HB.out⟩
          · have hsz := letter_len hp3 hky
            rw [← hX6.out] at hsz
            obtain ⟨dd, hdd⟩ : ∃ d, d = strO (timesO s6 ((⟨#[97, 98, 99]⟩ : ByteArray).extract pp (pp + 1)) q6) := ⟨_, rfl⟩
            rw [← hdd] at hsz ⊢
            have hne : ((dd.size : Int) != x6) = false := by simpa using hsz
            clear hdd hsz
            go_wp2_with fail
            refine (impl_IsSubst_c a4 s4.length c4 s4 _ R4.out hz4).mono ?_
            rintro e w14 ⟨rfl, rfl⟩
            rcases HC.out with ⟨g1, g2, g3⟩ | ⟨g1, g2⟩
            · rw [g1, g2]
              have g4 : (2 : Int) ≤ (s4.length : Int) := by omega
              go_wp2
              go_ret
              exact ⟨rfl, HB.out⟩
            · rw [g1, g2]
              by_cases g5 : s4.length = 0
              · rw [g5]
                go_wp2
                go_ret
                exact ⟨rfl, HB.out⟩
              · have g6 : ¬ ((0 : Int) = (s4.length : Int)) := by omega
                have g7 : ((0 : Int) == (s4.length : Int)) = false := by simpa using g6
                go_wp2
                go_ret
                exact ⟨rfl, HB.out⟩
        · have h6a : x6 < 0 ∨ 300 < x6 := by omega
          rcases h6a with h6a | h6a
          · have h6b : ¬ (0 ≤ x6) := by omega
            go_wp2_with fail
            refine (impl_IsSubst_c a4 s4.length c4 s4 _ R4.out hz4).mono ?_
            rintro e w14 ⟨rfl, rfl⟩
            rcases HC.out with ⟨g1, g2, g3⟩ | ⟨g1, g2⟩
            · rw [g1, g2]
              have g4 : (2 : Int) ≤ (s4.length : Int) := by omega
              go_wp2
              go_ret
              exact ⟨rfl, HB.out⟩
            · rw [g1, g2]
              by_cases g5 : s4.length = 0
              · rw [g5]
                go_wp2
                go_ret
                exact ⟨rfl, HB.out⟩
              · have g6 : ¬ ((0 : Int) = (s4.length : Int)) := by omega
                have g7 : ((0 : Int) == (s4.length : Int)) = false := by simpa using g6
                go_wp2
                go_ret
                exact ⟨rfl, HB.out⟩
          · have h6b : 0 ≤ x6 := by omega
            have h6c : ¬ (x6 ≤ 300) := by omega
            go_wp2_with fail
            refine (impl_IsSubst_c a4 s4.length c4 s4 _ R4.out hz4).mono ?_
            rintro e w14 ⟨rfl, rfl⟩
            rcases HC.out with ⟨g1, g2, g3⟩ | ⟨g1, g2⟩
            · rw [g1, g2]
              have g4 : (2 : Int) ≤ (s4.length : Int) := by omega
              go_wp2
              go_ret
              exact ⟨rfl, HB.out⟩
            · rw [g1, g2]
              by_cases g5 : s4.length = 0
              · rw [g5]
                go_wp2
                go_ret
                exact ⟨rfl, HB.out⟩
              · have g6 : ¬ ((0 : Int) = (s4.length : Int)) := by omega
                have g7 : ((0 : Int) == (s4.length : Int)) = false := by simpa using g6
                go_wp2
                go_ret
                exact ⟨rfl, HB.out⟩
      · rcases (by omega : k3 ≤ 0 ∨ 60 < k3) with hk0 | hk60
        · have hk0' : ¬ (0 < k3) := by omega
          by_cases h6 : 0 ≤ x6 ∧ x6 ≤ 300
          ·
            obtain ⟨pp, hpp, hp3⟩ := len_place (ss := s6) (p := p6) (q := q6) (by rw [← hX6.out]; exact h6.1)
            subst hpp
            have h6b : 0 ≤ x6 := h6.1
            have h6c : x6 ≤ 300 := h6.2
            have hp3' : (pp : Int) + 1 ≤ 3 := by omega
            have hLS : ((⟨#[97, 98, 99]⟩ : ByteArray).extract pp (pp + 1)).size ≤ 1048576 := by
              have e := congrArg List.length (abc_ext hp3)
              rw [size_list] at e
              simp at e ⊢
              omega
            go_wp2_with fail
            refine (impl_ReplaceTimes_c a6 s6.length c6 s6 ((⟨#[97, 98, 99]⟩ : ByteArray).extract pp (pp + 1)) q6 _ R6.out hz6 hLS).mono ?_
            rintro e w14 ⟨rfl, rfl⟩
            cases hky : okO (timesO s6 ((⟨#[97, 98, 99]⟩ : ByteArray).extract pp (pp + 1)) q6)
            ·
              go_wp2_with fail
              refine (impl_IsSubst_c a4 s4.length c4 s4 _ R4.out hz4).mono ?_
              rintro e w14 ⟨rfl, rfl⟩
              rcases HC.out with ⟨g1, g2, g3⟩ | ⟨g1, g2⟩
              · rw [g1, g2]
                have g4 : (2 : Int) ≤ (s4.length : Int) := by omega
                go_wp2
                go_ret
                exact ⟨rfl, HB.out⟩
              · rw [g1, g2]
                by_cases g5 : s4.length = 0
                · rw [g5]
                  go_wp2
                  go_ret
                  exact ⟨rfl, HB.out⟩
                · have g6 : ¬ ((0 : Int) = (s4.length : Int)) := by omega
                  have g7 : ((0 : Int) == (s4.length : Int)) = false := by simpa using g6
                  go_wp2
                  go_ret
                  exact ⟨rfl, HB.out⟩
            · have hsz := letter_len hp3 hky
              rw [← hX6.out] at hsz
              obtain ⟨dd, hdd⟩ : ∃ d, d = strO (timesO s6 ((⟨#[97, 98, 99]⟩ : ByteArray).extract pp (pp + 1)) q6) := ⟨_, rfl⟩
              rw [← hdd] at hsz ⊢
              have hne : ((dd.size : Int) != x6) = false := by simpa using hsz
              clear hdd hsz
              go_wp2_with fail
              refine (impl_IsSubst_c a4 s4.length c4 s4 _ R4.out hz4).mono ?_
              rintro e w14 ⟨rfl, rfl⟩
              rcases HC.out with ⟨g1, g2, g3⟩ | ⟨g1, g2⟩
              · rw [g1, g2]
                have g4 : (2 : Int) ≤ (s4.length : Int) := by omega
                go_wp2
                go_ret
                exact ⟨rfl, HB.out⟩
              · rw [g1, g2]
                by_cases g5 : s4.length = 0
                · rw [g5]
                  go_wp2
                  go_ret
                  exact ⟨rfl, HB.out⟩
                · have g6 : ¬ ((0 : Int) = (s4.length : Int)) := by omega
                  have g7 : ((0 : Int) == (s4.length : Int)) = false := by simpa using g6
                  go_wp2
                  go_ret
                  exact ⟨rfl, HB.out⟩
          · have h6a : x6 < 0 ∨ 300 < x6 := by omega
            rcases h6a with h6a | h6a
            · have h6b : ¬ (0 ≤ x6) := by omega
              go_wp2_with fail
              refine (impl_IsSubst_c a4 s4.length c4 s4 _ R4.out hz4).mono ?_
              rintro e w14 ⟨rfl, rfl⟩
              rcases HC.out with ⟨g1, g2, g3⟩ | ⟨g1, g2⟩
              · rw [g1, g2]
                have g4 : (2 : Int) ≤ (s4.length : Int) := by omega
                go_wp2
                go_ret
                exact ⟨rfl, HB.out⟩
              · rw [g1, g2]
                by_cases g5 : s4.length = 0
                · rw [g5]
                  go_wp2
                  go_ret
                  exact ⟨rfl, HB.out⟩
                · have g6 : ¬ ((0 : Int) = (s4.length : Int)) := by omega
                  have g7 : ((0 : Int) == (s4.length : Int)) = false := by simpa using g6
                  go_wp2
                  go_ret
                  exact ⟨rfl, HB.out⟩
            · have h6b : 0 ≤ x6 := by omega
              have h6c : ¬ (x6 ≤ 300) := by omega
              go_wp2_with fail
              refine (impl_IsSubst_c a4 s4.length c4 s4 _ R4.out hz4).mono ?_
              rintro e w14 ⟨rfl, rfl⟩
              rcases HC.out with ⟨g1, g2, g3⟩ | ⟨g1, g2⟩
              · rw [g1, g2]
                have g4 : (2 : Int) ≤ (s4.length : Int) := by omega
                go_wp2
                go_ret
                exact ⟨rfl, HB.out⟩
              · rw [g1, g2]
                by_cases g5 : s4.length = 0
                · rw [g5]
                  go_wp2
                  go_ret
                  exact ⟨rfl, HB.out⟩
                · have g6 : ¬ ((0 : Int) = (s4.length : Int)) := by omega
                  have g7 : ((0 : Int) == (s4.length : Int)) = false := by simpa using g6
                  go_wp2
                  go_ret
                  exact ⟨rfl, HB.out⟩
        · have hk0' : 0 < k3 := by omega
          have hk60' : ¬ (k3 ≤ 60) := by omega
          by_cases h6 : 0 ≤ x6 ∧ x6 ≤ 300
          ·
            obtain ⟨pp, hpp, hp3⟩ := len_place (ss := s6) (p := p6) (q := q6) (by rw [← hX6.out]; exact h6.1)
            subst hpp
            have h6b : 0 ≤ x6 := h6.1
            have h6c : x6 ≤ 300 := h6.2
            have hp3' : (pp : Int) + 1 ≤ 3 := by omega
            have hLS : ((⟨#[97, 98, 99]⟩ : ByteArray).extract pp (pp + 1)).size ≤ 1048576 := by
              have e := congrArg List.length (abc_ext hp3)
              rw [size_list] at e
              simp at e ⊢
              omega
            go_wp2_with fail
            refine (impl_ReplaceTimes_c a6 s6.length c6 s6 ((⟨#[97, 98, 99]⟩ : ByteArray).extract pp (pp + 1)) q6 _ R6.out hz6 hLS).mono ?_
            rintro e w14 ⟨rfl, rfl⟩
            cases hky : okO (timesO s6 ((⟨#[97, 98, 99]⟩ : ByteArray).extract pp (pp + 1)) q6)
            ·
              go_wp2_with fail
              refine (impl_IsSubst_c a4 s4.length c4 s4 _ R4.out hz4).mono ?_
              rintro e w14 ⟨rfl, rfl⟩
              rcases HC.out with ⟨g1, g2, g3⟩ | ⟨g1, g2⟩
              · rw [g1, g2]
                have g4 : (2 : Int) ≤ (s4.length : Int) := by omega
                go_wp2
                go_ret
                exact ⟨rfl, HB.out⟩
              · rw [g1, g2]
                by_cases g5 : s4.length = 0
                · rw [g5]
                  go_wp2
                  go_ret
                  exact ⟨rfl, HB.out⟩
                · have g6 : ¬ ((0 : Int) = (s4.length : Int)) := by omega
                  have g7 : ((0 : Int) == (s4.length : Int)) = false := by simpa using g6
                  go_wp2
                  go_ret
                  exact ⟨rfl, HB.out⟩
            · have hsz := letter_len hp3 hky
              rw [← hX6.out] at hsz
              obtain ⟨dd, hdd⟩ : ∃ d, d = strO (timesO s6 ((⟨#[97, 98, 99]⟩ : ByteArray).extract pp (pp + 1)) q6) := ⟨_, rfl⟩
              rw [← hdd] at hsz ⊢
              have hne : ((dd.size : Int) != x6) = false := by simpa using hsz
              clear hdd hsz
              go_wp2_with fail
              refine (impl_IsSubst_c a4 s4.length c4 s4 _ R4.out hz4).mono ?_
              rintro e w14 ⟨rfl, rfl⟩
              rcases HC.out with ⟨g1, g2, g3⟩ | ⟨g1, g2⟩
              · rw [g1, g2]
                have g4 : (2 : Int) ≤ (s4.length : Int) := by omega
                go_wp2
                go_ret
                exact ⟨rfl, HB.out⟩
              · rw [g1, g2]
                by_cases g5 : s4.length = 0
                · rw [g5]
                  go_wp2
                  go_ret
                  exact ⟨rfl, HB.out⟩
                · have g6 : ¬ ((0 : Int) = (s4.length : Int)) := by omega
                  have g7 : ((0 : Int) == (s4.length : Int)) = false := by simpa using g6
                  go_wp2
                  go_ret
                  exact ⟨rfl, HB.out⟩
          · have h6a : x6 < 0 ∨ 300 < x6 := by omega
            rcases h6a with h6a | h6a
            · have h6b : ¬ (0 ≤ x6) := by omega
              go_wp2_with fail
              refine (impl_IsSubst_c a4 s4.length c4 s4 _ R4.out hz4).mono ?_
              rintro e w14 ⟨rfl, rfl⟩
              rcases HC.out with ⟨g1, g2, g3⟩ | ⟨g1, g2⟩
              · rw [g1, g2]
                have g4 : (2 : Int) ≤ (s4.length : Int) := by omega
                go_wp2
                go_ret
                exact ⟨rfl, HB.out⟩
              · rw [g1, g2]
                by_cases g5 : s4.length = 0
                · rw [g5]
                  go_wp2
                  go_ret
                  exact ⟨rfl, HB.out⟩
                · have g6 : ¬ ((0 : Int) = (s4.length : Int)) := by omega
                  have g7 : ((0 : Int) == (s4.length : Int)) = false := by simpa using g6
                  go_wp2
                  go_ret
                  exact ⟨rfl, HB.out⟩
            · have h6b : 0 ≤ x6 := by omega
              have h6c : ¬ (x6 ≤ 300) := by omega
              go_wp2_with fail
              refine (impl_IsSubst_c a4 s4.length c4 s4 _ R4.out hz4).mono ?_
              rintro e w14 ⟨rfl, rfl⟩
              rcases HC.out with ⟨g1, g2, g3⟩ | ⟨g1, g2⟩
              · rw [g1, g2]
                have g4 : (2 : Int) ≤ (s4.length : Int) := by omega
                go_wp2
                go_ret
                exact ⟨rfl, HB.out⟩
              · rw [g1, g2]
                by_cases g5 : s4.length = 0
                · rw [g5]
                  go_wp2
                  go_ret
                  exact ⟨rfl, HB.out⟩
                · have g6 : ¬ ((0 : Int) = (s4.length : Int)) := by omega
                  have g7 : ((0 : Int) == (s4.length : Int)) = false := by simpa using g6
                  go_wp2
                  go_ret
                  exact ⟨rfl, HB.out⟩
  · have HTL := hid (times_len (ss := s1) (s := s) (m := m) (x := (strO x1).data.toList) (by rw [← hX1.out]; exact strO_some hk1))
    have HLE := hid (fun (w : World) (q : Int) (hw : RowAt w a1 s1.length (strVals s1)) => impl_LengthAfter_c a1 s1.length c1 s1 q m w hw hz1)
    go_wp2
    go_loopw [29, 30] (fun sm i wr => ∃ (j : Nat) (z : Int), j ≤ s.size ∧ i = .int .i64 j ∧ sm = .int .i64 z ∧ -(j : Int) ≤ z ∧ z ≤ j * 1000000 ∧ Hid (z = ltSum (fun q => lenOf s1 q m) (s.data.toList.take j)) ∧ Below w12.heap.size w12 wr) (fun _ i _ => s.size - (intOf i).toNat)
    case atStart => exact ⟨0, 0, by omega, rfl, rfl, by omega, by omega, by show _ = _; simp [ltSum], Below.refl _ _⟩
    case round =>
      obtain ⟨j, z, hj, rfl, rfl, hz1', hz2', HZ, hbel⟩ := hrel
      have hji0 : (j : Int) ≤ (s.size : Int) := by omega
      by_cases hlt : j < s.size
      · have hin := List.all_eq_true.1 HTL.out.2 _ (List.mem_of_getElem? (byte_at s j hlt))
        rw [inB_iff] at hin
        obtain ⟨q, hq⟩ : ∃ q : Nat, s[j].toNat = 97 + q := ⟨s[j].toNat - 97, by omega⟩
        have hq3 : q ≤ 158 := by have := s[j].toNat_lt; omega
        have hji : (j : Int) < (s.size : Int) := by omega
        have HL := hid (HLE.out wr q (R1.out.below hbel (Nat.le_refl _)))
        have hbd := lenOf_bd s1 q m
        have hstep : ltSum (fun q => lenOf s1 q m) (s.data.toList.take (j + 1)) = z + lenOf s1 q m := by
          rw [List.take_add_one, byte_at s j hlt, ltSum_app, ← HZ.out]
          show z + (lenOf s1 ((s[j].toNat - 97 : Nat) : Int) m + 0) = _
          rw [show s[j].toNat - 97 = q by omega]; omega
        have HST := hid hstep
        clear hstep hin
        obtain ⟨y, hy⟩ : ∃ y, y = lenOf s1 q m := ⟨_, rfl⟩
        rw [← hy] at HL HST hbd
        clear hy
        have hz3 : z ≤ 1048576 * 1000000 := by omega
        go_wp2_with fail
        have hmod : 97 + (q : Int) - 97 = (q : Int) := by omega
        rw [hmod]
        clear hmod
        refine HL.out.mono ?_
        rintro e w13 ⟨rfl, hb13⟩
        go_wp2
        go_roundw
        case rel => exact ⟨j + 1, z + y, by omega, by go_num, rfl, by omega, by omega, hid HST.out.symm, bs hbel hb13⟩
        case measure => simp [intOf] <;> omega
      · obtain rfl : j = s.size := by omega
        have hzx : z = ((strO x1).size : Int) := by
          have h1 := HTL.out.1
          rw [size_list] at h1
          rw [HZ.out, List.take_of_length_le (by rw [size_list]; exact Nat.le_refl _)]
          exact h1
        have hnx : (z != ((strO x1).size : Int)) = false := by simpa using hzx
        have HB := hid (bs HB.out hbel)
        have R3 := hid (R3.out.below hbel (Nat.le_refl _))
        have R4 := hid (R4.out.below hbel (Nat.le_refl _))
        have R6 := hid (R6.out.below hbel (Nat.le_refl _))
        clear hzx HZ HTL HLE R1 hbel hz1' hz2' hji0 hlt
        cases hk3 : okO x3
        ·
          by_cases h6 : 0 ≤ x6 ∧ x6 ≤ 300
          ·
            obtain ⟨pp, hpp, hp3⟩ := len_place (ss := s6) (p := p6) (q := q6) (by rw [← hX6.out]; exact h6.1)
            subst hpp
            have h6b : 0 ≤ x6 := h6.1
            have h6c : x6 ≤ 300 := h6.2
            have hp3' : (pp : Int) + 1 ≤ 3 := by omega
            have hLS : ((⟨#[97, 98, 99]⟩ : ByteArray).extract pp (pp + 1)).size ≤ 1048576 := by
              have e := congrArg List.length (abc_ext hp3)
              rw [size_list] at e
              simp at e ⊢
              omega
            go_wp2_with fail
            refine (impl_ReplaceTimes_c a6 s6.length c6 s6 ((⟨#[97, 98, 99]⟩ : ByteArray).extract pp (pp + 1)) q6 _ R6.out hz6 hLS).mono ?_
            rintro e w14 ⟨rfl, rfl⟩
            cases hky : okO (timesO s6 ((⟨#[97, 98, 99]⟩ : ByteArray).extract pp (pp + 1)) q6)
            ·
              go_wp2_with fail
              refine (impl_IsSubst_c a4 s4.length c4 s4 _ R4.out hz4).mono ?_
              rintro e w14 ⟨rfl, rfl⟩
              rcases HC.out with ⟨g1, g2, g3⟩ | ⟨g1, g2⟩
              · rw [g1, g2]
                have g4 : (2 : Int) ≤ (s4.length : Int) := by omega
                go_wp2
                go_ret
                exact ⟨rfl, HB.out⟩
              · rw [g1, g2]
                by_cases g5 : s4.length = 0
                · rw [g5]
                  go_wp2
                  go_ret
                  exact ⟨rfl, HB.out⟩
                · have g6 : ¬ ((0 : Int) = (s4.length : Int)) := by omega
                  have g7 : ((0 : Int) == (s4.length : Int)) = false := by simpa using g6
                  go_wp2
                  go_ret
                  exact ⟨rfl, HB.out⟩
            · have hsz := letter_len hp3 hky
              rw [← hX6.out] at hsz
              obtain ⟨dd, hdd⟩ : ∃ d, d = strO (timesO s6 ((⟨#[97, 98, 99]⟩ : ByteArray).extract pp (pp + 1)) q6) := ⟨_, rfl⟩
              rw [← hdd] at hsz ⊢
              have hne : ((dd.size : Int) != x6) = false := by simpa using hsz
              clear hdd hsz
              go_wp2_with fail
              refine (impl_IsSubst_c a4 s4.length c4 s4 _ R4.out hz4).mono ?_
              rintro e w14 ⟨rfl, rfl⟩
              rcases HC.out with ⟨g1, g2, g3⟩ | ⟨g1, g2⟩
              · rw [g1, g2]
                have g4 : (2 : Int) ≤ (s4.length : Int) := by omega
                go_wp2
                go_ret
                exact ⟨rfl, HB.out⟩
              · rw [g1, g2]
                by_cases g5 : s4.length = 0
                · rw [g5]
                  go_wp2
                  go_ret
                  exact ⟨rfl, HB.out⟩
                · have g6 : ¬ ((0 : Int) = (s4.length : Int)) := by omega
                  have g7 : ((0 : Int) == (s4.length : Int)) = false := by simpa using g6
                  go_wp2
                  go_ret
                  exact ⟨rfl, HB.out⟩
          · have h6a : x6 < 0 ∨ 300 < x6 := by omega
            rcases h6a with h6a | h6a
            · have h6b : ¬ (0 ≤ x6) := by omega
              go_wp2_with fail
              refine (impl_IsSubst_c a4 s4.length c4 s4 _ R4.out hz4).mono ?_
              rintro e w14 ⟨rfl, rfl⟩
              rcases HC.out with ⟨g1, g2, g3⟩ | ⟨g1, g2⟩
              · rw [g1, g2]
                have g4 : (2 : Int) ≤ (s4.length : Int) := by omega
                go_wp2
                go_ret
                exact ⟨rfl, HB.out⟩
              · rw [g1, g2]
                by_cases g5 : s4.length = 0
                · rw [g5]
                  go_wp2
                  go_ret
                  exact ⟨rfl, HB.out⟩
                · have g6 : ¬ ((0 : Int) = (s4.length : Int)) := by omega
                  have g7 : ((0 : Int) == (s4.length : Int)) = false := by simpa using g6
                  go_wp2
                  go_ret
                  exact ⟨rfl, HB.out⟩
            · have h6b : 0 ≤ x6 := by omega
              have h6c : ¬ (x6 ≤ 300) := by omega
              go_wp2_with fail
              refine (impl_IsSubst_c a4 s4.length c4 s4 _ R4.out hz4).mono ?_
              rintro e w14 ⟨rfl, rfl⟩
              rcases HC.out with ⟨g1, g2, g3⟩ | ⟨g1, g2⟩
              · rw [g1, g2]
                have g4 : (2 : Int) ≤ (s4.length : Int) := by omega
                go_wp2
                go_ret
                exact ⟨rfl, HB.out⟩
              · rw [g1, g2]
                by_cases g5 : s4.length = 0
                · rw [g5]
                  go_wp2
                  go_ret
                  exact ⟨rfl, HB.out⟩
                · have g6 : ¬ ((0 : Int) = (s4.length : Int)) := by omega
                  have g7 : ((0 : Int) == (s4.length : Int)) = false := by simpa using g6
                  go_wp2
                  go_ret
                  exact ⟨rfl, HB.out⟩
        ·
          obtain ⟨av, hav⟩ : ∃ av, av = strO x3 := ⟨_, rfl⟩
          have HF := hid (fix_facts (ss := s3) (x := i3) (m := k3) (a := av.data.toList) (by rw [← hX3.out, hav]; exact strO_some hk3))
          rw [← hav]
          clear hav
          have hka : (av.size : Int) = k3 := by have := HF.out.1; rw [size_list] at this; exact this
          have hne3 : ((av.size : Int) != k3) = false := by simpa using hka
          by_cases hkk : 0 < k3 ∧ k3 ≤ 60
          · have hk0 : 0 < k3 := hkk.1
            have hk60 : k3 ≤ 60 := hkk.2
            have hrp := hid (fix_repl HF.out hkk.2)
            have HRP := hid (impl_Replace_c a3 s3.length c3 s3 av _ R3.out hz3 (by omega))
            obtain ⟨dv, hdv⟩ : ∃ d, d = strO (replO s3 av.data.toList) := ⟨_, rfl⟩
            rw [← hdv, hrp.out.1] at HRP
            have hd1 : k3 ≤ (dv.size : Int) := by rw [hdv]; exact hrp.out.2.1
            have hd2 := hid (show dv.extract 0 k3.toNat = av by rw [hdv]; exact hrp.out.2.2)
            clear hdv
            go_wp2_with fail
            refine HRP.out.mono ?_
            rintro e w13 ⟨rfl, rfl⟩
            have hd3 : ¬ ((dv.size : Int) < k3) := by omega
            have hd4 : 0 ≤ k3 := by omega
            have hd5 := hd2.out
            by_cases h6 : 0 ≤ x6 ∧ x6 ≤ 300
            ·
              obtain ⟨pp, hpp, hp3⟩ := len_place (ss := s6) (p := p6) (q := q6) (by rw [← hX6.out]; exact h6.1)
              subst hpp
              have h6b : 0 ≤ x6 := h6.1
              have h6c : x6 ≤ 300 := h6.2
              have hp3' : (pp : Int) + 1 ≤ 3 := by omega
              have hLS : ((⟨#[97, 98, 99]⟩ : ByteArray).extract pp (pp + 1)).size ≤ 1048576 := by
                have e := congrArg List.length (abc_ext hp3)
                rw [size_list] at e
                simp at e ⊢
                omega
              go_wp2_with fail
              refine (impl_ReplaceTimes_c a6 s6.length c6 s6 ((⟨#[97, 98, 99]⟩ : ByteArray).extract pp (pp + 1)) q6 _ R6.out hz6 hLS).mono ?_
              rintro e w14 ⟨rfl, rfl⟩
              cases hky : okO (timesO s6 ((⟨#[97, 98, 99]⟩ : ByteArray).extract pp (pp + 1)) q6)
              ·
                go_wp2_with fail
                refine (impl_IsSubst_c a4 s4.length c4 s4 _ R4.out hz4).mono ?_
                rintro e w14 ⟨rfl, rfl⟩
                rcases HC.out with ⟨g1, g2, g3⟩ | ⟨g1, g2⟩
                · rw [g1, g2]
                  have g4 : (2 : Int) ≤ (s4.length : Int) := by omega
                  go_wp2
                  go_ret
                  exact ⟨rfl, HB.out⟩
                · rw [g1, g2]
                  by_cases g5 : s4.length = 0
                  · rw [g5]
                    go_wp2
                    go_ret
                    exact ⟨rfl, HB.out⟩
                  · have g6 : ¬ ((0 : Int) = (s4.length : Int)) := by omega
                    have g7 : ((0 : Int) == (s4.length : Int)) = false := by simpa using g6
                    go_wp2
                    go_ret
                    exact ⟨rfl, HB.out⟩
              · have hsz := letter_len hp3 hky
                rw [← hX6.out] at hsz
                obtain ⟨dd, hdd⟩ : ∃ d, d = strO (timesO s6 ((⟨#[97, 98, 99]⟩ : ByteArray).extract pp (pp + 1)) q6) := ⟨_, rfl⟩
                rw [← hdd] at hsz ⊢
                have hne : ((dd.size : Int) != x6) = false := by simpa using hsz
                clear hdd hsz
                go_wp2_with fail
                refine (impl_IsSubst_c a4 s4.length c4 s4 _ R4.out hz4).mono ?_
                rintro e w14 ⟨rfl, rfl⟩
                rcases HC.out with ⟨g1, g2, g3⟩ | ⟨g1, g2⟩
                · rw [g1, g2]
                  have g4 : (2 : Int) ≤ (s4.length : Int) := by omega
                  go_wp2
                  go_ret
                  exact ⟨rfl, HB.out⟩
                · rw [g1, g2]
                  by_cases g5 : s4.length = 0
                  · rw [g5]
                    go_wp2
                    go_ret
                    exact ⟨rfl, HB.out⟩
                  · have g6 : ¬ ((0 : Int) = (s4.length : Int)) := by omega
                    have g7 : ((0 : Int) == (s4.length : Int)) = false := by simpa using g6
                    go_wp2
                    go_ret
                    exact ⟨rfl, HB.out⟩
            · have h6a : x6 < 0 ∨ 300 < x6 := by omega
              rcases h6a with h6a | h6a
              · have h6b : ¬ (0 ≤ x6) := by omega
                go_wp2_with fail
                refine (impl_IsSubst_c a4 s4.length c4 s4 _ R4.out hz4).mono ?_
                rintro e w14 ⟨rfl, rfl⟩
                rcases HC.out with ⟨g1, g2, g3⟩ | ⟨g1, g2⟩
                · rw [g1, g2]
                  have g4 : (2 : Int) ≤ (s4.length : Int) := by omega
                  go_wp2
                  go_ret
                  exact ⟨rfl, HB.out⟩
                · rw [g1, g2]
                  by_cases g5 : s4.length = 0
                  · rw [g5]
                    go_wp2
                    go_ret
                    exact ⟨rfl, HB.out⟩
                  · have g6 : ¬ ((0 : Int) = (s4.length : Int)) := by omega
                    have g7 : ((0 : Int) == (s4.length : Int)) = false := by simpa using g6
                    go_wp2
                    go_ret
                    exact ⟨rfl, HB.out⟩
              · have h6b : 0 ≤ x6 := by omega
                have h6c : ¬ (x6 ≤ 300) := by omega
                go_wp2_with fail
                refine (impl_IsSubst_c a4 s4.length c4 s4 _ R4.out hz4).mono ?_
                rintro e w14 ⟨rfl, rfl⟩
                rcases HC.out with ⟨g1, g2, g3⟩ | ⟨g1, g2⟩
                · rw [g1, g2]
                  have g4 : (2 : Int) ≤ (s4.length : Int) := by omega
                  go_wp2
                  go_ret
                  exact ⟨rfl, HB.out⟩
                · rw [g1, g2]
                  by_cases g5 : s4.length = 0
                  · rw [g5]
                    go_wp2
                    go_ret
                    exact ⟨rfl, HB.out⟩
                  · have g6 : ¬ ((0 : Int) = (s4.length : Int)) := by omega
                    have g7 : ((0 : Int) == (s4.length : Int)) = false := by simpa using g6
                    go_wp2
                    go_ret
                    exact ⟨rfl, HB.out⟩
          · rcases (by omega : k3 ≤ 0 ∨ 60 < k3) with hk0 | hk60
            · have hk0' : ¬ (0 < k3) := by omega
              by_cases h6 : 0 ≤ x6 ∧ x6 ≤ 300
              ·
                obtain ⟨pp, hpp, hp3⟩ := len_place (ss := s6) (p := p6) (q := q6) (by rw [← hX6.out]; exact h6.1)
                subst hpp
                have h6b : 0 ≤ x6 := h6.1
                have h6c : x6 ≤ 300 := h6.2
                have hp3' : (pp : Int) + 1 ≤ 3 := by omega
                have hLS : ((⟨#[97, 98, 99]⟩ : ByteArray).extract pp (pp + 1)).size ≤ 1048576 := by
                  have e := congrArg List.length (abc_ext hp3)
                  rw [size_list] at e
                  simp at e ⊢
                  omega
                go_wp2_with fail
                refine (impl_ReplaceTimes_c a6 s6.length c6 s6 ((⟨#[97, 98, 99]⟩ : ByteArray).extract pp (pp + 1)) q6 _ R6.out hz6 hLS).mono ?_
                rintro e w14 ⟨rfl, rfl⟩
                cases hky : okO (timesO s6 ((⟨#[97, 98, 99]⟩ : ByteArray).extract pp (pp + 1)) q6)
                ·
                  go_wp2_with fail
                  refine (impl_IsSubst_c a4 s4.length c4 s4 _ R4.out hz4).mono ?_
                  rintro e w14 ⟨rfl, rfl⟩
                  rcases HC.out with ⟨g1, g2, g3⟩ | ⟨g1, g2⟩
                  · rw [g1, g2]
                    have g4 : (2 : Int) ≤ (s4.length : Int) := by omega
                    go_wp2
                    go_ret
                    exact ⟨rfl, HB.out⟩
                  · rw [g1, g2]
                    by_cases g5 : s4.length = 0
                    · rw [g5]
                      go_wp2
                      go_ret
                      exact ⟨rfl, HB.out⟩
                    · have g6 : ¬ ((0 : Int) = (s4.length : Int)) := by omega
                      have g7 : ((0 : Int) == (s4.length : Int)) = false := by simpa using g6
                      go_wp2
                      go_ret
                      exact ⟨rfl, HB.out⟩
                · have hsz := letter_len hp3 hky
                  rw [← hX6.out] at hsz
                  obtain ⟨dd, hdd⟩ : ∃ d, d = strO (timesO s6 ((⟨#[97, 98, 99]⟩ : ByteArray).extract pp (pp + 1)) q6) := ⟨_, rfl⟩
                  rw [← hdd] at hsz ⊢
                  have hne : ((dd.size : Int) != x6) = false := by simpa using hsz
                  clear hdd hsz
                  go_wp2_with fail
                  refine (impl_IsSubst_c a4 s4.length c4 s4 _ R4.out hz4).mono ?_
                  rintro e w14 ⟨rfl, rfl⟩
                  rcases HC.out with ⟨g1, g2, g3⟩ | ⟨g1, g2⟩
                  · rw [g1, g2]
                    have g4 : (2 : Int) ≤ (s4.length : Int) := by omega
                    go_wp2
                    go_ret
                    exact ⟨rfl, HB.out⟩
                  · rw [g1, g2]
                    by_cases g5 : s4.length = 0
                    · rw [g5]
                      go_wp2
                      go_ret
                      exact ⟨rfl, HB.out⟩
                    · have g6 : ¬ ((0 : Int) = (s4.length : Int)) := by omega
                      have g7 : ((0 : Int) == (s4.length : Int)) = false := by simpa using g6
                      go_wp2
                      go_ret
                      exact ⟨rfl, HB.out⟩
              · have h6a : x6 < 0 ∨ 300 < x6 := by omega
                rcases h6a with h6a | h6a
                · have h6b : ¬ (0 ≤ x6) := by omega
                  go_wp2_with fail
                  refine (impl_IsSubst_c a4 s4.length c4 s4 _ R4.out hz4).mono ?_
                  rintro e w14 ⟨rfl, rfl⟩
                  rcases HC.out with ⟨g1, g2, g3⟩ | ⟨g1, g2⟩
                  · rw [g1, g2]
                    have g4 : (2 : Int) ≤ (s4.length : Int) := by omega
                    go_wp2
                    go_ret
                    exact ⟨rfl, HB.out⟩
                  · rw [g1, g2]
                    by_cases g5 : s4.length = 0
                    · rw [g5]
                      go_wp2
                      go_ret
                      exact ⟨rfl, HB.out⟩
                    · have g6 : ¬ ((0 : Int) = (s4.length : Int)) := by omega
                      have g7 : ((0 : Int) == (s4.length : Int)) = false := by simpa using g6
                      go_wp2
                      go_ret
                      exact ⟨rfl, HB.out⟩
                · have h6b : 0 ≤ x6 := by omega
                  have h6c : ¬ (x6 ≤ 300) := by omega
                  go_wp2_with fail
                  refine (impl_IsSubst_c a4 s4.length c4 s4 _ R4.out hz4).mono ?_
                  rintro e w14 ⟨rfl, rfl⟩
                  rcases HC.out with ⟨g1, g2, g3⟩ | ⟨g1, g2⟩
                  · rw [g1, g2]
                    have g4 : (2 : Int) ≤ (s4.length : Int) := by omega
                    go_wp2
                    go_ret
                    exact ⟨rfl, HB.out⟩
                  · rw [g1, g2]
                    by_cases g5 : s4.length = 0
                    · rw [g5]
                      go_wp2
                      go_ret
                      exact ⟨rfl, HB.out⟩
                    · have g6 : ¬ ((0 : Int) = (s4.length : Int)) := by omega
                      have g7 : ((0 : Int) == (s4.length : Int)) = false := by simpa using g6
                      go_wp2
                      go_ret
                      exact ⟨rfl, HB.out⟩
            · have hk0' : 0 < k3 := by omega
              have hk60' : ¬ (k3 ≤ 60) := by omega
              by_cases h6 : 0 ≤ x6 ∧ x6 ≤ 300
              ·
                obtain ⟨pp, hpp, hp3⟩ := len_place (ss := s6) (p := p6) (q := q6) (by rw [← hX6.out]; exact h6.1)
                subst hpp
                have h6b : 0 ≤ x6 := h6.1
                have h6c : x6 ≤ 300 := h6.2
                have hp3' : (pp : Int) + 1 ≤ 3 := by omega
                have hLS : ((⟨#[97, 98, 99]⟩ : ByteArray).extract pp (pp + 1)).size ≤ 1048576 := by
                  have e := congrArg List.length (abc_ext hp3)
                  rw [size_list] at e
                  simp at e ⊢
                  omega
                go_wp2_with fail
                refine (impl_ReplaceTimes_c a6 s6.length c6 s6 ((⟨#[97, 98, 99]⟩ : ByteArray).extract pp (pp + 1)) q6 _ R6.out hz6 hLS).mono ?_
                rintro e w14 ⟨rfl, rfl⟩
                cases hky : okO (timesO s6 ((⟨#[97, 98, 99]⟩ : ByteArray).extract pp (pp + 1)) q6)
                ·
                  go_wp2_with fail
                  refine (impl_IsSubst_c a4 s4.length c4 s4 _ R4.out hz4).mono ?_
                  rintro e w14 ⟨rfl, rfl⟩
                  rcases HC.out with ⟨g1, g2, g3⟩ | ⟨g1, g2⟩
                  · rw [g1, g2]
                    have g4 : (2 : Int) ≤ (s4.length : Int) := by omega
                    go_wp2
                    go_ret
                    exact ⟨rfl, HB.out⟩
                  · rw [g1, g2]
                    by_cases g5 : s4.length = 0
                    · rw [g5]
                      go_wp2
                      go_ret
                      exact ⟨rfl, HB.out⟩
                    · have g6 : ¬ ((0 : Int) = (s4.length : Int)) := by omega
                      have g7 : ((0 : Int) == (s4.length : Int)) = false := by simpa using g6
                      go_wp2
                      go_ret
                      exact ⟨rfl, HB.out⟩
                · have hsz := letter_len hp3 hky
                  rw [← hX6.out] at hsz
                  obtain ⟨dd, hdd⟩ : ∃ d, d = strO (timesO s6 ((⟨#[97, 98, 99]⟩ : ByteArray).extract pp (pp + 1)) q6) := ⟨_, rfl⟩
                  rw [← hdd] at hsz ⊢
                  have hne : ((dd.size : Int) != x6) = false := by simpa using hsz
                  clear hdd hsz
                  go_wp2_with fail
                  refine (impl_IsSubst_c a4 s4.length c4 s4 _ R4.out hz4).mono ?_
                  rintro e w14 ⟨rfl, rfl⟩
                  rcases HC.out with ⟨g1, g2, g3⟩ | ⟨g1, g2⟩
                  · rw [g1, g2]
                    have g4 : (2 : Int) ≤ (s4.length : Int) := by omega
                    go_wp2
                    go_ret
                    exact ⟨rfl, HB.out⟩
                  · rw [g1, g2]
                    by_cases g5 : s4.length = 0
                    · rw [g5]
                      go_wp2
                      go_ret
                      exact ⟨rfl, HB.out⟩
                    · have g6 : ¬ ((0 : Int) = (s4.length : Int)) := by omega
                      have g7 : ((0 : Int) == (s4.length : Int)) = false := by simpa using g6
                      go_wp2
                      go_ret
                      exact ⟨rfl, HB.out⟩
              · have h6a : x6 < 0 ∨ 300 < x6 := by omega
                rcases h6a with h6a | h6a
                · have h6b : ¬ (0 ≤ x6) := by omega
                  go_wp2_with fail
                  refine (impl_IsSubst_c a4 s4.length c4 s4 _ R4.out hz4).mono ?_
                  rintro e w14 ⟨rfl, rfl⟩
                  rcases HC.out with ⟨g1, g2, g3⟩ | ⟨g1, g2⟩
                  · rw [g1, g2]
                    have g4 : (2 : Int) ≤ (s4.length : Int) := by omega
                    go_wp2
                    go_ret
                    exact ⟨rfl, HB.out⟩
                  · rw [g1, g2]
                    by_cases g5 : s4.length = 0
                    · rw [g5]
                      go_wp2
                      go_ret
                      exact ⟨rfl, HB.out⟩
                    · have g6 : ¬ ((0 : Int) = (s4.length : Int)) := by omega
                      have g7 : ((0 : Int) == (s4.length : Int)) = false := by simpa using g6
                      go_wp2
                      go_ret
                      exact ⟨rfl, HB.out⟩
                · have h6b : 0 ≤ x6 := by omega
                  have h6c : ¬ (x6 ≤ 300) := by omega
                  go_wp2_with fail
                  refine (impl_IsSubst_c a4 s4.length c4 s4 _ R4.out hz4).mono ?_
                  rintro e w14 ⟨rfl, rfl⟩
                  rcases HC.out with ⟨g1, g2, g3⟩ | ⟨g1, g2⟩
                  · rw [g1, g2]
                    have g4 : (2 : Int) ≤ (s4.length : Int) := by omega
                    go_wp2
                    go_ret
                    exact ⟨rfl, HB.out⟩
                  · rw [g1, g2]
                    by_cases g5 : s4.length = 0
                    · rw [g5]
                      go_wp2
                      go_ret
                      exact ⟨rfl, HB.out⟩
                    · have g6 : ¬ ((0 : Int) = (s4.length : Int)) := by omega
                      have g7 : ((0 : Int) == (s4.length : Int)) = false := by simpa using g6
                      go_wp2
                      go_ret
                      exact ⟨rfl, HB.out⟩
set_option maxRecDepth 100000 in
theorem lifted_FnSubsts (os : Os) (started : os.Started) (H : Type) (enc : TypeId × Value → H) :
    ReturnsInHanded {} Try.checked os 3 .any (Rows.fnSubstsSpec.pre6 enc Try.prog Try.f3 Rows.fnSubstsRow.domain false) (Rows.fnSubstsSpec.post enc Try.prog Try.f3 false true false false) := by
  refine returnsInHanded_of_change_sized (C := Try.checked) own started (by kernel_rfl) Try.func3
    (ChangeSpec.witness6 (enc := enc) (C := Try.checked) false ⟨#[], #[.slice none 0 0], []⟩ 8 (by kernel_rfl) (by kernel_rfl) (by kernel_rfl) (by kernel_rfl)) ?_
  intro W base args ds gs before hval0 hW hcnd hsz0 _
  have hsz : (DataW.weightsEach Try.prog (Try.f3.params.toList ++ Rows.fnSubstsSpec.plain.varTypes Try.prog) (ds ++ gs)).all (· ≤ reachBytes) = true := hsz0
  clear hsz0
  have hval : ∀ (j : Nat) t v, Try.f3.params[j]? = some t → args[j]? = some v → Value.okWide Try.prog W .any base t v := hval0
  have hW' := hW
  obtain ⟨p, q, hA0, hV, rfl, hfz, hnd⟩ := hW
  have hA : DataW.TrodAll enc Try.prog W 0 (fun _ => true) true Try.f3.params.toList args.toList ds p := hA0
  rw [Try.params3] at hA hval hsz
  obtain ⟨v0, vs0, d0, ds0, p0, q0, hargs, rfl, rfl, h0, r0⟩ := trodAll_cons hA
  obtain ⟨rfl, rfl, rfl⟩ := trodAll_nil r0
  obtain rfl : args = #[v0] := by cases args; simp_all
  obtain ⟨rfl, rfl⟩ := trodVars_none hV
  have k0 := h0
  have lt0 : ∀ x ∈ p0, x.block < W.heap.size := by obtain ⟨m, hm⟩ := k0; exact DataW.trod_lt m _ _ _ hm
  have w0 := open_bytes (enc := enc) (hval 0 22 v0 rfl rfl) h0 (fun x hx => DataW.weights_mem_each (j := 0) rfl rfl x hx) hsz
  clear hA0 hval0
  refine (walk_FnSubsts W v0 w0).mono fun e W' ⟨he, bel⟩ => ?_
  subst he
  exact ⟨_, rfl, _, _, _, [], _, [], hW', trodAll_mk1 (shut_bool Try.underlying4 _), (trodAll_cons_mk (Below.trod laidOut (by kernel_rfl) (of_decide_eq_true (by kernel_rfl)) k0 bel lt0) trodAll_mk0), rfl, bel.frame _, fun h => by cases h⟩

theorem closed_FnSubsts : joinedFacts Try.prog 3 Try.f3 Rows.fnSubstsSpec Rows.fnSubstsRow = true := by
  unfold joinedFacts
  rw [headMayEnter, headLiftsFinal, headMake]
  kernel_rfl
/-- The law returns true for every input, and its arguments read as before: the given statement. -/
theorem fnSubsts_holds : Rows.FnSubstsSaid :=
  OpenClaim.holds_of_wide 3 Try.f3 rfl rfl rfl rfl rfl rfl rfl ⟨rfl, rfl, rfl, rfl, rfl⟩ rfl rfl rfl rfl rfl (by as_aux_lemma => kernel_rfl) Try.func3 closed_FnSubsts
    (by as_aux_lemma => exact of_decide_eq_true (by kernel_rfl)) (by unfold Func.isWrapper; first | (rw [if_pos (by decide +kernel)]; kernel_rfl) | (rw [if_neg (by decide +kernel)]; exact ⟨rfl, rfl⟩))
    (fun os started H enc _ => lifted_FnSubsts os started H enc)
#print axioms fnSubsts_holds

end Go.Proofs.Ytcfjchaklgjmkaa
