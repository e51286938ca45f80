/- Determinants of small tables, both ways. Conditions: square tables in memory, their numbers within 10000. -/
import Derived.Test.YtpfeflhcbcgbfaaGreatDoorMinI
import Derived.Test.YtpfeflhcbcgbfaaGreatDoorZero
namespace Go.Proofs.YtpfeflhcbcgbfaaGreatDoor
open Go.RowKit
set_option maxHeartbeats 4000000 in
set_option maxRecDepth 100000 in
theorem spec_l7Minor_c (a : Option Addr) (n c q : Nat) (t : List (List Int)) (w : World) (h : TabC w a n t) (hR : Rect t n n) (hn : n ≤ 9) (hq : q < n) :
    Calls Tryz.prog 160 #[.slice a n c, .int .i64 0, .int .i64 q] w (GridPost (minorL t q) w) := by
  have HL := hid hR.len
  have HRC := hid (fun (i : Nat) (hi : i < n) => rowC h hR hi)
  have HEND := hid (mnTo_all q hR.len)
  have H1 := hid (mnTo_one t q)
  have HS := hid (fun (j : Nat) (r : List Int) (hr : t[j + 1]? = some r) => mnTo_succ (q := q) hr)
  have HML := hid (fun (j : Nat) (hj : j ≤ n) => mnTo_len (t := t) (q := q) (j := j) (by rw [hR.len]; exact hj))
  have hB0 : Below w.heap.size w (w.alloc (.cells #[] 39)) := (Below.refl _ _).alloc (Nat.le_refl _) _
  have HG0 := hid (show TGrid 39 3 (w.alloc (.cells #[] 39)) w.heap.size (.slice (some ⟨w.heap.size, 0, none⟩) 0 0) (mnTo t q 0) from ⟨[], by rw [mnTo_zero]; exact owns_lit3 #[] _ rfl (Nat.le_refl _) (by unfold maxLen; simp), by rw [mnTo_zero]; exact TRows.nil _ _ _⟩)
  have HB0 := hid hB0
  have hqi : (q : Int) + 1 ≤ (n : Int) := by omega
  have hqn : q + 1 ≤ n := hq
  clear h hR hB0
  go_enter Tryz.func160, Tryz.ntmps160
  go_wp2
  go_loopw [7, 8] (fun v i wr => ∃ j : Nat, j ≤ n ∧ i = .int .i64 j ∧ Hid (TGrid 39 3 wr w.heap.size v (mnTo t q j)) ∧ Hid (Below w.heap.size w wr)) (fun _ i _ => n - (intOf i).toNat)
  case atStart => exact ⟨0, by omega, rfl, HG0, HB0⟩
  case round =>
    clear HG0 HB0
    obtain ⟨j, hj, rfl, HG, HBL⟩ := hrel
    by_cases hlt : j < n
    · have hji : (j : Int) < (n : Int) := by omega
      by_cases hj0 : j = 0
      · subst hj0
        go_wp2
        go_roundw
        case rel => exact ⟨0 + 1, by omega, by go_num, hid (by rw [Nat.zero_add, H1.out]; exact HG.out), HBL⟩
        case measure => simp [intOf]; omega
      · obtain ⟨i, rfl⟩ : ∃ i, j = i + 1 := ⟨j - 1, by omega⟩
        obtain ⟨b, off, a', c', r, rfl, hb, hc, hcap, hrow, hr, hrl, _⟩ := HRC.out (i + 1) hlt
        obtain ⟨b2, off2, rfl, hb2, hc2⟩ := hrow.at_ (by omega)
        have hcell := (HBL.out.cell (p := ⟨b, off + (i + 1), none⟩) hb).trans hc
        have hne0 : (((i : Int) + 1) == 0) = false := by simp; omega
        have hcapi : (n : Int) ≤ (c' : Int) := by omega
        have hqc : (q : Int) ≤ (c' : Int) := by omega
        have hqi0 : (q : Int) ≤ (n : Int) := by omega
        have hbA : Below wr.heap.size wr (wr.alloc (.cells #[] 3)) := (Below.refl _ _).alloc (Nat.le_refl _) _
        have hbb := Nat.lt_of_lt_of_le hb HBL.out.size
        have HCC := hid hcell
        have hcellA := (hbA.cell (p := ⟨b, off + (i + 1), none⟩) hbb).trans hcell
        have HOA := hid (owns_lit3 (w := wr) (base := wr.heap.size) (e := 3) #[] [] rfl (Nat.le_refl _) (by unfold maxLen; simp))
        have HCC := hid hcell
        have hwq : IntKind.i64.wrap ((q : Int) + 1) = (q : Int) + 1 := IntWalk.i64_in _ (by omega)
        have hwq : IntKind.i64.wrap ((q : Int) + 1) = (q : Int) + 1 := IntWalk.i64_in _ (by omega)
        obtain ⟨vs, ho, hrs⟩ := HG.out
        rw [HML.out (i + 1) (by omega), Nat.add_sub_cancel] at ho
        have hszL := HBL.out.size
        have HTL := hid (show (intVals (r.take q)).length = q by simp [intVals]; omega)
        have HC1 := hid (fun (x : Nat) (u : Value) (hu : (intVals (r.take q))[x]? = some u) => show (wr.alloc (.cells #[] 3)).cell? ⟨b2, off2 + x, none⟩ = some u from by
          rw [intVals_take] at hu
          refine ((hbA.cell (p := ⟨b2, off2 + x, none⟩) (Nat.lt_of_lt_of_le hb2 HBL.out.size)).trans (HBL.out.cell (p := ⟨b2, off2 + x, none⟩) hb2)).trans (hc2 x u ?_)
          rw [List.getElem?_take] at hu
          split at hu
          · exact hu
          · cases hu)
        have HSJ := hid (HS.out i r hr)
        have HLS := hid (HML.out (i + 1 + 1) (by omega))
        by_cases hcq : c' = q + 1
        · have hnq : n = q + 1 := by omega
          subst hcq
          subst hnq
          have HCL := hid (show (cutC q r).length = q + 0 by rw [cutC_len (by omega)]; omega)
          have HDL := hid (show (intVals (r.drop (q + 1))).length = 0 by simp [intVals]; omega)
          have HC2 := hid (fun (V : World) (hV : Below wr.heap.size wr V) (x : Nat) (u : Value) (hu : (intVals (r.drop (q + 1)))[x]? = some u) => show V.cell? ⟨b2, off2 + x, none⟩ = some u from by
            have h1 := (List.getElem?_eq_some_iff.1 hu).1
            rw [HDL.out] at h1
            omega)
          clear hcell
          go_wp2_with (first | (at_builtin; first | (refine wpList_appN rfl _ _ 39 rfl wr.heap.size 3 (.int .i64 0) 8 Tryz.underlying39 infoIntZ rfl wr.heap.size 0 0 [] HOA.out rfl b2 off2 q (q + 1) (intVals (r.take q)) rfl HTL.out HC1.out int_one (by omega) (by unfold maxLen; omega) (by simp) ?_; intro g1 c1 w1 hown1 hgr1 hor1 hlt1; rw [Nat.zero_add, List.nil_append] at hown1; have hb1 := hbA.grown hgr1 (by simp) (by rintro k ⟨⟩; exact Nat.le_refl _); have hcell1 := (hb1.cell (p := ⟨b, off + (i + 1), none⟩) hbb).trans HCC.out; have hg1 := (hown1.lt g1 rfl).1; have hs1 := hb1.size; try simp only [Nat.zero_add]) | (refine wpList_appN rfl _ _ 39 rfl wr.heap.size 3 (.int .i64 0) 8 Tryz.underlying39 infoIntZ rfl g1 c1 q (intVals (r.take q)) hown1 rfl b2 off2 0 0 (intVals (r.drop (q + 1))) rfl HDL.out (HC2.out w1 hb1) int_one (by omega) (by unfold maxLen; omega) hs1 ?_; intro g2 c2 w2 hown2 hgr2 hor2 hlt2; have hb2w := hb1.grown hgr2 hs1 (by rintro k ⟨⟩; exact hg1); have hg2 := (hown2.lt g2 rfl).1; have ho2 := owns_below ho hb2w; have hs2 := hb2w.size) | (refine wpList_appg rfl _ _ 31 rfl w.heap.size 39 (.slice none 0 0) 24 Tryz.underlying31 infoInts rfl _ i vs _ ho2 rfl rfl rfl (by omega) (by unfold maxLen; omega) (by omega) ?_; intro v' w3 hown3 hgr3)))
          have HR2 := hid (hrs.moreAt (r := cutC q r) (c := c2) (below_none hb2w) hg2 (by rw [HCL.out]; unfold cutC; rw [intVals_cat]; exact owns_base hown2 hszL))
          rw [HCL.out] at HR2
          have HR3 := hid (HR2.out.kept ho2 (by decide) hgr3)
          have HO3 := hid hown3
          have HB3 := hid ((HBL.out.trans (hb2w.mono hszL)).grown hgr3 (by omega) (fun k hk => (ho2.lt k hk).1))
          clear hown3 hgr3 ho2 hb2w hown2 hgr2
          go_roundw
          case rel => exact ⟨i + 1 + 1, by omega, by go_num, hid ⟨_, by rw [HLS.out]; exact HO3.out, by rw [HSJ.out]; exact HR3.out⟩, HB3⟩
          case measure => simp [intOf]; omega
        · have HCL := hid (show (cutC q r).length = q + (n - (q + 1)) by rw [cutC_len (by omega)]; omega)
          have HDL := hid (show (intVals (r.drop (q + 1))).length = n - (q + 1) by simp [intVals]; omega)
          have HC2 := hid (fun (V : World) (hV : Below wr.heap.size wr V) (x : Nat) (u : Value) (hu : (intVals (r.drop (q + 1)))[x]? = some u) => show V.cell? ⟨b2, off2 + (q + 1) + x, none⟩ = some u from by
            rw [intVals_drop, List.getElem?_drop] at hu
            rw [Nat.add_assoc]
            exact ((hV.cell (p := ⟨b2, off2 + (q + 1 + x), none⟩) (Nat.lt_of_lt_of_le hb2 HBL.out.size)).trans (HBL.out.cell (p := ⟨b2, off2 + (q + 1 + x), none⟩) hb2)).trans (hc2 _ u hu))
          clear hcell
          go_wp2_with (first | (at_builtin; first | (refine wpList_appN rfl _ _ 39 rfl wr.heap.size 3 (.int .i64 0) 8 Tryz.underlying39 infoIntZ rfl wr.heap.size 0 0 [] HOA.out rfl b2 off2 q c' (intVals (r.take q)) rfl HTL.out HC1.out int_one (by omega) (by unfold maxLen; omega) (by simp) ?_; intro g1 c1 w1 hown1 hgr1 hor1 hlt1; rw [Nat.zero_add, List.nil_append] at hown1; have hb1 := hbA.grown hgr1 (by simp) (by rintro k ⟨⟩; exact Nat.le_refl _); have hcell1 := (hb1.cell (p := ⟨b, off + (i + 1), none⟩) hbb).trans HCC.out; have hg1 := (hown1.lt g1 rfl).1; have hs1 := hb1.size; try simp only [Nat.zero_add]) | (refine wpList_appN rfl _ _ 39 rfl wr.heap.size 3 (.int .i64 0) 8 Tryz.underlying39 infoIntZ rfl g1 c1 q (intVals (r.take q)) hown1 rfl b2 (off2 + (q + 1)) (n - (q + 1)) (c' - (q + 1)) (intVals (r.drop (q + 1))) rfl HDL.out (HC2.out w1 hb1) int_one (by omega) (by unfold maxLen; omega) hs1 ?_; intro g2 c2 w2 hown2 hgr2 hor2 hlt2; have hb2w := hb1.grown hgr2 hs1 (by rintro k ⟨⟩; exact hg1); have hg2 := (hown2.lt g2 rfl).1; have ho2 := owns_below ho hb2w; have hs2 := hb2w.size) | (refine wpList_appg rfl _ _ 31 rfl w.heap.size 39 (.slice none 0 0) 24 Tryz.underlying31 infoInts rfl _ i vs _ ho2 rfl rfl rfl (by omega) (by unfold maxLen; omega) (by omega) ?_; intro v' w3 hown3 hgr3)))
          have HR2 := hid (hrs.moreAt (r := cutC q r) (c := c2) (below_none hb2w) hg2 (by rw [HCL.out]; unfold cutC; rw [intVals_cat]; exact owns_base hown2 hszL))
          rw [HCL.out] at HR2
          have HR3 := hid (HR2.out.kept ho2 (by decide) hgr3)
          have HO3 := hid hown3
          have HB3 := hid ((HBL.out.trans (hb2w.mono hszL)).grown hgr3 (by omega) (fun k hk => (ho2.lt k hk).1))
          clear hown3 hgr3 ho2 hb2w hown2 hgr2
          go_roundw
          case rel => exact ⟨i + 1 + 1, by omega, by go_num, hid ⟨_, by rw [HLS.out]; exact HO3.out, by rw [HSJ.out]; exact HR3.out⟩, HB3⟩
          case measure => simp [intOf]; omega
    · obtain rfl : j = n := by omega
      have HF := hid (show TGrid 39 3 wr w.heap.size u7 (minorL t q) from by rw [← HEND.out]; exact HG.out)
      go_wp2
      go_ret
      exact ⟨_, rfl, HF.out, HBL.out⟩
end Go.Proofs.YtpfeflhcbcgbfaaGreatDoor
namespace Go.Proofs.YtpfeflhcbcgbfaaGreatDoor
open Go.RowKit
set_option maxHeartbeats 4000000 in
set_option maxRecDepth 100000 in
theorem spec_l7Det_c_step (B : Int) (hB0 : 0 ≤ B) (hB1 : B ≤ 10000) (n N : Nat) (hN : N = n + 1) (hn : N ≤ 4)
    (IH : ∀ (t : List (List Int)) (a : Option Addr) (c : Nat) (w : World), TabC w a n t → Rect t n n → Bd B t → Calls Tryz.prog 133 #[.slice a n c] w fun e w' => e = .returned (.int .i64 (detN n t)) ∧ Below w.heap.size w w')
    (t : List (List Int)) (a : Option Addr) (c : Nat) (w : World) (h : TabC w a N t) (hR : Rect t N N) (hbd : Bd B t) :
    Calls Tryz.prog 133 #[.slice a N c] w fun e w' => e = .returned (.int .i64 (detN N t)) ∧ Below w.heap.size w w' := by
  have hR' : Rect t (n + 1) (n + 1) := by rw [← hN]; exact hR
  have HMI := hid (fun (j : Nat) (hj : j < N) (V : World) (hV : Below w.heap.size w V) => show Calls Tryz.prog 160 #[.slice a N c, .int .i64 0, .int .i64 j] V fun e w' => ∃ am cm, e = .returned (.slice am n cm) ∧ TabC w' am n (minorL t j) ∧ Below V.heap.size V w' from (spec_l7Minor_c a N c j t V (h.below hV (Nat.le_refl _)) hR (by omega) hj).mono (by
    rintro e w' ⟨v, rfl, hg, hbv⟩
    obtain ⟨am, cm, rfl, _, htm⟩ := grid_tabC hg (minorL_rect hR' (by omega)) (by omega)
    exact ⟨am, cm, rfl, htm, hbv⟩))
  have HDT := hid (fun (j : Nat) (hj : j < N) (V : World) (am : Option Addr) (cm : Nat) (hm : TabC V am n (minorL t j)) => IH (minorL t j) am cm V hm (minorL_rect hR' (by omega)) (hbd.minor j))
  have HRC := hid (rowC h hR (i := 0) (by omega))
  have HTE := hid (fun (j : Nat) (hj : j < N) => det_term (j := j) hB0 hR' hbd (by omega) (det_bd hB0 n (minorL t j) (minorL_rect hR' (by omega)) (hbd.minor j)))
  have HBX := hid (fun (j : Nat) (hj : j < N) => hbd.at hR (i := 0) (j := j) (by omega) hj)
  have HFOUR := hid (bdN_four (n := N) hn hB0 hB1)
  have HPN := hid (Int.mul_nonneg hB0 (bdN_nonneg hB0 n))
  have HBN := hid (show bdN B N = (N : Int) * (B * bdN B n) from by rw [hN]; rfl)
  obtain ⟨f, hf⟩ : ∃ f : Nat → Int, f = fun j => sgn j * at2 t 0 j * detN n (minorL t j) := ⟨_, rfl⟩
  have HF := hid (fun j => show f j = sgn j * at2 t 0 j * detN n (minorL t j) by rw [hf])
  have HDET := hid (show detN N t = sumTo f N by rw [hf, hN]; rfl)
  have HPART := hid (fun (j : Nat) (hj : j ≤ N) => part_bd (f := f) (n := N) HPN.out (fun k hk => by rw [hf]; exact HTE.out k hk) hj)
  obtain ⟨DT, hDT⟩ : ∃ d, d = detN N t := ⟨_, rfl⟩
  rw [← hDT] at HDET
  rw [← hDT]
  have hN0 : ((N : Int) == 0) = false := by simp; omega
  have hN00 : 0 < N := by omega
  clear h hR hR' hbd IH hDT hf hN
  go_enter Tryz.func133, Tryz.ntmps133
  go_wp2
  go_loopw [3, 4, 5] (fun s g i wr => ∃ j : Nat, j ≤ N ∧ i = .int .i64 j ∧ s = .int .i64 (sumTo f j) ∧ g = .int .i64 (sgn j) ∧ Hid (Below w.heap.size w wr)) (fun _ _ i _ => N - (intOf i).toNat)
  case atStart => exact ⟨0, by omega, rfl, rfl, rfl, hid (Below.refl _ _)⟩
  case round =>
    obtain ⟨j, hj, rfl, rfl, rfl, HBL⟩ := hrel
    by_cases hlt : j < N
    · have hji : (j : Int) < (N : Int) := by omega
      obtain ⟨b, off, a', c', r, rfl, hb, hc, hcap, hrow, hr, hrl, hat⟩ := HRC.out
      obtain ⟨b2, off2, rfl, hb2, hc2⟩ := hrow.at_ (by omega)
      have hcell := (HBL.out.cell (p := ⟨b, off + 0, none⟩) hb).trans hc
      have hcell2 := (HBL.out.cell (p := ⟨b2, off2 + j, none⟩) hb2).trans (hc2 j (.int .i64 (at0 r j)) (intVals_get (at0_some (by omega))))
      rw [← hat j] at hcell2
      rw [Nat.add_zero] at hcell
      have HBW := HBL
      have HSU := hid (show sumTo f (j + 1) = sumTo f j + sgn j * at2 t 0 j * detN n (minorL t j) from by rw [← HF.out j]; rfl)
      have HSG := hid (show sgn (j + 1) = -sgn j from rfl)
      have h1 := HPART.out j hj
      have h2 := HPART.out (j + 1) hlt
      have h3 := HTE.out j hlt
      have h4 := HBX.out j hlt
      have h5 := sgn_abs j
      have h6 := HFOUR.out
      rw [HBN.out] at h6
      rw [HSU.out] at h2
      have h8 : B * bdN B n ≤ (N : Int) * (B * bdN B n) := by
        have := Int.mul_le_mul_of_nonneg_right (show (1 : Int) ≤ (N : Int) by omega) HPN.out
        rw [Int.one_mul] at this
        exact this
      obtain ⟨P, hP⟩ : ∃ P, P = B * bdN B n := ⟨_, rfl⟩
      rw [← hP] at h3 h6 h8 h1 h2
      obtain ⟨Q, hQ⟩ : ∃ Q, Q = (N : Int) * P := ⟨_, rfl⟩
      rw [← hQ] at h6 h8 h1 h2
      obtain ⟨x, hx⟩ : ∃ x, x = at2 t 0 j := ⟨_, rfl⟩
      obtain ⟨d, hd⟩ : ∃ d, d = detN n (minorL t j) := ⟨_, rfl⟩
      obtain ⟨g, hg⟩ : ∃ g, g = sgn j := ⟨_, rfl⟩
      obtain ⟨s, hs⟩ : ∃ s, s = sumTo f j := ⟨_, rfl⟩
      have HDT := hid (fun (j' : Nat) (hj' : j' < N) (V : World) (am : Option Addr) (cm : Nat) (e : j' = j) (hm : TabC V am n (minorL t j)) => show Calls Tryz.prog 133 #[.slice am n cm] V fun e w' => e = .returned (.int .i64 d) ∧ Below V.heap.size V w' from by rw [hd]; exact HDT.out j hlt V am cm hm)
      have HDT := hid (fun (j' : Nat) (hj' : j < N) (V : World) (am : Option Addr) (cm : Nat) (hm : TabC V am n (minorL t j)) => HDT.out j hlt V am cm rfl hm)
      rw [← hx] at hcell2 HSU h2 h3 h4
      rw [← hd] at HSU h2 h3
      rw [← hg] at HSU HSG h2 h3 h5
      rw [← hs] at HSU h1 h2
      rw [← hs, ← hg]
      have hgx : -10000 ≤ g * x ∧ g * x ≤ 10000 := by rcases h5 with h | h <;> rw [h] <;> omega
      have hw1 : IntKind.i64.wrap (g * x) = g * x := IntWalk.i64_in _ (by omega)
      have hw2 : IntKind.i64.wrap (g * x * d) = g * x * d := IntWalk.i64_in _ (by omega)
      have hw3 : IntKind.i64.wrap (s + g * x * d) = s + g * x * d := IntWalk.i64_in _ (by omega)
      have hw4 : IntKind.i64.wrap (-g) = -g := IntWalk.i64_in _ (by omega)
      clear hx hd hg hs hP hQ h1 h2 h3 h4 h6 h8 hc2 h5 hgx
      by_cases hx0 : x = 0
      · subst hx0
        have HSU := hid (show sumTo f (j + 1) = s by rw [HSU.out]; simp)
        clear hw1 hw2 hw3
        go_wp2
        go_roundw
        case rel => exact ⟨j + 1, by omega, by go_num, by rw [HSU.out], by rw [HSG.out], HBL⟩
        case measure => simp [intOf]; omega
      · have hx1 : (x == 0) = false := by simp [hx0]
        have hbZ : Below wr.heap.size wr wr.drew := (Below.refl _ _).drew
        have HKK := hid (fun (V : World) (hV : Below wr.heap.size wr V) => show V.cell? ⟨b, off, none⟩ = some (.slice (some ⟨b2, off2, none⟩) N c') ∧ V.cell? ⟨b2, off2 + j, none⟩ = some (.int .i64 x) ∧ Below wr.heap.size wr V from ⟨(hV.cell (p := ⟨b, off, none⟩) (Nat.lt_of_lt_of_le hb HBL.out.size)).trans hcell, (hV.cell (p := ⟨b2, off2 + j, none⟩) (Nat.lt_of_lt_of_le hb2 HBL.out.size)).trans hcell2, hV⟩)
        go_wp2
        go_region_held3 (fun V => V.cell? ⟨b, off, none⟩ = some (.slice (some ⟨b2, off2, none⟩) N c') ∧ V.cell? ⟨b2, off2 + j, none⟩ = some (.int .i64 x) ∧ Below wr.heap.size wr V)
          (first | with_reducible exact HKK.out _ hbZ)
          (first | (go_at_call 160; refine (HMI.out j hlt _ (HBW.out.trans (hbZ.mono HBW.out.size))).mono ?_; rintro e w3 ⟨am, cm, rfl, htm, hb3⟩; have hbZ := hbZ.trans (hb3.mono hbZ.size)) | (go_at_call 133; refine (HDT.out j hlt _ am cm htm).mono ?_; rintro e w4 ⟨rfl, hb4⟩; have hbZ := hbZ.trans (hb4.mono hbZ.size)))
        have HBQ := hid (HBL.out.trans (hbZ.mono HBL.out.size))
        clear hbZ HKK hcell hcell2
        go_wp2
        go_roundw
        case rel => exact ⟨j + 1, by omega, by go_num, by rw [HSU.out], by rw [HSG.out], HBQ⟩
        case measure => simp [intOf]; omega
    · obtain rfl : j = N := by omega
      have HR := HDET.out
      go_wp2
      go_ret
      exact ⟨by rw [HR]; rfl, HBL.out⟩
set_option maxRecDepth 100000 in
theorem spec_l7Det_c (B : Int) (hB0 : 0 ≤ B) (hB1 : B ≤ 10000) : ∀ (n : Nat), n ≤ 4 → ∀ (t : List (List Int)) (a : Option Addr) (c : Nat) (w : World), TabC w a n t → Rect t n n → Bd B t →
    Calls Tryz.prog 133 #[.slice a n c] w fun e w' => e = .returned (.int .i64 (detN n t)) ∧ Below w.heap.size w w'
  | 0, _, t, a, c, w, h, hR, hb => by
    go_enter Tryz.func133, Tryz.ntmps133
    go_wp2
    go_ret
    exact ⟨rfl, Below.refl _ _⟩
  | n + 1, hn, t, a, c, w, h, hR, hbd => spec_l7Det_c_step B hB0 hB1 n (n + 1) rfl hn (spec_l7Det_c B hB0 hB1 n (by omega)) t a c w h hR hbd
set_option maxHeartbeats 4000000 in
set_option maxRecDepth 100000 in
theorem impl_determinant_c_step (B : Int) (hB0 : 0 ≤ B) (hB1 : B ≤ 10000) (n N : Nat) (hN : N = n + 1) (hn : N ≤ 4)
    (IH : ∀ (t : List (List Int)) (a : Option Addr) (c : Nat) (w : World), TabC w a n t → Rect t n n → Bd B t → Calls Tryz.prog 140 #[.slice a n c] w fun e w' => e = .returned (.int .i64 (detN n t)) ∧ Below w.heap.size w w')
    (t : List (List Int)) (a : Option Addr) (c : Nat) (w : World) (h : TabC w a N t) (hR : Rect t N N) (hbd : Bd B t) :
    Calls Tryz.prog 140 #[.slice a N c] w fun e w' => e = .returned (.int .i64 (detN N t)) ∧ Below w.heap.size w w' := by
  have hR' : Rect t (n + 1) (n + 1) := by rw [← hN]; exact hR
  have HMI := hid (fun (j : Nat) (hj : j < N) (V : World) (hV : Below w.heap.size w V) => show Calls Tryz.prog 166 #[.slice a N c, .int .i64 0, .int .i64 j] V fun e w' => ∃ am cm, e = .returned (.slice am n cm) ∧ TabC w' am n (minorL t j) ∧ Below V.heap.size V w' from (impl_without_c a N c j t V (h.below hV (Nat.le_refl _)) hR (by omega) hj).mono (by
    rintro e w' ⟨v, rfl, hg, hbv⟩
    obtain ⟨am, cm, rfl, _, htm⟩ := grid_tabC hg (minorL_rect hR' (by omega)) (by omega)
    exact ⟨am, cm, rfl, htm, hbv⟩))
  have HDT := hid (fun (j : Nat) (hj : j < N) (V : World) (am : Option Addr) (cm : Nat) (hm : TabC V am n (minorL t j)) => IH (minorL t j) am cm V hm (minorL_rect hR' (by omega)) (hbd.minor j))
  have HRC := hid (rowC h hR (i := 0) (by omega))
  have HTE := hid (fun (j : Nat) (hj : j < N) => det_term (j := j) hB0 hR' hbd (by omega) (det_bd hB0 n (minorL t j) (minorL_rect hR' (by omega)) (hbd.minor j)))
  have HBX := hid (fun (j : Nat) (hj : j < N) => hbd.at hR (i := 0) (j := j) (by omega) hj)
  have HFOUR := hid (bdN_four (n := N) hn hB0 hB1)
  have HPN := hid (Int.mul_nonneg hB0 (bdN_nonneg hB0 n))
  have HBN := hid (show bdN B N = (N : Int) * (B * bdN B n) from by rw [hN]; rfl)
  obtain ⟨f, hf⟩ : ∃ f : Nat → Int, f = fun j => sgn j * at2 t 0 j * detN n (minorL t j) := ⟨_, rfl⟩
  have HF := hid (fun j => show f j = sgn j * at2 t 0 j * detN n (minorL t j) by rw [hf])
  have HDET := hid (show detN N t = sumTo f N by rw [hf, hN]; rfl)
  have HPART := hid (fun (j : Nat) (hj : j ≤ N) => part_bd (f := f) (n := N) HPN.out (fun k hk => by rw [hf]; exact HTE.out k hk) hj)
  obtain ⟨DT, hDT⟩ : ∃ d, d = detN N t := ⟨_, rfl⟩
  rw [← hDT] at HDET
  rw [← hDT]
  have hN0 : ((N : Int) == 0) = false := by simp; omega
  have hN00 : 0 < N := by omega
  clear h hR hR' hbd IH hDT hf hN
  obtain ⟨b, off, a', c', r, rfl, hb, hc, hcap, hrow, hr, hrl, hat⟩ := HRC.out
  have hc0 := hc
  rw [Nat.add_zero] at hc0
  go_enter Tryz.func140, Tryz.ntmps140
  go_wp2
  go_loopw [3, 4, 14] (fun s g i wr => ∃ j : Nat, j ≤ N ∧ i = .int .i64 j ∧ s = .int .i64 (sumTo f j) ∧ g = .int .i64 (sgn j) ∧ Hid (Below w.heap.size w wr)) (fun _ _ i _ => N - (intOf i).toNat)
  case atStart => exact ⟨0, by omega, rfl, rfl, rfl, hid (Below.refl _ _)⟩
  case round =>
    obtain ⟨j, hj, rfl, rfl, rfl, HBL⟩ := hrel
    by_cases hlt : j < N
    · have hji : (j : Int) < (N : Int) := by omega
      obtain ⟨b2, off2, rfl, hb2, hc2⟩ := hrow.at_ (by omega)
      have hcell := (HBL.out.cell (p := ⟨b, off + 0, none⟩) hb).trans hc
      have hcell2 := (HBL.out.cell (p := ⟨b2, off2 + j, none⟩) hb2).trans (hc2 j (.int .i64 (at0 r j)) (intVals_get (at0_some (by omega))))
      rw [← hat j] at hcell2
      rw [Nat.add_zero] at hcell
      have HBW := HBL
      have HSU := hid (show sumTo f (j + 1) = sumTo f j + sgn j * at2 t 0 j * detN n (minorL t j) from by rw [← HF.out j]; rfl)
      have HSG := hid (show sgn (j + 1) = -sgn j from rfl)
      have h1 := HPART.out j hj
      have h2 := HPART.out (j + 1) hlt
      have h3 := HTE.out j hlt
      have h4 := HBX.out j hlt
      have h5 := sgn_abs j
      have h6 := HFOUR.out
      rw [HBN.out] at h6
      rw [HSU.out] at h2
      have h8 : B * bdN B n ≤ (N : Int) * (B * bdN B n) := by
        have := Int.mul_le_mul_of_nonneg_right (show (1 : Int) ≤ (N : Int) by omega) HPN.out
        rw [Int.one_mul] at this
        exact this
      obtain ⟨P, hP⟩ : ∃ P, P = B * bdN B n := ⟨_, rfl⟩
      rw [← hP] at h3 h6 h8 h1 h2
      obtain ⟨Q, hQ⟩ : ∃ Q, Q = (N : Int) * P := ⟨_, rfl⟩
      rw [← hQ] at h6 h8 h1 h2
      obtain ⟨x, hx⟩ : ∃ x, x = at2 t 0 j := ⟨_, rfl⟩
      obtain ⟨d, hd⟩ : ∃ d, d = detN n (minorL t j) := ⟨_, rfl⟩
      obtain ⟨g, hg⟩ : ∃ g, g = sgn j := ⟨_, rfl⟩
      obtain ⟨s, hs⟩ : ∃ s, s = sumTo f j := ⟨_, rfl⟩
      have HDT := hid (fun (j' : Nat) (hj' : j' < N) (V : World) (am : Option Addr) (cm : Nat) (e : j' = j) (hm : TabC V am n (minorL t j)) => show Calls Tryz.prog 140 #[.slice am n cm] V fun e w' => e = .returned (.int .i64 d) ∧ Below V.heap.size V w' from by rw [hd]; exact HDT.out j hlt V am cm hm)
      have HDT := hid (fun (j' : Nat) (hj' : j < N) (V : World) (am : Option Addr) (cm : Nat) (hm : TabC V am n (minorL t j)) => HDT.out j hlt V am cm rfl hm)
      rw [← hx] at hcell2 HSU h2 h3 h4
      rw [← hd] at HSU h2 h3
      rw [← hg] at HSU HSG h2 h3 h5
      rw [← hs] at HSU h1 h2
      rw [← hs, ← hg]
      have hgx : -10000 ≤ g * x ∧ g * x ≤ 10000 := by rcases h5 with h | h <;> rw [h] <;> omega
      have hw1 : IntKind.i64.wrap (g * x) = g * x := IntWalk.i64_in _ (by omega)
      have hw2 : IntKind.i64.wrap (g * x * d) = g * x * d := IntWalk.i64_in _ (by omega)
      have hw3 : IntKind.i64.wrap (s + g * x * d) = s + g * x * d := IntWalk.i64_in _ (by omega)
      have hw4 : IntKind.i64.wrap (-g) = -g := IntWalk.i64_in _ (by omega)
      clear hx hd hg hs hP hQ h1 h2 h3 h4 h6 h8 hc2 h5 hgx
      by_cases hx0 : x = 0
      · subst hx0
        have HSU := hid (show sumTo f (j + 1) = s by rw [HSU.out]; simp)
        clear hw1 hw2 hw3
        go_wp2
        go_roundw
        case rel => exact ⟨j + 1, by omega, by go_num, by rw [HSU.out], by rw [HSG.out], HBL⟩
        case measure => simp [intOf]; omega
      · have hx1 : (x == 0) = false := by simp [hx0]
        go_wp2_with fail
        refine (HMI.out j hlt _ HBW.out).mono ?_
        rintro e w3 ⟨am, cm, rfl, htm, hb3⟩
        have HB3 := hid (HBL.out.trans (hb3.mono HBL.out.size))
        go_wp2_with fail
        refine (HDT.out j hlt _ am cm htm).mono ?_
        rintro e w4 ⟨rfl, hb4⟩
        have HB4 := hid (HB3.out.trans (hb4.mono HB3.out.size))
        clear hcell hcell2
        go_wp2
        go_roundw
        case rel => exact ⟨j + 1, by omega, by go_num, by rw [HSU.out], by rw [HSG.out], HB4⟩
        case measure => simp [intOf]; omega
    · obtain rfl : j = N := by omega
      have HR := HDET.out
      go_wp2
      go_ret
      exact ⟨by rw [HR]; rfl, HBL.out⟩
set_option maxRecDepth 100000 in
theorem impl_determinant_c (B : Int) (hB0 : 0 ≤ B) (hB1 : B ≤ 10000) : ∀ (n : Nat), n ≤ 4 → ∀ (t : List (List Int)) (a : Option Addr) (c : Nat) (w : World), TabC w a n t → Rect t n n → Bd B t →
    Calls Tryz.prog 140 #[.slice a n c] w fun e w' => e = .returned (.int .i64 (detN n t)) ∧ Below w.heap.size w w'
  | 0, _, t, a, c, w, h, hR, hb => by
    go_enter Tryz.func140, Tryz.ntmps140
    go_wp2
    go_ret
    exact ⟨rfl, Below.refl _ _⟩
  | n + 1, hn, t, a, c, w, h, hR, hbd => impl_determinant_c_step B hB0 hB1 n (n + 1) rfl hn (impl_determinant_c B hB0 hB1 n (by omega)) t a c w h hR hbd
end Go.Proofs.YtpfeflhcbcgbfaaGreatDoor
