/- Whether the growth is below a fraction, the reference's way. Conditions: a small matrix in memory, small numbers. -/
import Derived.Test.YtpfeflhcbcgbfaaGreatDoorBelI
import Derived.Test.YtpfeflhcbcgbfaaGreatDoorDet
import Derived.Test.YtpfeflhcbcgbfaaGreatDoorPartS
import Derived.Test.YtpfeflhcbcgbfaaGreatDoorReach
namespace Go.Proofs.YtpfeflhcbcgbfaaGreatDoor
open Go.RowKit
theorem l1Bit_b (b : Bool) (w : World) : Calls Tryz.prog 130 #[.bool b] w fun e w' => e = .returned (.int .i64 (if b then 1 else 0)) ∧ w' = w :=
  (l1Bit_c b w).mono fun e w' ⟨he, hw⟩ => ⟨he, hw.symm⟩
set_option maxHeartbeats 4000000 in
set_option maxRecDepth 100000 in
theorem spec_l8Below_c (a : Option Addr) (n c : Nat) (M : List (List Int)) (q d : Int) (w : World) (h : TabAt w a n M) (hR : Rect M n n) (hn : 1 ≤ n ∧ n ≤ 4) (hM : ∀ i j, i < n → j < n → 0 ≤ at2 M i j ∧ at2 M i j ≤ 9) (hq : 0 ≤ q ∧ q ≤ 3601) (hd : 0 ≤ d ∧ d ≤ 100) :
    Calls Tryz.prog 129 #[.slice a n c, .int .i64 q, .int .i64 d] w fun e w' => e = .returned (.bool (belowV M n q d)) ∧ Below w.heap.size w w' := by
  have HZ := hid (fun w => spec_l4Zero_c n n w (by omega) (by omega))
  have HRR := hid (fun (i : Nat) (hi : i < n) => rect_row h hR hi)
  have HMB := hid hM
  have HL := hid (tab_len h).1
  have HPUT := hid (fun (i j : Nat) (hi : i < n) (hj : j < n) (u : Int) (hu : lessF M q d i j = u) => fill_put (f := lessF M q d) hi hj hu)
  have HNX := hid (fun i => fill_next n (lessF M q d) i)
  have HZT := hid (fill_zero n (lessF M q d))
  have HRECT := hid (fun i j => fill_rect n (lessF M q d) i j)
  have HEND := hid (fill_less M n q d)
  have HLF := hid (fun i j => show lessF M q d i j = (if i = j then q else 0) - d * at2 M i j from rfl)
  have HSTOP := hid (fun (k : Nat) (hk : k < n) (hf : posB M n q d k = false) => below_stop hk hf)
  have HSTEP := hid (fun (k : Nat) (hz : (List.range k).all (posB M n q d) = true) (hp : posB M n q d k = true) => below_step hz hp)
  have HFIN := hid (show belowV M n q d = (List.range n).all (posB M n q d) from rfl)
  have HPOS := hid (fun k => show posB M n q d k = decide (0 < detN (k + 1) (headT M n q d (k + 1))) from rfl)
  have HDET := hid (fun (k : Nat) (hk : k ≤ 4) (t : List (List Int)) (a : Option Addr) (c : Nat) (V : World) (ht : TabC V a k t) (hRt : Rect t k k) (hb : Bd 10000 t) => spec_l7Det_c 10000 (by omega) (by omega) k hk t a c V ht hRt hb)
  have HPA := hid (fun (k : Nat) (hk : k ≤ n) (a gc : Option Addr) (c cc : Nat) (V : World) (ht : TabAt V a n (lessT M n q d)) (hl : RowAt V gc k (natV (List.range k))) => show Calls Tryz.prog 134 #[.slice a n c, .slice gc k cc] V fun e w' => ∃ ag cg, e = .returned (.slice ag k cg) ∧ TabC w' ag k (headT M n q d k) ∧ Below V.heap.size V w' from
    (spec_l5Part_c a gc n c k cc (lessT M n q d) (List.range k) V ht (lessT_rect M n q d) hl (fun i hi => by have := List.mem_range.1 hi; omega) (by rw [List.length_range]; omega)).mono (by
      rintro e w' ⟨v, rfl, hg, hb⟩
      obtain ⟨ag, cg, rfl, _, ht'⟩ := grid_tabC hg (headT_rect M n q d k) (by omega)
      exact ⟨ag, cg, rfl, ht', hb⟩))
  have HHR := hid (fun k => headT_rect M n q d k)
  have HHB := hid (fun (k : Nat) (hk : k ≤ n) => headT_bd (k := k) hM hq hd hk)
  have HLR := hid (lessT_rect M n q d)
  unfold GridPost at HZ
  obtain ⟨R, hRR⟩ : ∃ R, R = belowV M n q d := ⟨_, rfl⟩
  rw [← hRR] at HSTOP HFIN
  rw [← hRR]
  obtain ⟨P, hP⟩ : ∃ P, P = posB M n q d := ⟨_, rfl⟩
  rw [← hP] at HSTOP HSTEP HFIN HPOS
  obtain ⟨F, hF⟩ : ∃ F, F = lessF M q d := ⟨_, rfl⟩
  rw [← hF] at HPUT HNX HZT HRECT HEND HLF
  obtain ⟨LT, hLT⟩ : ∃ LT, LT = lessT M n q d := ⟨_, rfl⟩
  rw [← hLT] at HEND HPA HLR
  obtain ⟨HT, hHT⟩ : ∃ HT, HT = headT M n q d := ⟨_, rfl⟩
  rw [← hHT] at HPOS HPA HHR HHB
  clear h hR hRR hM hP hF hLT hHT
  go_enter Tryz.func129, Tryz.ntmps129
  go_wp2_with fail
  refine (HZ.out _).mono ?_
  rintro e w1 ⟨v, rfl, hg, hb1⟩
  rw [← HZT.out] at hg
  obtain ⟨gv, cv, rfl, _, _⟩ := grid_form hg (HRECT.out 0 0).len (by omega)
  have HG1 := hid hg
  have HB1 := hid hb1
  clear hg hb1 HZ
  go_wp2
  go_loopw [8] (fun i wr => ∃ p : Nat, p ≤ n ∧ i = .int .i64 p ∧ Hid (TGrid 39 3 wr w.heap.size (.slice (some ⟨gv, 0, none⟩) n cv) (fillT n F p 0)) ∧ Hid (Below w.heap.size w wr)) (fun i _ => n - (intOf i).toNat)
  case atStart => exact ⟨0, by omega, rfl, HG1, HB1⟩
  case round =>
    clear HG1 HB1
    obtain ⟨p, hp, rfl, HG, HBL⟩ := hrel
    by_cases hltp : p < n
    · have hpi : (p : Int) < (n : Int) := by omega
      obtain ⟨b, off, a', c', r, rfl, hb, hc, hrow, hr, hat⟩ := HRR.out p hltp
      have HRW := hid hrow
      have HATR := hid hat
      have hrl : r.length = n := by simpa [intVals] using hrow.len
      clear hrow hat hr
      go_wp2
      go_loopw [9] (fun i wr => ∃ s : Nat, s ≤ n ∧ i = .int .i64 s ∧ Hid (TGrid 39 3 wr w.heap.size (.slice (some ⟨gv, 0, none⟩) n cv) (fillT n F p s)) ∧ Hid (Below w.heap.size w wr)) (fun i _ => n - (intOf i).toNat)
      case atStart => exact ⟨0, by omega, rfl, HG, HBL⟩
      case round =>
        clear HG HBL
        obtain ⟨s, hs, rfl, HG, HBL⟩ := hrel
        by_cases hlts : s < n
        · have hsi : (s : Int) < (n : Int) := by omega
          obtain ⟨b2, off2, rfl, hb2, hc2⟩ := HRW.out.at_ (by omega)
          have hcp := (HBL.out.cell (p := ⟨b, off + p, none⟩) hb).trans hc
          have hcs := (HBL.out.cell (p := ⟨b2, off2 + s, none⟩) hb2).trans (hc2 s (.int .i64 (at0 r s)) (intVals_get (at0_some (by omega))))
          rw [← HATR.out s] at hcs
          obtain ⟨g, cg, k1, k2, k3, k4, k5⟩ := grid_cell HG.out (by decide) (HRECT.out p s) hltp hlts
          have hx := HMB.out p s hltp hlts
          have hm := mul_small hd hx
          have HLP := hid (HLF.out p s)
          have HPS := hid (fun u hu => HPUT.out p s hltp hlts u hu)
          obtain ⟨x, hxe⟩ : ∃ x, x = at2 M p s := ⟨_, rfl⟩
          rw [← hxe] at hcs hm HLP
          have HK5 := hid k5
          clear k5 hxe hc2 hx
          have hwx : IntKind.i64.wrap (d * x) = d * x := IntWalk.i64_in _ (by omega)
          by_cases hps : p = s
          · have hpb : ((p : Int) == (s : Int)) = true := by rw [hps]; simp
            have hw2 : IntKind.i64.wrap (q - d * x) = q - d * x := IntWalk.i64_in _ (by omega)
            have HLU := hid (show F p s = q - d * x by rw [HLP.out, if_pos hps])
            have HK := hid (HK5.out (q - d * x))
            have HPP := hid (HPS.out _ HLU.out)
            clear hps
            go_wp2
            (refine wp_region_still_tail 22 (by kernel_rfl) (by kernel_rfl) ?_; change wpStill _ _ (World.drew _) (fun a' => wpList _ _ _ _ a' (World.drew _)) _ _; simp only [List.take_succ_cons, List.take_zero, List.drop_succ_cons, List.drop_zero]; repeat still_step)
            still_call (l1Bit_b _ _)
            repeat still_step
            refine wpStill_nil ?_
            go_wp2
            go_roundw
            case rel => exact ⟨s + 1, by omega, by go_num, hid ((by rw [← HPP.out]; exact HK.out.1 : TGrid 39 3 _ w.heap.size (.slice (some ⟨gv, 0, none⟩) n cv) (fillT n F p (s + 1))).below (Below.refl _ _).drew), hid ((HBL.out.grown HK.out.2 HBL.out.size (fun k hk => by injection hk with hk; omega)).drew)⟩
            case measure => simp [intOf]; omega
          · have hpb : ((p : Int) == (s : Int)) = false := by simp; omega
            have hw2 : IntKind.i64.wrap (0 - d * x) = 0 - d * x := IntWalk.i64_in _ (by omega)
            have hw3 : IntKind.i64.wrap (-(d * x)) = -(d * x) := IntWalk.i64_in _ (by omega)
            have HLU := hid (show F p s = -(d * x) by rw [HLP.out, if_neg hps]; omega)
            have HK := hid (HK5.out (-(d * x)))
            have HPP := hid (HPS.out _ HLU.out)
            clear hps
            go_wp2
            (refine wp_region_still_tail 22 (by kernel_rfl) (by kernel_rfl) ?_; change wpStill _ _ (World.drew _) (fun a' => wpList _ _ _ _ a' (World.drew _)) _ _; simp only [List.take_succ_cons, List.take_zero, List.drop_succ_cons, List.drop_zero]; repeat still_step)
            still_call (l1Bit_b _ _)
            repeat still_step
            refine wpStill_nil ?_
            go_wp2
            go_roundw
            case rel => exact ⟨s + 1, by omega, by go_num, hid ((by rw [← HPP.out]; exact HK.out.1 : TGrid 39 3 _ w.heap.size (.slice (some ⟨gv, 0, none⟩) n cv) (fillT n F p (s + 1))).below (Below.refl _ _).drew), hid ((HBL.out.grown HK.out.2 HBL.out.size (fun k hk => by injection hk with hk; omega)).drew)⟩
            case measure => simp [intOf]; omega
        · obtain rfl : s = n := by omega
          have HNP := hid (HNX.out p)
          go_wp2
          go_roundw
          case rel => exact ⟨p + 1, by omega, by go_num, hid (by rw [← HNP.out]; exact HG.out), HBL⟩
          case measure => simp [intOf]; omega
    · obtain rfl : p = n := by omega
      have hgl : TGrid 39 3 wr w.heap.size (.slice (some ⟨gv, 0, none⟩) p cv) LT := by rw [← HEND.out]; exact HG.out
      have HTB := hid (grid_tab hgl HLR.out (by omega) (by omega))
      obtain ⟨wo, hwo⟩ : ∃ wo, wo = wr := ⟨_, rfl⟩
      subst hwo
      have HO0 := hid (owns_lit3 (w := wo) (base := wo.heap.size) (e := 3) #[] (natV (List.range 0)) rfl (Nat.le_refl _) (by unfold maxLen; simp))
      have HE0 := hid (show Below wo.heap.size wo (wo.alloc (.cells #[] 3)) from (Below.refl _ _).alloc (Nat.le_refl _) _)
      clear hgl HG
      go_wp2
      go_loopw [10, 11] (fun v i wr => ∃ k gl cl : Nat, k ≤ p ∧ i = .int .i64 k ∧ v = .slice (some ⟨gl, 0, none⟩) k cl ∧ Hid (wr.ownsRow wo.heap.size 3 1 (.slice (some ⟨gl, 0, none⟩) k cl) k (natV (List.range k))) ∧ Hid ((List.range k).all P = true) ∧ Hid (Below wo.heap.size wo wr)) (fun _ i _ => p - (intOf i).toNat)
      case atStart => exact ⟨0, wo.heap.size, 0, by omega, rfl, rfl, HO0, hid rfl, HE0⟩
      case round =>
        clear HO0 HE0
        obtain ⟨k, gl, cl, hk, rfl, rfl, HO, HZP, HBQ⟩ := hrel
        by_cases hltk : k < p
        · have hki : (k : Int) < (p : Int) := by omega
          have hszQ := HBQ.out.size
          have HNR := hid (natV_range_succ k)
          have hgl := (HO.out.lt gl rfl).1
          have HPA1 := hid (fun (V : World) (hV : Below wo.heap.size wo V) (gc : Option Addr) (cc : Nat) (hl : RowAt V gc (k + 1) (natV (List.range (k + 1)))) => HPA.out (k + 1) hltk _ gc cv cc V (HTB.out.below hV (Nat.le_refl _)) hl)
          have HDE1 := hid (fun (V : World) (ag : Option Addr) (cg : Nat) (ht : TabC V ag (k + 1) (HT (k + 1))) => HDET.out (k + 1) (by omega) _ ag cg V ht (HHR.out (k + 1)) (HHB.out (k + 1) hltk))
          have HPK := hid (HPOS.out k)
          have HST := hid (fun hf => HSTOP.out k hltk hf)
          have HSP := hid (fun hp => HSTEP.out k HZP.out hp)
          obtain ⟨k1, hk1⟩ : ∃ k1, k1 = k + 1 := ⟨_, rfl⟩
          rw [← hk1] at HPA1 HDE1 HPK HNR
          obtain ⟨dt, hdt⟩ : ∃ dt, dt = detN k1 (HT k1) := ⟨_, rfl⟩
          rw [← hdt] at HDE1 HPK
          have HK1 := hid hk1
          clear hdt hk1
          go_wp2_with (first | (at_builtin; go_must (refine wpList_appN rfl _ _ 39 rfl wo.heap.size 3 (.int .i64 0) 8 Tryz.underlying39 infoIntZ rfl gl cl k (natV (List.range k)) (HO.out.alloc _) rfl wr.heap.size 0 1 1 [.int .i64 k] rfl rfl (lit_cellsP rfl) (by intro u hu; simp at hu; subst hu; rfl) (by omega) (by unfold maxLen; omega) (by simp; omega) ?_); intro g3 c3 w3 hown3 hgr3 hor3 hlt3))
          rw [← HNR.out, ← HK1.out] at hown3
          have hb3 := (HBQ.out.alloc hszQ (.cells #[.int .i64 k] 3)).grown hgr3 (by simp; omega) (by rintro k ⟨⟩; exact hgl)
          rw [← HK1.out]
          obtain ⟨al, cl2, hal, hrow⟩ := owns_rowAt hown3 (by have := HK1.out; omega)
          simp only [Value.slice.injEq, true_and] at hal
          obtain ⟨rfl, rfl⟩ := hal
          have HO3 := hid hown3
          have HB3 := hid hb3
          have HPA3 := hid (HPA1.out w3 hb3 _ c3 hrow)
          clear hown3 hgr3 hb3 hrow
          refine HPA3.out.mono ?_
          rintro e w4 ⟨ag, cg, rfl, ht4, hb4⟩
          have HB4 := hid (HB3.out.trans (hb4.mono HB3.out.size))
          have HO4 := hid (owns_below HO3.out hb4)
          go_wp2_with fail
          refine (HDE1.out _ ag cg ht4).mono ?_
          rintro e w5 ⟨rfl, hb5⟩
          have HB5 := hid (HB4.out.trans (hb5.mono HB4.out.size))
          have HO5 := hid (owns_below HO4.out hb5)
          clear ht4 hb4 hb5
          by_cases hd0 : dt ≤ 0
          · have HRF := hid (HST.out (by rw [HPK.out]; exact decide_eq_false (by omega)))
            go_wp2
            go_ret
            exact ⟨ret_bool HRF.out.symm, HBL.out.trans (HB5.out.mono HBL.out.size)⟩
          · have HN := hid (HSP.out (by rw [HPK.out]; exact decide_eq_true (by omega)))
            go_wp2
            go_roundw
            case rel => exact ⟨k + 1, g3, c3, by omega, by go_num, by rw [HK1.out], by rw [← HK1.out]; exact HO5, HN, HB5⟩
            case measure => simp [intOf]; omega
        · obtain rfl : k = p := by omega
          have HRT := hid (HFIN.out.trans HZP.out)
          go_wp2
          go_ret
          exact ⟨ret_bool HRT.out.symm, HBL.out.trans (HBQ.out.mono HBL.out.size)⟩
end Go.Proofs.YtpfeflhcbcgbfaaGreatDoor
