/- The law FnRings returns true for all bytes. No condition. -/
import Derived.Test.YtccknookhkahbaaGreatRingsW
import Derived.Test.YtccknookhkahbaaGreatDraw10
import Derived.Test.YtccknookhkahbaaGreatHasInt
import Derived.Test.YtccknookhkahbaaGreatBig
import Derived.Test.YtccknookhkahbaaGreatSame
import Derived.Test.YtccknookhkahbaaGreatBytesIn
import Derived.WalkArith
import Derived.Deep.CutRange
namespace Go.Proofs.YtccknookhkahbaaGreat
open Go.ChangeShapes Go.WideShapes Go.ChangeAt Go.RowKit
open Go.ChangeMaps (open_string shut_string)

set_option maxHeartbeats 8000000 in
set_option maxRecDepth 100000 in
theorem walk_FnRings (W : World) (v : Value) (h : BytesIn W v) :
    Calls Tryz.prog 3 #[v] W fun e W' => e = .returned (.bool true) ∧ Below W.heap.size W W' := by
  obtain ⟨a, n, c, lb, rfl, hr⟩ := h
  have hlim := hr.lim
  by_cases hbig : 1048576 < n
  · go_enter Tryz.func3, Tryz.ntmps3
    go_wp2_with fail
    refine (big_c a n c _ hlim).mono ?_
    rintro e w1 ⟨rfl, rfl⟩
    rw [decide_eq_true hbig]
    go_wp2
    go_ret
    exact ⟨rfl, Below.refl _ _⟩
  have HK := hid ((kep_row hr).and (kep_bel W))
  clear hr
  go_enter Tryz.func3, Tryz.ntmps3
  go_wp2_with fail
  refine (big_c a n c _ hlim).mono ?_
  rintro e w1 ⟨rfl, rfl⟩
  rw [decide_eq_false hbig]
  go_wp2_with fail
  refine (DrawRingTail_c a n c lb _ HK.out.now.1).mono ?_
  rintro e w1 ⟨k1, m1, o1, s1, rfl, ho1, hs1, hb⟩
  have HK := hid (HK.out.mv hb)
  clear hb
  obtain ⟨t, p, hTI, hTi, hTs⟩ := tails_ex k1 m1 o1 s1 (Nat.le_trans ho1 (by unfold maxLen; omega)) (Nat.le_trans hs1 (by unfold maxLen; omega))
  have HTI := hid hTI
  have HTi := hid hTi
  have HTs := hid hTs
  have hal := bel_alloc w1 (.cells #[.int .i64 k1, .int .i64 m1, .string o1] 25)
  have K1 := hid (kep_box3 w1 (.int .i64 k1) (.int .i64 m1) (.string o1) 25)
  have HK := hid (HK.out.mv hal)
  clear hTI hTi hTs hal
  go_wp2_with fail
  refine (HTi.out _).mono ?_
  rintro e w2 ⟨rfl, hb⟩
  have HK := hid (HK.out.mv hb)
  have K1 := hid (K1.out.mv hb)
  clear hb
  obtain ⟨p0, p1, p2⟩ := K1.out.now
  go_wp2_with fail
  clear p0 p1 p2
  refine (HTs.out _).mono ?_
  rintro e w3 ⟨rfl, hb⟩
  have HK := hid (HK.out.mv hb)
  have K1 := hid (K1.out.mv hb)
  clear hb HTi HTs
  go_wp2_with fail
  refine (DrawRingAfter_c a n c lb _ HK.out.now.1).mono ?_
  rintro e w4 ⟨k2, m2, o2, s2, z2, rfl, ho2, hs2, _, _, hb⟩
  obtain ⟨x2, b2, hAi, hAs⟩ := afters_ex k2 m2 o2 s2 z2 (Nat.le_trans ho2 (by unfold maxLen; omega)) (Nat.le_trans hs2 (by unfold maxLen; omega))
  have HAi := hid hAi
  have HAs := hid hAs
  have hal := bel_alloc w4 (.cells #[.int .i64 k2, .int .i64 m2, .string o2] 25)
  have K2 := hid (kep_box3 w4 (.int .i64 k2) (.int .i64 m2) (.string o2) 25)
  have HK := hid ((HK.out.mv hb).mv hal)
  have K1 := hid ((K1.out.mv hb).mv hal)
  clear hb hAi hAs hal
  go_wp2_with fail
  refine (HAi.out _).mono ?_
  rintro e w5 ⟨rfl, hb⟩
  have HK := hid (HK.out.mv hb)
  have K1 := hid (K1.out.mv hb)
  have K2 := hid (K2.out.mv hb)
  clear hb
  obtain ⟨p0, p1, p2⟩ := K2.out.now
  go_wp2_with fail
  clear p0 p1 p2
  refine (HAs.out _).mono ?_
  rintro e w6 ⟨rfl, hb⟩
  have HK := hid (HK.out.mv hb)
  have K1 := hid (K1.out.mv hb)
  clear hb HAi HAs K2
  go_wp2_with fail
  refine (DrawRingPeriods_c a n c lb _ HK.out.now.1).mono ?_
  rintro e w7 ⟨k3, m3, o3, z3, rfl, ho3, hz3, hz3', hb⟩
  have hal := bel_alloc w7 (.cells #[.int .i64 k3, .int .i64 m3, .string o3] 25)
  have K3 := hid (kep_box3 w7 (.int .i64 k3) (.int .i64 m3) (.string o3) 25)
  have HK := hid ((HK.out.mv hb).mv hal)
  have K1 := hid ((K1.out.mv hb).mv hal)
  clear hb hal
  obtain ⟨R, cc, zz, ff, hRA, hRl, hRF⟩ := rings_ex2 k3 m3 o3 z3 (Nat.le_trans ho3 (by unfold maxLen; omega))
  obtain ⟨L, hL⟩ : ∃ L, L = R.length := ⟨_, rfl⟩
  obtain ⟨r1, r2, c1, c2, y1, y2, f1, f2⟩ := hRA
  rw [← hL] at r1 r2 hRl
  have HR1 := hid r1
  have HR2 := hid r2
  have HC1 := hid c1
  have HC2 := hid c2
  have HZ1 := hid y1
  have HZ2 := hid y2
  have HF1 := hid f1
  have HF2 := hid f2
  have HL := hid hL
  have HRF := hid hRF
  clear r1 r2 c1 c2 y1 y2 f1 f2 hL hRF
  go_wp2_with fail
  refine (HR1.out _).mono ?_
  rintro e w8 ⟨v1, rfl, ho, hb⟩
  obtain ⟨a1, d1, rfl, hr1⟩ := owns_rowAt ho (by omega)
  have HK := hid (HK.out.mv hb)
  have K1 := hid (K1.out.mv hb)
  have K3 := hid ((K3.out.mv hb).and (kep_row hr1))
  clear hb ho hr1 HR1
  obtain ⟨p0, p1, p2⟩ := K3.out.now.1
  go_wp2_with fail
  clear p0 p1 p2
  refine (HC1.out _).mono ?_
  rintro e w9 ⟨rfl, hb⟩
  have HK := hid (HK.out.mv hb)
  have K1 := hid (K1.out.mv hb)
  have K3 := hid (K3.out.mv hb)
  clear hb HC1
  obtain ⟨p0, p1, p2⟩ := K3.out.now.1
  go_wp2_with fail
  clear p0 p1 p2
  refine (HZ1.out _).mono ?_
  rintro e w10 ⟨rfl, hb⟩
  have HK := hid (HK.out.mv hb)
  have K1 := hid (K1.out.mv hb)
  have K3 := hid (K3.out.mv hb)
  clear hb
  go_upto_region 13 with fail
  go_cut [141] from 84 to 141 (fun cx wx => cx = .bool false ∧ Below w10.heap.size w10 wx)
  case first =>
    have hd := (Below.refl w10.heap.size w10).drew
    have HB := hid hd
    have HK := hid (HK.out.mv hd)
    have K3 := hid (K3.out.mv hd)
    clear hd K1
    have HI1 := hid (fun w => impl_IsRingOnto_c k3 m3 o3 z3 zz w HZ1)
    have HI2 := hid (fun w => spec_IsRingOnto_c k3 m3 o3 z3 zz w HZ2)
    go_wp2_with fail
    go_region_held3 (fun V => V.cell? ⟨w7.heap.size, 0, none⟩ = some (.int .i64 k3) ∧ V.cell? ⟨w7.heap.size, 1, none⟩ = some (.int .i64 m3) ∧ V.cell? ⟨w7.heap.size, 2, none⟩ = some (.string o3))
      (exact K3.out.now.1)
      (first | (go_at_call 16; refine (HR2.out _).mono ?_; rintro e w11 ⟨v2, rfl, ho, hb⟩; obtain ⟨a2, d2, rfl, hr2⟩ := owns_rowAt ho (by omega); have HB := hid (bs HB.out hb); have K3 := hid (K3.out.mv hb)) | (go_at_call 15; refine (sameInts_c a1 a2 L d1 d2 R _ K3.out.now.2 hr2).mono ?_; rintro e w12 ⟨rfl, hb⟩; have HB := hid (bs HB.out hb); have K3 := hid (K3.out.mv hb)) | (go_at_call 17; refine (HC2.out _).mono ?_; rintro e w13 ⟨rfl, hb⟩; have HB := hid (bs HB.out hb); have K3 := hid (K3.out.mv hb)) | (go_at_call 18; refine (HZ2.out _).mono ?_; rintro e w14 ⟨rfl, hb⟩; have HB := hid (bs HB.out hb); have K3 := hid (K3.out.mv hb)) | (go_at_call 19; refine (HI1.out _).mono ?_; rintro e w15 ⟨rfl, hb⟩; have HB := hid (bs HB.out hb); have K3 := hid (K3.out.mv hb)) | (go_at_call 20; refine (HI2.out _).mono ?_; rintro e w16 ⟨rfl, hb⟩; have HB := hid (bs HB.out hb); have K3 := hid (K3.out.mv hb)) | (go_at_call 21; refine (HF1.out _).mono ?_; rintro e w17 ⟨rfl, hb⟩; have HB := hid (bs HB.out hb); have K3 := hid (K3.out.mv hb)) | (go_at_call 22; refine (HF2.out _).mono ?_; rintro e w18 ⟨rfl, hb⟩; have HB := hid (bs HB.out hb); have K3 := hid (K3.out.mv hb)))
    go_wp2_with fail
    go_meet
    case rel => exact ⟨rfl, HB.out⟩
  case rest =>
    obtain ⟨rfl, hcut⟩ := hcut
    obtain ⟨w18, rfl⟩ : ∃ w18, w18 = wc := ⟨_, rfl⟩
    have HKz := hid (HK.out.mv hcut)
    have K1z := hid (K1.out.mv hcut)
    have K3z := hid (K3.out.mv hcut)
    clear hcut HK K1 K3
    go_upto_if 143 with fail
    go_cut [21, 22, 23, 24] from 142 to 166 (fun _ _ _ _ wx => Below w18.heap.size w18 wx)
    case first =>
      obtain ⟨hcA, hcB⟩ | ⟨kk, nn, tt, pp, rfl, rfl, htk, hT, htb, hcA, hcB⟩ := HTI.out
      · subst hcA
        subst hcB
        clear HTI K1z
        go_wp2
        go_meet
        case rel => exact Below.refl _ _
      · have hpp := hT.pos
        obtain ⟨xx, hX1, hX2⟩ := after_tail kk nn o1 s1 tt pp (Nat.le_trans ho1 (by unfold maxLen; omega)) (Nat.le_trans hs1 (by unfold maxLen; omega)) htk hT htb
        obtain ⟨q, hq⟩ : ∃ q, q = tt + pp := ⟨_, rfl⟩
        rw [← hq] at hX2
        have hqi : (tt : Int) + (pp : Int) = (q : Int) := by omega
        have HX1 := hid hX1
        have HX2 := hid hX2
        subst hcA
        subst hcB
        clear HTI hX1 hX2 hq hT htk
        obtain ⟨p0, p1, p2⟩ := K1z.out.now
        go_wp2_with fail
        clear p0 p1 p2
        refine (HX1.out _).mono ?_
        rintro e w19 ⟨rfl, hb⟩
        have HB := hid hb
        have K1z := hid (K1z.out.mv hb)
        clear hb HX1
        obtain ⟨p0, p1, p2⟩ := K1z.out.now
        go_wp2_with fail
        clear p0 p1 p2
        refine (HX2.out _).mono ?_
        rintro e w20 ⟨rfl, hb⟩
        have HB := hid (bs HB.out hb)
        clear hb HX2 K1z
        go_wp2
        go_meet
        case rel => exact HB.out
    case rest =>
      obtain ⟨w20, rfl⟩ : ∃ w20, w20 = wc := ⟨_, rfl⟩
      have HKz := hid (HKz.out.mv hcut)
      have K3z := hid (K3z.out.mv hcut)
      clear hcut K1z HTI
      obtain ⟨h1, h2, h3⟩ | ⟨nn, mm, P, bz, bo, hk, hn, hm, hfit, hp1, hpw, hc0, hz0, hcz, hb1, hb2, hLR, hb3, hbo, hcl, hor⟩ := HRF.out
      · subst h1
        subst h2
        have hL0 : L = 0 := by rw [HL.out, h3]
        subst hL0
        clear HRF h3
        go_wp2
        go_ret
        exact ⟨rfl, HKz.out.now.2⟩
      · subst hk
        subst hn
        subst hm
        have hn1 := hfit.n1
        have hn4 := hfit.n4
        have hm1 := hfit.m1
        have hm8 := hfit.m8
        have HFIT := hid hfit
        have HOR := hid hor
        have HCL := hid hcl
        have HHI := hid (fun w h => hasInt_c a1 L d1 R 1 w h)
        rw [hbo] at HHI
        rw [← HL.out] at hLR
        clear hbo hcl hor HRF hfit
        have hp0 : ∀ j : Nat, j = mm → (2 : Int) ^ j = (P : Int) := fun j hj => by rw [hj]; exact hp1
        clear hp1
        have hcz2 : ¬ ((P : Int) - zz < cc) := by omega
        have hp2 : IntKind.i64.wrap (P : Int) = (P : Int) := IntWalk.i64_in _ (by omega)
        have hLi : ((L : Int) == 0) = false := by simp; omega
        go_upto_region 22 with fail
        go_cut [206] from 176 to 206 (fun cx wx => cx = .bool false ∧ Below w20.heap.size w20 wx)
        case first =>
          obtain ⟨p0, p1, p2⟩ := K3z.out.now.1
          go_wp2_with fail
          clear p0 p1 p2
          refine (HF1.out _).mono ?_
          rintro e w21 ⟨rfl, hb⟩
          have HB := hid hb
          have HL1 := hid (HHI.out _ (K3z.out.mv hb).now.2)
          clear hb
          go_wp2_with fail
          refine HL1.out.mono ?_
          rintro e w22 ⟨rfl, rfl⟩
          go_wp2
          go_meet
          case rel => exact ⟨rfl, HB.out⟩
        case rest =>
          obtain ⟨rfl, hcut⟩ := hcut
          obtain ⟨w22, rfl⟩ : ∃ w22, w22 = wc := ⟨_, rfl⟩
          have HKz := hid (HKz.out.mv hcut)
          have K3z := hid (K3z.out.mv hcut)
          have HZB := hid hb1
          clear hcut hb1 hb2 hb3 hLi hLR hcz hz0 hc0 hpw hp0 hp2 HHI
          obtain ⟨S, hS⟩ : ∃ S, S = 2 ^ (nn - 1) := ⟨_, rfl⟩
          have hS8 : S ≤ 8 := by rw [hS]; exact (half_pow hn1 hn4).2.1
          have hS1 : 1 ≤ S := by rw [hS]; exact (half_pow hn1 hn4).1
          have HS := hid hS
          obtain ⟨M, hM⟩ : ∃ M, M = 2 ^ nn := ⟨_, rfl⟩
          have hM16 : M = 2 * S := by rw [hM, hS]; exact (half_pow hn1 hn4).2.2
          have HM := hid hM
          have HOSZ := hid (show o3.size = M by rw [hM]; exact HFIT.out.os)
          clear hS hM
          obtain ⟨p0, p1, p2⟩ := K3z.out.now.1
          go_wp2_with fail
          go_loop [25, 26] (fun s i => ∃ (j q : Nat), j + 1 ≤ nn ∧ i = .int .i64 ((j + 1 : Nat) : Int) ∧ s = .int .i64 q ∧ Hid (q = 2 ^ j) ∧ q ≤ 8) (fun _ i => nn + 1 - (intOf i).toNat)
          case atStart => exact ⟨0, 1, by omega, by go_num, by go_num, hid rfl, by omega⟩
          case round =>
            obtain ⟨j, q, hj, rfl, rfl, HQ, hq⟩ := hrel
            by_cases hlt : j + 1 < nn
            · have hq2 : q * 2 ≤ 8 := by
                have h1 : 2 ^ (j + 1) ≤ 2 ^ 3 := Nat.pow_le_pow_right (by omega) (by omega)
                rw [Nat.pow_succ, ← HQ.out] at h1
                have h2 : (2 : Nat) ^ 3 = 8 := by decide
                omega
              go_wp2
              go_round
              case rel => exact ⟨j + 1, q * 2, by omega, by go_num, by go_num, hid (by rw [HQ.out, Nat.pow_succ]), hq2⟩
              case measure => simp [intOf]; omega
            · obtain rfl : q = S := by rw [HQ.out, HS.out, show nn - 1 = j by omega]
              have hlt2 : ¬ ((j : Int) + 1 < (nn : Int)) := by omega
              clear HQ hq
              obtain ⟨ti, hi, hz, hz1, hz2⟩ := info_parts infoIntZ
              go_wp2_with fail
              clear p0 p1 p2 hlt2 hlt hj
              go_loopw [27, 28] (fun o i wr => ∃ j : Nat, j ≤ q ∧ i = .int .i64 j ∧ TGrid 36 3 wr w22.heap.size o (zeroTab j q) ∧ Below w22.heap.size w22 wr) (fun _ i _ => q - (intOf i).toNat)
              case atStart => exact ⟨0, by omega, rfl, ⟨[], owns_lit3 #[] _ rfl (Nat.le_refl _) (by unfold maxLen; simp), TRows.nil _ _ _⟩, (Below.refl _ _).alloc (Nat.le_refl _) _⟩
              case round =>
                obtain ⟨j, hj, rfl, hgr, hbel⟩ := hrel
                by_cases hlt : j < q
                · obtain ⟨vs, ho, hrs⟩ := hgr
                  have HRS := hid hrs
                  clear hrs
                  go_wp2_with (first | (at_make; refine wpList_make_full _ rfl _ _ 36 rfl w22.heap.size 3 ti (.int .i64 0) 1 Tryz.underlying36 hi hz hz1 .i64 .i64 _ _ q rfl rfl rfl rfl (by rw [hz2]; omega) (by unfold maxLen; omega) hbel.size ?_; intro w1 hown1 hgr1; have ho1 := kept_none ho hgr1) | (at_builtin; go_must (refine wpList_appg rfl _ _ 43 rfl w22.heap.size 36 (.slice none 0 0) 24 Tryz.underlying43 infoInts rfl _ (zeroTab j q).length vs _ ho1 rfl rfl rfl (by rw [zeroTab_len]; omega) (by rw [zeroTab_len]; unfold maxLen; omega) (Nat.le_trans hbel.size hgr1.size) ?_); intro v' w2 hown2 hgr2))
                  go_roundw
                  case rel =>
                    rw [zeroTab_len] at hown2
                    have hb1 : Below w22.heap.size w22 w1 := hbel.grown hgr1 hbel.size (by intro k h; cases h)
                    exact ⟨j + 1, by omega, by go_num, zero_round ho HRS.out hown1 hgr1 hown2 hgr2, hb1.grown hgr2 hb1.size (fun k hk => (ho1.lt k hk).1)⟩
                  case measure => simp [intOf]; omega
                · obtain rfl : j = q := by omega
                  obtain ⟨gv, cv, rfl, hgv, hgv2⟩ := grid_form hgr (zeroTab_len j j) (by omega)
                  obtain ⟨w23, rfl⟩ : ∃ w23, w23 = wr := ⟨_, rfl⟩
                  have HG := hid (show TGrid 36 3 w23 w22.heap.size (.slice (some ⟨gv, 0, none⟩) j cv) (lawM o3 nn 0) by rw [lawM_zero, ← HS.out]; exact hgr)
                  have HB := hid hbel
                  have K4 := hid (K3z.out.mv hbel)
                  clear hgr hbel
                  obtain ⟨p0, p1, p2⟩ := K4.out.now.1
                  go_wp2_with fail
                  clear p0 p1 p2
                  refine (spec_WordsOf2_c nn _ hn1 hn4).mono ?_
                  rintro e w24 ⟨vw, rfl, how, hb⟩
                  rw [← HM.out] at how
                  obtain ⟨gw, cw, rfl, _, _⟩ := own_form how (by omega)
                  have HOW := hid (owns_base how HB.out.size)
                  have HG := hid (HG.out.below hb)
                  have HB := hid (bs HB.out hb)
                  clear how hb K4
                  go_wp2_with fail
                  go_loopw [30] (fun i wr => ∃ x : Nat, x ≤ M ∧ i = .int .i64 x ∧ TGrid 36 3 wr w22.heap.size (.slice (some ⟨gv, 0, none⟩) j cv) (lawM o3 nn x) ∧ wr.ownsRow w22.heap.size 9 1 (.slice (some ⟨gw, 0, none⟩) M cw) M (strVals (wds 2 nn M)) ∧ Below w22.heap.size w22 wr) (fun i _ => M - (intOf i).toNat)
                  case atStart => exact ⟨0, by omega, rfl, HG.out, HOW.out, HB.out⟩
                  case round =>
                    obtain ⟨x, hx, rfl, hg, how, hbel⟩ := hrel
                    have K5 := hid (K3z.out.mv hbel)
                    obtain ⟨p0, p1, p2⟩ := K5.out.now.1
                    have HG := hid hg
                    have HOW := hid how
                    have HB := hid hbel
                    by_cases hltx : x < M
                    · have hcw : wr.cell? ⟨gw, x, none⟩ = some (.string (wdB 2 nn x)) := (how.cellAt x (by omega)).trans (strVals_get (wds_get hltx))
                      have hsz := wdB_size 2 nn x
                      have hxo : x < o3.size := by rw [HOSZ.out]; exact hltx
                      have hs0 : 0 < (wdB 2 nn x).size := by omega
                      have HGD := hid (good_byte (o := o3) hn1 hxo hs0)
                      obtain ⟨sw, hsw⟩ : ∃ sw, sw = wdB 2 nn x := ⟨_, rfl⟩
                      rw [← hsw] at hcw hsz
                      have hs0 : 0 < sw.size := by omega
                      have HGE := hid (show goodB o3 nn x = true ↔ o3[x].toNat = sw[0].toNat by subst hsw; exact HGD.out)
                      have hxo' : (x : Int) < (o3.size : Int) := by omega
                      have hxM' : (x : Int) < (M : Int) := by omega
                      have hs0' : (0 : Int) < (sw.size : Int) := by omega
                      clear hg how hbel hsw hsz HGD
                      by_cases hge : o3[x].toNat = sw[0].toNat
                      · have hge' : ((o3[x].toNat : Int) == (sw[0].toNat : Int)) = true := by simp [hge]
                        have HGT := hid (HGE.out.2 hge)
                        clear HGE
                        go_wp2_with fail
                        go_quiet (fail)
                        obtain ⟨w5, hw5⟩ : ∃ w5, w5 = wr.drewN nq := ⟨_, rfl⟩
                        rw [← hw5]
                        have hb5 : Below wr.heap.size wr w5 := by rw [hw5]; exact below_drewN (Below.refl _ _) _
                        have HG5 := hid (HG.out.below hb5)
                        have HOW5 := hid (owns_below HOW.out hb5)
                        have HB5 := hid (bs HB.out hb5)
                        have hjj := half_pow hn1 hn4
                        rw [← HS.out, ← HM.out] at hjj
                        have hu : x / 2 < j := by omega
                        have hv : x % j < j := Nat.mod_lt _ (by omega)
                        have hrect : Rect (lawM o3 nn x) j j := by rw [HS.out]; exact lawM_rect o3 nn x
                        obtain ⟨g, cg, e1, e2, e3, e4, e5⟩ := grid_cell2 HG5.out (by decide) hrect hu hv
                        have HE5 := hid e5
                        have HST := hid (show put2 (lawM o3 nn x) (x / 2) (x % j) (at2 (lawM o3 nn x) (x / 2) (x % j) + 1) = lawM o3 nn (x + 1) by rw [HS.out]; exact lawM_yes hn1 hn4 (by rw [← HM.out]; exact hltx) HGT.out)
                        have hX := (show 0 ≤ at2 (lawM o3 nn x) (x / 2) (x % j) ∧ at2 (lawM o3 nn x) (x / 2) (x % j) ≤ 16 by
                          unfold lawM
                          rw [← HS.out, tabF_at _ hu hv]
                          have := mTo_bd (goodB o3 nn) j x (x / 2) (x % j)
                          omega)
                        obtain ⟨X, hXe⟩ : ∃ X, X = at2 (lawM o3 nn x) (x / 2) (x % j) := ⟨_, rfl⟩
                        obtain ⟨u, hue⟩ : ∃ u, u = x / 2 := ⟨_, rfl⟩
                        obtain ⟨v, hve⟩ : ∃ v, v = x % j := ⟨_, rfl⟩
                        rw [← hXe] at e2 HST hX
                        rw [← hue] at e1 hu HST HE5
                        rw [← hve] at e2 e3 hv HST HE5
                        have hd1 : Int.tdiv (x : Int) 2 = (u : Int) := by rw [hue]; exact Int.ofNat_tdiv x 2
                        have hd2 : Int.tmod (x : Int) (j : Int) = (v : Int) := by rw [hve]; exact Int.ofNat_tmod x j
                        have hm0 : ¬ ((j : Int) = 0) := by omega
                        have hm1 : ¬ (j = 0) := by omega
                        have hm2 : ((j : Int) == 0) = false := by simpa using hm1
                        have hwu : IntKind.i64.wrap (u : Int) = (u : Int) := IntWalk.i64_in _ (by omega)
                        have hwv : IntKind.i64.wrap (v : Int) = (v : Int) := IntWalk.i64_in _ (by omega)
                        have hwX : IntKind.i64.wrap (X + 1) = X + 1 := IntWalk.i64_in _ (by omega)
                        have hu1 : (u : Int) < (j : Int) := by omega
                        have hv1 : (v : Int) < (j : Int) := by omega
                        have hu0 : (0 : Int) ≤ (u : Int) := by omega
                        have hv0 : (0 : Int) ≤ (v : Int) := by omega
                        clear e5 hXe hue hve hjj hrect hw5 p0 p1 p2 hcw hb5
                        go_wp2_with fail
                        (refine wp_region_still_tail 20 (by kernel_rfl) (by kernel_rfl) ?_; change wpStill _ _ (World.drew _) (fun a' => wpList _ _ _ _ a' (World.drew _)) _ _; simp only [List.take_succ_cons, List.take_zero, List.drop_succ_cons, List.drop_zero]; repeat still_step)
                        refine wpStill_nil ?_
                        go_wp2_with fail
                        go_roundw
                        case rel =>
                          have h5 := HE5.out (X + 1)
                          rw [HST.out] at h5
                          exact ⟨x + 1, by omega, by go_num, h5.1.below (Below.refl _ _).drew, owns_below (h5.2.2 _ _ _ _ HOW5.out (by decide)) (Below.refl _ _).drew, (HB5.out.grown h5.2.1 HB5.out.size (by rintro k ⟨⟩; exact e4)).drew⟩
                        case measure => simp [intOf]; omega
                      · have hge' : ((o3[x].toNat : Int) == (sw[0].toNat : Int)) = false := by simp; omega
                        have HGF := hid (show goodB o3 nn x = false by
                          cases hgg : goodB o3 nn x
                          · rfl
                          · exact absurd (HGE.out.1 hgg) hge)
                        clear HGE
                        go_wp2_with fail
                        go_quiet (fail)
                        go_wp2_with fail
                        go_roundw
                        case rel => exact ⟨x + 1, by omega, by go_num, by rw [lawM_no HGF.out]; exact HG.out.below (below_drewN (Below.refl _ _) _), owns_below HOW.out (below_drewN (Below.refl _ _) _), below_drewN HB.out _⟩
                        case measure => simp [intOf]; omega
                    · obtain rfl : x = M := by omega
                      have hmat := lawM_mat o3 (n := nn) (j := x) hn1 hn4 (by omega)
                      have hrect : Rect (lawM o3 nn x) j j := by rw [HS.out]; exact lawM_rect o3 nn x
                      have HKt := hid (fun (V : World) (hV : Below wr.heap.size wr V) => spec_ClosedPaths_c (some ⟨gv, 0, none⟩) j cv mm (lawM o3 nn x) V ((grid_tab hg hrect (by omega) (by omega)).below hV (Nat.le_refl _)) hmat hm1 (by omega))
                      rw [show closedOf (lawM o3 nn x) j mm = ff by rw [HCL.out, HM.out, HS.out]] at HKt
                      have HON := hid (fun V => show Calls Tryz.prog 26 #[.agg #[.int .i64 2, .int .i64 nn, .string o3]] V (OnePost (OneP o3 2 nn) V) from spec_IsOneToOne_yes 2 nn o3 V (Nat.le_trans ho3 (by unfold maxLen; omega)) HFIT.out.ic)
                      unfold OnePost at HON
                      clear hg how hbel hmat hrect
                      go_wp2_with fail
                      clear p0 p1 p2
                      refine (HF1.out _).mono ?_
                      rintro e w25 ⟨rfl, hb⟩
                      have K6 := hid (K5.out.mv hb)
                      have HB6 := hid (bs HB.out hb)
                      have HKu := hid (HKt.out _ hb)
                      clear hb
                      go_wp2_with fail
                      refine HKu.out.mono ?_
                      rintro e w26 ⟨rfl, hb⟩
                      have K6 := hid (K6.out.mv hb)
                      have HB6 := hid (bs HB6.out hb)
                      clear hb
                      obtain ⟨p0, p1, p2⟩ := K6.out.now.1
                      go_wp2_with fail
                      clear p0 p1 p2
                      refine (HON.out _).mono ?_
                      rintro e w27 ⟨b, rfl, hb1, hb⟩
                      have HB6 := hid (bs HB6.out hb)
                      have HFIN := hid (HKz.out.mv HB6.out).now.2
                      clear hb
                      cases b
                      · clear hb1
                        go_wp2
                        go_ret
                        exact ⟨rfl, HFIN.out⟩
                      · have hzb := HZB.out
                        rw [HOR.out (hb1.1 rfl)] at hzb
                        clear hb1
                        go_wp2
                        go_ret
                        exact ⟨rfl, HFIN.out⟩
set_option maxRecDepth 100000 in
theorem lifted_FnRings (os : Os) (started : os.Started) (H : Type) (enc : TypeId × Value → H) :
    ReturnsInHanded {} Tryz.checked os 3 .any (Rows.fnRingsSpec.pre6 enc Tryz.prog Tryz.f3 Rows.fnRingsRow.domain false) (Rows.fnRingsSpec.post enc Tryz.prog Tryz.f3 false true false false) := by
  refine returnsInHanded_of_change_sized (C := Tryz.checked) own started (by kernel_rfl) Tryz.func3
    (ChangeSpec.witness6 (enc := enc) (C := Tryz.checked) false ⟨#[], #[.slice none 0 0], []⟩ 8 (by kernel_rfl) (by kernel_rfl) (by kernel_rfl) (by kernel_rfl)) ?_
  intro W base args ds gs before hval0 hW hcnd hsz0 _
  have hsz : (DataW.weightsEach Tryz.prog (Tryz.f3.params.toList ++ Rows.fnRingsSpec.plain.varTypes Tryz.prog) (ds ++ gs)).all (· ≤ reachBytes) = true := hsz0
  clear hsz0
  have hval : ∀ (j : Nat) t v, Tryz.f3.params[j]? = some t → args[j]? = some v → Value.okWide Tryz.prog W .any base t v := hval0
  have hW' := hW
  obtain ⟨p, q, hA0, hV, rfl, hfz, hnd⟩ := hW
  have hA : DataW.TrodAll enc Tryz.prog W 0 (fun _ => true) true Tryz.f3.params.toList args.toList ds p := hA0
  rw [Tryz.params3] at hA hval hsz
  obtain ⟨v0, vs0, d0, ds0, p0, q0, hargs, rfl, rfl, h0, r0⟩ := trodAll_cons hA
  obtain ⟨rfl, rfl, rfl⟩ := trodAll_nil r0
  obtain rfl : args = #[v0] := by cases args; simp_all
  obtain ⟨rfl, rfl⟩ := trodVars_none hV
  have k0 := h0
  have lt0 : ∀ x ∈ p0, x.block < W.heap.size := by obtain ⟨m, hm⟩ := k0; exact DataW.trod_lt m _ _ _ hm
  have w0 := open_bytes (enc := enc) (hval 0 22 v0 rfl rfl) h0 (fun x hx => DataW.weights_mem_each (j := 0) rfl rfl x hx) hsz
  clear hA0 hval0
  refine (walk_FnRings W v0 w0).mono fun e W' ⟨he, bel⟩ => ?_
  subst he
  exact ⟨_, rfl, _, _, _, [], _, [], hW', trodAll_mk1 (shut_bool Tryz.underlying4 _), (trodAll_cons_mk (Below.trod laidOut (by kernel_rfl) (of_decide_eq_true (by kernel_rfl)) k0 bel lt0) trodAll_mk0), rfl, bel.frame _, fun h => by cases h⟩

theorem closed_FnRings : joinedFacts Tryz.prog 3 Tryz.f3 Rows.fnRingsSpec Rows.fnRingsRow = true := by
  unfold joinedFacts
  rw [headMayEnter, headLiftsFinal, headMake]
  kernel_rfl
/-- The law returns true for every input, and its arguments read as before: the given statement. -/
theorem fnRings_holds : Rows.FnRingsSaid :=
  OpenClaim.holds_of_wide 3 Tryz.f3 rfl rfl rfl rfl rfl rfl rfl ⟨rfl, rfl, rfl, rfl, rfl⟩ rfl rfl rfl rfl rfl (by as_aux_lemma => kernel_rfl) Tryz.func3 closed_FnRings
    (by as_aux_lemma => exact of_decide_eq_true (by kernel_rfl)) (by unfold Func.isWrapper; first | (rw [if_pos (by decide +kernel)]; kernel_rfl) | (rw [if_neg (by decide +kernel)]; exact ⟨rfl, rfl⟩))
    (fun os started H enc _ => lifted_FnRings os started H enc)
#print axioms fnRings_holds

end Go.Proofs.YtccknookhkahbaaGreat
