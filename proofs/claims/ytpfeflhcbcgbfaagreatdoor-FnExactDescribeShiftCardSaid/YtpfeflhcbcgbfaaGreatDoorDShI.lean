/- A report of a shift, the program's function. Conditions: a shift that is one, in memory; the laid tables. -/
import Derived.Test.YtpfeflhcbcgbfaaGreatDoorCntS
import Derived.Test.YtpfeflhcbcgbfaaGreatDoorDShP
import Derived.Test.YtpfeflhcbcgbfaaGreatDoorOrbI
namespace Go.Proofs.YtpfeflhcbcgbfaaGreatDoor
open Go.RowKit
theorem intVals_set (xs : List Int) (j : Nat) (u : Int) : (intVals xs).set j (.int .i64 u) = intVals (xs.set j u) := by simp [intVals, List.map_set]
set_option maxHeartbeats 8000000 in
set_option maxRecDepth 100000 in
theorem impl_CountWords_c (k nn : Nat) (a : Option Addr) (n c : Nat) (ss : List ByteArray) (w : World) (hr : RowAt w a n (strVals ss)) (hok : okShB k ss = true) (hnn : nn ≤ 6) (hm : MaxW w) :
    Calls Tryz.prog 28 #[.agg #[.int .i64 k, .slice a n c], .int .i64 nn] w fun e w' => e = .returned (.int .i64 (cwV ss k nn)) ∧ Below w.heap.size w w' := by
  obtain ⟨hk, hl8, hsw, _⟩ := okSh_facts hok
  have hln : ss.length = n := by simpa [strVals] using hr.len
  obtain ⟨W2, hW2⟩ : ∃ W2, W2 = w.alloc (.cells #[.int .i64 k, .slice a n c] 27) := ⟨_, rfl⟩
  have hB : Below w.heap.size w W2 := by rw [hW2]; exact (Below.refl _ _).alloc (Nat.le_refl _) _
  have hsz : W2.heap.size = w.heap.size + 1 := by rw [hW2]; simp
  have hbx : BoxC W2 w.heap.size #[.int .i64 k, .slice a n c] := by rw [hW2]; exact BoxC.new _ _ _
  have HIS := hid (impl_IsShift_ok k a n c ss W2 (hr.below hB (Nat.le_refl _)) hok)
  have HGR := hid (fun (V : World) (hV : Below W2.heap.size W2 V) => impl_GraphOf_c k a n c ss V (hr.below (hB.trans (hV.mono (by omega))) (Nat.le_refl _)) hok (max_below hm (hB.trans (hV.mono (by omega))) (Nat.le_refl _)))
  have HLA := hid (fun (V : World) (hV : Below W2.heap.size W2 V) => language_c k nn a n c ss V (hr.below (hB.trans (hV.mono (by omega))) (Nat.le_refl _)) hk (by omega) (max_below hm (hB.trans (hV.mono (by omega))) (Nat.le_refl _)) (by omega))
  have HBX := hid (fun (V : World) (hV : Below W2.heap.size W2 V) => show (V.cell? ⟨w.heap.size, 0, none⟩ = some (.int .i64 k) ∧ V.cell? ⟨w.heap.size, 1, none⟩ = some (.slice a n c)) ∧ Below w.heap.size w V from ⟨⟨(hbx.below hV).cell 0, (hbx.below hV).cell 1⟩, hB.trans (hV.mono (by omega))⟩)
  have HLEN := hid (stL_len (ss := ss) hk.2)
  have HC0 := hid (fun h => cwV_none (ss := ss) (k := k) (n := nn) h)
  have HC1 := hid (fun h : nn < 2 => show cwV ss k nn = (((List.range (k ^ nn)).filter (inL ss k nn)).length : Int) from if_pos h)
  have HC2 := hid (fun h : ¬ nn < 2 => show cwV ss k nn = sumTo (vI (gM ss k) (stL ss k).length (nn - 2)) (stL ss k).length from (if_neg h).trans (vSI _ _ _))
  have HRECT := hid (gM_rect ss k)
  have HBIT := hid (fun p q hp hq => gM_bit ss k p q hp hq)
  have HBD := hid (fun (t q : Nat) (hq : q < (stL ss k).length) => vI_bd (stL_len (ss := ss) hk.2) (fun p q hp hq => gM_bit ss k p q hp hq) t q hq)
  have hcn := List.length_filter_le (inL ss k nn) (List.range (k ^ nn))
  rw [List.length_range] at hcn
  have hps := pow_small hk.2 (show nn ≤ 8 by omega)
  unfold GraPost at HGR
  unfold KeptPost at HLA
  obtain ⟨M, hM⟩ : ∃ M, M = gM ss k := ⟨_, rfl⟩
  obtain ⟨N, hN⟩ : ∃ N, N = (stL ss k).length := ⟨_, rfl⟩
  obtain ⟨d, hd⟩ : ∃ d, d = ((List.range (k ^ nn)).filter (inL ss k nn)).length := ⟨_, rfl⟩
  obtain ⟨R, hR⟩ : ∃ R, R = cwV ss k nn := ⟨_, rfl⟩
  rw [← hM, ← hN] at HGR HRECT HBIT HBD HC2
  rw [← hN] at HLEN HC0
  rw [← hd] at HC1 HLA hcn
  rw [← hR] at HC0 HC1 HC2
  rw [← hR]
  have hd9 : d ≤ 6561 := by omega
  have HML := hid (HRECT.out.len)
  have hn0 : ¬ ((nn : Int) < 0) := by omega
  have hn20 : ¬ ((20 : Int) < (nn : Int)) := by omega
  have HB := hid hB
  have q0 := hbx.cell 0
  have q1 := hbx.cell 1
  clear hr hB hbx hok hsw hln hN hM hd hR hk hcn hps hm hl8
  obtain ⟨ti, hti, hz, hz1, hz2⟩ := info_parts infoIntZ
  go_enter Tryz.func28, Tryz.ntmps28
  go_wp2_with (rw [← hW2])
  first | rw [← hW2] | skip
  clear hW2
  refine HIS.out.mono ?_
  rintro e w1 ⟨rfl, hb1⟩
  obtain ⟨⟨s0, s1⟩, hbw1⟩ := HBX.out _ hb1
  have HGR1 := hid (HGR.out w1 hb1)
  have HB1 := hid hb1
  have HBW1 := hid hbw1
  have HL1 := hid (HLA.out w1 hb1)
  clear q0 q1 hb1 HIS HGR hbw1 HLA
  by_cases hn2 : nn < 2
  · have HR1 := hid (HC1.out hn2)
    have hn2i : (nn : Int) < 2 := by omega
    clear HGR1
    go_wp2_with fail
    refine HL1.out.mono ?_
    rintro e w5 ⟨v5, rfl, hown5, hb5⟩
    obtain ⟨g5, c5, rfl, _⟩ := owns_rowAt hown5 (by omega)
    have HB5 := hid (HBW1.out.trans (hb5.mono HBW1.out.size))
    clear hown5 hb5
    go_wp2
    go_ret
    exact ⟨by rw [HR1.out]; rfl, HB5.out⟩
  · have HR2 := hid (HC2.out hn2)
    have hn2i : ¬ ((nn : Int) < 2) := by omega
    clear HL1
    go_wp2_with fail
    refine HGR1.out.mono ?_
    rintro e w3 ⟨v, rfl, hgr, hb3⟩
    have hb3' := HB1.out.trans (hb3.mono HB1.out.size)
    obtain ⟨_, hbw3⟩ := HBX.out _ hb3'
    have HBW3 := hid hbw3
    have HGR3 := hid hgr
    clear s0 s1 hb3 hb3' hbw3 hgr HGR1
    by_cases hN0 : N = 0
    · have HR0 := hid (HC0.out hN0)
      have hdN : decide (N ≠ 0) = false := by rw [hN0]; rfl
      rw [hdN]
      go_wp2
      go_ret
      exact ⟨by rw [HR0.out]; rfl, HBW3.out⟩
    · have hdN : decide (N ≠ 0) = true := decide_eq_true hN0
      rw [hdN]
      have hN9 := HLEN.out
      have hTG := HGR3.out hN0
      obtain ⟨gv, cv, rfl, _, _⟩ := grid_form hTG HML.out (by omega)
      have HTB := hid (grid_tab hTG HRECT.out (by omega) (by omega))
      clear hTG HGR3
      go_wp2_with (first | (at_make; refine wpList_make_full _ rfl _ _ 39 rfl w3.heap.size 3 ti (.int .i64 0) 1 Tryz.underlying39 hti hz hz1 .i64 .i64 _ _ N rfl rfl rfl rfl (by rw [hz2]; omega) (by unfold maxLen; omega) (Nat.le_refl _) ?_; intro w4 hown4 hgr4))
      have HO4 := hid (show w4.ownsRow w3.heap.size 3 1 (.slice (some ⟨w3.heap.size, 0, none⟩) N N) N (intVals (mkR N (fun _ => 1) 0 0)) from by rw [mkR_zero, ← made_zeros N]; exact hown4)
      have HB4 := hid (show Below w3.heap.size w3 w4 from (Below.refl _ _).grown hgr4 (Nat.le_refl _) (by intro k h; cases h))
      clear hown4 hgr4
      go_loopw [43] (fun i wr => ∃ j : Nat, j ≤ N ∧ i = .int .i64 j ∧ wr.ownsRow w3.heap.size 3 1 (.slice (some ⟨w3.heap.size, 0, none⟩) N N) N (intVals (mkR N (fun _ => 1) j 0)) ∧ Below w3.heap.size w3 wr) (fun i _ => N - (intOf i).toNat)
      case atStart => exact ⟨0, by omega, rfl, HO4.out, HB4.out⟩
      case round =>
        clear HO4 HB4
        obtain ⟨j, hj, rfl, hown, hbel⟩ := hrel
        by_cases hlt : j < N
        · have hji : (j : Int) < (N : Int) := by omega
          have hcell := (hown.cellAt j (by omega)).trans (intVals_get (mkR_at hlt))
          have hfr := hown.frozenAt j
          have hst := hown.stored j (.int .i64 1)
          rw [intVals_set, mkR_set, mkR_next N (fun _ => 1) j] at hst
          have HST := hid hst
          have HBL := hid hbel
          clear hst hown hbel
          go_wp2
          go_roundw
          case rel => exact ⟨j + 1, by omega, by go_num, HST.out.1, HBL.out.setCell (Nat.le_refl _) _⟩
          case measure => simp [intOf]; omega
        · obtain rfl : j = N := by omega
          have HOW := hid (show wr.ownsRow w3.heap.size 3 1 (.slice (some ⟨w3.heap.size, 0, none⟩) j j) j (intVals (rowV (vI M j 0) j)) from by rw [mkR_end] at hown; exact hown)
          have HBL := hid hbel
          have hsub : ((nn : Int) - 2) = ((nn - 2 : Nat) : Int) := by omega
          clear hown hbel
          go_wp2
          try rw [hsub]
          obtain ⟨T, hT⟩ : ∃ T, T = nn - 2 := ⟨_, rfl⟩
          rw [← hT]
          have hT4 : T ≤ 4 := by omega
          rw [← hT] at HR2
          clear hsub hT
          go_loopw [7, 52] (fun v i wr => ∃ (t gc cc : Nat), t ≤ T ∧ i = .int .i64 t ∧ v = .slice (some ⟨gc, 0, none⟩) j cc ∧ wr.ownsRow w3.heap.size 3 1 (.slice (some ⟨gc, 0, none⟩) j cc) j (intVals (rowV (vI M j t) j)) ∧ Below w3.heap.size w3 wr) (fun _ i _ => T - (intOf i).toNat)
          case atStart => exact ⟨0, w3.heap.size, j, by omega, rfl, rfl, HOW.out, HBL.out⟩
          case round =>
            clear HOW HBL
            obtain ⟨t, gc, cc, ht, rfl, rfl, hown, hbel⟩ := hrel
            by_cases hlt2 : t < T
            · have hti2 : (t : Int) < (T : Int) := by omega
              have hgc := hown.lt gc rfl
              have HCO := hid hown
              have HBL := hid hbel
              have hsB := hbel.size
              have h69 := pow9 (show t ≤ 4 by omega)
              have HVB := hid (fun (q : Nat) (hq : q < j) => show 0 ≤ vI M j t q ∧ vI M j t q ≤ 6561 from ⟨(HBD.out t q hq).1, Int.le_trans (HBD.out t q hq).2 (Int.ofNat_le.2 h69)⟩)
              clear hown hbel h69
              obtain ⟨g, hg⟩ : ∃ g, g = vI M j (t + 1) := ⟨_, rfl⟩
              have HGE := hid (fun (p : Nat) => show g p = sumTo (fun q => at2 M p q * vI M j t q) j by rw [hg]; rfl)
              go_wp2_with (first | (at_make; refine wpList_make_full _ rfl _ _ 39 rfl w3.heap.size 3 ti (.int .i64 0) 1 Tryz.underlying39 hti hz hz1 .i64 .i64 _ _ j rfl rfl rfl rfl (by rw [hz2]; omega) (by unfold maxLen; omega) hsB ?_; intro w6 hown6 hgr6))
              have HN6 := hid (show w6.ownsRow w3.heap.size 3 1 (.slice (some ⟨wr.heap.size, 0, none⟩) j j) j (intVals (mkR j g 0 0)) from by rw [mkR_zero, ← made_zeros j]; exact hown6)
              have HC6 := hid (kept_none HCO.out hgr6)
              have HB6 := hid (show Below w3.heap.size w3 w6 from HBL.out.grown hgr6 hsB (by intro k h; cases h))
              have hne : ¬ (gc = wr.heap.size) := by omega
              obtain ⟨gn, hgn⟩ : ∃ gn, gn = wr.heap.size := ⟨_, rfl⟩
              rw [← hgn] at HN6 hne
              rw [← hgn]
              have hgn3 : w3.heap.size ≤ gn := by omega
              have HG1 := hid (show rowV g j = rowV (vI M j (t + 1)) j by rw [hg])
              clear hown6 hgr6 HCO HBL hgn hg hgc
              go_loopw [59] (fun i wr => ∃ p : Nat, p ≤ j ∧ i = .int .i64 p ∧ Hid (wr.ownsRow w3.heap.size 3 1 (.slice (some ⟨gn, 0, none⟩) j j) j (intVals (mkR j g p 0))) ∧ Hid (wr.ownsRow w3.heap.size 3 1 (.slice (some ⟨gc, 0, none⟩) j cc) j (intVals (rowV (vI M j t) j))) ∧ Hid (Below w3.heap.size w3 wr)) (fun i _ => j - (intOf i).toNat)
              case atStart => exact ⟨0, by omega, rfl, HN6, HC6, HB6⟩
              case round =>
                clear HN6 HC6 HB6
                obtain ⟨p, hp, rfl, HN, HC, HBL⟩ := hrel
                by_cases hltp : p < j
                · have hpi : (p : Int) < (j : Int) := by omega
                  obtain ⟨b, off, a', c', r, he, hb, hcp, hrw, _, hat⟩ := rect_row HTB.out HRECT.out hltp
                  simp only [Option.some.injEq, Addr.mk.injEq, and_true] at he
                  obtain ⟨rfl, rfl⟩ := he
                  have hcp7 := (HBL.out.cell (p := ⟨gv, 0 + p, none⟩) hb).trans hcp
                  have HRWP := hid hrw
                  have HAT := hid hat
                  have HN0 := hid (show wr.ownsRow w3.heap.size 3 1 (.slice (some ⟨gn, 0, none⟩) j j) j (intVals (mkR j g p (sumTo (fun q => at2 M p q * vI M j t q) 0))) from HN.out)
                  rw [Nat.zero_add] at hcp7
                  clear hcp hrw hat HN
                  go_wp2
                  clear hcp7
                  go_loopw [66] (fun i wr => ∃ q : Nat, q ≤ j ∧ i = .int .i64 q ∧ Hid (wr.ownsRow w3.heap.size 3 1 (.slice (some ⟨gn, 0, none⟩) j j) j (intVals (mkR j g p (sumTo (fun q => at2 M p q * vI M j t q) q)))) ∧ Hid (wr.ownsRow w3.heap.size 3 1 (.slice (some ⟨gc, 0, none⟩) j cc) j (intVals (rowV (vI M j t) j))) ∧ Hid (Below w3.heap.size w3 wr)) (fun i _ => j - (intOf i).toNat)
                  case atStart => exact ⟨0, by omega, rfl, HN0, HC, HBL⟩
                  case round =>
                    clear HN0 HC HBL
                    obtain ⟨q, hq, rfl, HN, HC, HBL⟩ := hrel
                    by_cases hltq : q < j
                    · have hqi : (q : Int) < (j : Int) := by omega
                      obtain ⟨b2, off2, rfl, hb2, hc2⟩ := HRWP.out.at_ (by omega)
                      have hrl := HRWP.out.len
                      have hca := (HBL.out.cell (p := ⟨b2, off2 + q, none⟩) hb2).trans (hc2 q (.int .i64 (at0 r q)) (intVals_get (at0_some (by simpa [intVals] using (by rw [hrl]; exact hltq : q < (intVals r).length)))))
                      rw [← HAT.out q] at hca
                      have hcb := (HC.out.cellAt q (by omega)).trans (intVals_get (show (rowV (vI M j t) j)[q]? = some (vI M j t q) by simp [rowV, hltq]))
                      have hcc := (HN.out.cellAt p (by omega)).trans (intVals_get (mkR_at hltp))
                      have hfr := HN.out.frozenAt p
                      have h1 := HBIT.out p q hltp hltq
                      have h2 := HVB.out q hltq
                      have h3 := sumTo_bd (f := fun q => at2 M p q * vI M j t q) (n := j) (B := 1 * 6561) (fun q hq => prod_bd (HBIT.out p q hltp hq) (HVB.out q hq)) q hq
                      have h4 := prod_bd h1 h2
                      have HE := hid (show sumTo (fun q => at2 M p q * vI M j t q) (q + 1) = sumTo (fun q => at2 M p q * vI M j t q) q + at2 M p q * vI M j t q from rfl)
                      have HST := hid (fun u u' : Int => fun (h : wr.ownsRow w3.heap.size 3 1 (.slice (some ⟨gn, 0, none⟩) j j) j (intVals (mkR j g p u))) => show wr.ownsRow w3.heap.size 3 1 (.slice (some ⟨gn, 0, none⟩) j j) j (intVals (mkR j g p u)) ∧ (wr.setCell ⟨gn, p, none⟩ (.int .i64 u')).ownsRow w3.heap.size 3 1 (.slice (some ⟨gn, 0, none⟩) j j) j (intVals (mkR j g p u')) ∧ wr.grownBy (wr.setCell ⟨gn, p, none⟩ (.int .i64 u')) (some gn) from by
                        have hst := h.stored p (.int .i64 u')
                        rw [intVals_set, mkR_set] at hst
                        exact ⟨h, by simpa using hst.1, by simpa using hst.2⟩)
                      obtain ⟨u, hu⟩ : ∃ u, u = sumTo (fun q => at2 M p q * vI M j t q) q := ⟨_, rfl⟩
                      obtain ⟨x, hx⟩ : ∃ x, x = at2 M p q := ⟨_, rfl⟩
                      obtain ⟨y, hy⟩ : ∃ y, y = vI M j t q := ⟨_, rfl⟩
                      have HN2 := HN.out
                      rw [← hu] at HE h3 hcc HN2
                      rw [← hx] at HE h4 hca h1
                      rw [← hy] at HE h4 hcb h2
                      have HS2 := hid (HST.out u (u + x * y) HN2)
                      have h5 : (j : Int) * (1 * 6561) ≤ 59049 := by omega
                      have h6 : (q : Int) * (1 * 6561) ≤ 59049 := by omega
                      have hs1 : u + x * y ≤ 4611686018427387904 := by omega
                      have hs0 : 0 ≤ u + x * y := by omega
                      have hm0 := h4.1
                      have hm1 : x * y ≤ 6561 := by omega
                      have hu0 := h3.1
                      clear hu hx hy hc2 hrl h1 h2 h3 h4 h5 h6 HST HN2 HN
                      go_wp2
                      go_region
                      all_goals
                        go_wp2
                      go_roundw
                      case rel =>
                        have HK := HC.out.kept HS2.out.2.2 (Or.inr (by simp [Value.ownBlock]; omega))
                        have HBB := HBL.out.grown HS2.out.2.2 (HBL.out.size) (fun k hk => by injection hk with hk; omega)
                        exact ⟨q + 1, by omega, by go_num, hid (by rw [HE.out]; exact owns_below HS2.out.2.1 (Below.refl _ _).drew), hid (owns_below HK (Below.refl _ _).drew), hid HBB.drew⟩
                      case measure => simp [intOf]; omega
                    · obtain rfl : q = j := by omega
                      have HN9 := hid (show wr.ownsRow w3.heap.size 3 1 (.slice (some ⟨gn, 0, none⟩) q q) q (intVals (mkR q g (p + 1) 0)) from by
                        have := HN.out
                        rw [← HGE.out p, mkR_next] at this
                        exact this)
                      clear HN
                      go_wp2
                      go_roundw
                      case rel => exact ⟨p + 1, by omega, by go_num, HN9, HC, HBL⟩
                      case measure => simp [intOf]; omega
                · obtain rfl : p = j := by omega
                  have HN9 := hid (show wr.ownsRow w3.heap.size 3 1 (.slice (some ⟨gn, 0, none⟩) p p) p (intVals (rowV (vI M p (t + 1)) p)) from by
                    have := HN.out
                    rw [mkR_end, HG1.out] at this
                    exact this)
                  clear HN
                  go_wp2
                  go_roundw
                  case rel => exact ⟨t + 1, gn, p, by omega, by go_num, rfl, HN9.out, HBL.out⟩
                  case measure => simp [intOf]; omega
            · obtain rfl : t = T := by omega
              obtain ⟨a6, c6, he6, hrow⟩ := owns_rowAt hown (by omega)
              simp only [Value.slice.injEq, true_and] at he6
              obtain ⟨rfl, rfl⟩ := he6
              have HRW := hid hrow
              have HBL := hid (HBW3.out.trans (hbel.mono HBW3.out.size))
              have h69 := pow9 hT4
              have HTO := hid (fun V => fun hV : RowAt V (some ⟨gc, 0, none⟩) j (intVals (rowV (vI M j t) j)) => impl_total_c (some ⟨gc, 0, none⟩) j cc (rowV (vI M j t) j) 6561 V hV (fun q hq => by
                rw [rowV_at _ hq]
                exact ⟨(HBD.out t q hq).1, Int.le_trans (HBD.out t q hq).2 (Int.ofNat_le.2 h69)⟩) (by omega))
              have HRR := hid (show R = sumTo (at0 (rowV (vI M j t) j)) j by rw [HR2.out]; exact sumTo_congr fun q hq => (rowV_at _ hq).symm)
              clear hown hbel hrow h69
              go_wp2_with fail
              refine (HTO.out _ HRW.out).mono ?_
              rintro e w9 ⟨rfl, rfl⟩
              go_wp2
              go_ret
              exact ⟨by rw [HRR.out]; rfl, HBL.out⟩
end Go.Proofs.YtpfeflhcbcgbfaaGreatDoor
namespace Go.Proofs.YtpfeflhcbcgbfaaGreatDoor
open Go.RowKit
set_option maxHeartbeats 1000000 in
theorem dsh1_c (k n c b j : Nat) (a : Option Addr) (ss : List ByteArray) (w : World) (hbx : BoxC w b #[.int .i64 k, .slice a n c]) (hr : RowAt w a n (strVals ss)) (hok : okShB k ss = true) (hm : MaxW w) (hj : j ≤ 6) :
    Calls Tryz.prog 27 #[.int .i64 j, .pointer (some ⟨b, 0, none⟩)] w fun e w' => e = .returned (.int .i64 (cwI ss k j)) ∧ Below w.heap.size w w' := by
  have HR := hid (show Calls Tryz.prog 28 #[.agg #[.int .i64 k, .slice a n c], .int .i64 j] w fun e w' => e = .returned (.int .i64 (cwI ss k j)) ∧ Below w.heap.size w w' from impl_CountWords_c k j a n c ss w hr hok hj hm)
  obtain ⟨y, hy⟩ : ∃ y, y = cwI ss k j := ⟨_, rfl⟩
  rw [← hy] at HR
  rw [← hy]
  have p0 := hbx.cell 0
  have p1 := hbx.cell 1
  clear hr hok hm hy
  go_enter Tryz.func27, Tryz.ntmps27
  go_wp2_with fail
  refine HR.out.mono ?_
  rintro e w1 ⟨rfl, hb⟩
  go_wp2
  go_ret
  exact ⟨rfl, hb⟩
set_option maxHeartbeats 1000000 in
theorem dsh2_c (k n c b j : Nat) (a : Option Addr) (ss : List ByteArray) (w : World) (hbx : BoxC w b #[.int .i64 k, .slice a n c]) (hr : RowAt w a n (strVals ss)) (hok : okShB k ss = true) (hm : MaxW w) (hj : 1 ≤ j ∧ j ≤ 6) :
    Calls Tryz.prog 29 #[.int .i64 j, .pointer (some ⟨b, 0, none⟩)] w fun e w' => e = .returned (.int .i64 (ocI ss k j)) ∧ Below w.heap.size w w' := by
  have hk := (okSh_facts hok).1
  have HR := hid (show Calls Tryz.prog 30 #[.agg #[.int .i64 k, .slice a n c], .int .i64 j] w fun e w' => ∃ g cc d, e = .returned (.slice g d cc) ∧ (d : Int) = ocI ss k j ∧ d ≤ 6561 ∧ Below w.heap.size w w' from (impl_OrbitWords_c k j a n c ss w hr hok hm hj).mono (by
    rintro e w' ⟨v, rfl, hown, hb⟩
    have h1 := ocI_bd (ss := ss) hk.2 hj.2
    unfold ocI at h1
    obtain ⟨g, cc, rfl, _⟩ := owns_rowAt hown (by omega)
    exact ⟨g, cc, _, rfl, rfl, by omega, hb⟩))
  obtain ⟨y, hy⟩ : ∃ y, y = ocI ss k j := ⟨_, rfl⟩
  rw [← hy] at HR
  rw [← hy]
  have p0 := hbx.cell 0
  have p1 := hbx.cell 1
  clear hr hok hm hy
  go_enter Tryz.func29, Tryz.ntmps29
  go_wp2_with fail
  refine HR.out.mono ?_
  rintro e w1 ⟨g, cc, d, rfl, hd, hd2, hb⟩
  have HD := hid hd
  clear hd
  go_wp2
  go_ret
  exact ⟨by rw [← HD.out]; rfl, hb⟩
set_option maxHeartbeats 8000000 in
set_option maxRecDepth 100000 in
theorem impl_DescribeShift_yes (k : Nat) (a : Option Addr) (n c : Nat) (ss : List ByteArray) (w : World) (hr : RowAt w a n (strVals ss)) (hok : okShB k ss = true) (hm : MaxW w) (ht : TabW w) :
    Calls Tryz.prog 8 #[.agg #[.int .i64 k, .slice a n c]] w fun e w' => e = .returned (.string (dshT ss k)) ∧ Below w.heap.size w w' := by
  obtain ⟨hk, hl8, hsw, _⟩ := okSh_facts hok
  obtain ⟨W2, hW2⟩ : ∃ W2, W2 = w.alloc (.cells #[.int .i64 k, .slice a n c] 27) := ⟨_, rfl⟩
  have hB : Below w.heap.size w W2 := by rw [hW2]; exact (Below.refl _ _).alloc (Nat.le_refl _) _
  have hsz : W2.heap.size = w.heap.size + 1 := by rw [hW2]; simp
  have hbx : BoxC W2 w.heap.size #[.int .i64 k, .slice a n c] := by rw [hW2]; exact BoxC.new _ _ _
  have HBX := hid (fun (V : World) (hV : Below W2.heap.size W2 V) => show (V.cell? ⟨w.heap.size, 0, none⟩ = some (.int .i64 k) ∧ V.cell? ⟨w.heap.size, 1, none⟩ = some (.slice a n c)) ∧ Below w.heap.size w V from ⟨⟨(hbx.below hV).cell 0, (hbx.below hV).cell 1⟩, hB.trans (hV.mono (by omega))⟩)
  have HRW := fun (V : World) (hV : Below W2.heap.size W2 V) => hr.below (hB.trans (hV.mono (by omega))) (Nat.le_refl _)
  have HMW := fun (V : World) (hV : Below W2.heap.size W2 V) => max_below hm (hB.trans (hV.mono (by omega))) (Nat.le_refl _)
  have HTW := fun (V : World) (hV : Below W2.heap.size W2 V) => tab_below ht (hB.trans (hV.mono (by omega))) (Nat.le_refl _)
  have HIS := hid (impl_IsShift_ok k a n c ss W2 (hr.below hB (Nat.le_refl _)) hok)
  have HC1 := hid (fun (W : World) (hW : Below W2.heap.size W2 W) => counted_c 0 6 7 27 (.pointer (some ⟨w.heap.size, 0, none⟩)) (cwI ss k) W rfl (by omega)
    (fun i V h1 h2 hV => dsh1_c k n c w.heap.size i a ss V ((hbx.below hW).below hV) (HRW V (hW.trans (hV.mono hW.size))) hok (HMW V (hW.trans (hV.mono hW.size))) (by omega))
    (fun x w => Tryz.call27 _ w) (fun i h1 h2 => cwI_i64 hk.2 (by omega)) (HTW W hW))
  rw [show joinV ((cntL (cwI ss k) 0 7).map fmtB) ⟨#[44]⟩ = wdT ss k from rfl] at HC1
  have HC2 := hid (fun (W : World) (hW : Below W2.heap.size W2 W) => counted_c 1 5 5 29 (.pointer (some ⟨w.heap.size, 0, none⟩)) (ocI ss k) W rfl (by omega)
    (fun i V h1 h2 hV => dsh2_c k n c w.heap.size i a ss V ((hbx.below hW).below hV) (HRW V (hW.trans (hV.mono hW.size))) hok (HMW V (hW.trans (hV.mono hW.size))) (by omega))
    (fun x w => Tryz.call29 _ w) (fun i h1 h2 => ocI_i64 hk.2 (by omega)) (HTW W hW))
  rw [show joinV ((cntL (ocI ss k) 1 5).map fmtB) ⟨#[44]⟩ = orT ss k from rfl] at HC2
  have HST := hid (fun (V : World) (hV : Below W2.heap.size W2 V) => show Calls Tryz.prog 33 #[.agg #[.int .i64 k, .slice a n c]] V fun e w' => ∃ g cc, e = .returned (.slice g (stL ss k).length cc) ∧ Below V.heap.size V w' from (impl_StatesOf_c k a n c ss V (HRW V hV) hok (HMW V hV)).mono (by
    rintro e w' ⟨v, rfl, hown, hb⟩
    have h1 := stL_len (ss := ss) hk.2
    obtain ⟨g, cc, rfl, _⟩ := owns_rowAt hown (by omega)
    exact ⟨g, cc, rfl, hb⟩))
  have HCO := hid (fun (V : World) (hV : Below W2.heap.size W2 V) => impl_IsConnected_c k a n c ss V (HRW V hV) hok (HMW V hV))
  have HLEN := hid (stL_len (ss := ss) hk.2)
  have HFN := hid (fun (V : World) (hV : Below W2.heap.size W2 V) => impl_FormatInt_c ((stL ss k).length : Int) V ⟨by omega, by have := stL_len (ss := ss) hk.2; omega⟩ (HTW V hV))
  have hz1 := wdT_size (ss := ss) hk.2
  have hz2 := orT_size (ss := ss) hk.2
  have hz3 := fmtB_leZ (x := ((stL ss k).length : Int)) ⟨by omega, by have := stL_len (ss := ss) hk.2; omega⟩
  have hz4 := yesB_size (conV ss k)
  have HYE := hid (fun W => yes_c (conV ss k) W)
  have HTX := hid (show dshT ss k = joinV (dshL (wdT ss k) (fmtB ((stL ss k).length : Int)) (yesB (conV ss k)) (orT ss k)) ⟨#[32]⟩ from rfl)
  have hJE := dshJ_eq (wdT ss k) (fmtB ((stL ss k).length : Int)) (yesB (conV ss k)) (orT ss k)
  obtain ⟨TX, hTX⟩ : ∃ T, T = dshT ss k := ⟨_, rfl⟩
  rw [← hTX] at HTX
  rw [← hTX]
  obtain ⟨tw, htw⟩ : ∃ t, t = wdT ss k := ⟨_, rfl⟩
  rw [← htw] at HTX HC1 hz1 hJE
  obtain ⟨tr, htr⟩ : ∃ t, t = orT ss k := ⟨_, rfl⟩
  rw [← htr] at HTX HC2 hz2 hJE
  obtain ⟨tf, htf⟩ : ∃ t, t = fmtB ((stL ss k).length : Int) := ⟨_, rfl⟩
  rw [← htf] at HTX HFN hz3 hJE
  obtain ⟨N, hN⟩ : ∃ N, N = (stL ss k).length := ⟨_, rfl⟩
  rw [← hN] at HFN HST HLEN
  obtain ⟨cv, hcv⟩ : ∃ v, v = conV ss k := ⟨_, rfl⟩
  rw [← hcv] at HTX HCO HYE hz4 hJE
  obtain ⟨ty, hty⟩ : ∃ t, t = yesB cv := ⟨_, rfl⟩
  rw [← hty] at HTX HYE hz4 hJE
  have HLN := hid (fun V : World => show Calls Tryz.prog 31 #[.slice (some ⟨V.heap.size, 0, none⟩) 8 8] (V.alloc (.cells #[.string ⟨#[119, 111, 114, 100, 115]⟩, .string tw, .string ⟨#[115, 116, 97, 116, 101, 115]⟩, .string tf, .string ⟨#[99, 111, 110, 110, 101, 99, 116, 101, 100]⟩, .string ty, .string ⟨#[111, 114, 98, 105, 116, 115]⟩, .string tr] 9)) fun e w' => e = .returned (.string TX) ∧ Below (V.heap.size + 1) (V.alloc (.cells #[.string ⟨#[119, 111, 114, 100, 115]⟩, .string tw, .string ⟨#[115, 116, 97, 116, 101, 115]⟩, .string tf, .string ⟨#[99, 111, 110, 110, 101, 99, 116, 101, 100]⟩, .string ty, .string ⟨#[111, 114, 98, 105, 116, 115]⟩, .string tr] 9)) w' from by
    have := line_c V.heap.size V.heap.size 8 8 (dshL tw tf ty tr) _ rfl (owns_lit3 (w := V) (base := V.heap.size) (e := 9) #[.string ⟨#[119, 111, 114, 100, 115]⟩, .string tw, .string ⟨#[115, 116, 97, 116, 101, 115]⟩, .string tf, .string ⟨#[99, 111, 110, 110, 101, 99, 116, 101, 100]⟩, .string ty, .string ⟨#[111, 114, 98, 105, 116, 115]⟩, .string tr] (strVals (dshL tw tf ty tr)) rfl (Nat.le_refl _) (by unfold maxLen; simp)) (by omega) (by
      have h1 := joinV_sizeZ (dshL tw tf ty tr) ⟨#[32]⟩
      unfold dshJ at hJE
      rw [hJE] at h1
      show (Lib.join ((dshL tw tf ty tr).map dlj) (⟨#[32]⟩ : ByteArray).data.toList).length ≤ 1000000000
      rw [← h1]
      simp only [ByteArray.size_append]
      show 6 + tw.size + 8 + tf.size + 11 + ty.size + 8 + tr.size ≤ 1000000000
      omega)
    rw [← HTX.out] at this
    rw [World.size_alloc] at this
    exact this)
  have HB := hid hB
  have q0 := hbx.cell 0
  have q1 := hbx.cell 1
  clear hr HRW HMW HTW hB hbx hk hok hsw hl8 hTX htw htr htf hN hcv hty hm ht hJE hz1 hz2 hz3 hz4
  go_enter Tryz.func8, Tryz.ntmps8
  go_wp2_with (rw [← hW2])
  first | rw [← hW2] | skip
  clear hW2
  refine HIS.out.mono ?_
  rintro e w1 ⟨rfl, hb1⟩
  have HB1 := hid hb1
  have HC1V := hid (HC1.out w1 hb1)
  clear q0 q1 hb1 HIS HC1
  go_wp2_with fail
  refine HC1V.out.mono ?_
  rintro e w3 ⟨rfl, hb3⟩
  have HB3 := hid (HB1.out.trans (hb3.mono HB1.out.size))
  have HC2V := hid (HC2.out w3 HB3.out)
  clear hb3 HC2 HC1V
  go_wp2_with fail
  refine HC2V.out.mono ?_
  rintro e w4 ⟨rfl, hb4⟩
  have HB4 := hid (HB3.out.trans (hb4.mono HB3.out.size))
  clear hb4 HC2V
  have hbZ : Below W2.heap.size W2 w4.drew := HB4.out.drew
  have HKK := hid (fun (V : World) (hV : Below W2.heap.size W2 V) => show V.cell? ⟨w.heap.size, 0, none⟩ = some (.int .i64 k) ∧ V.cell? ⟨w.heap.size, 1, none⟩ = some (.slice a n c) ∧ Below W2.heap.size W2 V from ⟨(HBX.out V hV).1.1, (HBX.out V hV).1.2, hV⟩)
  have HKA := hid (fun (V : World) (hV : Below W2.heap.size W2 V) (cs : Array Value) (T : TypeId) => HKK.out (V.alloc (.cells cs T)) (hV.alloc hV.size _))
  have hN9 := HLEN.out
  go_wp2
  go_region_held3 (fun V => V.cell? ⟨w.heap.size, 0, none⟩ = some (.int .i64 k) ∧ V.cell? ⟨w.heap.size, 1, none⟩ = some (.slice a n c) ∧ Below W2.heap.size W2 V)
    (first | with_reducible exact HKK.out _ hbZ | with_reducible exact HKA.out _ hbZ _ _)
    (first | (go_at_call 33; refine (HST.out _ hbZ).mono ?_; rintro e w5 ⟨g5, c5, rfl, hb5⟩; have hbZ := hbZ.trans (hb5.mono hbZ.size)) | (go_at_call 32; refine (HFN.out _ hbZ).mono ?_; rintro e w6 ⟨rfl, hb6⟩; have hbZ := hbZ.trans (hb6.mono hbZ.size)) | (go_at_call 35; refine (HCO.out _ hbZ).mono ?_; rintro e w7 ⟨rfl, hb7⟩; have hbZ := hbZ.trans (hb7.mono hbZ.size)) | (go_at_call 34; refine (HYE.out _).mono ?_; rintro e w8 ⟨rfl, rfl⟩) | (go_at_call 31; refine (HLN.out _).mono ?_; rintro e w9 ⟨rfl, hb9⟩; have hbA := hbZ.alloc hbZ.size (.cells #[.string ⟨#[119, 111, 114, 100, 115]⟩, .string tw, .string ⟨#[115, 116, 97, 116, 101, 115]⟩, .string tf, .string ⟨#[99, 111, 110, 110, 101, 99, 116, 101, 100]⟩, .string ty, .string ⟨#[111, 114, 98, 105, 116, 115]⟩, .string tr] 9); have hbZ := hbA.trans (hb9.mono (by have := hbZ.size; omega))))
  have HBF := hid (HBX.out _ hbZ).2
  clear hbZ
  go_wp2
  go_ret
  exact ⟨rfl, HBF.out⟩
end Go.Proofs.YtpfeflhcbcgbfaaGreatDoor
