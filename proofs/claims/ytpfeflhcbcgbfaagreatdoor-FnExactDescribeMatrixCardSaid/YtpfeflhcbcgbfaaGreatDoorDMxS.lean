/- A report of a matrix, the reference's function. Conditions: a small matrix in memory. -/
import Derived.Test.YtpfeflhcbcgbfaaGreatDoorDMxP
import Derived.Test.YtpfeflhcbcgbfaaGreatDoorCmpS
namespace Go.Proofs.YtpfeflhcbcgbfaaGreatDoor
open Go.RowKit
set_option maxHeartbeats 8000000 in
set_option maxRecDepth 100000 in
theorem spec_DescribeMatrix_yes (a : Option Addr) (n c : Nat) (M : List (List Int)) (w : World) (h : TabAt w a n M) (hS : isSm M = true) :
    Calls Tryz.prog 11 #[.slice a n c] w fun e w' => e = .returned (.string (dmxT M n)) ∧ Below w.heap.size w w' := by
  obtain ⟨hMat, hn, hR, hM⟩ := isSm_facts hS (tab_len h).1
  have hb9 := bd9 hR hM
  have HTV := fun (V : World) (hV : Below w.heap.size w V) => h.below hV (Nat.le_refl _)
  have HIS := hid (spec_IsSmall_c a n c M w h)
  rw [hS] at HIS
  have HCP := hid (fun (k : Nat) (hk : 1 ≤ k ∧ k ≤ 5) (V : World) (hV : Below w.heap.size w V) => show Calls Tryz.prog 39 #[.slice a n c, .int .i64 k] V fun e w' => e = .returned (.int .i64 (clI M n k)) ∧ Below V.heap.size V w' from spec_ClosedPaths_c a n c k M V (HTV V hV) hMat hk.1 (by omega))
  have HGR := hid (fun (V : World) (hV : Below w.heap.size w V) => show Calls Tryz.prog 40 #[.slice a n c, .int .i64 100] V fun e w' => e = .returned (.string (groT M n 100)) ∧ Below V.heap.size V w' from spec_GrowthText_c a n c 100 M V (HTV V hV) hS (by omega))
  have HPO := hid (fun (V : World) (hV : Below w.heap.size w V) => spec_PeriodOf_c a n c M V (HTV V hV))
  have HCM := hid (fun (V : World) (hV : Below w.heap.size w V) => spec_ComponentsOf_c a n c M V (HTV V hV) hMat)
  have HTP := hid (fun (V : World) (hV : Below w.heap.size w V) => spec_TurnedPoly_c a n c M V (HTV V hV) hS)
  have HLO := hid (fun (V : World) (hV : Below w.heap.size w V) => spec_LinesOf_c a n c M V (HTV V hV) hS)
  have hpl := periodOf_le M (tab_len h).1
  have hcl := cmpN_le (reachOf M n) n
  have HF1 := hid (fun W => spec_FormatInt_c ((periodOf M : Nat) : Int) W (by omega) (by omega))
  have HF2 := hid (fun W => spec_FormatInt_c ((cmpN (reachOf M n) n : Nat) : Int) W (by omega) (by omega))
  have hti : ∀ x ∈ turnP M n, I64 x := fun x hx => by have := turnP_bd hn.2 hR hb9 x hx; exact ⟨by omega, by omega⟩
  have htl := turnP_len M n
  have htl2 := cutN_le (polL M n (n + 1)) (n + 1)
  have HN1 := hid (fun (W : World) (ar : Option Addr) (cr : Nat) (hrr : RowAt W ar (turnP M n).length (intVals (turnP M n))) => spec_NumbersText_c ar _ cr _ W hrr hti (by omega))
  rw [numsT_pol M hn.2] at HN1
  have HN2 := hid (fun (W : World) (ar : Option Addr) (cr : Nat) (hrr : RowAt W ar 5 (intVals (cntL (clI M n) 1 5))) => spec_NumbersText_c ar 5 cr _ W hrr (fun x hx => by obtain ⟨i, h1, h2, rfl⟩ := cntL_mem hx; exact closedOf_bd hn.1 (by omega)) (by omega))
  rw [numsT_cntM _ _ _ (by omega), show joinV ((cntL (clI M n) 1 5).map fmtB) ⟨#[44]⟩ = cloT M n from rfl] at HN2
  have HJO := hid (fun (B g : Nat) (W : World) (ho : Hid (W.ownsRow B 9 1 (.slice (some ⟨g, 0, none⟩) 2 2) 2 (strVals (lnL M n)))) => show Calls Tryz.prog 44 #[.slice (some ⟨g, 0, none⟩) 2 2, .string ⟨#[32]⟩] W fun e w' => e = .returned (.string (linT M n)) ∧ Below W.heap.size W w' from by
    obtain ⟨ar, cr, hev, hrow⟩ := owns_rowAt ho.out (by omega)
    simp only [Value.slice.injEq] at hev
    obtain ⟨rfl, -, -⟩ := hev
    exact spec_Join_c _ 2 2 (lnL M n) ⟨#[32]⟩ W hrow (Nat.le_trans (lnL_join hn.2 hM) (by omega)))
  have HC1 := hid (fun j => cntL_succ (clI M n) 1 j)
  have z1 := groT_size (M := M) (n := n)
  have z2 := fmtB_leM (x := ((periodOf M : Nat) : Int)) ⟨by omega, by omega⟩
  have z3 := fmtB_leM (x := ((cmpN (reachOf M n) n : Nat) : Int)) ⟨by omega, by omega⟩
  have z4 := polT_size hn.2 hti
  have z5 := linT_size hn.2 hM
  have z6 := cloT_size (M := M) hn.1 (by omega)
  have HTX := hid (show dmxT M n = dmxJ (groT M n 100) (fmtB ((periodOf M : Nat) : Int)) (fmtB ((cmpN (reachOf M n) n : Nat) : Int)) (polT M n) (linT M n) (cloT M n) from rfl)
  rw [dmxJ_eq] at HTX
  obtain ⟨TX, hTX⟩ : ∃ T, T = dmxT M n := ⟨_, rfl⟩
  rw [← hTX] at HTX
  rw [← hTX]
  obtain ⟨tg, htg⟩ : ∃ t, t = groT M n 100 := ⟨_, rfl⟩
  rw [← htg] at HTX HGR z1
  obtain ⟨tp, htp⟩ : ∃ t, t = fmtB ((periodOf M : Nat) : Int) := ⟨_, rfl⟩
  rw [← htp] at HTX HF1 z2
  obtain ⟨tc, htc⟩ : ∃ t, t = fmtB ((cmpN (reachOf M n) n : Nat) : Int) := ⟨_, rfl⟩
  rw [← htc] at HTX HF2 z3
  obtain ⟨tt, htt⟩ : ∃ t, t = polT M n := ⟨_, rfl⟩
  rw [← htt] at HTX HN1 z4
  obtain ⟨tl, htl'⟩ : ∃ t, t = linT M n := ⟨_, rfl⟩
  rw [← htl'] at HTX HJO z5
  obtain ⟨tk, htk⟩ : ∃ t, t = cloT M n := ⟨_, rfl⟩
  rw [← htk] at HTX HN2 z6
  obtain ⟨np, hnp⟩ : ∃ v, v = periodOf M := ⟨_, rfl⟩
  rw [← hnp] at HPO HF1
  obtain ⟨nc, hnc⟩ : ∃ v, v = cmpN (reachOf M n) n := ⟨_, rfl⟩
  rw [← hnc] at HCM HF2 hcl
  obtain ⟨LL, hLL⟩ : ∃ v, v = lnL M n := ⟨_, rfl⟩
  rw [← hLL] at HLO HJO
  obtain ⟨TP, hTP⟩ : ∃ v, v = turnP M n := ⟨_, rfl⟩
  rw [← hTP] at HTP HN1
  obtain ⟨K, hK⟩ : ∃ v, v = TP.length := ⟨_, rfl⟩
  rw [← hK] at HTP HN1
  obtain ⟨f, hf⟩ : ∃ f, f = clI M n := ⟨_, rfl⟩
  rw [← hf] at HC1 HCP HN2
  have HRI := hid (show (w.alloc (.cells #[] 3)).ownsRow w.heap.size 3 1 (.slice (some ⟨w.heap.size, 0, none⟩) 0 0) 0 (intVals (cntL f 1 0)) from owns_lit3 (w := w) (base := w.heap.size) (e := 3) #[] [] rfl (Nat.le_refl _) (by unfold maxLen; simp))
  have HB0 := hid (show Below w.heap.size w (w.alloc (.cells #[] 3)) from (Below.refl _ _).alloc (Nat.le_refl _) _)
  clear h hMat hR hM hb9 hS HTV hTX htg htp htc htt htl' htk hnp hnc hLL hTP hK hf hti htl htl2 hpl
  go_enter Tryz.func11, Tryz.ntmps11
  go_wp2_with fail
  refine HIS.out.mono ?_
  rintro e w' ⟨rfl, rfl⟩
  go_wp2
  go_loopw [3, 4] (fun v i wr => ∃ (j gj cj : Nat) (e : Int), j ≤ 5 ∧ Hid (e = (j : Int) + 1) ∧ i = .int .i64 e ∧ v = .slice (some ⟨gj, 0, none⟩) j cj ∧ Hid (wr.ownsRow w.heap.size 3 1 (.slice (some ⟨gj, 0, none⟩) j cj) j (intVals (cntL f 1 j))) ∧ Hid (Below w.heap.size w wr)) (fun _ i _ => 6 - (intOf i).toNat)
  case atStart => exact ⟨0, w.heap.size, 0, 1, by omega, hid rfl, rfl, rfl, HRI, HB0⟩
  case round =>
    clear HRI HB0
    obtain ⟨j, gj, cj, e, hj, HE, rfl, rfl, HRI, HBL⟩ := hrel
    by_cases hlt : j < 5
    · obtain ⟨q, hq⟩ : ∃ q, q = 1 + j := ⟨_, rfl⟩
      have heq : e = (q : Int) := by rw [HE.out]; omega
      have HQE := hid (show (q : Int) + 1 = ((j + 1 : Nat) : Int) + 1 by omega)
      subst heq
      have hqi : (q : Int) ≤ 5 := by omega
      have hwq : IntKind.i64.wrap ((q : Int) + 1) = (q : Int) + 1 := IntWalk.i64_in _ (by omega)
      have HMQ := hid (HCP.out q (by omega) wr HBL.out)
      have HSK := hid (HC1.out j)
      rw [← hq] at HSK
      have hgl := (HRI.out.lt gj rfl).1
      have hsz := HBL.out.size
      obtain ⟨d, hd⟩ : ∃ d, d = f q := ⟨_, rfl⟩
      rw [← hd] at HMQ HSK
      clear hd hq
      go_wp2_with (first | (go_at_call 39; refine HMQ.out.mono ?_; rintro e w3 ⟨rfl, hb3⟩; have ho3 := owns_below HRI.out hb3; have hs3 := hb3.size) | (at_builtin; go_must (refine wpList_appN rfl _ _ 39 rfl w.heap.size 3 (.int .i64 0) 8 Tryz.underlying39 infoIntZ rfl gj cj j (intVals (cntL f 1 j)) (ho3.alloc _) rfl w3.heap.size 0 1 1 [.int .i64 d] rfl rfl (lit_cellsP rfl) (by intro u hu; simp at hu; subst hu; rfl) (by omega) (by unfold maxLen; omega) (by simp; omega) ?_); intro g3 c3 w4 hown3 hgr3 hor3 hlt3))
      have HO3 := hid hown3
      have HB3 := hid (((HBL.out.trans (hb3.mono hsz)).alloc (by omega) (.cells #[.int .i64 d] 3)).grown hgr3 (by simp; omega) (by rintro k ⟨⟩; exact hgl))
      clear hown3 hgr3 ho3 hb3
      go_roundw
      case rel => exact ⟨j + 1, g3, c3, (q : Int) + 1, by omega, HQE, by go_num, rfl, hid (by rw [HSK.out]; exact HO3.out), HB3⟩
      case measure => simp [intOf]; omega
    · have heK : 5 < e := by rw [HE.out]; omega
      have hen : ¬ (e ≤ 5) := by omega
      have h5 : j = 5 := by omega
      have HR5 := hid (show RowAt wr (some ⟨gj, 0, none⟩) 5 (intVals (cntL f 1 5)) from by
        have ho := HRI.out
        rw [h5] at ho
        obtain ⟨ar, cr, hev, hrow⟩ := owns_rowAt ho (by omega)
        simp only [Value.slice.injEq] at hev
        obtain ⟨rfl, -, -⟩ := hev
        exact hrow)
      have HN2V := hid (fun (V : World) (hV : Below wr.heap.size wr V) => HN2.out V (some ⟨gj, 0, none⟩) cj (HR5.out.below hV (Nat.le_refl _)))
      have HBT := hid (fun (V : World) (hV : Below wr.heap.size wr V) => show Below w.heap.size w V from HBL.out.trans (hV.mono HBL.out.size))
      have HGRV := hid (HGR.out wr HBL.out)
      obtain ⟨j5, hj5⟩ : ∃ q, q = j := ⟨_, rfl⟩
      have hjv : (Value.slice (some ⟨gj, 0, none⟩) j cj) = .slice (some ⟨gj, 0, none⟩) 5 cj := by rw [h5]
      rw [hjv]
      clear HRI HGR HCP HC1 HIS HE heK hlt hj h5 hj5 hjv HN2
      have g1 : ¬ ((9223372036854775807 : Int) < 7 + (tg.size : Int)) := by omega
      have g2 : ¬ ((9223372036854775807 : Int) < 7 + (tg.size : Int) + 8) := by omega
      have g3 : ¬ ((9223372036854775807 : Int) < 7 + (tg.size : Int) + 8 + (tp.size : Int)) := by omega
      have g4 : ¬ ((9223372036854775807 : Int) < 7 + (tg.size : Int) + 8 + (tp.size : Int) + 12) := by omega
      have g5 : ¬ ((9223372036854775807 : Int) < 7 + (tg.size : Int) + 8 + (tp.size : Int) + 12 + (tc.size : Int)) := by omega
      have g1' : ¬ (9223372036854775807 < 7 + tg.size) := by omega
      have g2' : ¬ (9223372036854775807 < 7 + tg.size + 8) := by omega
      have g3' : ¬ (9223372036854775807 < 7 + tg.size + 8 + tp.size) := by omega
      have g4' : ¬ (9223372036854775807 < 7 + tg.size + 8 + tp.size + 12) := by omega
      have g5' : ¬ (9223372036854775807 < 7 + tg.size + 8 + tp.size + 12 + tc.size) := by omega
      go_wp2_with fail
      refine HGRV.out.mono ?_
      rintro e w2 ⟨rfl, hb2⟩
      have HB2 := hid hb2
      have HPOV := hid (HPO.out w2 (HBT.out w2 hb2))
      clear hb2 HGRV HPO
      go_wp2_with fail
      refine HPOV.out.mono ?_
      rintro e w3 ⟨rfl, hb3⟩
      have HB3 := hid (HB2.out.trans (hb3.mono HB2.out.size))
      clear hb3 HPOV
      go_wp2_with fail
      refine (HF1.out w3).mono ?_
      rintro e w4 ⟨rfl, hb4⟩
      have HB4 := hid (HB3.out.trans (hb4.mono HB3.out.size))
      have HCMV := hid (HCM.out w4 (HBT.out w4 HB4.out))
      clear hb4 HF1 HCM
      go_wp2_with fail
      refine HCMV.out.mono ?_
      rintro e w5 ⟨gg5, cc5, rfl, hb5⟩
      have HB5 := hid (HB4.out.trans (hb5.mono HB4.out.size))
      clear hb5 HCMV
      go_wp2_with fail
      refine (HF2.out w5).mono ?_
      rintro e w6 ⟨rfl, hb6⟩
      have HB6 := hid (HB5.out.trans (hb6.mono HB5.out.size))
      have HTPV := hid (HTP.out w6 (HBT.out w6 HB6.out))
      clear hb6 HF2 HTP
      obtain ⟨X, hX⟩ : ∃ X : ByteArray, X = ⟨#[103, 114, 111, 119, 116, 104, 32]⟩ ++ tg ++ ⟨#[32, 112, 101, 114, 105, 111, 100, 32]⟩ ++ tp ++ ⟨#[32, 99, 111, 109, 112, 111, 110, 101, 110, 116, 115, 32]⟩ ++ tc := ⟨_, rfl⟩
      have hXs : X.size ≤ 2000 := by
        rw [hX]
        simp only [ByteArray.size_append]
        show 7 + tg.size + 8 + tp.size + 12 + tc.size ≤ 2000
        omega
      rw [← hX] at HTX
      go_wp2_with (rw [← hX])
      first | rw [← hX] | skip
      clear hX g1 g2 g3 g4 g5 g1' g2' g3' g4' g5'
      have g1 : ¬ ((9223372036854775807 : Int) < (X.size : Int) + 6) := by omega
      have g2 : ¬ ((9223372036854775807 : Int) < (X.size : Int) + 6 + (tt.size : Int)) := by omega
      have g3 : ¬ ((9223372036854775807 : Int) < (X.size : Int) + 6 + (tt.size : Int) + 7) := by omega
      have g4 : ¬ ((9223372036854775807 : Int) < (X.size : Int) + 6 + (tt.size : Int) + 7 + (tl.size : Int)) := by omega
      have g5 : ¬ ((9223372036854775807 : Int) < (X.size : Int) + 6 + (tt.size : Int) + 7 + (tl.size : Int) + 8) := by omega
      have g6 : ¬ ((9223372036854775807 : Int) < (X.size : Int) + 6 + (tt.size : Int) + 7 + (tl.size : Int) + 8 + (tk.size : Int)) := by omega
      have g1' : ¬ (9223372036854775807 < X.size + 6) := by omega
      have g2' : ¬ (9223372036854775807 < X.size + 6 + tt.size) := by omega
      have g3' : ¬ (9223372036854775807 < X.size + 6 + tt.size + 7) := by omega
      have g4' : ¬ (9223372036854775807 < X.size + 6 + tt.size + 7 + tl.size) := by omega
      have g5' : ¬ (9223372036854775807 < X.size + 6 + tt.size + 7 + tl.size + 8) := by omega
      have g6' : ¬ (9223372036854775807 < X.size + 6 + tt.size + 7 + tl.size + 8 + tk.size) := by omega
      refine HTPV.out.mono ?_
      rintro e w7 ⟨ga7, gc7, rfl, hr7, hb7⟩
      have HB7 := hid (HB6.out.trans (hb7.mono HB6.out.size))
      have HN1V := hid (HN1.out w7 ga7 gc7 hr7)
      clear hb7 hr7 HTPV HN1
      go_wp2_with fail
      refine HN1V.out.mono ?_
      rintro e w8 ⟨rfl, hb8⟩
      have HB8 := hid (HB7.out.trans (hb8.mono HB7.out.size))
      have HLOV := hid (HLO.out w8 (HBT.out w8 HB8.out))
      clear hb8 HN1V HLO
      go_wp2_with fail
      refine HLOV.out.mono ?_
      rintro e w9 ⟨g9, rfl, ho9, hb9⟩
      have HB9 := hid (HB8.out.trans (hb9.mono HB8.out.size))
      have HJOV := hid (HJO.out _ g9 w9 ho9)
      clear hb9 ho9 HLOV HJO
      go_wp2_with fail
      refine HJOV.out.mono ?_
      rintro e w10 ⟨rfl, hb10⟩
      have HB10 := hid (HB9.out.trans (hb10.mono HB9.out.size))
      have HN2W := hid (HN2V.out w10 HB10.out)
      clear hb10 HJOV HN2V
      go_wp2_with fail
      refine HN2W.out.mono ?_
      rintro e w11 ⟨rfl, hb11⟩
      have HB11 := hid (HBT.out _ (HB10.out.trans (hb11.mono HB10.out.size)))
      clear hb11
      go_wp2
      go_ret
      exact ⟨by rw [HTX.out]; rfl, HB11.out⟩
end Go.Proofs.YtpfeflhcbcgbfaaGreatDoor
