/- Labelled graphs: a report, the reference's function. Conditions: a valid labelled graph, its arcs in memory. -/
import Derived.Test.YtpfeflhcbcgbfaaDoorDescP
import Derived.Test.YtpfeflhcbcgbfaaDoorSmlS
namespace Go.Proofs.YtpfeflhcbcgbfaaDoor
open Go.RowKit

set_option maxHeartbeats 4000000 in
set_option maxRecDepth 100000 in
theorem spec_DescribeLabels_yes (L S : Nat) (a : Option Addr) (n c : Nat) (G : List (Nat × Nat × Nat)) (w : World) (hr : RowAt w a (n * 3) (arcVals (arcN G))) (hG : LabG L S G) (hn : n ≤ 1000000) (h : labsB L S (arcN G) = true) :
    Calls Tryd.prog 5 #[.agg #[.int .i64 L, .int .i64 S, .slice a n c]] w fun e w' => e = .returned (.string (labT (fmtB (S : Int)) (fmtB (n : Int)) (resolvB L S (arcN G)) (syncT (synO L S G)) (smlT (smlO S L G)) (rdT L S G))) ∧ Below w.heap.size w w' := by
  have HBX := hid (fun (V : World) (hV : Below (w.heap.size + 1) (w.alloc (.cells #[.int .i64 L, .int .i64 S, .slice a n c] 29)) V) => lab_box hV)
  obtain ⟨W2, hW2⟩ : ∃ W2, W2 = w.alloc (.cells #[.int .i64 L, .int .i64 S, .slice a n c] 29) := ⟨_, rfl⟩
  have hB : Below w.heap.size w W2 := by rw [hW2]; exact (Below.refl _ _).alloc (Nat.le_refl _) _
  have hsz : W2.heap.size = w.heap.size + 1 := by rw [hW2]; simp
  rw [← hW2, ← hsz] at HBX
  have hS12 := hG.s12
  have HI := hid (fun (W : World) (hW : Below w.heap.size w W) => spec_IsLabels_c L S a n c (arcN G) W (hr.below hW (Nat.le_refl _)) (by omega))
  rw [h] at HI
  have HFS := hid (fun W => spec_FormatInt_c (S : Int) W (by omega) (by omega))
  have HFN := hid (fun W => spec_FormatInt_c (n : Int) W (by omega) (by omega))
  have hfS := fmtB_le (x := (S : Int)) ⟨by omega, by omega⟩
  have hfN := fmtB_le (x := (n : Int)) ⟨by omega, by omega⟩
  have HRES := hid (fun (W : World) (hW : Below w.heap.size w W) => spec_IsResolving_c L S a n c (arcN G) W (hr.below hW (Nat.le_refl _)) (by omega))
  have HSYN := hid (fun (W : World) (hW : Below w.heap.size w W) => show Calls Tryd.prog 13 #[.agg #[.int .i64 L, .int .i64 S, .slice a n c]] W fun e w' => e = .returned (synV (synO L S G)) ∧ Below W.heap.size W w' from by
    cases hb : resolvB L S (arcN G) with
    | true =>
      have := spec_ShortestSync_yes L S a n c G W (hr.below hW (Nat.le_refl _)) hG (by omega) hb
      unfold synO
      rw [hb]
      exact this
    | false =>
      have := spec_ShortestSync_no L S a n c (arcN G) W (hr.below hW (Nat.le_refl _)) (by omega) hb
      unfold synO
      rw [hb]
      exact this)
  have HREO := hid (fun (W : World) (hW : Below w.heap.size w W) => spec_ResolveLabels_yes L S a n c G W (hr.below hW (Nat.le_refl _)) hn h hG)
  have HLIV := hid (fun (K : Nat → Bool) (hK : ∀ i, i < S → (K i = true ↔ LivesG G S i)) => resOf_liv (L := L) hG hK)
  have HLAB := hid (fun (s : Nat) (A : List (Nat × Nat × Nat)) (hA : resOf (livK G S) S G L = some (s, A)) => resOf_lab hG hA)
  have HRW := hid (fun (W : World) (k : Nat) (hW : Below w.heap.size w W) (hk : k ≤ 6) => spec_ReadWords_yes L S a n c G k W (hr.below hW (Nat.le_refl _)) hG (by omega) h hk)
  have HNT := hid (fun (W : World) (ar : Option Addr) (cr : Nat) (hrr : RowAt W ar 6 (intVals (cntL (rwI G L S) 0 6))) => spec_NumbersText_c ar 6 cr _ W hrr (fun x hx => by obtain ⟨i, h1, h2, rfl⟩ := cntL_mem hx; exact rw_i64 hG.k3 (by omega)) (by omega))
  rw [numsT_cnt _ _ _ (by omega), show joinV ((cntL (rwI G L S) 0 6).map fmtB) ⟨#[44]⟩ = rdT L S G from rfl] at HNT
  have HCS := hid (fun j => cntL_succ (rwI G L S) 0 j)
  have hsy := syncT_size hG
  have hsm := smlT_size (smlO S L G) (smlO_le hG)
  have hrd := rdT_size (S := S) hG.k3 G
  have hsO : smlO S L G = (resOf (livK G S) S G L).map fun p => cntZ p.2 L p.1 := rfl
  have HTXT := hid (fun (r : Bool) (x y z : ByteArray) => labT_eq (fmtB (S : Int)) (fmtB (n : Int)) r x y z)
  have HHD := hid (show headS (fmtB (S : Int)) (fmtB (n : Int)) true = headS (fmtB (S : Int)) (fmtB (n : Int)) false ++ ⟨#[32, 114, 101, 115, 111, 108, 118, 105, 110, 103]⟩ from rfl)
  have HHF := hid (show headS (fmtB (S : Int)) (fmtB (n : Int)) false = ⟨#[115, 116, 97, 116, 101, 115, 32]⟩ ++ fmtB (S : Int) ++ ⟨#[32, 97, 114, 99, 115, 32]⟩ ++ fmtB (n : Int) from rfl)
  obtain ⟨fS, hfS'⟩ : ∃ f, f = fmtB (S : Int) := ⟨_, rfl⟩
  obtain ⟨fN, hfN'⟩ : ∃ f, f = fmtB (n : Int) := ⟨_, rfl⟩
  obtain ⟨rs, hrs⟩ : ∃ r, r = resolvB L S (arcN G) := ⟨_, rfl⟩
  obtain ⟨sy, hsy'⟩ : ∃ s, s = synO L S G := ⟨_, rfl⟩
  obtain ⟨ro, hro⟩ : ∃ r, r = resOf (livK G S) S G L := ⟨_, rfl⟩
  obtain ⟨sm, hsm'⟩ : ∃ s, s = smlO S L G := ⟨_, rfl⟩
  obtain ⟨rd, hrd'⟩ : ∃ r, r = rdT L S G := ⟨_, rfl⟩
  rw [← hfS'] at HFS hfS HTXT HHD HHF
  rw [← hfN'] at HFN hfN HTXT HHD HHF
  rw [← hrs] at HRES
  rw [← hsy'] at HSYN hsy
  rw [← hro] at HLIV HLAB hsO
  rw [← hsm'] at hsm hsO
  rw [← hrd'] at HNT hrd
  rw [← hfS', ← hfN', ← hrs, ← hsy', ← hsm', ← hrd', HTXT.out]
  have HSO := hid hsO
  have HB0 := hid hB
  obtain ⟨⟨p0, p1, p2⟩, _⟩ := HBX.out W2 (Below.refl _ _)
  clear hr hG h hfS' hfN' hrs hsy' hro hsm' hrd' hsO hB HTXT
  obtain ⟨hd, hhd⟩ : ∃ hd, hd = headS fS fN false := ⟨_, rfl⟩
  rw [← hhd] at HHF HHD
  have hdz : hd.size ≤ 60 := by
    rw [HHF.out]
    simp only [ByteArray.size_append]
    show 7 + fS.size + 6 + fN.size ≤ 60
    omega
  have HHH := hid hhd
  clear hhd
  obtain ⟨h2, hh2⟩ : ∃ h2, h2 = headS fS fN rs := ⟨_, rfl⟩
  have hz2 : h2.size ≤ 70 := by
    rw [hh2]
    cases rs
    · rw [← HHH.out]; omega
    · rw [HHD.out, ByteArray.size_append]
      show hd.size + 10 ≤ 70
      omega
  have HH2 := hid hh2
  rw [← hh2]
  clear hh2
  obtain ⟨st, hst⟩ : ∃ st, st = syncT sy := ⟨_, rfl⟩
  rw [← hst] at hsy
  rw [← hst]
  have HD1 := hid (fun W => l35Dot_c (⟨(sy.getD []).toArray⟩ : ByteArray) W)
  obtain ⟨d1, hd1⟩ : ∃ d, d = dotB (⟨(sy.getD []).toArray⟩ : ByteArray) := ⟨_, rfl⟩
  rw [← hd1] at HD1
  have HST := hid (show st = if sy.isSome = true then d1 else ⟨#[45]⟩ from by
    rw [hst, hd1]
    cases sy <;> rfl)
  unfold synV at HSYN
  obtain ⟨s1, hs1⟩ : ∃ s, s = (⟨(sy.getD []).toArray⟩ : ByteArray) := ⟨_, rfl⟩
  rw [← hs1] at HD1 HSYN
  obtain ⟨b1, hb1⟩ : ∃ b, b = sy.isSome := ⟨_, rfl⟩
  rw [← hb1] at HST HSYN
  clear hst hd1 hs1 hb1 sy
  obtain ⟨sx, hsx⟩ : ∃ sx, sx = smlT sm := ⟨_, rfl⟩
  rw [← hsx] at hsm
  rw [← hsx]
  have HSX := hid hsx
  clear hsx
  go_enter Tryd.func5, Tryd.ntmps5
  go_wp2_with (rw [← hW2])
  first | rw [← hW2] | skip
  clear hW2 p0 p1 p2
  refine (HI.out _ HB0.out).mono ?_
  rintro e w1 ⟨rfl, hb1⟩
  have HB := hid hb1
  clear hb1 HI
  have hbZ : Below W2.heap.size W2 w1.drew := HB.out.drew
  have HKK := hid (fun (V : World) (hV : Below W2.heap.size W2 V) => show V.cell? ⟨w.heap.size, 0, none⟩ = some (.int .i64 L) ∧ V.cell? ⟨w.heap.size, 1, none⟩ = some (.int .i64 S) ∧ V.cell? ⟨w.heap.size, 2, none⟩ = some (.slice a n c) ∧ Below W2.heap.size W2 V from by
    obtain ⟨⟨q0, q1, q2⟩, _⟩ := HBX.out V hV
    exact ⟨q0, q1, q2, hV⟩)
  have g1 : ¬ ((9223372036854775807 : Int) < 7 + (fS.size : Int)) := by omega
  have g2 : ¬ ((9223372036854775807 : Int) < 7 + (fS.size : Int) + 6) := by omega
  have g3 : ¬ ((9223372036854775807 : Int) < 7 + (fS.size : Int) + 6 + (fN.size : Int)) := by omega
  have g1' : ¬ (9223372036854775807 < 7 + fS.size) := by omega
  have g2' : ¬ (9223372036854775807 < 7 + fS.size + 6) := by omega
  have g3' : ¬ (9223372036854775807 < 7 + fS.size + 6 + fN.size) := by omega
  go_wp2
  go_region_held3 (fun V => V.cell? ⟨w.heap.size, 0, none⟩ = some (.int .i64 L) ∧ V.cell? ⟨w.heap.size, 1, none⟩ = some (.int .i64 S) ∧ V.cell? ⟨w.heap.size, 2, none⟩ = some (.slice a n c) ∧ Below W2.heap.size W2 V)
    (first | with_reducible exact HKK.out _ hbZ)
    (first | (go_at_call_of 11 S; refine (HFS.out _).mono ?_; rintro e w3 ⟨rfl, hb3⟩; have hbZ := hbZ.trans (hb3.mono hbZ.size)) | (go_at_call_of 11 n; refine (HFN.out _).mono ?_; rintro e w4 ⟨rfl, hb4⟩; have hbZ := hbZ.trans (hb4.mono hbZ.size)))
  have HB := hid hbZ
  rw [← HHF.out]
  clear hbZ hb3 hb4 HKK HFN g1 g2 g3 g1' g2' g3' HHF
  obtain ⟨⟨s0, s1, s2⟩, _, hbw⟩ := HBX.out _ HB.out
  go_wp2_with fail
  clear s0 s1 s2
  refine (HRES.out _ hbw).mono ?_
  rintro e w5 ⟨rfl, hb⟩
  have HB := hid (HB.out.trans (hb.mono HB.out.size))
  clear hb hbw
  clear HRES
  go_upto_if 27 with fail
  go_cut [3] from 28 to 29 (fun x3 wx => x3 = .string h2 ∧ Hid (Below W2.heap.size W2 wx))
  case first =>
    clear HSYN HREO HLIV HLAB HRW HNT HCS HSO
    cases rs
    · have HE := hid (show h2 = hd from by rw [HH2.out, HHH.out])
      go_wp2
      go_meet
      case rel => exact ⟨by rw [HE.out], HB⟩
    · have HE := hid (show h2 = hd ++ ⟨#[32, 114, 101, 115, 111, 108, 118, 105, 110, 103]⟩ from by rw [HH2.out, HHD.out])
      have g1 : ¬ ((9223372036854775807 : Int) < (hd.size : Int) + 10) := by omega
      go_wp2
      go_meet
      case rel => exact ⟨by rw [HE.out], HB⟩
  case rest =>
    obtain ⟨rfl, HB⟩ := hcut
    clear HH2 HHD HHH hdz hfS hfN
    obtain ⟨⟨s0, s1, s2⟩, _, hbw⟩ := HBX.out _ HB.out
    go_wp2_with fail
    clear s0 s1 s2
    refine (HSYN.out _ hbw).mono ?_
    rintro e w6 ⟨rfl, hb⟩
    have HB := hid (HB.out.trans (hb.mono HB.out.size))
    clear hb hbw
    clear HSYN
    go_wp2_with fail
    refine (HD1.out _).mono ?_
    rintro e w7 ⟨rfl, rfl⟩
    go_upto_if 38 with fail
    go_cut [4] from 39 to 39 (fun x3 wx => x3 = .string st ∧ Hid (Below W2.heap.size W2 wx))
    case first =>
      clear HREO HLIV HLAB HRW HNT HCS HSO
      cases b1
      · have HE := hid (show st = ⟨#[45]⟩ from HST.out)
        go_wp2
        go_meet
        case rel => exact ⟨by rw [HE.out], HB⟩
      · have HE := hid (show st = d1 from HST.out)
        go_wp2
        go_meet
        case rel => exact ⟨by rw [HE.out], HB⟩
    case rest =>
      obtain ⟨rfl, HB⟩ := hcut
      clear HST HD1
      obtain ⟨⟨s0, s1, s2⟩, _, hbw⟩ := HBX.out _ HB.out
      go_wp2_with fail
      clear s0 s1 s2
      refine (HREO.out _ hbw).mono ?_
      rintro e w8 ⟨K, hK, g8, c8, rfl, ho8, hb⟩
      have HKE := hid (HLIV.out K hK)
      rw [HKE.out] at ho8
      rw [HKE.out]
      have HBW8 := hid (hbw.trans (hb.mono hbw.size))
      have HB := hid (HB.out.trans (hb.mono HB.out.size))
      clear hb hbw
      clear HREO HLIV HKE hK
      have HO8 := hid ho8
      clear ho8
      unfold labV
      obtain ⟨L9, hL9⟩ : ∃ L9 : Nat, L9 = if ro.isSome = true then L else 0 := ⟨_, rfl⟩
      rw [← hL9]
      have HL9 := hid hL9
      clear hL9
      obtain ⟨W9, hW9⟩ : ∃ W9, W9 = w8.alloc (.cells #[.int .i64 (L9 : Int), .int .i64 ((ro.getD (0, [])).1 : Nat), .slice g8 (ro.getD (0, [])).2.length c8] 29) := ⟨_, rfl⟩
      have hb9 : Below w8.heap.size w8 W9 := by rw [hW9]; exact (Below.refl _ _).alloc (Nat.le_refl _) _
      have HX9 := hid (show BoxC W9 w8.heap.size #[.int .i64 (L9 : Int), .int .i64 ((ro.getD (0, [])).1 : Nat), .slice g8 (ro.getD (0, [])).2.length c8] by rw [hW9]; exact BoxC.new _ _ _)
      have HB9 := hid (HB.out.trans (hb9.mono HB.out.size))
      have HW9 := hid hW9
      have hb89 := hb9
      clear hW9 hb9
      obtain ⟨⟨x0, x1, x2⟩, _⟩ := HX9.out.c3
      go_upto_if 44 with fail
      first | rw [← HW9.out] | trace_state
      go_cut [6, 9, 10] from 45 to 52 (fun x6 _ _ wx => x6 = .string sx ∧ Hid (Below W2.heap.size W2 wx))
      case first =>
        clear HRW HNT HCS
        cases ro with
        | none =>
          have HE := hid (show sx = ⟨#[45]⟩ from by rw [HSX.out, HSO.out]; rfl)
          clear HSX HSO HLAB HO8
          simp only [Option.isSome_none]
          go_wp2
          go_meet
          case rel => exact ⟨by rw [HE.out], HB9⟩
        | some p =>
          obtain ⟨s, A⟩ := p
          obtain rfl : L = L9 := HL9.out.symm
          obtain ⟨hGA, hRA, hAn⟩ := HLAB.out s A rfl
          have hra := owns_rowAt3 HO8.out (by show A.length * 3 ≤ _; omega)
          have HSM := hid (spec_SmallestLabels_yes L s g8 A.length c8 A W9 (hra.below hb89 (Nat.le_refl _)) (by omega) hRA hGA)
          unfold SmalPost at HSM
          have HCZ := hid (fun t (h : stabN A L s t) => cntZ_eq hGA h)
          have HE := hid (show sx = fmtB (cntZ A L s : Nat) from by rw [HSX.out, HSO.out]; rfl)
          have hcz := cntZ_le A L s
          have hs12 := hGA.s12
          simp only [Option.isSome_some, Option.getD_some, if_true] at x0 x1 x2
          clear HSX HSO HLAB HO8 hGA hRA hra HX9
          simp only [Option.isSome_some, Option.getD_some, if_true]
          go_wp2_with fail
          refine HSM.out.mono ?_
          rintro e w10 ⟨t, m', c', g', hstab, rfl, hb⟩
          have HCT := hid (HCZ.out t hstab)
          rw [HCT.out]
          have HB10 := hid (HB9.out.trans (hb.mono HB9.out.size))
          have HFZ := hid (fun W => spec_FormatInt_c ((cntZ A L s : Nat) : Int) W (by omega) (by omega))
          rw [← HE.out] at HFZ
          obtain ⟨z, hz⟩ : ∃ z, z = cntZ A L s := ⟨_, rfl⟩
          rw [← hz] at HFZ
          rw [← hz]
          clear hz HCT HCZ HSM HE hb hstab x0 x1 x2
          have HB11 := hid (HB10.out.alloc HB10.out.size (.cells #[.int .i64 L, .int .i64 z, .slice g' m' c'] 29))
          go_wp2_with fail
          refine (HFZ.out _).mono ?_
          rintro e w11 ⟨rfl, hb⟩
          have HB12 := hid (HB11.out.trans (hb.mono HB11.out.size))
          go_wp2
          go_meet
          case rel => exact ⟨rfl, HB12⟩
      case rest =>
        obtain ⟨rfl, HB⟩ := hcut
        clear HL9 HSX HSO HLAB HO8 HX9 HB9 x0 x1 x2 HBW8 hb89 HW9
        have hszB := HB.out.size
        have HO0 := hid (owns_lit3 (w := wc) (base := W2.heap.size) (e := 3) #[] [] rfl hszB (by unfold maxLen; simp))
        have HB1 := hid (HB.out.alloc hszB (.cells #[] 3))
        go_wp2
        go_loopw [11, 12] (fun v i wr => ∃ j g cq : Nat, j ≤ 6 ∧ i = .int .i64 j ∧ v = .slice (some ⟨g, 0, none⟩) j cq ∧ wr.ownsRow W2.heap.size 3 1 (.slice (some ⟨g, 0, none⟩) j cq) j (intVals (cntL (rwI G L S) 0 j)) ∧ Below W2.heap.size W2 wr) (fun _ i _ => 6 - (intOf i).toNat)
        case atStart => exact ⟨0, _, 0, by omega, rfl, rfl, HO0.out, HB1.out⟩
        case round =>
          clear HO0 HB1 hszB
          obtain ⟨j, g, cq, hj, rfl, rfl, hown, hbel⟩ := hrel
          by_cases hlt : j < 6
          · have hji : (j : Int) ≤ 5 := by omega
            have HSJ := hid (HCS.out j)
            rw [Nat.zero_add] at HSJ
            obtain ⟨⟨s0, s1', s2⟩, _, hbw⟩ := HBX.out wr hbel
            have HRJ := hid (HRW.out wr j hbw (by omega))
            unfold RwPost at HRJ
            obtain ⟨y, hy⟩ : ∃ y, y = rwN G (2 ^ S - 1) L j := ⟨_, rfl⟩
            rw [← hy] at HRJ
            rw [show rwI G L S j = (y : Int) by unfold rwI; rw [hy]] at HSJ
            have HO := hid hown
            have HBL := hid hbel
            clear hown hy hbel hbw
            go_wp2_with fail
            refine HRJ.out.mono ?_
            rintro e w12 ⟨gq, cw, rfl, hb1⟩
            have hU := (owns_below HO.out hb1).alloc (.cells #[.int .i64 (y : Int)] 3)
            have hbel1 := HBL.out.trans (hb1.mono HBL.out.size)
            have HG := hid (HO.out.lt g rfl)
            clear s0 s1' s2
            go_wp2_with (first | (at_builtin; go_must (refine wpList_appN rfl _ _ 41 rfl W2.heap.size 3 (.int .i64 0) 8 Tryd.underlying41 infoIntZ rfl g cq j _ hU rfl w12.heap.size 0 1 1 [.int .i64 (y : Int)] rfl rfl (by intro q u hq; match q, hq with | 0, hq => simp at hq; subst hq; simp) (by intro u hu; simp at hu; subst hu; rfl) (by omega) (by unfold maxLen; omega) (by have := hbel1.size; simp; omega) ?_); intro g2 c3 w13 hown2 hgr2 hb2 hlt2'))
            have hb3 : Below W2.heap.size W2 w13 := (hbel1.alloc hbel1.size _).grown hgr2 (by have := hbel1.size; simp; omega) (by rintro k ⟨⟩; exact HG.out.1)
            go_roundw
            case rel => exact ⟨j + 1, g2, c3, by omega, by go_num, rfl, by rw [HSJ.out]; exact hown2, hb3⟩
            case measure => simp [intOf]; omega
          · obtain rfl : j = 6 := by omega
            obtain ⟨ar, cr, he, hrr⟩ := owns_rowAt hown (by omega)
            simp only [Value.slice.injEq, true_and] at he
            obtain ⟨rfl, rfl⟩ := he
            have HR := hid (HNT.out wr _ cq hrr)
            have HBF := hid (HB0.out.trans (hbel.mono HB0.out.size))
            have g1 : ¬ ((9223372036854775807 : Int) < (h2.size : Int) + 6) := by omega
            have g2 : ¬ ((9223372036854775807 : Int) < (h2.size : Int) + 6 + (st.size : Int)) := by omega
            have g3 : ¬ ((9223372036854775807 : Int) < (h2.size : Int) + 6 + (st.size : Int) + 10) := by omega
            have g4 : ¬ ((9223372036854775807 : Int) < (h2.size : Int) + 6 + (st.size : Int) + 10 + (sx.size : Int)) := by omega
            have g5 : ¬ ((9223372036854775807 : Int) < (h2.size : Int) + 6 + (st.size : Int) + 10 + (sx.size : Int) + 7) := by omega
            have g6 : ¬ ((9223372036854775807 : Int) < (h2.size : Int) + 6 + (st.size : Int) + 10 + (sx.size : Int) + 7 + (rd.size : Int)) := by omega
            clear hown hrr hbel HRW HCS HNT
            go_wp2_with fail
            refine HR.out.mono ?_
            rintro e w14 ⟨rfl, hb⟩
            have HBE := hid (HBF.out.trans (hb.mono HBF.out.size))
            go_wp2
            go_ret
            exact ⟨rfl, HBE.out⟩
end Go.Proofs.YtpfeflhcbcgbfaaDoor
