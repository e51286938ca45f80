/- The law FnRules returns true for all bytes. No condition. -/
import Derived.Test.YtcmmlldincflkaaRulesW
import Derived.Test.YtcmmlldincflkaaHasInt
import Derived.Test.YtcmmlldincflkaaBig
import Derived.Test.YtcmmlldincflkaaSame
import Derived.Test.YtcmmlldincflkaaBytesIn
import Derived.WalkArith
import Derived.Deep.CutRange
namespace Go.Proofs.Ytcmmlldincflkaa
open Go.ChangeShapes Go.WideShapes Go.ChangeAt Go.RowKit
open Go.ChangeMaps (open_string shut_string)

set_option maxHeartbeats 8000000 in
set_option maxRecDepth 100000 in
theorem walk_FnRules (W : World) (v : Value) (h : BytesIn W v) :
    Calls Try.prog 3 #[v] W fun e W' => e = .returned (.bool true) ∧ Below W.heap.size W W' := by
  obtain ⟨a, n, c, lb, rfl, hr⟩ := h
  have hlim := hr.lim
  by_cases hbig : 1048576 < n
  · go_enter Try.func3, Try.ntmps3
    go_wp2_with fail
    refine (big_c a n c _ hlim).mono ?_
    rintro e w1 ⟨rfl, rfl⟩
    rw [decide_eq_true hbig]
    go_wp2
    go_ret
    exact ⟨rfl, Below.refl _ _⟩
  have K := hid ((kep_row hr).and (kep_bel W))
  clear hr
  go_enter Try.func3, Try.ntmps3
  go_wp2_with fail
  refine (big_c a n c _ hlim).mono ?_
  rintro e w1 ⟨rfl, rfl⟩
  rw [decide_eq_false hbig]
  go_wp2_with fail
  refine (DrawRuleCode_c a n c lb _ K.out.now.1).mono ?_
  rintro e w1 ⟨n0, rfl, hn0, hn0', hb⟩
  have K := hid (K.out.mv hb)
  clear hb
  obtain ⟨k1, m1, o1, b1, hI, hS, hN1⟩ := rule_ex n0
  have HI := hid hI
  have HS := hid hS
  have HN1 := hid hN1
  clear hI hS hN1
  unfold Ret codeT at HI HS
  unfold Ret at HN1
  go_wp2_with fail
  refine (HI.out _).mono ?_
  rintro e w2 ⟨rfl, hb⟩
  have K := hid (K.out.mv hb)
  clear hb
  have hal := bel_alloc w2 (.cells #[.int .i64 k1, .int .i64 m1, .string o1] 26)
  have K := hid ((K.out.mv hal).and (kep_box3 w2 (.int .i64 k1) (.int .i64 m1) (.string o1) 26))
  clear hal
  go_wp2_with fail
  refine (HS.out _).mono ?_
  rintro e w3 ⟨rfl, hb⟩
  have K := hid (K.out.mv hb)
  clear hb
  have hal := bel_alloc w3 (.cells #[.int .i64 k1, .int .i64 m1, .string o1] 26)
  have K := hid ((K.out.mv hal).and (kep_box3 w3 (.int .i64 k1) (.int .i64 m1) (.string o1) 26))
  clear hal
  clear HI HS
  go_wp2_with fail
  refine (DrawMirrorCode_c a n c lb _ K.out.now.1.1.1).mono ?_
  rintro e w4 ⟨kd, md, od, rfl, hod, hb⟩
  have K := hid (K.out.mv hb)
  clear hb
  have hal := bel_alloc w4 (.cells #[.int .i64 kd, .int .i64 md, .string od] 26)
  have K := hid ((K.out.mv hal).and (kep_box3 w4 (.int .i64 kd) (.int .i64 md) (.string od) 26))
  clear hal
  obtain ⟨k2, m2, o2, b2, hI, hS, hN2⟩ := mir_ex kd md od (Nat.le_trans hod (by unfold maxLen; omega))
  have HI := hid hI
  have HS := hid hS
  have HN2 := hid hN2
  clear hI hS hN2
  unfold Ret codeT at HI HS
  unfold Ret codeT at HN2
  obtain ⟨p00, p01, p02⟩ := K.out.now.2
  go_wp2_with fail
  clear p00 p01 p02
  refine (HI.out _).mono ?_
  rintro e w5 ⟨rfl, hb⟩
  have K := hid (K.out.mv hb)
  clear hb
  have hal := bel_alloc w5 (.cells #[.int .i64 k2, .int .i64 m2, .string o2] 26)
  have K := hid ((K.out.mv hal).and (kep_box3 w5 (.int .i64 k2) (.int .i64 m2) (.string o2) 26))
  clear hal
  obtain ⟨p00, p01, p02⟩ := K.out.now.1.2
  go_wp2_with fail
  clear p00 p01 p02
  refine (HS.out _).mono ?_
  rintro e w6 ⟨rfl, hb⟩
  have K := hid (K.out.mv hb)
  clear hb
  have hal := bel_alloc w6 (.cells #[.int .i64 k2, .int .i64 m2, .string o2] 26)
  have K := hid ((K.out.mv hal).and (kep_box3 w6 (.int .i64 k2) (.int .i64 m2) (.string o2) 26))
  clear hal
  clear HI HS
  go_wp2_with fail
  refine (DrawExchangeCode_c a n c lb _ K.out.now.1.1.1.1.1.1).mono ?_
  rintro e w7 ⟨ke, me, oe, rfl, hoe, hb⟩
  have K := hid (K.out.mv hb)
  clear hb
  have hal := bel_alloc w7 (.cells #[.int .i64 ke, .int .i64 me, .string oe] 26)
  have K := hid ((K.out.mv hal).and (kep_box3 w7 (.int .i64 ke) (.int .i64 me) (.string oe) 26))
  clear hal
  obtain ⟨k3, m3, o3, b3, hI, hS, hN3⟩ := exch_ex ke me oe (Nat.le_trans hoe (by unfold maxLen; omega))
  have HI := hid hI
  have HS := hid hS
  have HN3 := hid hN3
  clear hI hS hN3
  unfold Ret codeT at HI HS
  unfold Ret codeT at HN3
  obtain ⟨p00, p01, p02⟩ := K.out.now.2
  go_wp2_with fail
  clear p00 p01 p02
  refine (HI.out _).mono ?_
  rintro e w8 ⟨rfl, hb⟩
  have K := hid (K.out.mv hb)
  clear hb
  have hal := bel_alloc w8 (.cells #[.int .i64 k3, .int .i64 m3, .string o3] 26)
  have K := hid ((K.out.mv hal).and (kep_box3 w8 (.int .i64 k3) (.int .i64 m3) (.string o3) 26))
  clear hal
  obtain ⟨p00, p01, p02⟩ := K.out.now.1.2
  go_wp2_with fail
  clear p00 p01 p02
  refine (HS.out _).mono ?_
  rintro e w9 ⟨rfl, hb⟩
  have K := hid (K.out.mv hb)
  clear hb
  have hal := bel_alloc w9 (.cells #[.int .i64 k3, .int .i64 m3, .string o3] 26)
  have K := hid ((K.out.mv hal).and (kep_box3 w9 (.int .i64 k3) (.int .i64 m3) (.string o3) 26))
  clear hal
  clear HI HS
  go_wp2_with fail
  refine (DrawRuleClass_c a n c lb _ K.out.now.1.1.1.1.1.1.1.1.1).mono ?_
  rintro e w10 ⟨n1, rfl, hn1, hn1', hb⟩
  have K := hid (K.out.mv hb)
  clear hb
  obtain ⟨cs, hCI, hCS, hc4, hcase, hCM⟩ := class_ex n1
  have HCI := hid hCI
  have HCS := hid hCS
  have HCM := hid hCM
  have HCA := hid hcase
  clear hCI hCS hcase hCM
  unfold RetL at HCI HCS HCM
  obtain ⟨L, hL⟩ : ∃ L, L = cs.length := ⟨_, rfl⟩
  rw [← hL] at HCI HCS HCM hc4 HCA
  have HL := hid hL
  clear hL
  go_wp2_with fail
  refine (HCI.out _).mono ?_
  rintro e w11 ⟨vc, rfl, hoc, hb⟩
  obtain ⟨ac, dc, rfl, hrc⟩ := owns_rowAt hoc (by omega)
  have K := hid ((K.out.mv hb).and (kep_row hrc))
  clear hb hoc hrc HCI
  go_wp2_with fail
  refine (DrawIsLinearRule_c a n c lb _ K.out.now.1.1.1.1.1.1.1.1.1.1).mono ?_
  rintro e w12 ⟨n2, rfl, hn2, hn2', hb⟩
  have K := hid (K.out.mv hb)
  clear hb
  go_wp2_with fail
  refine (DrawRuleNumber_c a n c lb _ K.out.now.1.1.1.1.1.1.1.1.1.1).mono ?_
  rintro e w13 ⟨kr, mr, or, rfl, hor, hb⟩
  have K := hid (K.out.mv hb)
  clear hb
  have hal := bel_alloc w13 (.cells #[.int .i64 kr, .int .i64 mr, .string or] 26)
  have K := hid ((K.out.mv hal).and (kep_box3 w13 (.int .i64 kr) (.int .i64 mr) (.string or) 26))
  clear hal
  obtain ⟨bl, hLI, hLS⟩ := lin_ex n2
  have HLI := hid hLI
  have HLS := hid hLS
  clear hLI hLS
  unfold Ret at HLI HLS
  have HNI := hid (fun w => num_i kr mr or w (Nat.le_trans hor (by unfold maxLen; omega)))
  have HNS := hid (fun w => num_s kr mr or w (Nat.le_trans hor (by unfold maxLen; omega)))
  unfold Ret at HNI HNS
  obtain ⟨nr, hnr⟩ : ∃ nr, nr = numB kr mr or := ⟨_, rfl⟩
  rw [← hnr] at HNI HNS
  clear hnr hn0 hn0' hn1 hn1' hn2 hn2' hor hod hoe
  obtain ⟨wq, hwq⟩ : ∃ wq, wq = w13.alloc (.cells #[.int .i64 kr, .int .i64 mr, .string or] 26) := ⟨_, rfl⟩
  go_upto_region 16 with fail
  clear hwq
  go_cut [121] from 73 to 121 (fun cx wx => cx = .bool false ∧ Below (w13.alloc (.cells #[.int .i64 kr, .int .i64 mr, .string or] 26)).heap.size (w13.alloc (.cells #[.int .i64 kr, .int .i64 mr, .string or] 26)) wx)
  case first =>
    have hd := (Below.refl (w13.alloc (.cells #[.int .i64 kr, .int .i64 mr, .string or] 26)).heap.size (w13.alloc (.cells #[.int .i64 kr, .int .i64 mr, .string or] 26))).drew
    have HB := hid hd
    have K := hid (K.out.mv hd)
    clear hd HN1 HN2 HN3 HCM HCA
    go_wp2_with fail
    go_region_held3 (fun V => (V.cell? ⟨w2.heap.size, 0, none⟩ = some (.int .i64 k1) ∧ V.cell? ⟨w2.heap.size, 1, none⟩ = some (.int .i64 m1) ∧ V.cell? ⟨w2.heap.size, 2, none⟩ = some (.string o1)) ∧ (V.cell? ⟨w3.heap.size, 0, none⟩ = some (.int .i64 k1) ∧ V.cell? ⟨w3.heap.size, 1, none⟩ = some (.int .i64 m1) ∧ V.cell? ⟨w3.heap.size, 2, none⟩ = some (.string o1)) ∧ (V.cell? ⟨w5.heap.size, 0, none⟩ = some (.int .i64 k2) ∧ V.cell? ⟨w5.heap.size, 1, none⟩ = some (.int .i64 m2) ∧ V.cell? ⟨w5.heap.size, 2, none⟩ = some (.string o2)) ∧ (V.cell? ⟨w6.heap.size, 0, none⟩ = some (.int .i64 k2) ∧ V.cell? ⟨w6.heap.size, 1, none⟩ = some (.int .i64 m2) ∧ V.cell? ⟨w6.heap.size, 2, none⟩ = some (.string o2)) ∧ (V.cell? ⟨w8.heap.size, 0, none⟩ = some (.int .i64 k3) ∧ V.cell? ⟨w8.heap.size, 1, none⟩ = some (.int .i64 m3) ∧ V.cell? ⟨w8.heap.size, 2, none⟩ = some (.string o3)) ∧ (V.cell? ⟨w9.heap.size, 0, none⟩ = some (.int .i64 k3) ∧ V.cell? ⟨w9.heap.size, 1, none⟩ = some (.int .i64 m3) ∧ V.cell? ⟨w9.heap.size, 2, none⟩ = some (.string o3)) ∧ (V.cell? ⟨w13.heap.size, 0, none⟩ = some (.int .i64 kr) ∧ V.cell? ⟨w13.heap.size, 1, none⟩ = some (.int .i64 mr) ∧ V.cell? ⟨w13.heap.size, 2, none⟩ = some (.string or)))
      (exact ⟨K.out.now.1.1.1.1.1.1.1.1.1.2, K.out.now.1.1.1.1.1.1.1.1.2, K.out.now.1.1.1.1.1.1.2, K.out.now.1.1.1.1.1.2, K.out.now.1.1.1.2, K.out.now.1.1.2, K.out.now.2⟩)
      (first | (go_at_call 19; refine (HCS.out _).mono ?_; rintro e w21 ⟨v2, rfl, ho, hb⟩; obtain ⟨a2, d2, rfl, hr2⟩ := owns_rowAt ho (by omega); have HB := hid (bs HB.out hb); have KC := hid (kep_row hr2); have K := hid (K.out.mv hb)) | (go_at_call 18; refine (sameInts_c ac a2 L dc d2 cs _ K.out.now.1.2 KC.out.now).mono ?_; rintro e w22 ⟨rfl, hb⟩; have HB := hid (bs HB.out hb); have K := hid (K.out.mv hb)) | (go_at_call 20; refine (HLI.out _).mono ?_; rintro e w23 ⟨rfl, hb⟩; have HB := hid (bs HB.out hb); have K := hid (K.out.mv hb)) | (go_at_call 21; refine (HLS.out _).mono ?_; rintro e w24 ⟨rfl, hb⟩; have HB := hid (bs HB.out hb); have K := hid (K.out.mv hb)) | (go_at_call 22; refine (HNI.out _).mono ?_; rintro e w25 ⟨rfl, hb⟩; have HB := hid (bs HB.out hb); have K := hid (K.out.mv hb)) | (go_at_call 23; refine (HNS.out _).mono ?_; rintro e w26 ⟨rfl, hb⟩; have HB := hid (bs HB.out hb); have K := hid (K.out.mv hb)))
    go_wp2_with fail
    go_meet
    case rel => exact ⟨rfl, HB.out⟩
  case rest =>
    obtain ⟨rfl, hcut⟩ := hcut
    obtain ⟨w26, rfl⟩ : ∃ w26, w26 = wc := ⟨_, rfl⟩
    have K := hid (K.out.mv hcut)
    clear hcut HCS HLI HLS HNI HNS
    go_upto_region 18 with fail
    go_cut [128] from 122 to 128 (fun cx wx => cx = .bool false ∧ Below w26.heap.size w26 wx)
    case first =>
      cases b1
      · clear HN1 HN2 HN3 HCM HCA K
        go_wp2_with fail
        go_meet
        case rel => exact ⟨rfl, Below.refl _ _⟩
      · have H1 := hid (HN1.out rfl)
        clear HN1 HN2 HN3 HCM HCA
        obtain ⟨p0, p1, p2⟩ := K.out.now.1.1.1.1.1.1.1.1.1.2
        clear K
        go_wp2_with fail
        clear p0 p1 p2
        refine (H1.out _).mono ?_
        rintro e w27 ⟨rfl, hb⟩
        have HB := hid hb
        clear hb
        go_wp2_with fail
        go_meet
        case rel => exact ⟨rfl, HB.out⟩
    case rest =>
      obtain ⟨rfl, hcut⟩ := hcut
      obtain ⟨w27, rfl⟩ : ∃ w27, w27 = wc := ⟨_, rfl⟩
      have K := hid (K.out.mv hcut)
      clear hcut HN1
      go_upto_if 129 with fail
      go_cut [22, 23] from 129 to 151 (fun _ _ wx => Below w27.heap.size w27 wx)
      case first =>
        cases b2
        · clear HN2 HN3 HCM HCA K
          go_wp2_with fail
          go_meet
          case rel => exact Below.refl _ _
        · have H1 := HN2.out rfl
          obtain ⟨hU, ⟨c1, hO1, hO2⟩, c2, hP1, hP2⟩ := H1
          have HU := hid hU
          have HO1 := hid hO1
          have HO2 := hid hO2
          have HP1 := hid hP1
          have HP2 := hid hP2
          clear hU hO1 hO2 hP1 hP2 HN2 HN3 HCM HCA
          obtain ⟨p0, p1, p2⟩ := K.out.now.1.1.1.1.1.1.2
          go_wp2_with fail
          clear p0 p1 p2
          refine (HU.out _).mono ?_
          rintro e w27u ⟨rfl, hb⟩
          have hal := bel_alloc w27u (.cells #[.int .i64 kd, .int .i64 md, .string od] 26)
          have KU := hid (kep_box3 w27u (.int .i64 kd) (.int .i64 md) (.string od) 26)
          have HB := hid ((kep_bel w27).mv hb |>.mv hal |>.now)
          have K := hid ((K.out.mv hb).mv hal)
          clear hb hal HU
          have hd := (Below.refl (w27u.alloc (.cells #[.int .i64 kd, .int .i64 md, .string od] 26)).heap.size (w27u.alloc (.cells #[.int .i64 kd, .int .i64 md, .string od] 26))).drew
          go_upto_region 22 with fail
          have HB := hid (bs HB.out hd)
          have K := hid (K.out.mv hd)
          have KU := hid (KU.out.mv hd)
          clear hd
          go_wp2_with fail
          go_region_held3 (fun V => (V.cell? ⟨w27u.heap.size, 0, none⟩ = some (.int .i64 kd) ∧ V.cell? ⟨w27u.heap.size, 1, none⟩ = some (.int .i64 md) ∧ V.cell? ⟨w27u.heap.size, 2, none⟩ = some (.string od)) ∧ (V.cell? ⟨w4.heap.size, 0, none⟩ = some (.int .i64 kd) ∧ V.cell? ⟨w4.heap.size, 1, none⟩ = some (.int .i64 md) ∧ V.cell? ⟨w4.heap.size, 2, none⟩ = some (.string od)) ∧ (V.cell? ⟨w5.heap.size, 0, none⟩ = some (.int .i64 k2) ∧ V.cell? ⟨w5.heap.size, 1, none⟩ = some (.int .i64 m2) ∧ V.cell? ⟨w5.heap.size, 2, none⟩ = some (.string o2)))
            (exact ⟨KU.out.now, K.out.now.1.1.1.1.1.1.1.2, K.out.now.1.1.1.1.1.1.2⟩)
            (first | (go_at_call 24; with_reducible refine (HO1.out _).mono ?_; rintro e wz ⟨rfl, hb⟩; have HB := hid (bs HB.out hb); have K := hid (K.out.mv hb); have KU := hid (KU.out.mv hb)) | (go_at_call 24; with_reducible refine (HO2.out _).mono ?_; rintro e wz ⟨rfl, hb⟩; have HB := hid (bs HB.out hb); have K := hid (K.out.mv hb); have KU := hid (KU.out.mv hb)) | (go_at_call 25; with_reducible refine (HP1.out _).mono ?_; rintro e wz ⟨rfl, hb⟩; have HB := hid (bs HB.out hb); have K := hid (K.out.mv hb); have KU := hid (KU.out.mv hb)) | (go_at_call 25; with_reducible refine (HP2.out _).mono ?_; rintro e wz ⟨rfl, hb⟩; have HB := hid (bs HB.out hb); have K := hid (K.out.mv hb); have KU := hid (KU.out.mv hb)))
          go_wp2_with fail
          go_meet
          case rel => exact HB.out
      case rest =>
        obtain ⟨w28, rfl⟩ : ∃ w28, w28 = wc := ⟨_, rfl⟩
        have K := hid (K.out.mv hcut)
        clear hcut HN2
        go_upto_if 152 with fail
        go_cut [24, 25] from 152 to 167 (fun _ _ wx => Below w28.heap.size w28 wx)
        case first =>
          cases b3
          · clear HN3 HCM HCA K
            go_wp2_with fail
            go_meet
            case rel => exact Below.refl _ _
          · have H1 := HN3.out rfl
            obtain ⟨hU, c1, hO1, hO2⟩ := H1
            have HU := hid hU
            have HO1 := hid hO1
            have HO2 := hid hO2
            clear hU hO1 hO2 HN3 HCM HCA
            obtain ⟨p0, p1, p2⟩ := K.out.now.1.1.1.2
            go_wp2_with fail
            clear p0 p1 p2
            refine (HU.out _).mono ?_
            rintro e w28u ⟨rfl, hb⟩
            have hal := bel_alloc w28u (.cells #[.int .i64 ke, .int .i64 me, .string oe] 26)
            have KU := hid (kep_box3 w28u (.int .i64 ke) (.int .i64 me) (.string oe) 26)
            have HB := hid ((kep_bel w28).mv hb |>.mv hal |>.now)
            have K := hid ((K.out.mv hb).mv hal)
            clear hb hal HU
            have hd := (Below.refl (w28u.alloc (.cells #[.int .i64 ke, .int .i64 me, .string oe] 26)).heap.size (w28u.alloc (.cells #[.int .i64 ke, .int .i64 me, .string oe] 26))).drew
            go_upto_region 26 with fail
            have HB := hid (bs HB.out hd)
            have K := hid (K.out.mv hd)
            have KU := hid (KU.out.mv hd)
            clear hd
            go_wp2_with fail
            go_region_held3 (fun V => (V.cell? ⟨w28u.heap.size, 0, none⟩ = some (.int .i64 ke) ∧ V.cell? ⟨w28u.heap.size, 1, none⟩ = some (.int .i64 me) ∧ V.cell? ⟨w28u.heap.size, 2, none⟩ = some (.string oe)) ∧ (V.cell? ⟨w7.heap.size, 0, none⟩ = some (.int .i64 ke) ∧ V.cell? ⟨w7.heap.size, 1, none⟩ = some (.int .i64 me) ∧ V.cell? ⟨w7.heap.size, 2, none⟩ = some (.string oe)) ∧ (V.cell? ⟨w8.heap.size, 0, none⟩ = some (.int .i64 k3) ∧ V.cell? ⟨w8.heap.size, 1, none⟩ = some (.int .i64 m3) ∧ V.cell? ⟨w8.heap.size, 2, none⟩ = some (.string o3)))
              (exact ⟨KU.out.now, K.out.now.1.1.1.1.2, K.out.now.1.1.1.2⟩)
              (first | (go_at_call 24; with_reducible refine (HO1.out _).mono ?_; rintro e wz ⟨rfl, hb⟩; have HB := hid (bs HB.out hb); have K := hid (K.out.mv hb); have KU := hid (KU.out.mv hb)) | (go_at_call 24; with_reducible refine (HO2.out _).mono ?_; rintro e wz ⟨rfl, hb⟩; have HB := hid (bs HB.out hb); have K := hid (K.out.mv hb); have KU := hid (KU.out.mv hb)))
            go_wp2_with fail
            go_meet
            case rel => exact HB.out
        case rest =>
          obtain ⟨w29, rfl⟩ : ∃ w29, w29 = wc := ⟨_, rfl⟩
          have K := hid (K.out.mv hcut)
          clear hcut HN3
          go_wp2_with fail
          go_loopw [26] (fun i wr => ∃ j : Nat, j ≤ L ∧ i = .int .i64 j ∧ Hid (Below w29.heap.size w29 wr)) (fun i _ => L - (intOf i).toNat)
          case atStart => exact ⟨0, by omega, rfl, hid (Below.refl _ _)⟩
          case round =>
            obtain ⟨j, hj, rfl, HB⟩ := hrel
            have KJ := hid (K.out.mv HB.out)
            have hrc := KJ.out.now.1.2
            by_cases hlt : j < L
            · have hji : (j : Int) < (L : Int) := by omega
              obtain ⟨bb, bo, rfl, hbb, hcl⟩ := hrc.at_ (by omega)
              obtain ⟨x, hx⟩ : ∃ x, cs[j]? = some x := ⟨cs[j]'(by rw [← HL.out]; exact hlt), by simp⟩
              have hcell := hcl j _ (intVals_get hx)
              have HX := hid (HCM.out x (List.mem_of_getElem? hx))
              have HRC := hid hrc
              clear hx hcl hrc HCA
              go_wp2_with fail
              clear hcell
              refine (HX.out _).mono ?_
              rintro e w30 ⟨v3, rfl, ho, hb⟩
              obtain ⟨a3, d3, rfl, hr3⟩ := owns_rowAt ho (by omega)
              have hrc2 := HRC.out.below hb (Nat.le_refl _)
              have HB2 := hid (bs HB.out hb)
              clear hb ho
              go_wp2_with fail
              refine (sameInts_c _ _ L _ _ cs _ hr3 hrc2).mono ?_
              rintro e w31 ⟨rfl, hb⟩
              have HB3 := hid (bs HB2.out hb)
              clear hb hr3 hrc2
              go_wp2_with fail
              go_roundw
              case rel => exact ⟨j + 1, by omega, by go_num, HB3⟩
              case measure => simp [intOf]; omega
            · obtain rfl : j = L := by omega
              have hFIN := KJ.out.now.1.1.1.1.1.1.1.1.1.1.2
              rcases HCA.out with ⟨hc0, hk⟩ | ⟨hc1, hk0, hk255, hmem⟩
              · have hj0 : j = 0 := by rw [HL.out, hc0]; rfl
                subst hj0
                clear HCM HL hc0 hrc
                rcases hk with hk | hk
                · have hk0 : ¬ (0 ≤ n1) := by omega
                  go_wp2_with fail
                  go_ret
                  exact ⟨rfl, hFIN⟩
                · have hk0 : (0 : Int) ≤ n1 := by omega
                  have hk1 : ¬ (n1 ≤ 255) := by omega
                  go_wp2_with fail
                  go_ret
                  exact ⟨rfl, hFIN⟩
              · have hmd := decide_eq_true hmem
                clear HCM HL hmem
                have hj4 : (j : Int) ≤ 4 := by omega
                have hj1 : (0 : Int) < (j : Int) := by omega
                go_wp2_with fail
                refine (hasInt_c ac j dc cs n1 _ hrc).mono ?_
                rintro e w32 ⟨rfl, rfl⟩
                rw [hmd]
                go_wp2_with fail
                go_ret
                exact ⟨rfl, hFIN⟩
set_option maxRecDepth 100000 in
theorem lifted_FnRules (os : Os) (started : os.Started) (H : Type) (enc : TypeId × Value → H) :
    ReturnsInHanded {} Try.checked os 3 .any (Rows.fnRulesSpec.pre6 enc Try.prog Try.f3 Rows.fnRulesRow.domain false) (Rows.fnRulesSpec.post enc Try.prog Try.f3 false true false false) := by
  refine returnsInHanded_of_change_sized (C := Try.checked) own started (by kernel_rfl) Try.func3
    (ChangeSpec.witness6 (enc := enc) (C := Try.checked) false ⟨#[], #[.slice none 0 0], []⟩ 8 (by kernel_rfl) (by kernel_rfl) (by kernel_rfl) (by kernel_rfl)) ?_
  intro W base args ds gs before hval0 hW hcnd hsz0 _
  have hsz : (DataW.weightsEach Try.prog (Try.f3.params.toList ++ Rows.fnRulesSpec.plain.varTypes Try.prog) (ds ++ gs)).all (· ≤ reachBytes) = true := hsz0
  clear hsz0
  have hval : ∀ (j : Nat) t v, Try.f3.params[j]? = some t → args[j]? = some v → Value.okWide Try.prog W .any base t v := hval0
  have hW' := hW
  obtain ⟨p, q, hA0, hV, rfl, hfz, hnd⟩ := hW
  have hA : DataW.TrodAll enc Try.prog W 0 (fun _ => true) true Try.f3.params.toList args.toList ds p := hA0
  rw [Try.params3] at hA hval hsz
  obtain ⟨v0, vs0, d0, ds0, p0, q0, hargs, rfl, rfl, h0, r0⟩ := trodAll_cons hA
  obtain ⟨rfl, rfl, rfl⟩ := trodAll_nil r0
  obtain rfl : args = #[v0] := by cases args; simp_all
  obtain ⟨rfl, rfl⟩ := trodVars_none hV
  have k0 := h0
  have lt0 : ∀ x ∈ p0, x.block < W.heap.size := by obtain ⟨m, hm⟩ := k0; exact DataW.trod_lt m _ _ _ hm
  have w0 := open_bytes (enc := enc) (hval 0 22 v0 rfl rfl) h0 (fun x hx => DataW.weights_mem_each (j := 0) rfl rfl x hx) hsz
  clear hA0 hval0
  refine (walk_FnRules W v0 w0).mono fun e W' ⟨he, bel⟩ => ?_
  subst he
  exact ⟨_, rfl, _, _, _, [], _, [], hW', trodAll_mk1 (shut_bool Try.underlying4 _), (trodAll_cons_mk (Below.trod laidOut (by kernel_rfl) (of_decide_eq_true (by kernel_rfl)) k0 bel lt0) trodAll_mk0), rfl, bel.frame _, fun h => by cases h⟩

theorem closed_FnRules : joinedFacts Try.prog 3 Try.f3 Rows.fnRulesSpec Rows.fnRulesRow = true := by
  unfold joinedFacts
  rw [headMayEnter, headLiftsFinal, headMake]
  kernel_rfl
/-- The law returns true for every input, and its arguments read as before: the given statement. -/
theorem fnRules_holds : Rows.FnRulesSaid :=
  OpenClaim.holds_of_wide 3 Try.f3 rfl rfl rfl rfl rfl rfl rfl ⟨rfl, rfl, rfl, rfl, rfl⟩ rfl rfl rfl rfl rfl (by as_aux_lemma => kernel_rfl) Try.func3 closed_FnRules
    (by as_aux_lemma => exact of_decide_eq_true (by kernel_rfl)) (by unfold Func.isWrapper; first | (rw [if_pos (by decide +kernel)]; kernel_rfl) | (rw [if_neg (by decide +kernel)]; exact ⟨rfl, rfl⟩))
    (fun os started H enc _ => lifted_FnRules os started H enc)
#print axioms fnRules_holds

end Go.Proofs.Ytcmmlldincflkaa
