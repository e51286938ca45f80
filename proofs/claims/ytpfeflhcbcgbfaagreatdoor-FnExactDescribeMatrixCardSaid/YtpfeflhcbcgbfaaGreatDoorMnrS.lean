/- Greatest common divisors of minors and the diagonal form, the reference's. Conditions: a square table of small numbers. -/
import Derived.Test.YtpfeflhcbcgbfaaGreatDoorPolP
import Derived.Test.YtpfeflhcbcgbfaaGreatDoorRowM
import Derived.Test.YtpfeflhcbcgbfaaGreatDoorMnrP
import Derived.Test.YtpfeflhcbcgbfaaGreatDoorPartT
import Derived.Test.YtpfeflhcbcgbfaaGreatDoorDet
namespace Go.Proofs.YtpfeflhcbcgbfaaGreatDoor
open Go.RowKit
set_option maxHeartbeats 4000000 in
set_option maxRecDepth 100000 in
theorem spec_l22Sets_c (n k : Nat) (w : World) (hn : n ≤ 4) (hk : k ≤ 9) :
    Calls Tryz.prog 179 #[.int .i64 n, .int .i64 k] w (GridPost (setsI n k (2 ^ n)) w) := by
  have hp4 := pow4 n hn
  have HBA := hid (fun (i : Nat) (hi : i < 4) (s : Nat) (hs : s < 16) => bit_and4 i hi s hs)
  have HBY := hid (fun (s j : Nat) (h : s / 2 ^ j % 2 = 1) => bitL_yes h)
  have HBN := hid (fun (s j : Nat) (h : ¬ s / 2 ^ j % 2 = 1) => bitL_no h)
  have HBLE := hid (fun (s j : Nat) => bitL_le s j)
  have HSY := hid (fun (m : Nat) (h : (bitL m n).length = k) => setsI_yes h)
  have HSN := hid (fun (m : Nat) (h : ¬ (bitL m n).length = k) => setsI_no h)
  have HSL := hid (fun m => setsI_le n k m)
  have HS0 := hid (show setsI n k 0 = [] from rfl)
  have hsh : IntKind.i64.wrap ((2 : Int) ^ n) = (2 : Int) ^ n := by
    have : n = 0 ∨ n = 1 ∨ n = 2 ∨ n = 3 ∨ n = 4 := by omega
    rcases this with rfl | rfl | rfl | rfl | rfl <;> decide
  have hwn : IntKind.u64.wrap (n : Int) = (n : Int) := IntWalk.u64_in _ (by omega)
  obtain ⟨N, hN⟩ : ∃ N, N = 2 ^ n := ⟨_, rfl⟩
  have hNi : (2 : Int) ^ n = (N : Int) := by rw [hN]; norm_cast
  rw [← hN] at hp4
  rw [← hN]
  obtain ⟨G, hG⟩ : ∃ G, G = setsI n k := ⟨_, rfl⟩
  rw [← hG] at HSY HSN HSL HS0
  rw [← hG]
  have HO0 := hid (show (w.alloc (.cells #[] 39)).ownsRow w.heap.size 39 1 (.slice (some ⟨w.heap.size, 0, none⟩) 0 0) 0 [] from owns_lit3 #[] _ rfl (Nat.le_refl _) (by unfold maxLen; simp))
  have HT0 := hid (show TRows 3 (w.alloc (.cells #[] 39)) w.heap.size [] (G 0) from by rw [HS0.out]; exact TRows.nil _ _ _)
  have HB0 := hid (show Below w.heap.size w (w.alloc (.cells #[] 39)) from (Below.refl _ _).alloc (Nat.le_refl _) _)
  have HG0 := hid (show (G 0).length = 0 by rw [HS0.out]; rfl)
  clear hN hG
  go_enter Tryz.func179, Tryz.ntmps179
  go_wp2
  go_loopw [5, 6] (fun v i wr => ∃ (p go co : Nat) (vs : List Value), p ≤ N ∧ i = .int .i64 p ∧ v = .slice (some ⟨go, 0, none⟩) (G p).length co ∧ Hid (wr.ownsRow w.heap.size 39 1 (.slice (some ⟨go, 0, none⟩) (G p).length co) (G p).length vs) ∧ Hid (TRows 3 wr w.heap.size vs (G p)) ∧ Hid (Below w.heap.size w wr)) (fun _ i _ => N - (intOf i).toNat)
  case atStart => exact ⟨0, w.heap.size, 0, [], by omega, rfl, by rw [HG0.out], by rw [HG0.out]; exact HO0, HT0, HB0⟩
  case round =>
    clear HO0 HT0 HB0
    obtain ⟨p, go, co, vs, hp, rfl, rfl, HOO, HRS, HBL⟩ := hrel
    obtain ⟨wo, hwo⟩ : ∃ wo, wo = wr := ⟨_, rfl⟩
    subst hwo
    have hgle := HSL.out p
    obtain ⟨D, hD⟩ : ∃ D, D = (G p).length := ⟨_, rfl⟩
    have HDE := hid hD
    rw [← hD] at HOO hgle
    rw [← hD]
    clear hD
    by_cases hltp : p < N
    · have hpi : (p : Int) < (N : Int) := by omega
      have hszL := HBL.out.size
      have HRI := hid (show (wo.alloc (.cells #[] 3)).ownsRow wo.heap.size 3 1 (.slice (some ⟨wo.heap.size, 0, none⟩) 0 0) 0 (natV (bitL p 0)) from owns_lit3 (w := wo) (base := wo.heap.size) (e := 3) #[] [] rfl (Nat.le_refl _) (by unfold maxLen; simp))
      have HBA0 := hid (show Below wo.heap.size wo (wo.alloc (.cells #[] 3)) from (Below.refl _ _).alloc (Nat.le_refl _) _)
      have HSYp := hid (fun h => HSY.out p h)
      have HSNp := hid (fun h => HSN.out p h)
      obtain ⟨S, hS⟩ : ∃ S, S = wo.heap.size := ⟨_, rfl⟩
      have HSE := hid hS
      go_wp2
      go_loopw [7, 8] (fun v i wr => ∃ (j gj cj : Nat), j ≤ n ∧ i = .int .i64 j ∧ v = .slice (some ⟨gj, 0, none⟩) (bitL p j).length cj ∧ Hid (wr.ownsRow S 3 1 (.slice (some ⟨gj, 0, none⟩) (bitL p j).length cj) (bitL p j).length (natV (bitL p j))) ∧ Hid (Below S wo wr)) (fun _ i _ => n - (intOf i).toNat)
      case atStart => exact ⟨0, S, 0, by omega, rfl, by rw [HSE.out]; rfl, by rw [HSE.out]; exact HRI, by rw [HSE.out]; exact HBA0⟩
      case round =>
        clear HRI HBA0
        obtain ⟨j, gj, cj, hj, rfl, rfl, HRI, HBQ⟩ := hrel
        have hmle := HBLE.out p j
        have hszQ := HBQ.out.size
        have hszS : S ≤ wr.heap.size := by rw [HSE.out]; exact hszQ
        obtain ⟨L, hL⟩ : ∃ L, L = bitL p j := ⟨_, rfl⟩
        have HLE := hid hL
        rw [← hL] at HRI hmle
        rw [← hL]
        obtain ⟨m, hm⟩ : ∃ m, m = L.length := ⟨_, rfl⟩
        have HME := hid hm
        rw [← hm] at HRI hmle
        rw [← hm]
        clear hL hm
        by_cases hltj : j < n
        · have hji : (j : Int) < (n : Int) := by omega
          have hwj : IntKind.u64.wrap (j : Int) = (j : Int) := IntWalk.u64_in _ (by omega)
          have hand := HBA.out j (by omega) p (by omega)
          have HLY := hid (fun h => HBY.out p j h)
          have HLN := hid (fun h => HBN.out p j h)
          obtain ⟨bt, hbt⟩ : ∃ bt, bt = p / 2 ^ j % 2 := ⟨_, rfl⟩
          rw [← hbt] at hand HLY HLN
          have hbt2 : bt = 0 ∨ bt = 1 := by omega
          clear hbt
          rcases hbt2 with rfl | rfl
          · have HL2 := hid (HLN.out (by decide))
            have HRI2 := hid (show wr.ownsRow S 3 1 (.slice (some ⟨gj, 0, none⟩) (bitL p (j + 1)).length cj) (bitL p (j + 1)).length (natV (bitL p (j + 1))) from by rw [HL2.out, ← HLE.out, ← HME.out]; exact HRI.out)
            have hlen : m = (bitL p (j + 1)).length := by rw [HL2.out, ← HLE.out, ← HME.out]
            go_wp2
            go_roundw
            case rel => exact ⟨j + 1, gj, cj, by omega, by go_num, by rw [hlen], HRI2, HBQ⟩
            case measure => simp [intOf]; omega
          · have HL2 := hid (HLY.out rfl)
            have hgl := (HRI.out.lt gj rfl).1
            go_wp2_with (first | (at_builtin; go_must (refine wpList_appN rfl _ _ 39 rfl S 3 (.int .i64 0) 8 Tryz.underlying39 infoIntZ rfl gj cj m (natV L) (HRI.out.alloc _) rfl wr.heap.size 0 1 1 [.int .i64 j] rfl rfl (lit_cellsP rfl) (by intro u hu; simp at hu; subst hu; rfl) (by omega) (by unfold maxLen; omega) (by simp; omega) ?_); intro g3 c3 w3 hown3 hgr3 hor3 hlt3))
            have HO3 := hid hown3
            have HB3 := hid ((HBQ.out.alloc hszS (.cells #[.int .i64 j] 3)).grown hgr3 (by simp; omega) (by rintro k ⟨⟩; exact hgl))
            have hlen : (bitL p (j + 1)).length = m + 1 := by rw [HL2.out, ← HLE.out, List.length_append, ← HME.out]; rfl
            have HNV := hid (show natV (bitL p (j + 1)) = natV L ++ [.int .i64 (j : Int)] by rw [HL2.out, ← HLE.out]; simp [natV, intVals])
            clear hown3 hgr3
            go_roundw
            case rel => exact ⟨j + 1, g3, c3, by omega, by go_num, by rw [hlen], hid (by rw [hlen, HNV.out]; exact HO3.out), HB3⟩
            case measure => simp [intOf]; omega
        · obtain rfl : j = n := by omega
          have hbS : Below wo.heap.size wo wr := by rw [← HSE.out]; exact HBQ.out
          have hgj : wo.heap.size ≤ gj := by rw [← HSE.out]; exact (HRI.out.lt gj rfl).1
          have ho2 := owns_below HOO.out hbS
          have HBW := hid (HBL.out.trans (hbS.mono hszL))
          by_cases hmk : m = k
          · have HGP := hid (HSYp.out (by rw [← HLE.out, ← HME.out]; exact hmk))
            rw [← HLE.out] at HGP
            have hil : (intL L).length = m := by rw [intL_len]; exact HME.out.symm
            have HR2 := hid (HRS.out.moreAt (r := intL L) (c := cj) (below_none hbS) hgj (by rw [hil, intL_vals]; exact owns_base HRI.out (by rw [HSE.out]; exact hszL)))
            rw [hil] at HR2
            have hlen : (G (p + 1)).length = D + 1 := by rw [HGP.out, List.length_append, ← HDE.out]; rfl
            subst hmk
            go_wp2_with (first | (at_builtin; go_must (refine wpList_appN rfl _ _ 31 rfl w.heap.size 39 (.slice none 0 0) 24 Tryz.underlying31 infoInts rfl go co D vs (ho2.alloc _) rfl wr.heap.size 0 1 1 [.slice (some ⟨gj, 0, none⟩) m cj] rfl rfl (lit_cellsP rfl) (by intro u hu; simp at hu; subst hu; rfl) (by omega) (by unfold maxLen; omega) (by simp; omega) ?_); intro g3 c3 w3 hown3 hgr3 hor3 hlt3))
            have HR3 := hid ((HR2.out.below ((Below.refl _ _).alloc (Nat.le_refl _) _)).kept (ho2.alloc _) (by decide) hgr3)
            have HO3 := hid hown3
            have HB3 := hid ((HBW.out.alloc (by omega) _).grown hgr3 (by simp; omega) (by rintro k ⟨⟩; exact (ho2.lt go rfl).1))
            clear hown3 hgr3 ho2 hbS
            go_roundw
            case rel => exact ⟨p + 1, g3, c3, _, by omega, by go_num, by rw [hlen], hid (by rw [hlen]; exact HO3.out), hid (by rw [HGP.out]; exact HR3.out), HB3⟩
            case measure => simp [intOf]; omega
          · have HGP := hid (HSNp.out (by rw [← HLE.out, ← HME.out]; exact hmk))
            have hmki : ((m : Int) == (k : Int)) = false := by simp; omega
            have HO2 := hid ho2
            have HR2 := hid (HRS.out.below hbS)
            have hlen : D = (G (p + 1)).length := by rw [HGP.out, ← HDE.out]
            clear ho2 hbS
            go_wp2
            go_roundw
            case rel => exact ⟨p + 1, go, co, vs, by omega, by go_num, by rw [hlen], hid (by rw [← hlen]; exact HO2.out), hid (by rw [HGP.out]; exact HR2.out), HBW⟩
            case measure => simp [intOf]; omega
    · obtain rfl : p = N := by omega
      have HF := hid (show TGrid 39 3 wo w.heap.size (.slice (some ⟨go, 0, none⟩) D co) (G p) from ⟨vs, by rw [← HDE.out]; exact HOO.out, HRS.out⟩)
      go_wp2
      go_ret
      exact ⟨_, rfl, HF.out, HBL.out⟩
end Go.Proofs.YtpfeflhcbcgbfaaGreatDoor
namespace Go.Proofs.YtpfeflhcbcgbfaaGreatDoor
open Go.RowKit
set_option maxHeartbeats 2000000 in
set_option maxRecDepth 100000 in
theorem spec_l22Fits_c (a : Option Addr) (n c : Nat) (t : List (List Int)) (w : World) (h : TabAt w a n t) (hR : Rect t n n) (hn : 1 ≤ n ∧ n ≤ 4) (hb : Bd 100 t) :
    Calls Tryz.prog 161 #[.slice a n c] w fun e w' => e = .returned (.bool true) ∧ w = w' := by
  have HRR := hid (fun (i : Nat) (hi : i < n) => rect_row h hR hi)
  have HBD := hid (fun (i j : Nat) (hi : i < n) (hj : j < n) => hb.at hR hi hj)
  have HIN := hid (fun (x : Int) (hx : -100 ≤ x ∧ x ≤ 100) (w : World) => (show Calls Tryz.prog 58 #[.int .i64 x, .int .i64 (-100), .int .i64 100] w fun e w' => e = .returned (.bool true) ∧ w = w' from by have := l1In_c x (-100) 100 w; rw [inB_t hx] at this; exact this))
  have HIL := hid (fun (w : World) => (show Calls Tryz.prog 58 #[.int .i64 (n : Int), .int .i64 1, .int .i64 4] w fun e w' => e = .returned (.bool true) ∧ w = w' from by have := l1In_c (n : Int) 1 4 w; rw [inB_t (by omega)] at this; exact this))
  clear h hR hb
  go_enter Tryz.func161, Tryz.ntmps161
  go_wp2
  go_loop [3] (fun i => ∃ k : Nat, k ≤ n ∧ i = .int .i64 k) (fun i => n - (intOf i).toNat)
  case atStart => exact ⟨0, by omega, rfl⟩
  case round =>
    obtain ⟨k, hk, rfl⟩ := hrel
    by_cases hlt : k < n
    · have hki : (k : Int) < (n : Int) := by omega
      obtain ⟨b, off, a', c', r, rfl, hb, hcell, hrow, hr, hat⟩ := HRR.out k hlt
      have HROW := hid hrow
      have HAT := hid hat
      have hnn : ((n : Int) != (n : Int)) = false := by simp
      have hrl : r.length = n := by have := hrow.len; rw [show (intVals r).length = r.length by simp [intVals]] at this; exact this
      clear hrow hr hat
      go_wp2
      go_loop [4] (fun i => ∃ j : Nat, j ≤ n ∧ i = .int .i64 j) (fun i => n - (intOf i).toNat)
      case atStart => exact ⟨0, by omega, rfl⟩
      case round =>
        obtain ⟨j, hj, rfl⟩ := hrel
        by_cases hltj : j < n
        · have hji : (j : Int) < (n : Int) := by omega
          obtain ⟨b2, off2, rfl, hb2, hc2⟩ := HROW.out.at_ (by omega)
          have hcell2 := hc2 j _ (intVals_get (at0_some (by omega)))
          rw [← HAT.out j] at hcell2
          have HIQ := hid (fun w => HIN.out _ (HBD.out k j hlt hltj) w)
          obtain ⟨x, hx⟩ : ∃ x, x = at2 t k j := ⟨_, rfl⟩
          rw [← hx] at hcell2 HIQ
          clear hx hc2
          go_wp2_with (go_at_call 58; refine (HIQ.out _).mono ?_; rintro e w' ⟨rfl, rfl⟩)
          go_round
          case rel => exact ⟨j + 1, by omega, by go_num⟩
          case measure => simp [intOf]; omega
        · obtain rfl : j = n := by omega
          go_wp2
          go_round
          case rel => exact ⟨k + 1, by omega, by go_num⟩
          case measure => simp [intOf]; omega
    · obtain rfl : k = n := by omega
      go_wp2_with (go_at_call 58; refine (HIL.out _).mono ?_; rintro e w' ⟨rfl, rfl⟩)
      go_ret
      exact ⟨rfl, rfl⟩
set_option maxHeartbeats 4000000 in
set_option maxRecDepth 100000 in
theorem spec_MinorsOf_c (a : Option Addr) (n c k : Nat) (t : List (List Int)) (w : World) (h : TabAt w a n t) (hR : Rect t n n) (hn : 1 ≤ n ∧ n ≤ 4) (hb : Bd 100 t) (hk : k ≤ n) :
    Calls Tryz.prog 162 #[.slice a n c, .int .i64 k] w fun e w' => e = .returned (.int .i64 (mnrV t n k : Nat)) ∧ Below w.heap.size w w' := by
  have HFI := hid (spec_l22Fits_c a n c t w h hR hn hb)
  have HIL := hid (fun (w : World) => (show Calls Tryz.prog 58 #[.int .i64 (k : Int), .int .i64 0, .int .i64 (n : Int)] w fun e w' => e = .returned (.bool true) ∧ w = w' from by have := l1In_c (k : Int) 0 (n : Int) w; rw [inB_t (by omega)] at this; exact this))
  have HSE := hid (fun (V : World) => spec_l22Sets_c n k V hn.2 (by omega))
  have HSO := hid (fun (ax ay : Option Addr) (cx cy : Nat) (R C : List Nat) (V : World) (hV : Below w.heap.size w V) (hr : RowAt V ax k (natV R)) (hRn : ∀ i ∈ R, i < n) (hRl : R.length = k) (hc : RowAt V ay k (natV C)) (hCn : ∀ i ∈ C, i < n) (hCl : C.length = k) => (spec_l22Some_c a ay n c k cy t R C ax k cx V (h.below hV (Nat.le_refl _)) hR hr hRn (by omega) hc hCn (by omega)).mono (R' := fun e w' => ∃ am cm, e = .returned (.slice am k cm) ∧ TabC w' am k (partRC t R C) ∧ Below V.heap.size V w') (by
    rintro e w' ⟨v, rfl, hg, hbv⟩
    obtain ⟨am, cm, rfl, _, htm⟩ := grid_tabC hg (show Rect (partRC t R C) k k by have := partRC_rect t R C; rw [hRl, hCl] at this; exact this) (by omega)
    exact ⟨am, cm, rfl, htm, hbv⟩))
  have HDT := hid (fun (am : Option Addr) (cm : Nat) (R C : List Nat) (V : World) (hRn : ∀ i ∈ R, i < n) (hRl : R.length = k) (hCn : ∀ i ∈ C, i < n) (hCl : C.length = k) (ht : TabC V am k (partRC t R C)) => spec_l7Det_c 100 (by omega) (by omega) k (by omega) (partRC t R C) am cm V ht (by have := partRC_rect t R C; rw [hRl, hCl] at this; exact this) (partRC_bd hR hb hRn hCn))
  have HGS := hid (fun (i : Nat) (hi : i ≤ (setsL n k (2 ^ n)).length) => gAll_sml hn.2 hk hR hb i hi)
  have HFS := hid (fun (i j : Nat) (hi : i < (setsL n k (2 ^ n)).length) (hj : j < (setsL n k (2 ^ n)).length) => mnF_sml hn.2 hk hR hb hi hj)
  have hpos := sets_pos n (by omega) k (by omega) hk
  have hle := setsL_le n k (2 ^ n)
  have hp4 := pow4 n hn.2
  have HLS := hid (fun (i : Nat) (hi : i < (setsL n k (2 ^ n)).length) => show ∃ L, (setsL n k (2 ^ n))[i]? = some L ∧ (setsI n k (2 ^ n))[i]? = some (intL L) ∧ L.length = k ∧ (∀ x ∈ L, x < n) from by
    obtain ⟨L, hL⟩ := get_some hi
    obtain ⟨h1, h2⟩ := setsL_mem (List.mem_of_getElem? hL)
    exact ⟨L, hL, setsI_get hL, h1, h2⟩)
  have HMF := hid (fun (i j : Nat) (R C : List Nat) (hi : (setsL n k (2 ^ n))[i]? = some R) (hj : (setsL n k (2 ^ n))[j]? = some C) => mnF_of (t := t) hi hj)
  obtain ⟨F, hF⟩ : ∃ F, F = mnF t n k := ⟨_, rfl⟩
  obtain ⟨Ls, hLs⟩ : ∃ Ls, Ls = setsL n k (2 ^ n) := ⟨_, rfl⟩
  obtain ⟨SI, hSI⟩ : ∃ SI, SI = setsI n k (2 ^ n) := ⟨_, rfl⟩
  obtain ⟨D, hD⟩ : ∃ D, D = Ls.length := ⟨_, rfl⟩
  have HSL := hid (show SI.length = D by rw [hSI, setsI_len, hD, hLs])
  have HA0 := hid (show gAll t n k 0 = 0 from rfl)
  have HAS := hid (fun i => show gAll t n k (i + 1) = gFold (F i) (gAll t n k i) D from by rw [hF, hD, hLs]; rfl)
  have HME := hid (show mnrV t n k = gAll t n k D from by rw [hD, hLs]; rfl)
  rw [← hLs, ← hD] at HGS HFS hpos hle HLS
  rw [← hLs] at HMF
  rw [← hF] at HFS HMF
  rw [← hSI] at HLS HSE
  obtain ⟨G, hG⟩ : ∃ G, G = gAll t n k := ⟨_, rfl⟩
  rw [← hG] at HA0 HAS HME HGS
  have HF0 := hid (fun (f : Nat → Int) (g : Nat) => show gFold f g 0 = g from rfl)
  have HFN := hid (fun (f : Nat → Int) (g j : Nat) => show gFold f g (j + 1) = Int.gcd ((gFold f g j : Nat) : Int) (f j) from rfl)
  have HFB := hid (fun (i j : Nat) (hi : i < D) (hj : j ≤ D) => gFold_sml (HGS.out i (by omega)) (fun j hj => HFS.out i j hi hj) j hj)
  clear h hR hb hF hLs hSI hD hG
  go_enter Tryz.func162, Tryz.ntmps162
  go_wp2_with (first | (go_at_call 161; refine HFI.out.mono ?_; rintro e w' ⟨rfl, rfl⟩) | (go_at_call 58; refine (HIL.out _).mono ?_; rintro e w' ⟨rfl, rfl⟩) | (go_at_call 179; refine (HSE.out _).mono ?_; rintro e w2 ⟨v2, rfl, ⟨vs, ho2, hr2⟩, hb2⟩; obtain ⟨gs2, cs2, rfl, hsg, hsg2⟩ := grid_form ⟨vs, ho2, hr2⟩ (n := D) HSL.out hpos))
  have HROW := hid (fun (i : Nat) (hi : i < D) => show ∃ ax cx L, w2.cell? ⟨gs2, i, none⟩ = some (.slice ax k cx) ∧ RowAt w2 ax k (natV L) ∧ L.length = k ∧ (∀ x ∈ L, x < n) ∧ Ls[i]? = some L from by
    obtain ⟨L, h1, h2, h3, h4⟩ := HLS.out i hi
    obtain ⟨x, hx⟩ := get_some (l := vs) (n := i) (by rw [hr2.len, HSL.out]; exact hi)
    have hrow := hr2.own i x (intL L) hx h2
    rw [intL_len, h3, intL_vals] at hrow
    obtain ⟨ax, cx, rfl, hrowx⟩ := owns_rowAt hrow (by omega)
    rw [HSL.out] at ho2
    exact ⟨ax, cx, L, (ho2.cellAt i (by omega)).trans hx, hrowx, h3, h4, h1⟩)
  have HB2 := hid hb2
  clear ho2 hr2 hb2 HSE HFI HIL HLS
  go_loopw [5, 7] (fun g i wr => ∃ p : Nat, p ≤ D ∧ i = .int .i64 p ∧ g = .int .i64 (G p : Nat) ∧ Hid (Below w2.heap.size w2 wr)) (fun _ i _ => D - (intOf i).toNat)
  case atStart => exact ⟨0, by omega, rfl, by rw [HA0.out]; rfl, hid (Below.refl _ _)⟩
  case round =>
    obtain ⟨p, hp, rfl, rfl, HBP⟩ := hrel
    by_cases hlp : p < D
    · have hpi : (p : Int) < (D : Int) := by omega
      obtain ⟨ax, cx, R, hcx, hrx, hRl, hRn, hRg⟩ := HROW.out p hlp
      have HXX := hid (show w2.cell? ⟨gs2, p, none⟩ = some (.slice ax k cx) ∧ RowAt w2 ax k (natV R) ∧ R.length = k ∧ (∀ x ∈ R, x < n) ∧ Ls[p]? = some R from ⟨hcx, hrx, hRl, hRn, hRg⟩)
      have HFp := hid (fun j (hj : j ≤ D) => HFB.out p j hlp hj)
      have HASp := hid (HAS.out p)
      have HF0p := hid (HF0.out (F p) (G p))
      have HFNp := hid (fun j => HFN.out (F p) (G p) j)
      obtain ⟨Q, hQ⟩ : ∃ Q, Q = gFold (F p) (G p) := ⟨_, rfl⟩
      rw [← hQ] at HFp HASp HF0p HFNp
      clear hcx hrx hRl hRn hRg hQ
      go_wp2
      go_loopw [5, 8] (fun g i wr => ∃ j : Nat, j ≤ D ∧ i = .int .i64 j ∧ g = .int .i64 (Q j : Nat) ∧ Hid (Below w2.heap.size w2 wr)) (fun _ i _ => D - (intOf i).toNat)
      case atStart => exact ⟨0, by omega, rfl, by rw [HF0p.out], HBP⟩
      case round =>
        clear HBP
        obtain ⟨j, hj, rfl, rfl, HBP⟩ := hrel
        by_cases hlj : j < D
        · have hji : (j : Int) < (D : Int) := by omega
          obtain ⟨ay, cy, C, hcy, hry, hCl, hCn, hCg⟩ := HROW.out j hlj
          obtain ⟨hcx, hrx, hRl, hRn, hRg⟩ := HXX.out
          have hsm := HFS.out p j hlp hlj
          have hgs := HFp.out j hj
          have HNX := hid (HFNp.out j)
          have hmf := HMF.out p j R C hRg hCg
          obtain ⟨d, hd⟩ : ∃ d, d = F p j := ⟨_, rfl⟩
          rw [← hd] at hmf hsm HNX
          have HSQ := hid (fun (V : World) (hV : Below w2.heap.size w2 V) => HSO.out ax ay cx cy R C V (HB2.out.trans (hV.mono HB2.out.size)) (hrx.below hV (Nat.le_refl _)) hRn hRl (hry.below hV (Nat.le_refl _)) hCn hCl)
          have HDQ := hid (fun (am : Option Addr) (cm : Nat) (V : World) (ht : TabC V am k (partRC t R C)) => show Calls Tryz.prog 133 #[.slice am k cm] V fun e w' => e = .returned (.int .i64 d) ∧ Below V.heap.size V w' from by rw [hmf]; exact HDT.out am cm R C V hRn hRl hCn hCl ht)
          obtain ⟨g, hg⟩ : ∃ g, g = Q j := ⟨_, rfl⟩
          rw [← hg] at hgs HNX
          rw [← hg]
          have HGQ := hid (fun (V : World) => show Calls Tryz.prog 89 #[.int .i64 (g : Int), .int .i64 d] V fun e w' => e = .returned (.int .i64 (Q (j + 1) : Nat)) ∧ V = w' from by rw [HNX.out]; exact spec_gcdZ_c (g : Int) d V (sml_nat hgs) hsm)
          have HKK := hid (fun (V : World) (hV : Below w2.heap.size w2 V) => show V.cell? ⟨gs2, p, none⟩ = some (.slice ax k cx) ∧ V.cell? ⟨gs2, j, none⟩ = some (.slice ay k cy) ∧ Below w2.heap.size w2 V from ⟨(hV.cell (p := ⟨gs2, p, none⟩) hsg2).trans hcx, (hV.cell (p := ⟨gs2, j, none⟩) hsg2).trans hcy, hV⟩)
          obtain ⟨z0, z1, hbZ⟩ := HKK.out _ (HBP.out.drew)
          clear hmf hsm hgs hd hg hcx hrx hRl hRn hRg hcy hry hCl hCn hCg
          go_wp2
          go_region_held3 (fun V => V.cell? ⟨gs2, p, none⟩ = some (.slice ax k cx) ∧ V.cell? ⟨gs2, j, none⟩ = some (.slice ay k cy) ∧ Below w2.heap.size w2 V)
            (first | with_reducible exact HKK.out _ hbZ)
            (first | (go_at_call 180; refine (HSQ.out _ hbZ).mono ?_; rintro e w3 ⟨am, cm, rfl, htm, hb3⟩; have hbZ := hbZ.trans (hb3.mono hbZ.size)) | (go_at_call 133; refine (HDQ.out am cm _ htm).mono ?_; rintro e w4 ⟨rfl, hb4⟩; have hbZ := hbZ.trans (hb4.mono hbZ.size)) | (go_at_call 89; refine (HGQ.out _).mono ?_; rintro e w5 ⟨rfl, rfl⟩))
          have HBX := hid hbZ
          clear hbZ z0 z1 HKK
          go_wp2
          go_roundw
          case rel => exact ⟨j + 1, by omega, by go_num, rfl, HBX⟩
          case measure => simp [intOf]; omega
        · obtain rfl : j = D := by omega
          go_wp2
          go_roundw
          case rel => exact ⟨p + 1, by omega, by go_num, by rw [HASp.out], HBP⟩
          case measure => simp [intOf]; omega
    · obtain rfl : p = D := by omega
      go_wp2
      go_ret
      exact ⟨by rw [HME.out]; rfl, HB2.out.trans (HBP.out.mono HB2.out.size)⟩
end Go.Proofs.YtpfeflhcbcgbfaaGreatDoor
