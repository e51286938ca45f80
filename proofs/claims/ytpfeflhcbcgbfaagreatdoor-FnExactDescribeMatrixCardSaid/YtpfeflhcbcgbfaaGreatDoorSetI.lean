/- Ascending lists of a length, the program's way. Conditions: small numbers. -/
import Derived.Test.YtpfeflhcbcgbfaaGreatDoorPolP
import Derived.Test.YtpfeflhcbcgbfaaGreatDoorRowM
namespace Go.Proofs.YtpfeflhcbcgbfaaGreatDoor
open Go.RowKit
set_option maxHeartbeats 4000000 in
set_option maxRecDepth 100000 in
theorem impl_choices_c (n k : Nat) (w : World) (hn : n ≤ 4) (hk : k ≤ 9) :
    Calls Tryz.prog 139 #[.int .i64 n, .int .i64 k] w (GridPost (setsI n k (2 ^ n)) w) := by
  have hp4 := pow4 n hn
  have HBA := hid (fun (i : Nat) (hi : i < 4) (s : Nat) (hs : s < 16) => bit_and4 i hi s hs)
  have HBY := hid (fun (s j : Nat) (h : s / 2 ^ j % 2 = 1) => bitL_yes h)
  have HBN := hid (fun (s j : Nat) (h : ¬ s / 2 ^ j % 2 = 1) => bitL_no h)
  have HBLE := hid (fun (s j : Nat) => bitL_le s j)
  have HSY := hid (fun (m : Nat) (h : (bitL m n).length = k) => setsI_yes h)
  have HSN := hid (fun (m : Nat) (h : ¬ (bitL m n).length = k) => setsI_no h)
  have HSL := hid (fun m => setsI_le n k m)
  have HS0 := hid (show setsI n k 0 = [] from rfl)
  have hsh : IntKind.i64.wrap ((2 : Int) ^ n) = (2 : Int) ^ n := by
    have : n = 0 ∨ n = 1 ∨ n = 2 ∨ n = 3 ∨ n = 4 := by omega
    rcases this with rfl | rfl | rfl | rfl | rfl <;> decide
  have hwn : IntKind.u64.wrap (n : Int) = (n : Int) := IntWalk.u64_in _ (by omega)
  obtain ⟨N, hN⟩ : ∃ N, N = 2 ^ n := ⟨_, rfl⟩
  have hNi : (2 : Int) ^ n = (N : Int) := by rw [hN]; norm_cast
  rw [← hN] at hp4
  rw [← hN]
  obtain ⟨G, hG⟩ : ∃ G, G = setsI n k := ⟨_, rfl⟩
  rw [← hG] at HSY HSN HSL HS0
  rw [← hG]
  have HO0 := hid (show (w.alloc (.cells #[] 39)).ownsRow w.heap.size 39 1 (.slice (some ⟨w.heap.size, 0, none⟩) 0 0) 0 [] from owns_lit3 #[] _ rfl (Nat.le_refl _) (by unfold maxLen; simp))
  have HT0 := hid (show TRows 3 (w.alloc (.cells #[] 39)) w.heap.size [] (G 0) from by rw [HS0.out]; exact TRows.nil _ _ _)
  have HB0 := hid (show Below w.heap.size w (w.alloc (.cells #[] 39)) from (Below.refl _ _).alloc (Nat.le_refl _) _)
  have HG0 := hid (show (G 0).length = 0 by rw [HS0.out]; rfl)
  clear hN hG
  go_enter Tryz.func139, Tryz.ntmps139
  go_wp2
  go_loopw [5, 12] (fun v i wr => ∃ (p go co : Nat) (vs : List Value), p ≤ N ∧ i = .int .i64 p ∧ v = .slice (some ⟨go, 0, none⟩) (G p).length co ∧ Hid (wr.ownsRow w.heap.size 39 1 (.slice (some ⟨go, 0, none⟩) (G p).length co) (G p).length vs) ∧ Hid (TRows 3 wr w.heap.size vs (G p)) ∧ Hid (Below w.heap.size w wr)) (fun _ i _ => N - (intOf i).toNat)
  case atStart => exact ⟨0, w.heap.size, 0, [], by omega, rfl, by rw [HG0.out], by rw [HG0.out]; exact HO0, HT0, HB0⟩
  case round =>
    clear HO0 HT0 HB0
    obtain ⟨p, go, co, vs, hp, rfl, rfl, HOO, HRS, HBL⟩ := hrel
    obtain ⟨wo, hwo⟩ : ∃ wo, wo = wr := ⟨_, rfl⟩
    subst hwo
    have hgle := HSL.out p
    obtain ⟨D, hD⟩ : ∃ D, D = (G p).length := ⟨_, rfl⟩
    have HDE := hid hD
    rw [← hD] at HOO hgle
    rw [← hD]
    clear hD
    by_cases hltp : p < N
    · have hpi : (p : Int) < (N : Int) := by omega
      have hszL := HBL.out.size
      have HRI := hid (show (wo.alloc (.cells #[] 3)).ownsRow wo.heap.size 3 1 (.slice (some ⟨wo.heap.size, 0, none⟩) 0 0) 0 (natV (bitL p 0)) from owns_lit3 (w := wo) (base := wo.heap.size) (e := 3) #[] [] rfl (Nat.le_refl _) (by unfold maxLen; simp))
      have HBA0 := hid (show Below wo.heap.size wo (wo.alloc (.cells #[] 3)) from (Below.refl _ _).alloc (Nat.le_refl _) _)
      have HSYp := hid (fun h => HSY.out p h)
      have HSNp := hid (fun h => HSN.out p h)
      obtain ⟨S, hS⟩ : ∃ S, S = wo.heap.size := ⟨_, rfl⟩
      have HSE := hid hS
      go_wp2
      go_loopw [7, 17] (fun v i wr => ∃ (j gj cj : Nat), j ≤ n ∧ i = .int .i64 j ∧ v = .slice (some ⟨gj, 0, none⟩) (bitL p j).length cj ∧ Hid (wr.ownsRow S 3 1 (.slice (some ⟨gj, 0, none⟩) (bitL p j).length cj) (bitL p j).length (natV (bitL p j))) ∧ Hid (Below S wo wr)) (fun _ i _ => n - (intOf i).toNat)
      case atStart => exact ⟨0, S, 0, by omega, rfl, by rw [HSE.out]; rfl, by rw [HSE.out]; exact HRI, by rw [HSE.out]; exact HBA0⟩
      case round =>
        clear HRI HBA0
        obtain ⟨j, gj, cj, hj, rfl, rfl, HRI, HBQ⟩ := hrel
        have hmle := HBLE.out p j
        have hszQ := HBQ.out.size
        have hszS : S ≤ wr.heap.size := by rw [HSE.out]; exact hszQ
        obtain ⟨L, hL⟩ : ∃ L, L = bitL p j := ⟨_, rfl⟩
        have HLE := hid hL
        rw [← hL] at HRI hmle
        rw [← hL]
        obtain ⟨m, hm⟩ : ∃ m, m = L.length := ⟨_, rfl⟩
        have HME := hid hm
        rw [← hm] at HRI hmle
        rw [← hm]
        clear hL hm
        by_cases hltj : j < n
        · have hji : (j : Int) < (n : Int) := by omega
          have hwj : IntKind.u64.wrap (j : Int) = (j : Int) := IntWalk.u64_in _ (by omega)
          have hand := HBA.out j (by omega) p (by omega)
          have HLY := hid (fun h => HBY.out p j h)
          have HLN := hid (fun h => HBN.out p j h)
          obtain ⟨bt, hbt⟩ : ∃ bt, bt = p / 2 ^ j % 2 := ⟨_, rfl⟩
          rw [← hbt] at hand HLY HLN
          have hbt2 : bt = 0 ∨ bt = 1 := by omega
          clear hbt
          rcases hbt2 with rfl | rfl
          · have HL2 := hid (HLN.out (by decide))
            have HRI2 := hid (show wr.ownsRow S 3 1 (.slice (some ⟨gj, 0, none⟩) (bitL p (j + 1)).length cj) (bitL p (j + 1)).length (natV (bitL p (j + 1))) from by rw [HL2.out, ← HLE.out, ← HME.out]; exact HRI.out)
            have hlen : m = (bitL p (j + 1)).length := by rw [HL2.out, ← HLE.out, ← HME.out]
            go_wp2
            go_roundw
            case rel => exact ⟨j + 1, gj, cj, by omega, by go_num, by rw [hlen], HRI2, HBQ⟩
            case measure => simp [intOf]; omega
          · have HL2 := hid (HLY.out rfl)
            have hgl := (HRI.out.lt gj rfl).1
            go_wp2_with (first | (at_builtin; go_must (refine wpList_appN rfl _ _ 39 rfl S 3 (.int .i64 0) 8 Tryz.underlying39 infoIntZ rfl gj cj m (natV L) (HRI.out.alloc _) rfl wr.heap.size 0 1 1 [.int .i64 j] rfl rfl (lit_cellsP rfl) (by intro u hu; simp at hu; subst hu; rfl) (by omega) (by unfold maxLen; omega) (by simp; omega) ?_); intro g3 c3 w3 hown3 hgr3 hor3 hlt3))
            have HO3 := hid hown3
            have HB3 := hid ((HBQ.out.alloc hszS (.cells #[.int .i64 j] 3)).grown hgr3 (by simp; omega) (by rintro k ⟨⟩; exact hgl))
            have hlen : (bitL p (j + 1)).length = m + 1 := by rw [HL2.out, ← HLE.out, List.length_append, ← HME.out]; rfl
            have HNV := hid (show natV (bitL p (j + 1)) = natV L ++ [.int .i64 (j : Int)] by rw [HL2.out, ← HLE.out]; simp [natV, intVals])
            clear hown3 hgr3
            go_roundw
            case rel => exact ⟨j + 1, g3, c3, by omega, by go_num, by rw [hlen], hid (by rw [hlen, HNV.out]; exact HO3.out), HB3⟩
            case measure => simp [intOf]; omega
        · obtain rfl : j = n := by omega
          have hbS : Below wo.heap.size wo wr := by rw [← HSE.out]; exact HBQ.out
          have hgj : wo.heap.size ≤ gj := by rw [← HSE.out]; exact (HRI.out.lt gj rfl).1
          have ho2 := owns_below HOO.out hbS
          have HBW := hid (HBL.out.trans (hbS.mono hszL))
          by_cases hmk : m = k
          · have HGP := hid (HSYp.out (by rw [← HLE.out, ← HME.out]; exact hmk))
            rw [← HLE.out] at HGP
            have hil : (intL L).length = m := by rw [intL_len]; exact HME.out.symm
            have HR2 := hid (HRS.out.moreAt (r := intL L) (c := cj) (below_none hbS) hgj (by rw [hil, intL_vals]; exact owns_base HRI.out (by rw [HSE.out]; exact hszL)))
            rw [hil] at HR2
            have hlen : (G (p + 1)).length = D + 1 := by rw [HGP.out, List.length_append, ← HDE.out]; rfl
            subst hmk
            go_wp2_with (first | (at_builtin; go_must (refine wpList_appN rfl _ _ 31 rfl w.heap.size 39 (.slice none 0 0) 24 Tryz.underlying31 infoInts rfl go co D vs (ho2.alloc _) rfl wr.heap.size 0 1 1 [.slice (some ⟨gj, 0, none⟩) m cj] rfl rfl (lit_cellsP rfl) (by intro u hu; simp at hu; subst hu; rfl) (by omega) (by unfold maxLen; omega) (by simp; omega) ?_); intro g3 c3 w3 hown3 hgr3 hor3 hlt3))
            have HR3 := hid ((HR2.out.below ((Below.refl _ _).alloc (Nat.le_refl _) _)).kept (ho2.alloc _) (by decide) hgr3)
            have HO3 := hid hown3
            have HB3 := hid ((HBW.out.alloc (by omega) _).grown hgr3 (by simp; omega) (by rintro k ⟨⟩; exact (ho2.lt go rfl).1))
            clear hown3 hgr3 ho2 hbS
            go_roundw
            case rel => exact ⟨p + 1, g3, c3, _, by omega, by go_num, by rw [hlen], hid (by rw [hlen]; exact HO3.out), hid (by rw [HGP.out]; exact HR3.out), HB3⟩
            case measure => simp [intOf]; omega
          · have HGP := hid (HSNp.out (by rw [← HLE.out, ← HME.out]; exact hmk))
            have hmki : ((m : Int) == (k : Int)) = false := by simp; omega
            have HO2 := hid ho2
            have HR2 := hid (HRS.out.below hbS)
            have hlen : D = (G (p + 1)).length := by rw [HGP.out, ← HDE.out]
            clear ho2 hbS
            go_wp2
            go_roundw
            case rel => exact ⟨p + 1, go, co, vs, by omega, by go_num, by rw [hlen], hid (by rw [← hlen]; exact HO2.out), hid (by rw [HGP.out]; exact HR2.out), HBW⟩
            case measure => simp [intOf]; omega
    · obtain rfl : p = N := by omega
      have HF := hid (show TGrid 39 3 wo w.heap.size (.slice (some ⟨go, 0, none⟩) D co) (G p) from ⟨vs, by rw [← HDE.out]; exact HOO.out, HRS.out⟩)
      go_wp2
      go_ret
      exact ⟨_, rfl, HF.out, HBL.out⟩
end Go.Proofs.YtpfeflhcbcgbfaaGreatDoor
