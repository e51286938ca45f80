/- The turned polynomial, the reference's. Conditions: a small matrix. -/
import Derived.Test.YtpfeflhcbcgbfaaGreatDoorPolP
import Derived.Test.YtpfeflhcbcgbfaaGreatDoorPartS
import Derived.Test.YtpfeflhcbcgbfaaGreatDoorDet
import Derived.Test.YtpfeflhcbcgbfaaGreatDoorSmal
namespace Go.Proofs.YtpfeflhcbcgbfaaGreatDoor
open Go.RowKit
set_option maxHeartbeats 4000000 in
set_option maxRecDepth 100000 in
theorem spec_l7Minors_c (a : Option Addr) (n c k : Nat) (M : List (List Int)) (w : World) (h : TabAt w a n M) (hR : Rect M n n) (hn : n ≤ 4) (hb9 : Bd 9 M) (hk : k ≤ n) :
    Calls Tryz.prog 91 #[.slice a n c, .int .i64 k] w fun e w' => e = .returned (.int .i64 (minS M n k (2 ^ n))) ∧ Below w.heap.size w w' := by
  have hp4 := pow4 n hn
  have HTA := hid h
  have HPA := hid (fun (gc : Option Addr) (m cc : Nat) (C : List Nat) (V : World) (hV : Below w.heap.size w V) (hrc : RowAt V gc m (natV C)) (hCn : ∀ i ∈ C, i < n) (hm : C.length = k) => (spec_l5Part_c a gc n c m cc M C V (by
    obtain ⟨vs, h1, h2, h3⟩ := h
    exact ⟨vs, h1.below hV (Nat.le_refl _), h2, fun i x r hx hr => let ⟨a', c', e, q⟩ := h3 i x r hx hr; ⟨a', c', e, q.below hV (Nat.le_refl _)⟩⟩) hR hrc hCn (by omega)).mono (R' := fun e w' => ∃ am cm, e = .returned (.slice am k cm) ∧ TabC w' am k (partRC M C C) ∧ Below V.heap.size V w') (by
    rintro e w' ⟨v, rfl, hg, hbv⟩
    obtain ⟨am, cm, rfl, _, htm⟩ := grid_tabC hg (show Rect (partRC M C C) k k by rw [← hm]; exact partRC_rect M C C) (by omega)
    exact ⟨am, cm, rfl, htm, hbv⟩))
  have HDT := hid (fun (am : Option Addr) (cm : Nat) (C : List Nat) (V : World) (hm : C.length = k) (hC : ∀ i ∈ C, i < n) (ht : TabC V am k (partRC M C C)) => show Calls Tryz.prog 133 #[.slice am k cm] V fun e w' => e = .returned (.int .i64 (detL M C)) ∧ Below V.heap.size V w' from by
    have := spec_l7Det_c 9 (by omega) (by omega) k (by omega) (partRC M C C) am cm V ht (by rw [← hm]; exact partRC_rect M C C) (partRC_bd hR hb9 hC hC)
    unfold detL
    rw [hm]
    exact this)
  have HBA := hid (fun (i : Nat) (hi : i < 4) (s : Nat) (hs : s < 16) => bit_and4 i hi s hs)
  have HBY := hid (fun (s j : Nat) (h : s / 2 ^ j % 2 = 1) => bitL_yes h)
  have HBN := hid (fun (s j : Nat) (h : ¬ s / 2 ^ j % 2 = 1) => bitL_no h)
  have HBLE := hid (fun (s j : Nat) => bitL_le s j)
  have HBLT := hid (fun (s i : Nat) (h : i ∈ bitL s n) => bitL_lt h)
  have HSY := hid (fun (m : Nat) (h : (bitL m n).length = k) => minS_yes (M := M) h)
  have HSN := hid (fun (m : Nat) (h : ¬ (bitL m n).length = k) => minS_no (M := M) h)
  have HSB := hid (fun (m : Nat) (hm : m ≤ 16) => minS_bd hn hR hb9 hk hm)
  have HS0 := hid (minS_zero M n k)
  have hsh : IntKind.i64.wrap ((2 : Int) ^ n) = (2 : Int) ^ n := by
    have : n = 0 ∨ n = 1 ∨ n = 2 ∨ n = 3 ∨ n = 4 := by omega
    rcases this with rfl | rfl | rfl | rfl | rfl <;> decide
  have hwn : IntKind.u64.wrap (n : Int) = (n : Int) := IntWalk.u64_in _ (by omega)
  obtain ⟨N, hN⟩ : ∃ N, N = 2 ^ n := ⟨_, rfl⟩
  have hNi : (2 : Int) ^ n = (N : Int) := by rw [hN]; norm_cast
  rw [← hN] at hp4
  rw [← hN]
  obtain ⟨G, hG⟩ : ∃ G, G = minS M n k := ⟨_, rfl⟩
  rw [← hG] at HSY HSN HSB HS0
  rw [← hG]
  clear hN hG h
  go_enter Tryz.func91, Tryz.ntmps91
  go_wp2
  go_loopw [5, 6] (fun v i wr => ∃ (p : Nat), p ≤ N ∧ i = .int .i64 p ∧ v = .int .i64 (G p) ∧ Hid (Below w.heap.size w wr)) (fun _ i _ => N - (intOf i).toNat)
  case atStart => exact ⟨0, by omega, rfl, by rw [HS0.out], hid (Below.refl _ _)⟩
  case round =>
    obtain ⟨p, hp, rfl, rfl, HBL⟩ := hrel
    obtain ⟨wo, hwo⟩ : ∃ wo, wo = wr := ⟨_, rfl⟩
    subst hwo
    by_cases hltp : p < N
    · have hpi : (p : Int) < (N : Int) := by omega
      have hszL := HBL.out.size
      have HRI := hid (show (wo.alloc (.cells #[] 3)).ownsRow wo.heap.size 3 1 (.slice (some ⟨wo.heap.size, 0, none⟩) 0 0) 0 (natV (bitL p 0)) from owns_lit3 (w := wo) (base := wo.heap.size) (e := 3) #[] [] rfl (Nat.le_refl _) (by unfold maxLen; simp))
      have HBA0 := hid (show Below wo.heap.size wo (wo.alloc (.cells #[] 3)) from (Below.refl _ _).alloc (Nat.le_refl _) _)
      have HSYp := hid (fun h => HSY.out p h)
      have HSNp := hid (fun h => HSN.out p h)
      have hg1 := HSB.out p (by omega)
      have hg2 := HSB.out (p + 1) (by omega)
      obtain ⟨s, hs⟩ : ∃ s, s = G p := ⟨_, rfl⟩
      rw [← hs] at HSYp HSNp hg1
      rw [← hs]
      clear hs
      obtain ⟨S, hS⟩ : ∃ S, S = wo.heap.size := ⟨_, rfl⟩
      have HSE := hid hS
      go_wp2
      go_loopw [7, 8] (fun v i wr => ∃ (j gj cj : Nat), j ≤ n ∧ i = .int .i64 j ∧ v = .slice (some ⟨gj, 0, none⟩) (bitL p j).length cj ∧ Hid (wr.ownsRow S 3 1 (.slice (some ⟨gj, 0, none⟩) (bitL p j).length cj) (bitL p j).length (natV (bitL p j))) ∧ Hid (Below S wo wr)) (fun _ i _ => n - (intOf i).toNat)
      case atStart => exact ⟨0, S, 0, by omega, rfl, by rw [HSE.out]; rfl, by rw [HSE.out]; exact HRI, by rw [HSE.out]; exact HBA0⟩
      case round =>
        clear HRI HBA0
        obtain ⟨j, gj, cj, hj, rfl, rfl, HRI, HBQ⟩ := hrel
        have hmle := HBLE.out p j
        have hszQ := HBQ.out.size
        have hszS : S ≤ wr.heap.size := by rw [HSE.out]; exact hszQ
        obtain ⟨L, hL⟩ : ∃ L, L = bitL p j := ⟨_, rfl⟩
        have HLE := hid hL
        rw [← hL] at HRI hmle
        rw [← hL]
        obtain ⟨m, hm⟩ : ∃ m, m = L.length := ⟨_, rfl⟩
        have HME := hid hm
        rw [← hm] at HRI hmle
        rw [← hm]
        clear hL hm
        by_cases hltj : j < n
        · have hji : (j : Int) < (n : Int) := by omega
          have hwj : IntKind.u64.wrap (j : Int) = (j : Int) := IntWalk.u64_in _ (by omega)
          have hand := HBA.out j (by omega) p (by omega)
          have HLY := hid (fun h => HBY.out p j h)
          have HLN := hid (fun h => HBN.out p j h)
          obtain ⟨bt, hbt⟩ : ∃ bt, bt = p / 2 ^ j % 2 := ⟨_, rfl⟩
          rw [← hbt] at hand HLY HLN
          have hbt2 : bt = 0 ∨ bt = 1 := by omega
          clear hbt hg1 hg2
          rcases hbt2 with rfl | rfl
          · have HL2 := hid (HLN.out (by decide))
            have HRI2 := hid (show wr.ownsRow S 3 1 (.slice (some ⟨gj, 0, none⟩) (bitL p (j + 1)).length cj) (bitL p (j + 1)).length (natV (bitL p (j + 1))) from by rw [HL2.out, ← HLE.out, ← HME.out]; exact HRI.out)
            have hlen : m = (bitL p (j + 1)).length := by rw [HL2.out, ← HLE.out, ← HME.out]
            go_wp2
            go_roundw
            case rel => exact ⟨j + 1, gj, cj, by omega, by go_num, by rw [hlen], HRI2, HBQ⟩
            case measure => simp [intOf]; omega
          · have HL2 := hid (HLY.out rfl)
            have hgl := (HRI.out.lt gj rfl).1
            go_wp2_with (first | (at_builtin; go_must (refine wpList_appN rfl _ _ 39 rfl S 3 (.int .i64 0) 8 Tryz.underlying39 infoIntZ rfl gj cj m (natV L) (HRI.out.alloc _) rfl wr.heap.size 0 1 1 [.int .i64 j] rfl rfl (lit_cellsP rfl) (by intro u hu; simp at hu; subst hu; rfl) (by omega) (by unfold maxLen; omega) (by simp; omega) ?_); intro g3 c3 w3 hown3 hgr3 hor3 hlt3))
            have HO3 := hid hown3
            have HB3 := hid ((HBQ.out.alloc hszS (.cells #[.int .i64 j] 3)).grown hgr3 (by simp; omega) (by rintro k ⟨⟩; exact hgl))
            have hlen : (bitL p (j + 1)).length = m + 1 := by rw [HL2.out, ← HLE.out, List.length_append, ← HME.out]; rfl
            have HNV := hid (show natV (bitL p (j + 1)) = natV L ++ [.int .i64 (j : Int)] by rw [HL2.out, ← HLE.out]; simp [natV, intVals])
            clear hown3 hgr3
            go_roundw
            case rel => exact ⟨j + 1, g3, c3, by omega, by go_num, by rw [hlen], hid (by rw [hlen, HNV.out]; exact HO3.out), HB3⟩
            case measure => simp [intOf]; omega
        · obtain rfl : j = n := by omega
          have hbS : Below wo.heap.size wo wr := by rw [← HSE.out]; exact HBQ.out
          have HBW := hid (HBL.out.trans (hbS.mono hszL))
          by_cases hmk : m = k
          · have HGP := hid (HSYp.out (by rw [← HLE.out, ← HME.out]; exact hmk))
            rw [← HLE.out] at HGP
            have HLT := hid (fun i (hi : i ∈ L) => HBLT.out p i (by rw [← HLE.out]; exact hi))
            subst hmk
            obtain ⟨ar, cr, hev, hrow⟩ := owns_rowAt HRI.out (by omega)
            simp only [Value.slice.injEq] at hev
            obtain ⟨rfl, -, -⟩ := hev
            have HQ := hid (fun (V : World) (hV : Below wr.heap.size wr V) => HPA.out _ m cj L V (HBW.out.trans (hV.mono HBW.out.size)) (hrow.below hV (Nat.le_refl _)) HLT.out HME.out.symm)
            have HDQ := hid (fun (am : Option Addr) (cm : Nat) (V : World) ht => HDT.out am cm L V HME.out.symm HLT.out ht)
            obtain ⟨d, hd⟩ : ∃ d, d = detL M L := ⟨_, rfl⟩
            rw [← hd] at HDQ HGP
            have hw3 : IntKind.i64.wrap (s + d) = s + d := IntWalk.i64_in _ (by rw [HGP.out] at hg2; omega)
            clear hd hg1 hg2 hbS
            have hbZ : Below wr.heap.size wr wr := Below.refl _ _
            go_wp2_with (first | (go_at_call 134; refine (HQ.out _ hbZ).mono ?_; rintro e w3 ⟨am, cm, rfl, htm, hb3⟩; have hbZ := hbZ.trans (hb3.mono hbZ.size)) | (go_at_call 133; refine (HDQ.out am cm _ htm).mono ?_; rintro e w4 ⟨rfl, hb4⟩; have hbZ := hbZ.trans (hb4.mono hbZ.size)))
            have HBX := hid (HBW.out.trans (hbZ.mono HBW.out.size))
            clear hbZ
            go_roundw
            case rel => exact ⟨p + 1, by omega, by go_num, by rw [HGP.out], HBX⟩
            case measure => simp [intOf]; omega
          · have HGP := hid (HSNp.out (by rw [← HLE.out, ← HME.out]; exact hmk))
            have hmki : ((m : Int) == (k : Int)) = false := by simp; omega
            clear hbS hg1 hg2
            go_wp2
            go_roundw
            case rel => exact ⟨p + 1, by omega, by go_num, by rw [HGP.out], HBW⟩
            case measure => simp [intOf]; omega
    · obtain rfl : p = N := by omega
      go_wp2
      go_ret
      exact ⟨rfl, HBL.out⟩
end Go.Proofs.YtpfeflhcbcgbfaaGreatDoor
namespace Go.Proofs.YtpfeflhcbcgbfaaGreatDoor
open Go.RowKit
set_option maxHeartbeats 4000000 in
set_option maxRecDepth 100000 in
theorem spec_l7Cut_c (a : Option Addr) (n c : Nat) (xs : List Int) (w : World) (h : RowAt w a n (intVals xs)) (hn : 1 ≤ n ∧ n ≤ 9) (hcn : n ≤ c) (h0 : at0 xs 0 ≠ 0) :
    Calls Tryz.prog 92 #[.slice a n c] w fun e w' => ∃ a' c', e = .returned (.slice a' (cutN xs n) c') ∧ RowAt w' a' (cutN xs n) (intVals (xs.take (cutN xs n))) ∧ Below w.heap.size w w' := by
  have hxl : xs.length = n := by have := h.len; rw [show (intVals xs).length = xs.length by simp [intVals]] at this; exact this
  have HYES := hid (fun (q : Nat) (h : at0 xs q = 0) => cutN_yes (p := xs) h)
  have HNO := hid (fun (q : Nat) (h : ¬ at0 xs q = 0) => cutN_no (p := xs) h)
  have HZ := hid (show cutN xs 0 = 0 from rfl)
  have hle := cutN_le xs n
  have hpos : 1 ≤ cutN xs n := by
    obtain ⟨q, rfl⟩ : ∃ q, n = q + 1 := ⟨n - 1, by omega⟩
    exact cutN_pos h0 q
  obtain ⟨b, off, rfl, hb, hc⟩ := h.at_ hn.1
  have HC := hid (fun (q : Nat) (hq : q < n) => hc q (.int .i64 (at0 xs q)) (intVals_get (at0_some (by omega))))
  have HTAKE := hid (fun (m : Nat) (hm : m ≤ n) => show RowAt w (some ⟨b, off, none⟩) m (intVals (xs.take m)) from ⟨by simp [intVals]; omega, by omega, fun h1 => ⟨b, off, rfl, hb, fun q v hq => hc q v (by
    rw [intVals_take] at hq
    rw [List.getElem?_take] at hq
    split at hq
    · exact hq
    · cases hq)⟩⟩)
  obtain ⟨m, hm⟩ : ∃ m, m = cutN xs n := ⟨_, rfl⟩
  have HM := hid hm.symm
  rw [← hm] at hle hpos
  rw [← hm]
  clear hm hc h h0
  go_enter Tryz.func92, Tryz.ntmps92
  go_wp2
  go_loopw [3] (fun v wr => ∃ (p : Nat), p ≤ n ∧ v = .int .i64 p ∧ Hid (cutN xs p = m) ∧ wr = w) (fun v _ => (intOf v).toNat)
  case atStart => exact ⟨n, by omega, rfl, HM, rfl⟩
  case round =>
    obtain ⟨p, hp, rfl, HP, rfl⟩ := hrel
    by_cases hp0 : 0 < p
    · obtain ⟨q, hq⟩ : ∃ q, q = p - 1 := ⟨_, rfl⟩
      have hpq : (p : Int) - 1 = (q : Int) := by omega
      have hpp : p = q + 1 := by omega
      have hwq : IntKind.i64.wrap ((p : Int) - 1) = (q : Int) := by rw [hpq]; exact IntWalk.i64_in _ (by omega)
      have hcell := HC.out q (by omega)
      have HY := hid (HYES.out q)
      have HN := hid (HNO.out q)
      rw [← hpp] at HY HN
      have hp1 : (0 : Int) < (p : Int) := by omega
      have hqn : q < n := by omega
      have hqp : q < p := by omega
      obtain ⟨x, hx⟩ : ∃ x, x = at0 xs q := ⟨_, rfl⟩
      rw [← hx] at hcell HY HN
      have HPQ := hid hpp
      clear hx hq hpp
      by_cases hx0 : x = 0
      · have HE := hid (HY.out hx0)
        subst hx0
        clear HN HY
        go_wp2
        go_roundw
        case rel => exact ⟨q, by omega, by go_num, hid (by rw [← HE.out]; exact HP.out), trivial⟩
        case measure => simp [intOf]; omega
      · have HE := hid (HN.out hx0)
        have hxb : (x == 0) = false := by simp [hx0]
        have hpm : p = m := by rw [← HP.out, HE.out]
        clear HN HY
        subst hpm
        have HCM := hid (HTAKE.out p (by omega))
        have hpl := HCM.out.len
        obtain ⟨us, hus⟩ : ∃ us, us = intVals (xs.take p) := ⟨_, rfl⟩
        have HUS := hid (show ∀ u ∈ us, u.oneCell' = true from by rw [hus]; exact int_one)
        rw [← hus] at hpl HCM
        have HUE := hid hus
        obtain ⟨b2, off2, hbe, _, hc2⟩ := HCM.out.at_ (by omega)
        simp only [Option.some.injEq, Addr.mk.injEq] at hbe
        obtain ⟨rfl, rfl, -⟩ := hbe
        have HO0 := hid (show (wr.alloc (.cells #[] 3)).ownsRow wr.heap.size 3 1 (.slice (some ⟨wr.heap.size, 0, none⟩) 0 0) 0 [] from owns_lit3 (w := wr) (base := wr.heap.size) (e := 3) #[] [] rfl (Nat.le_refl _) (by unfold maxLen; simp))
        clear hus HPQ
        go_wp2_with (first | (at_builtin; go_must (refine wpList_appN rfl _ _ 39 rfl wr.heap.size 3 (.int .i64 0) 8 Tryz.underlying39 infoIntZ rfl wr.heap.size 0 0 [] HO0.out rfl b off p c us rfl hpl (fun j u hj => (World.cell?_alloc_past _ _ _ hb).trans (hc2 j u hj)) HUS.out (by omega) (by unfold maxLen; omega) (by simp) ?_); intro g3 c3 w3 hown3 hgr3 hor3 hlt3))
        have HB3 := ((Below.refl wr.heap.size wr).alloc (Nat.le_refl _) (.cells #[] 3)).grown hgr3 (by simp) (by rintro k ⟨⟩; exact Nat.le_refl _)
        rw [Nat.zero_add] at hown3
        obtain ⟨ar, cr, hev, hrow⟩ := owns_rowAt hown3 (by omega)
        simp only [Value.slice.injEq] at hev
        obtain ⟨rfl, -, rfl⟩ := hev
        go_ret
        exact ⟨_, _, rfl, by rw [← HUE.out]; exact hrow, HB3⟩
    · exfalso
      have : p = 0 := by omega
      subst this
      have := HP.out
      rw [HZ.out] at this
      omega
set_option maxHeartbeats 4000000 in
set_option maxRecDepth 100000 in
theorem spec_TurnedPoly_c (a : Option Addr) (n c : Nat) (M : List (List Int)) (w : World) (h : TabAt w a n M) (hS : isSm M = true) :
    Calls Tryz.prog 43 #[.slice a n c] w fun e w' => ∃ a' c', e = .returned (.slice a' (turnP M n).length c') ∧ RowAt w' a' (turnP M n).length (intVals (turnP M n)) ∧ Below w.heap.size w w' := by
  obtain ⟨_, hn, hR, hM⟩ := isSm_facts hS (tab_len h).1
  have hb9 := bd9 hR hM
  have HIS := hid (spec_IsSmall_c a n c M w h)
  rw [hS] at HIS
  have HMI := hid (fun (k : Nat) (hk : k ≤ n) (V : World) (hV : Below w.heap.size w V) => spec_l7Minors_c a n c k M V (h.below hV (Nat.le_refl _)) hR hn.2 hb9 hk)
  have HCU := hid (fun (g cg : Nat) (V : World) (hg : RowAt V (some ⟨g, 0, none⟩) (n + 1) (intVals (polL M n (n + 1)))) (hcg : n + 1 ≤ cg) => (spec_l7Cut_c (some ⟨g, 0, none⟩) (n + 1) cg (polL M n (n + 1)) V hg (by omega) hcg (by
    have := at0_get (polL_get (M := M) (n := n) (K := n + 1) (k := 0) (by omega))
    rw [this, polN_zero M hn.2]
    decide)).mono (R' := fun e w' => ∃ a' c', e = .returned (.slice a' (turnP M n).length c') ∧ RowAt w' a' (turnP M n).length (intVals (turnP M n)) ∧ Below V.heap.size V w') (by rw [turnP_len]; rintro e w' ⟨a', c', h1, h2, h3⟩; exact ⟨a', c', h1, h2, h3⟩))
  have HBD := hid (fun (k : Nat) (hk : k ≤ n) => minS_bd (k := k) hn.2 hR hb9 hk (pow4 n hn.2))
  have HSUC := hid (fun K => show intVals (polL M n (K + 1)) = intVals (polL M n K) ++ [.int .i64 (sgn K * minS M n K (2 ^ n))] from by rw [polL_succ]; simp [intVals, polN])
  have HLEN := hid (fun K => polL_len M n K)
  have HSGN := hid (fun k => show sgn (k + 1) = -sgn k from rfl)
  obtain ⟨F, hF⟩ : ∃ F, F = fun k => minS M n k (2 ^ n) := ⟨_, rfl⟩
  have HFE := hid (fun k => show minS M n k (2 ^ n) = F k by rw [hF])
  simp only [HFE.out] at HMI HSUC HBD
  have hwn1 : IntKind.i64.wrap ((n : Int) + 1) = ((n + 1 : Nat) : Int) := by rw [IntWalk.i64_in _ (by omega)]; omega
  have HRI := hid (show (w.alloc (.cells #[] 3)).ownsRow w.heap.size 3 1 (.slice (some ⟨w.heap.size, 0, none⟩) 0 0) 0 (intVals (polL M n 0)) from owns_lit3 (w := w) (base := w.heap.size) (e := 3) #[] [] rfl (Nat.le_refl _) (by unfold maxLen; simp))
  have HB0 := hid (show Below w.heap.size w (w.alloc (.cells #[] 3)) from (Below.refl _ _).alloc (Nat.le_refl _) _)
  clear h hS hR hM hb9 hF HFE
  go_enter Tryz.func43, Tryz.ntmps43
  go_wp2_with (go_at_call 38; refine HIS.out.mono ?_; rintro e w' ⟨rfl, rfl⟩)
  go_loopw [3, 4, 5] (fun v g i wr => ∃ (k gj cj : Nat), k ≤ n + 1 ∧ i = .int .i64 k ∧ g = .int .i64 (sgn k) ∧ v = .slice (some ⟨gj, 0, none⟩) k cj ∧ Hid (wr.ownsRow w.heap.size 3 1 (.slice (some ⟨gj, 0, none⟩) k cj) k (intVals (polL M n k))) ∧ Hid (Below w.heap.size w wr)) (fun _ _ i _ => n + 1 - (intOf i).toNat)
  case atStart => exact ⟨0, w.heap.size, 0, by omega, rfl, rfl, rfl, HRI, HB0⟩
  case round =>
    clear HRI HB0
    obtain ⟨k, gj, cj, hk, rfl, rfl, rfl, HRI, HBL⟩ := hrel
    by_cases hle : k ≤ n
    · have hki : (k : Int) ≤ (n : Int) := by omega
      have HMQ := hid (HMI.out k hle wr HBL.out)
      have HSK := hid (HSUC.out k)
      have HSG := hid (HSGN.out k)
      have hbd := HBD.out k hle
      have h5 := sgn_abs k
      have hgl := (HRI.out.lt gj rfl).1
      have hsz := HBL.out.size
      obtain ⟨s, hs⟩ : ∃ s, s = sgn k := ⟨_, rfl⟩
      obtain ⟨d, hd⟩ : ∃ d, d = F k := ⟨_, rfl⟩
      rw [← hs] at HSK HSG h5
      rw [← hs]
      rw [← hd] at HSK HMQ hbd
      have hw1 : IntKind.i64.wrap (s * d) = s * d := IntWalk.i64_in _ (by rcases h5 with h | h <;> rw [h] <;> omega)
      have hw4 : IntKind.i64.wrap (-s) = -s := IntWalk.i64_in _ (by omega)
      clear hs hd h5 hbd
      go_wp2_with (first | (go_at_call 91; refine HMQ.out.mono ?_; rintro e w3 ⟨rfl, hb3⟩; have ho3 := owns_below HRI.out hb3; have hs3 := hb3.size) | (at_builtin; go_must (refine wpList_appN rfl _ _ 39 rfl w.heap.size 3 (.int .i64 0) 8 Tryz.underlying39 infoIntZ rfl gj cj k (intVals (polL M n k)) (ho3.alloc _) rfl w3.heap.size 0 1 1 [.int .i64 (s * d)] rfl rfl (lit_cellsP rfl) (by intro u hu; simp at hu; subst hu; rfl) (by omega) (by unfold maxLen; omega) (by simp; omega) ?_); intro g3 c3 w4 hown3 hgr3 hor3 hlt3))
      have HO3 := hid hown3
      have HB3 := hid (((HBL.out.trans (hb3.mono hsz)).alloc (by omega) (.cells #[.int .i64 (s * d)] 3)).grown hgr3 (by simp; omega) (by rintro k ⟨⟩; exact hgl))
      clear hown3 hgr3 ho3 hb3
      go_roundw
      case rel => exact ⟨k + 1, g3, c3, by omega, by go_num, by rw [HSG.out], rfl, hid (by rw [HSK.out]; exact HO3.out), HB3⟩
      case measure => simp [intOf]; omega
    · obtain ⟨K, hK⟩ : ∃ K, K = n + 1 := ⟨_, rfl⟩
      have hkK : k = K := by omega
      have hnk : (n : Int) < (k : Int) := by omega
      rw [← hK] at HCU
      subst hkK
      obtain ⟨ar, cr, hev, hcap, hrow⟩ := owns_cap HRI.out (by omega)
      simp only [Value.slice.injEq] at hev
      obtain ⟨rfl, -, rfl⟩ := hev
      have HCQ := hid (HCU.out gj cj wr hrow hcap)
      clear hK HCU
      go_wp2_with (go_at_call 92; refine HCQ.out.mono ?_; rintro e w3 ⟨a', c', rfl, hr3, hb3⟩)
      go_ret
      exact ⟨a', c', rfl, hr3, HBL.out.trans (hb3.mono HBL.out.size)⟩
end Go.Proofs.YtpfeflhcbcgbfaaGreatDoor
