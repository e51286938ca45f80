/- The numbers of a matrix's group, the reference's. Conditions: a small matrix. -/
import Derived.Test.YtpfeflhcbcgbfaaGreatDoorMnrS
import Derived.Test.YtpfeflhcbcgbfaaGreatDoorBelI
import Derived.Test.YtpfeflhcbcgbfaaGreatDoorDet
import Derived.Test.YtpfeflhcbcgbfaaGreatDoorSmal
import Derived.Test.YtpfeflhcbcgbfaaGreatDoorBelS
namespace Go.Proofs.YtpfeflhcbcgbfaaGreatDoor
open Go.RowKit
set_option maxHeartbeats 4000000 in
set_option maxRecDepth 100000 in
theorem spec_DiagonalOf_c (a : Option Addr) (n c : Nat) (t : List (List Int)) (w : World) (h : TabAt w a n t) (hR : Rect t n n) (hn : 1 ≤ n ∧ n ≤ 4) (hb : Bd 100 t) :
    Calls Tryz.prog 135 #[.slice a n c] w fun e w' => ∃ g cg, e = .returned (.tuple #[.slice (some ⟨g, 0, none⟩) n cg, .bool true]) ∧ n ≤ cg ∧ Hid (w'.ownsRow w.heap.size 3 1 (.slice (some ⟨g, 0, none⟩) n cg) n (intVals (dgL t n n))) ∧ Below w.heap.size w w' := by
  have HFI := hid (spec_l22Fits_c a n c t w h hR hn hb)
  have HMN := hid (fun (k : Nat) (hk : k ≤ n) (V : World) (hV : Below w.heap.size w V) => spec_MinorsOf_c a n c k t V (h.below hV (Nat.le_refl _)) hR hn hb hk)
  have HMB := hid (fun (k : Nat) (hk : k ≤ n) => mnrV_sml hn.2 hk hR hb)
  have HBB := hid (fun (k : Nat) (hk : k ≤ n) => dgB_sml hn.2 hR hb k hk)
  have HBP := hid (fun (k : Nat) => dgB_pos t n k)
  have HZ := hid (fun (k : Nat) (h : mnrV t n (k + 1) = 0) => dg_zero h)
  have HS := hid (fun (k : Nat) (h : ¬ mnrV t n (k + 1) = 0) => dg_some h)
  have HSUC := hid (fun K => dgL_succ t n K)
  have HB0 := hid (show dgB t n 0 = 1 from rfl)
  obtain ⟨F, hF⟩ : ∃ F, F = mnrV t n := ⟨_, rfl⟩
  rw [← hF] at HMN HMB HZ HS
  obtain ⟨B, hB⟩ : ∃ B, B = dgB t n := ⟨_, rfl⟩
  rw [← hB] at HBB HBP HZ HS HB0
  obtain ⟨V0, hV0⟩ : ∃ V0, V0 = dgV t n := ⟨_, rfl⟩
  rw [← hV0] at HZ HS HSUC
  have HRI := hid (show (w.alloc (.cells #[] 3)).ownsRow w.heap.size 3 1 (.slice (some ⟨w.heap.size, 0, none⟩) 0 0) 0 (intVals (dgL t n 0)) from owns_lit3 (w := w) (base := w.heap.size) (e := 3) #[] [] rfl (Nat.le_refl _) (by unfold maxLen; simp))
  have HBA := hid (show Below w.heap.size w (w.alloc (.cells #[] 3)) from (Below.refl _ _).alloc (Nat.le_refl _) _)
  clear h hR hb hF hB hV0
  go_enter Tryz.func135, Tryz.ntmps135
  go_wp2_with (go_at_call 161; refine HFI.out.mono ?_; rintro e w' ⟨rfl, rfl⟩)
  go_loopw [4, 5, 6] (fun v b i wr => ∃ (k gj cj : Nat) (e : Int), k ≤ n ∧ Hid (e = (k : Int) + 1) ∧ i = .int .i64 e ∧ b = .int .i64 (B k : Nat) ∧ v = .slice (some ⟨gj, 0, none⟩) k cj ∧ Hid (wr.ownsRow w.heap.size 3 1 (.slice (some ⟨gj, 0, none⟩) k cj) k (intVals (dgL t n k))) ∧ Hid (Below w.heap.size w wr)) (fun _ _ i _ => n + 1 - (intOf i).toNat)
  case atStart => exact ⟨0, w.heap.size, 0, 1, by omega, hid rfl, rfl, by rw [HB0.out]; rfl, rfl, HRI, HBA⟩
  case round =>
    clear HRI HBA
    obtain ⟨k, gj, cj, e, hk, HE, rfl, rfl, rfl, HRI, HBL⟩ := hrel
    by_cases hlt : k < n
    · obtain ⟨q, hq⟩ : ∃ q, q = k + 1 := ⟨_, rfl⟩
      have heq : e = (q : Int) := by rw [HE.out]; omega
      have hqn : q ≤ n := by omega
      have HQE := hid (show (q : Int) + 1 = ((k + 1 : Nat) : Int) + 1 by omega)
      subst heq
      have hqi : (q : Int) ≤ (n : Int) := by omega
      have hwq : IntKind.i64.wrap ((q : Int) + 1) = (q : Int) + 1 := IntWalk.i64_in _ (by omega)
      have HMQ := hid (HMN.out q hqn wr HBL.out)
      have hmb := HMB.out q hqn
      have hbb := HBB.out k hk
      have hbp := HBP.out k
      have HZk := hid (fun h => HZ.out k h)
      have HSk := hid (fun h => HS.out k h)
      have HSK := hid (HSUC.out k)
      rw [← hq] at HZk HSk HSK
      have HKQ := hid hq
      have hgl := (HRI.out.lt gj rfl).1
      have hsz := HBL.out.size
      obtain ⟨d, hd⟩ : ∃ d, d = F q := ⟨_, rfl⟩
      rw [← hd] at HMQ hmb HZk HSk
      obtain ⟨b0, hb0⟩ : ∃ b0, b0 = B k := ⟨_, rfl⟩
      rw [← hb0] at hbb hbp HZk HSk
      rw [← hb0]
      clear hd hb0 hq
      by_cases hd0 : d = 0
      · obtain ⟨hz1, hz2⟩ := HZk.out hd0
        have HZ1 := hid hz1
        rw [hz2] at HSK
        subst hd0
        clear hz1 hz2 HZk HSk
        go_wp2_with (first | (go_at_call 162; refine HMQ.out.mono ?_; rintro e w3 ⟨rfl, hb3⟩; have ho3 := owns_below HRI.out hb3; have hs3 := hb3.size) | (at_builtin; go_must (refine wpList_appN rfl _ _ 39 rfl w.heap.size 3 (.int .i64 0) 8 Tryz.underlying39 infoIntZ rfl gj cj k (intVals (dgL t n k)) (ho3.alloc _) rfl w3.heap.size 0 1 1 [.int .i64 0] rfl rfl (lit_cellsP rfl) (by intro u hu; simp at hu; subst hu; rfl) (by omega) (by unfold maxLen; omega) (by simp; omega) ?_); intro g3 c3 w4 hown3 hgr3 hor3 hlt3))
        have HO3 := hid hown3
        have HB3 := hid (((HBL.out.trans (hb3.mono hsz)).alloc (by omega) (.cells #[.int .i64 0] 3)).grown hgr3 (by simp; omega) (by rintro k ⟨⟩; exact hgl))
        clear hown3 hgr3 ho3 hb3
        go_roundw
        case rel => exact ⟨k + 1, g3, c3, (q : Int) + 1, by omega, HQE, by go_num, by rw [← HKQ.out, HZ1.out], rfl, hid (by rw [← HKQ.out, HSK.out, HKQ.out]; exact HO3.out), HB3⟩
        case measure => simp [intOf]; omega
      · obtain ⟨hz1, hz2⟩ := HSk.out hd0
        have HZ1 := hid hz1
        rw [hz2] at HSK
        have hdb := Nat.div_le_self d b0
        obtain ⟨r, hr⟩ : ∃ r, r = d / b0 := ⟨_, rfl⟩
        have htd : Int.tdiv (d : Int) (b0 : Int) = (r : Int) := by rw [hr]; rfl
        rw [← hr] at HSK hdb
        have hwr : IntKind.i64.wrap (r : Int) = (r : Int) := IntWalk.i64_in _ (by omega)
        have hdi : ((d : Int) == 0) = false := by simp; omega
        have hbi1 : ((b0 : Int) == 0) = false := by simp; omega
        have hbi2 : ((b0 : Int) != 0) = true := by simp; omega
        have hbi3 : ¬ ((b0 : Int) = 0) := by omega
        have hbi4 : ¬ (b0 = 0) := by omega
        have hbm : ¬ ((b0 : Int) = -1) := by omega
        clear hz1 hz2 HZk HSk hr
        go_wp2_with (first | (go_at_call 162; refine HMQ.out.mono ?_; rintro e w3 ⟨rfl, hb3⟩; have ho3 := owns_below HRI.out hb3; have hs3 := hb3.size) | (at_builtin; go_must (refine wpList_appN rfl _ _ 39 rfl w.heap.size 3 (.int .i64 0) 8 Tryz.underlying39 infoIntZ rfl gj cj k (intVals (dgL t n k)) (ho3.alloc _) rfl w3.heap.size 0 1 1 [.int .i64 (r : Int)] rfl rfl (lit_cellsP rfl) (by intro u hu; simp at hu; subst hu; rfl) (by omega) (by unfold maxLen; omega) (by simp; omega) ?_); intro g3 c3 w4 hown3 hgr3 hor3 hlt3))
        have HO3 := hid hown3
        have HB3 := hid (((HBL.out.trans (hb3.mono hsz)).alloc (by omega) (.cells #[.int .i64 (r : Int)] 3)).grown hgr3 (by simp; omega) (by rintro k ⟨⟩; exact hgl))
        clear hown3 hgr3 ho3 hb3
        go_roundw
        case rel => exact ⟨k + 1, g3, c3, (q : Int) + 1, by omega, HQE, by go_num, by rw [← HKQ.out, HZ1.out], rfl, hid (by rw [← HKQ.out, HSK.out, HKQ.out]; exact HO3.out), HB3⟩
        case measure => simp [intOf]; omega
    · have heK : (n : Int) < e := by rw [HE.out]; omega
      have hen : ¬ (e ≤ (n : Int)) := by omega
      obtain rfl : k = n := by omega
      obtain ⟨ar, cr, hev, hcap, hrow⟩ := owns_cap HRI.out (by omega)
      simp only [Value.slice.injEq] at hev
      obtain ⟨-, -, rfl⟩ := hev
      go_wp2
      go_ret2
      exact ⟨gj, cj, rfl, hcap, HRI, HBL.out⟩
end Go.Proofs.YtpfeflhcbcgbfaaGreatDoor
namespace Go.Proofs.YtpfeflhcbcgbfaaGreatDoor
open Go.RowKit
def l23H (M : List (List Int)) (i j p r : Nat) : Int := if p < i ∨ (p = i ∧ r < j) then lessF M 1 1 p r else if p = r then 1 else 0
theorem l23_zero (M : List (List Int)) (n : Nat) : unitTab n = tabF n n (l23H M 0 0) := tabF_ext fun p r hp _ => by
  unfold unitF l23H
  rw [if_neg (show ¬ (p < 0 ∨ p = 0 ∧ r < 0) by omega)]
  by_cases h : p = r
  · rw [if_pos ⟨h, hp⟩, if_pos h]
  · rw [if_neg (by omega), if_neg h]
theorem l23_put {M : List (List Int)} {n i j : Nat} (hi : i < n) (hj : j < n) : put2 (tabF n n (l23H M i j)) i j ((if i = j then 1 else 0) - at2 M i j) = tabF n n (l23H M i (j + 1)) := by
  refine tabF_put hi hj (by unfold l23H lessF; rw [if_pos (by omega), Int.one_mul]) fun p r _ _ h => ?_
  unfold l23H
  by_cases h1 : p < i ∨ (p = i ∧ r < j)
  · rw [if_pos h1, if_pos (by omega)]
  · rw [if_neg h1, if_neg (by omega)]
theorem l23_next (M : List (List Int)) (n i : Nat) : tabF n n (l23H M i n) = tabF n n (l23H M (i + 1) 0) := tabF_ext fun p r _ hr => by
  unfold l23H
  by_cases h1 : p < i ∨ (p = i ∧ r < n)
  · rw [if_pos h1, if_pos (by omega)]
  · rw [if_neg h1, if_neg (show ¬ (p < i + 1 ∨ p = i + 1 ∧ r < 0) by omega)]
theorem l23_end (M : List (List Int)) (n : Nat) : tabF n n (l23H M n 0) = lessT M n 1 1 := tabF_ext fun p r hp _ => by
  unfold l23H
  rw [if_pos (Or.inl hp)]
theorem l23_at {M : List (List Int)} {n i j : Nat} (hi : i < n) (hj : j < n) : at2 (tabF n n (l23H M i j)) i j = if i = j then 1 else 0 := by
  rw [tabF_at _ hi hj]
  unfold l23H
  rw [if_neg (by omega)]
set_option maxHeartbeats 4000000 in
set_option maxRecDepth 100000 in
theorem spec_l23Table_c (a : Option Addr) (n c : Nat) (M : List (List Int)) (w : World) (h : TabAt w a n M) (hR : Rect M n n) (hn : 1 ≤ n ∧ n ≤ 4) (hM : ∀ i j, i < n → j < n → 0 ≤ at2 M i j ∧ at2 M i j ≤ 9) :
    Calls Tryz.prog 136 #[.slice a n c] w (GridPost (lessT M n 1 1) w) := by
  have HZ := hid (fun w => spec_l4One_c n w hn.1 (by omega))
  have HRR := hid (fun (i : Nat) (hi : i < n) => rect_row h hR hi)
  have HMB := hid hM
  have HPUT := hid (fun (i j : Nat) (hi : i < n) (hj : j < n) => l23_put (M := M) hi hj)
  have HNXT := hid (fun (i : Nat) => l23_next M n i)
  have HAT := hid (fun (i j : Nat) (hi : i < n) (hj : j < n) => l23_at (M := M) hi hj)
  have HEND := hid (l23_end M n)
  have HZT := hid (l23_zero M n)
  have HRECT := hid (fun i j => tabF_rect n n (l23H M i j))
  unfold GridPost at HZ
  obtain ⟨R, hRR⟩ : ∃ R, R = lessT M n 1 1 := ⟨_, rfl⟩
  rw [← hRR] at HEND
  rw [← hRR]
  obtain ⟨T, hT⟩ : ∃ T, T = fun i j => tabF n n (l23H M i j) := ⟨_, rfl⟩
  have HTE := hid (fun i j => show tabF n n (l23H M i j) = T i j by rw [hT])
  simp only [HTE.out] at HPUT HNXT HAT HEND HZT HRECT
  clear h hR hRR hT hM HTE
  go_enter Tryz.func136, Tryz.ntmps136
  go_wp2_with fail
  refine (HZ.out _).mono ?_
  rintro e w1 ⟨v, rfl, hg, hb1⟩
  rw [HZT.out] at hg
  obtain ⟨gv, cv, rfl, _, _⟩ := grid_form hg (HRECT.out 0 0).len (by omega)
  have HG1 := hid hg
  have HB1 := hid hb1
  clear hg hb1 HZ
  go_wp2
  go_loopw [4] (fun i wr => ∃ p : Nat, p ≤ n ∧ i = .int .i64 p ∧ Hid (TGrid 39 3 wr w.heap.size (.slice (some ⟨gv, 0, none⟩) n cv) (T p 0)) ∧ Hid (Below w.heap.size w wr)) (fun i _ => n - (intOf i).toNat)
  case atStart => exact ⟨0, by omega, rfl, HG1, HB1⟩
  case round =>
    clear HG1 HB1
    obtain ⟨p, hp, rfl, HG, HBL⟩ := hrel
    by_cases hltp : p < n
    · have hpi : (p : Int) < (n : Int) := by omega
      obtain ⟨b, off, a', c', r, rfl, hb, hc, hrow, hr, hat⟩ := HRR.out p hltp
      have HC := hid hc
      have HRW := hid hrow
      have HATR := hid hat
      clear hc hrow hat hr
      go_wp2
      go_loopw [5] (fun i wr => ∃ s : Nat, s ≤ n ∧ i = .int .i64 s ∧ Hid (TGrid 39 3 wr w.heap.size (.slice (some ⟨gv, 0, none⟩) n cv) (T p s)) ∧ Hid (Below w.heap.size w wr)) (fun i _ => n - (intOf i).toNat)
      case atStart => exact ⟨0, by omega, rfl, HG, HBL⟩
      case round =>
        clear HG HBL
        obtain ⟨s, hs, rfl, HG, HBL⟩ := hrel
        by_cases hlts : s < n
        · have hsi : (s : Int) < (n : Int) := by omega
          have hcp := (HBL.out.cell (p := ⟨b, off + p, none⟩) hb).trans HC.out
          obtain ⟨b2, off2, rfl, hb2, hc2⟩ := HRW.out.at_ (by omega)
          have hrl : r.length = n := by simpa [intVals] using HRW.out.len
          have hcs := (HBL.out.cell (p := ⟨b2, off2 + s, none⟩) hb2).trans (hc2 s (.int .i64 (at0 r s)) (intVals_get (at0_some (by omega))))
          rw [← HATR.out s] at hcs
          obtain ⟨g, cg, k1, k2, k3, k4, k5⟩ := grid_cell HG.out (by decide) (HRECT.out p s) hltp hlts
          rw [HAT.out p s hltp hlts] at k2
          have hx := HMB.out p s hltp hlts
          have HPS := hid (HPUT.out p s hltp hlts)
          obtain ⟨x, hxe⟩ : ∃ x, x = at2 M p s := ⟨_, rfl⟩
          rw [← hxe] at hcs HPS hx
          obtain ⟨u, hu⟩ : ∃ u : Int, u = if p = s then 1 else 0 := ⟨_, rfl⟩
          rw [← hu] at k2 HPS
          have hu1 : 0 ≤ u ∧ u ≤ 1 := by rw [hu]; split <;> omega
          have hwx : IntKind.i64.wrap (u - x) = u - x := IntWalk.i64_in _ (by omega)
          have HK := hid (k5 (u - x))
          clear k5 hxe hc2 hrl hu
          go_wp2
          (refine wp_region_still_tail 21 (by kernel_rfl) (by kernel_rfl) ?_; change wpStill _ _ (World.drew _) (fun a' => wpList _ _ _ _ a' (World.drew _)) _ _; simp only [List.take_succ_cons, List.take_zero, List.drop_succ_cons, List.drop_zero]; repeat still_step)
          refine wpStill_nil ?_
          go_wp2
          go_roundw
          case rel => exact ⟨s + 1, by omega, by go_num, hid (by rw [← HPS.out]; obtain ⟨vs, h1, h2⟩ := HK.out.1; exact ⟨vs, owns_below h1 (Below.refl _ _).drew, h2.below (Below.refl _ _).drew⟩), hid ((HBL.out.grown HK.out.2 HBL.out.size (fun k hk => by injection hk with hk; omega)).drew)⟩
          case measure => simp [intOf]; omega
        · obtain rfl : s = n := by omega
          have HG2 := hid (show TGrid 39 3 wr w.heap.size (.slice (some ⟨gv, 0, none⟩) s cv) (T (p + 1) 0) from by rw [← HNXT.out]; exact HG.out)
          go_wp2
          go_roundw
          case rel => exact ⟨p + 1, by omega, by go_num, HG2, HBL⟩
          case measure => simp [intOf]; omega
    · obtain rfl : p = n := by omega
      have HF := hid (show TGrid 39 3 wr w.heap.size (.slice (some ⟨gv, 0, none⟩) p cv) R from by rw [← HEND.out]; exact HG.out)
      go_wp2
      go_ret
      exact ⟨_, rfl, HF.out, HBL.out⟩
end Go.Proofs.YtpfeflhcbcgbfaaGreatDoor
namespace Go.Proofs.YtpfeflhcbcgbfaaGreatDoor
open Go.RowKit
def detZ (M : List (List Int)) (n : Nat) : Int := detN n (lessT M n 1 1)
/-- 0 minus, 1 zero, 2 plus. -/
def sigN (d : Int) : Nat := if 0 < d then 2 else if d < 0 then 0 else 1
theorem sigN_le (d : Int) : sigN d ≤ 2 := by
  unfold sigN
  by_cases h1 : 0 < d
  · rw [if_pos h1]; omega
  · rw [if_neg h1]
    split <;> omega
theorem lessZ_bd {M : List (List Int)} {n : Nat} (hM : ∀ i j, i < n → j < n → 0 ≤ at2 M i j ∧ at2 M i j ≤ 9) : Bd 100 (lessT M n 1 1) := by
  intro r hr x hx
  unfold lessT tabF at hr
  obtain ⟨p, hp, rfl⟩ := List.mem_map.1 hr
  obtain ⟨s, hs, rfl⟩ := List.mem_map.1 hx
  have h1 := hM p s (List.mem_range.1 hp) (List.mem_range.1 hs)
  unfold lessF
  split <;> omega
set_option maxHeartbeats 4000000 in
set_option maxRecDepth 100000 in
theorem spec_SignOf_c (a : Option Addr) (n c : Nat) (M : List (List Int)) (w : World) (h : TabAt w a n M) (hS : isSm M = true) :
    Calls Tryz.prog 95 #[.slice a n c] w fun e w' => e = .returned (.int .i64 ((sigN (detZ M n) : Nat) - 1 : Int)) ∧ Below w.heap.size w w' := by
  obtain ⟨_, hn, hR, hM⟩ := isSm_facts hS (tab_len h).1
  have HIS := hid (spec_IsSmall_c a n c M w h)
  rw [hS] at HIS
  have HTZ := hid (spec_l23Table_c a n c M w h hR hn hM)
  have HRE := hid (tabF_rect n n (lessF M 1 1))
  have HDT := hid (fun (am : Option Addr) (cm : Nat) (V : World) (ht : TabC V am n (lessT M n 1 1)) => show Calls Tryz.prog 133 #[.slice am n cm] V fun e w' => e = .returned (.int .i64 (detZ M n)) ∧ Below V.heap.size V w' from spec_l7Det_c 100 (by omega) (by omega) n hn.2 (lessT M n 1 1) am cm V ht HRE.out (lessZ_bd hM))
  have HBI := hid (fun b w => l1Bit_b b w)
  unfold GridPost at HTZ
  obtain ⟨d, hd⟩ : ∃ d, d = detZ M n := ⟨_, rfl⟩
  rw [← hd] at HDT
  rw [← hd]
  clear h hS hR hM hd
  go_enter Tryz.func95, Tryz.ntmps95
  go_wp2_with fail
  refine HIS.out.mono ?_
  rintro e w' ⟨rfl, rfl⟩
  go_wp2_with (first | (go_at_call 136; refine HTZ.out.mono ?_; rintro e w1 ⟨v1, rfl, hg1, hb1⟩; obtain ⟨am, cm, rfl, _, htm⟩ := grid_tabC hg1 HRE.out (by omega)) | (go_at_call 133; refine (HDT.out _ _ _ htm).mono ?_; rintro e w2 ⟨rfl, hb2⟩) | (go_at_call 130; refine (HBI.out _ _).mono ?_; rintro e w3 ⟨rfl, rfl⟩))
  all_goals (go_ret; refine ⟨ret_int ?_, hb1.trans (hb2.mono hb1.size)⟩)
  all_goals (unfold sigN; by_cases h1 : 0 < d <;> by_cases h2 : d < 0 <;> simp [h1, h2] <;> omega)
set_option maxHeartbeats 4000000 in
set_option maxRecDepth 100000 in
theorem impl_SignOf_c (a : Option Addr) (n c : Nat) (M : List (List Int)) (w : World) (h : TabAt w a n M) (hS : isSm M = true) :
    Calls Tryz.prog 108 #[.slice a n c] w fun e w' => e = .returned (.int .i64 ((sigN (detZ M n) : Nat) - 1 : Int)) ∧ Below w.heap.size w w' := by
  obtain ⟨_, hn, hR, hM⟩ := isSm_facts hS (tab_len h).1
  have HIS := hid (impl_IsSmall_c a n c M w h)
  rw [hS] at HIS
  have HTZ := hid (impl_less_c a n c M 1 1 w h hR hn hM (by omega) (by omega))
  have HRE := hid (tabF_rect n n (lessF M 1 1))
  have HDT := hid (fun (am : Option Addr) (cm : Nat) (V : World) (ht : TabC V am n (lessT M n 1 1)) => show Calls Tryz.prog 140 #[.slice am n cm] V fun e w' => e = .returned (.int .i64 (detZ M n)) ∧ Below V.heap.size V w' from impl_determinant_c 100 (by omega) (by omega) n hn.2 (lessT M n 1 1) am cm V ht HRE.out (lessZ_bd hM))
  unfold GridPost at HTZ
  obtain ⟨d, hd⟩ : ∃ d, d = detZ M n := ⟨_, rfl⟩
  rw [← hd] at HDT
  rw [← hd]
  clear h hS hR hM hd
  go_enter Tryz.func108, Tryz.ntmps108
  go_wp2_with fail
  refine HIS.out.mono ?_
  rintro e w' ⟨rfl, rfl⟩
  by_cases h1 : 0 < d
  · go_wp2_with (first | (go_at_call 144; refine HTZ.out.mono ?_; rintro e w1 ⟨v1, rfl, hg1, hb1⟩; obtain ⟨am, cm, rfl, _, htm⟩ := grid_tabC hg1 HRE.out (by omega)) | (go_at_call 140; refine (HDT.out _ _ _ htm).mono ?_; rintro e w2 ⟨rfl, hb2⟩))
    go_ret
    exact ⟨ret_int (by unfold sigN; rw [if_pos h1]; rfl), hb1.trans (hb2.mono hb1.size)⟩
  · by_cases h2 : d < 0
    · go_wp2_with (first | (go_at_call 144; refine HTZ.out.mono ?_; rintro e w1 ⟨v1, rfl, hg1, hb1⟩; obtain ⟨am, cm, rfl, _, htm⟩ := grid_tabC hg1 HRE.out (by omega)) | (go_at_call 140; refine (HDT.out _ _ _ htm).mono ?_; rintro e w2 ⟨rfl, hb2⟩))
      go_ret
      exact ⟨ret_int (by unfold sigN; rw [if_neg (by omega), if_pos h2]; rfl), hb1.trans (hb2.mono hb1.size)⟩
    · go_wp2_with (first | (go_at_call 144; refine HTZ.out.mono ?_; rintro e w1 ⟨v1, rfl, hg1, hb1⟩; obtain ⟨am, cm, rfl, _, htm⟩ := grid_tabC hg1 HRE.out (by omega)) | (go_at_call 140; refine (HDT.out _ _ _ htm).mono ?_; rintro e w2 ⟨rfl, hb2⟩))
      go_ret
      exact ⟨ret_int (by unfold sigN; rw [if_neg (by omega), if_neg (by omega)]; rfl), hb1.trans (hb2.mono hb1.size)⟩
end Go.Proofs.YtpfeflhcbcgbfaaGreatDoor
namespace Go.Proofs.YtpfeflhcbcgbfaaGreatDoor
open Go.RowKit
def no1 (xs : List Int) (j : Nat) : List Int := (xs.take j).filter fun x => !(x == 1)
theorem no1_yes {xs : List Int} {j : Nat} {x : Int} (h : xs[j]? = some x) (hx : ¬ x = 1) : no1 xs (j + 1) = no1 xs j ++ [x] := by
  unfold no1
  rw [List.take_add_one, h, List.filter_append]
  simp [hx]
theorem no1_no {xs : List Int} {j : Nat} (h : xs[j]? = some 1) : no1 xs (j + 1) = no1 xs j := by
  unfold no1
  rw [List.take_add_one, h, List.filter_append]
  simp
theorem no1_le (xs : List Int) (j : Nat) : (no1 xs j).length ≤ j := by
  have := List.length_filter_le (fun x : Int => !(x == 1)) (xs.take j)
  rw [List.length_take] at this
  unfold no1
  omega
/-- The numbers of a matrix's group. -/
def grpL (M : List (List Int)) (n : Nat) : List Int := no1 (dgL (lessT M n 1 1) n n) n
theorem grpL_le (M : List (List Int)) (n : Nat) : (grpL M n).length ≤ n := no1_le _ _
theorem dgL_mem {t : List (List Int)} {n : Nat} (hn : n ≤ 4) (hR : Rect t n n) (hb : Bd 100 t) : ∀ x ∈ dgL t n n, 0 ≤ x ∧ x ≤ 1000000000000 := by
  intro x hx
  unfold dgL at hx
  obtain ⟨k, hk, rfl⟩ := List.mem_map.1 hx
  have := dgV_sml hn hR hb (List.mem_range.1 hk)
  omega
theorem grpL_mem {M : List (List Int)} {n : Nat} (hn : n ≤ 4) (hM : ∀ i j, i < n → j < n → 0 ≤ at2 M i j ∧ at2 M i j ≤ 9) : ∀ x ∈ grpL M n, 0 ≤ x ∧ x ≤ 1000000000000 := by
  intro x hx
  unfold grpL no1 at hx
  exact dgL_mem hn (tabF_rect n n _) (lessZ_bd hM) x (List.mem_of_mem_take (List.mem_filter.1 hx).1)
set_option maxHeartbeats 4000000 in
set_option maxRecDepth 100000 in
theorem spec_GroupOf_c (a : Option Addr) (n c : Nat) (M : List (List Int)) (w : World) (h : TabAt w a n M) (hS : isSm M = true) :
    Calls Tryz.prog 94 #[.slice a n c] w fun e w' => ∃ a' c', e = .returned (.slice a' (grpL M n).length c') ∧ RowAt w' a' (grpL M n).length (intVals (grpL M n)) ∧ Below w.heap.size w w' := by
  obtain ⟨_, hn, hR, hM⟩ := isSm_facts hS (tab_len h).1
  have hb0 : Below w.heap.size w (w.alloc (.cells #[] 3)) := (Below.refl _ _).alloc (Nat.le_refl _) _
  have HIS := hid (spec_IsSmall_c a n c M _ (h.below hb0 (Nat.le_refl _)))
  rw [hS] at HIS
  have HTZ := hid (spec_l23Table_c a n c M _ (h.below hb0 (Nat.le_refl _)) hR hn hM)
  have HRE := hid (tabF_rect n n (lessF M 1 1))
  have HDI := hid (fun (am : Option Addr) (cm : Nat) (V : World) (ht : TabAt V am n (lessT M n 1 1)) => spec_DiagonalOf_c am n cm (lessT M n 1 1) V ht HRE.out hn (lessZ_bd hM))
  have HG := hid (show grpL M n = no1 (dgL (lessT M n 1 1) n n) n from rfl)
  have HXL := hid (dgL_len (lessT M n 1 1) n n)
  unfold GridPost at HTZ
  obtain ⟨xs, hxs⟩ : ∃ xs, xs = dgL (lessT M n 1 1) n n := ⟨_, rfl⟩
  rw [← hxs] at HDI HG HXL
  obtain ⟨G, hG⟩ : ∃ G, G = grpL M n := ⟨_, rfl⟩
  rw [← hG] at HG
  rw [← hG]
  have HYES := hid (fun (j : Nat) (x : Int) (h : xs[j]? = some x) (hx : ¬ x = 1) => no1_yes h hx)
  have HNO := hid (fun (j : Nat) (h : xs[j]? = some 1) => no1_no h)
  have HLE := hid (fun j => no1_le xs j)
  have HN0 := hid (show no1 xs 0 = [] by simp [no1])
  obtain ⟨K, hK⟩ : ∃ K, K = no1 xs := ⟨_, rfl⟩
  rw [← hK] at HG HYES HNO HLE HN0
  have HRI := hid (show (w.alloc (.cells #[] 3)).ownsRow w.heap.size 3 1 (.slice (some ⟨w.heap.size, 0, none⟩) 0 0) 0 (intVals (K 0)) from by rw [HN0.out]; exact owns_lit3 (w := w) (base := w.heap.size) (e := 3) #[] [] rfl (Nat.le_refl _) (by unfold maxLen; simp))
  have HB0 := hid hb0
  clear h hS hR hM hxs hG hK hb0
  go_enter Tryz.func94, Tryz.ntmps94
  go_wp2_with fail
  refine HIS.out.mono ?_
  rintro e w' ⟨rfl, rfl⟩
  go_wp2_with (first | (go_at_call 136; refine HTZ.out.mono ?_; rintro e w1 ⟨v1, rfl, hg1, hb1⟩; obtain ⟨am, cm, rfl, _, htm⟩ := grid_tabC hg1 HRE.out (by omega); have hg1' := htm.tab) | (go_at_call 135; refine (HDI.out _ _ _ hg1').mono ?_; rintro e w2 ⟨g2, c2, rfl, hc2, ho2, hb2⟩))
  have HR2 := hid (show RowAt w2 (some ⟨g2, 0, none⟩) n (intVals xs) from by
    obtain ⟨ar, cr, hev, hrow⟩ := owns_rowAt ho2.out (by omega)
    simp only [Value.slice.injEq] at hev
    obtain ⟨rfl, -, -⟩ := hev
    exact hrow)
  have hbA := hb1.trans (hb2.mono hb1.size)
  have HO2 := hid (owns_below HRI.out hbA)
  have HB2 := hid (HB0.out.trans (hbA.mono (by simp)))
  obtain ⟨S, hS⟩ : ∃ S, S = w1.heap.size := ⟨_, rfl⟩
  have hS2 : S ≤ w2.heap.size := by rw [hS]; exact hb2.size
  have hgS : S ≤ g2 ∧ g2 < w2.heap.size := by have := ho2.out.lt g2 rfl; omega
  have hwS : w.heap.size + 1 ≤ S := by have := hb1.size; simp at this; omega
  clear HRI HB0 HTZ HDI HIS hg1 hg1' ho2 hb1 hb2 hbA hS
  go_loopw [3, 6] (fun v i wr => ∃ (j gj cj : Nat), j ≤ n ∧ i = .int .i64 j ∧ v = .slice (some ⟨gj, 0, none⟩) (K j).length cj ∧ Hid (wr.ownsRow w.heap.size 3 1 (.slice (some ⟨gj, 0, none⟩) (K j).length cj) (K j).length (intVals (K j))) ∧ Hid (Below w.heap.size w wr) ∧ Hid (RowAt wr (some ⟨g2, 0, none⟩) n (intVals xs)) ∧ Hid (g2 ≠ gj) ∧ Hid (g2 < wr.heap.size)) (fun _ i _ => n - (intOf i).toNat)
  case atStart => exact ⟨0, w.heap.size, 0, by omega, rfl, by rw [HN0.out]; rfl, by rw [HN0.out] at HO2 ⊢; exact HO2, HB2, HR2, hid (by omega), hid hgS.2⟩
  case round =>
    clear HO2 HB2 HR2
    obtain ⟨j, gj, cj, hj, rfl, rfl, HRI, HBL, HR2, HNE, HGL⟩ := hrel
    have hmle := HLE.out j
    obtain ⟨m, hm⟩ : ∃ m, m = (K j).length := ⟨_, rfl⟩
    have HME := hid hm
    rw [← hm] at HRI hmle
    rw [← hm]
    clear hm
    by_cases hlt : j < n
    · have hji : (j : Int) < (n : Int) := by omega
      obtain ⟨x, hx⟩ := get_some (l := xs) (n := j) (by rw [HXL.out]; exact hlt)
      obtain ⟨b, off, hbe, hbw, hcc⟩ := HR2.out.at_ (by omega)
      simp only [Option.some.injEq, Addr.mk.injEq] at hbe
      obtain ⟨rfl, rfl, -⟩ := hbe
      have hcell := hcc j _ (intVals_get hx)
      rw [Nat.zero_add] at hcell
      have hgl := (HRI.out.lt gj rfl)
      have hsz := HBL.out.size
      by_cases hx1 : x = 1
      · subst hx1
        have HE := hid (HNO.out j hx)
        have hlen : m = (K (j + 1)).length := by rw [HE.out]; exact HME.out
        clear hx hcc
        go_wp2
        go_roundw
        case rel => exact ⟨j + 1, gj, cj, by omega, by go_num, by rw [hlen], hid (by rw [← hlen, HE.out]; exact HRI.out), HBL, HR2, HNE, HGL⟩
        case measure => simp [intOf]; omega
      · have HE := hid (HYES.out j x hx hx1)
        have hxb : (x != 1) = true := by simp [hx1]
        have hlen : (K (j + 1)).length = m + 1 := by rw [HE.out, List.length_append, ← HME.out]; rfl
        have HIV := hid (show intVals (K (j + 1)) = intVals (K j) ++ [.int .i64 x] by rw [HE.out]; simp [intVals])
        clear hx
        go_wp2_with (first | (at_builtin; go_must (refine wpList_appN rfl _ _ 39 rfl w.heap.size 3 (.int .i64 0) 8 Tryz.underlying39 infoIntZ rfl gj cj m (intVals (K j)) (HRI.out.alloc _) rfl wr.heap.size 0 1 1 [.int .i64 x] rfl rfl (lit_cellsP rfl) (by intro u hu; simp at hu; subst hu; rfl) (by omega) (by unfold maxLen; omega) (by simp; omega) ?_); intro g3 c3 w4 hown3 hgr3 hor3 hlt3))
        have HO3 := hid hown3
        have HB3 := hid ((HBL.out.alloc (by omega) (.cells #[.int .i64 x] 3)).grown hgr3 (by simp; omega) (by rintro k ⟨⟩; exact hgl.1))
        have HR3 := hid ((HR2.out.below ((Below.refl wr.heap.size wr).alloc (Nat.le_refl _) (.cells #[.int .i64 x] 3)) (Nat.le_refl _)).grown hgr3 (fun b off e => by injection e with e; injection e with e1; have := HNE.out; omega))
        have HN3 := hid (show g2 ≠ g3 from by
          have h1 := HNE.out
          have h2 := HGL.out
          simp at hor3
          omega)
        have HG3 := hid (show g2 < w4.heap.size from by have := HGL.out; have := HB3.out.size; have h3 := hgr3.size; simp at h3; omega)
        clear hown3 hgr3 hor3 hcell hcc
        go_roundw
        case rel => exact ⟨j + 1, g3, c3, by omega, by go_num, by rw [hlen], hid (by rw [hlen, HIV.out]; exact HO3.out), HB3, HR3, HN3, HG3⟩
        case measure => simp [intOf]; omega
    · obtain rfl : j = n := by omega
      obtain ⟨ar, cr, hev, hrow⟩ := owns_rowAt HRI.out (by omega)
      simp only [Value.slice.injEq] at hev
      obtain ⟨rfl, -, rfl⟩ := hev
      go_wp2
      go_ret
      rw [HG.out, ← HME.out]
      exact ⟨_, _, rfl, hrow, HBL.out⟩
end Go.Proofs.YtpfeflhcbcgbfaaGreatDoor
