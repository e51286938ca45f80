/- Components counted, the reference's way. Conditions: a matrix in memory. -/
import Derived.Test.YtpfeflhcbcgbfaaGreatDoorCmpP
import Derived.Test.YtpfeflhcbcgbfaaGreatDoorIrr
import Derived.Test.YtpfeflhcbcgbfaaGreatDoorPartI
namespace Go.Proofs.YtpfeflhcbcgbfaaGreatDoor
open Go.RowKit
/-- A table of the call's own beside a row of it: what stays when the row grows. -/
structure GridB (w : World) (B gR cR n : Nat) (R : List (List Int)) (vsR : List Value) : Prop where
  own : w.ownsRow B 39 1 (.slice (some ⟨gR, 0, none⟩) n cR) n vsR
  rows : TRows 3 w B vsR R
theorem GridB.below {w w' : World} {B gR cR n : Nat} {R : List (List Int)} {vsR : List Value} (h : GridB w B gR cR n R vsR) (hb : Below w.heap.size w w') : GridB w' B gR cR n R vsR := ⟨owns_below h.own hb, h.rows.below hb⟩
theorem GridB.tab {w : World} {B gR cR n : Nat} {R : List (List Int)} {vsR : List Value} (h : GridB w B gR cR n R vsR) (hR : Rect R n n) (hn : n ≤ 1000000) : TabAt w (some ⟨gR, 0, none⟩) n R :=
  grid_tab (T1 := 39) (T0 := 3) (base := B) (cv := cR) ⟨vsR, by rw [hR.len]; exact h.own, h.rows⟩ hR hn hn
theorem GridB.grown {w w' : World} {B gR cR n m : Nat} {R : List (List Int)} {vsR vs : List Value} {v : Value} (h : GridB w B gR cR n R vsR) (ho : w.ownsRow B 39 1 v m vs) (hg : w.grownBy w' v.ownBlock) (hne : v.ownBlock ≠ some gR) : GridB w' B gR cR n R vsR :=
  ⟨h.own.kept hg (Or.inr fun e => hne (by rw [← e]; rfl)), h.rows.kept ho (by decide) hg⟩
set_option maxHeartbeats 4000000 in
set_option maxRecDepth 100000 in
theorem spec_ComponentsOf_c (a : Option Addr) (n c : Nat) (M : List (List Int)) (w : World) (h : TabAt w a n M) (hM : isMat M = true) :
    Calls Tryz.prog 42 #[.slice a n c] w fun e w' => ∃ g cg, e = .returned (.slice g (cmpN (reachOf M n) n) cg) ∧ Below w.heap.size w w' := by
  obtain ⟨hn, hR, hM0⟩ := isMat_facts hM (tab_len h).1
  have hbits := reachOf_bits (M := M) (n := n) fun i j hi hj => (hM0 i j).1
  have HRE := hid (fun (V : World) (hV : Below w.heap.size w V) => spec_ReachOf_c a n c M V (h.below hV (Nat.le_refl _)))
  rw [hM] at HRE
  simp only [if_true] at HRE
  unfold GridPost at HRE
  obtain ⟨R, hRR⟩ : ∃ R, R = reachOf M n := ⟨_, rfl⟩
  rw [← hRR] at HRE hbits
  rw [← hRR]
  have HBT := hid hbits
  have HML := hid (fun (i : Nat) (hi : i < n) => mutL_lead (R := R) hi)
  have HMY := hid (fun (i j : Nat) (hm : mutB R i j = true) => mutL_yes hm)
  have HMN := hid (fun (i j : Nat) (hm : mutB R i j = false) => mutL_no hm)
  have HMLE := hid (fun (i j : Nat) => mutL_le R i j)
  have HCY := hid (fun (j : Nat) (hm : leadB R j = true) => cmpN_yes hm)
  have HCN := hid (fun (j : Nat) (hm : leadB R j = false) => cmpN_no hm)
  have HCLE := hid (fun j => cmpN_le R j)
  have HMB := hid (fun i j => show mutB R i j = (decide (at2 R i j = 1) && decide (at2 R j i = 1)) from rfl)
  have HB0 := hid (show Below w.heap.size w (w.alloc (.cells #[] 39)) from (Below.refl _ _).alloc (Nat.le_refl _) _)
  have HO0 := hid (show (w.alloc (.cells #[] 39)).ownsRow w.heap.size 39 1 (.slice (some ⟨w.heap.size, 0, none⟩) 0 0) 0 [] from owns_lit3 #[] _ rfl (Nat.le_refl _) (by unfold maxLen; simp))
  have HRE1 := hid (HRE.out _ HB0.out)
  clear h hM hR hM0 hbits hRR HRE
  go_enter Tryz.func42, Tryz.ntmps42
  go_wp2_with fail
  refine HRE1.out.mono ?_
  rintro e w1 ⟨v, rfl, hg, hb1⟩
  obtain ⟨gR, cR, rfl, hgR, hgRl⟩ := grid_form hg HBT.out.rect.len (by omega)
  rw [World.size_alloc] at hgR
  have hgb := hg.base (base' := w.heap.size) (by simp)
  obtain ⟨vsR, hoR, hrR⟩ := hgb
  rw [HBT.out.rect.len] at hoR
  have HG1 := hid (show GridB w1 w.heap.size gR cR n R vsR from ⟨hoR, hrR⟩)
  have HO1 := hid (owns_below HO0.out hb1)
  have HB1 := hid (HB0.out.trans (hb1.mono HB0.out.size))
  have hne0 : ¬ (w.heap.size = gR) := by omega
  clear hg hoR hrR hb1 HRE1 HO0 HB0
  go_wp2
  go_loopw [3, 5] (fun v i wr => ∃ (p go co : Nat) (vs : List Value), p ≤ n ∧ i = .int .i64 p ∧ v = .slice (some ⟨go, 0, none⟩) (cmpN R p) co ∧ ¬ (go = gR) ∧ Hid (wr.ownsRow w.heap.size 39 1 (.slice (some ⟨go, 0, none⟩) (cmpN R p) co) (cmpN R p) vs) ∧ Hid (GridB wr w.heap.size gR cR n R vsR) ∧ Hid (Below w.heap.size w wr)) (fun _ i _ => n - (intOf i).toNat)
  case atStart => exact ⟨0, w.heap.size, 0, [], by omega, rfl, rfl, hne0, HO1, HG1, HB1⟩
  case round =>
    clear HO1 HG1 HB1
    obtain ⟨p, go, co, vs, hp, rfl, rfl, hgo, HOO, HGR, HBL⟩ := hrel
    obtain ⟨wo, hwo⟩ : ∃ wo, wo = wr := ⟨_, rfl⟩
    subst hwo
    by_cases hltp : p < n
    · have hpi : (p : Int) < (n : Int) := by omega
      have hszL := HBL.out.size
      have hcle := HCLE.out p
      have HTB := hid (HGR.out.tab HBT.out.rect (by omega))
      have HRI := hid (show (wo.alloc (.cells #[] 3)).ownsRow wo.heap.size 3 1 (.slice (some ⟨wo.heap.size, 0, none⟩) 0 0) 0 (natV (mutL R p 0)) from owns_lit3 (w := wo) (base := wo.heap.size) (e := 3) #[] [] rfl (Nat.le_refl _) (by unfold maxLen; simp))
      have HBA := hid (show Below wo.heap.size wo (wo.alloc (.cells #[] 3)) from (Below.refl _ _).alloc (Nat.le_refl _) _)
      obtain ⟨S, hS⟩ : ∃ S, S = wo.heap.size := ⟨_, rfl⟩
      have HSE := hid hS
      obtain ⟨D, hD⟩ : ∃ D, D = cmpN R p := ⟨_, rfl⟩
      have HDE := hid hD
      rw [← hD] at HOO hcle
      rw [← hD]
      clear hD
      go_wp2
      go_loopw [6, 7] (fun v i wr => ∃ (j gj cj : Nat), j ≤ n ∧ i = .int .i64 j ∧ v = .slice (some ⟨gj, 0, none⟩) (mutL R p j).length cj ∧ Hid (wr.ownsRow S 3 1 (.slice (some ⟨gj, 0, none⟩) (mutL R p j).length cj) (mutL R p j).length (natV (mutL R p j))) ∧ Hid (Below S wo wr)) (fun _ i _ => n - (intOf i).toNat)
      case atStart => exact ⟨0, S, 0, by omega, rfl, by rw [HSE.out]; rfl, by rw [HSE.out]; exact HRI, by rw [HSE.out]; exact HBA⟩
      case round =>
        clear HRI HBA
        obtain ⟨j, gj, cj, hj, rfl, rfl, HRI, HBQ⟩ := hrel
        have hmle := HMLE.out p j
        have hszQ := HBQ.out.size
        have hszS : S ≤ wr.heap.size := by rw [HSE.out]; exact hszQ
        obtain ⟨L, hL⟩ : ∃ L, L = mutL R p j := ⟨_, rfl⟩
        have HLE := hid hL
        rw [← hL] at HRI hmle
        rw [← hL]
        obtain ⟨m, hm⟩ : ∃ m, m = L.length := ⟨_, rfl⟩
        have HME := hid hm
        rw [← hm] at HRI hmle
        rw [← hm]
        clear hL hm
        by_cases hltj : j < n
        · have hji : (j : Int) < (n : Int) := by omega
          obtain ⟨b, off, b2, off2, c2, e1, hb, hc1, hb2, hc2⟩ := rect_cell HTB.out HBT.out.rect hltp hltj
          obtain ⟨b', off', b3, off3, c3, e2, hb', hc3, hb3, hc4⟩ := rect_cell HTB.out HBT.out.rect hltj hltp
          simp only [Option.some.injEq, Addr.mk.injEq, and_true] at e1 e2
          obtain ⟨rfl, rfl⟩ := e1
          obtain ⟨rfl, rfl⟩ := e2
          rw [Nat.zero_add] at hc1 hc3
          have hbel : Below wo.heap.size wo wr := by rw [← HSE.out]; exact HBQ.out
          have z1 := (hbel.cell (p := ⟨gR, p, none⟩) hb).trans hc1
          have z2 := (hbel.cell (p := ⟨b2, off2 + j, none⟩) hb2).trans hc2
          have z3 := (hbel.cell (p := ⟨gR, j, none⟩) hb).trans hc3
          have z4 := (hbel.cell (p := ⟨b3, off3 + p, none⟩) hb3).trans hc4
          have hx := HBT.out.bit p j hltp hltj
          have hy := HBT.out.bit j p hltj hltp
          have HMX := hid (HMB.out p j)
          have HLY := hid (fun hm => HMY.out p j hm)
          have HLN := hid (fun hm => HMN.out p j hm)
          obtain ⟨x, hxe⟩ : ∃ x, x = at2 R p j := ⟨_, rfl⟩
          obtain ⟨y, hye⟩ : ∃ y, y = at2 R j p := ⟨_, rfl⟩
          rw [← hxe] at z2 hx HMX
          rw [← hye] at z4 hy HMX
          clear hxe hye hc1 hc2 hc3 hc4 hbel
          by_cases hboth : x = 1 ∧ y = 1
          · obtain ⟨rfl, rfl⟩ := hboth
            have HL2 := hid (HLY.out (by rw [HMX.out]; rfl))
            have hgl := (HRI.out.lt gj rfl).1
            go_wp2_with (first | (at_builtin; go_must (refine wpList_appN rfl _ _ 39 rfl S 3 (.int .i64 0) 8 Tryz.underlying39 infoIntZ rfl gj cj m (natV L) (HRI.out.alloc _) rfl wr.heap.size 0 1 1 [.int .i64 j] rfl rfl (lit_cellsP rfl) (by intro u hu; simp at hu; subst hu; rfl) (by omega) (by unfold maxLen; omega) (by simp; omega) ?_); intro g3 c3 w3 hown3 hgr3 hor3 hlt3))
            have HO3 := hid hown3
            have HB3 := hid ((HBQ.out.alloc hszS (.cells #[.int .i64 j] 3)).grown hgr3 (by simp; omega) (by rintro k ⟨⟩; exact hgl))
            have hlen : (mutL R p (j + 1)).length = m + 1 := by rw [HL2.out, ← HLE.out, List.length_append, ← HME.out]; rfl
            have HNV := hid (show natV (mutL R p (j + 1)) = natV L ++ [.int .i64 (j : Int)] by rw [HL2.out, ← HLE.out]; simp [natV, intVals])
            clear hown3 hgr3 z1 z2 z3 z4
            go_roundw
            case rel => exact ⟨j + 1, g3, c3, by omega, by go_num, by rw [hlen], hid (by rw [hlen, HNV.out]; exact HO3.out), HB3⟩
            case measure => simp [intOf]; omega
          · have HL2 := hid (HLN.out (by
              rw [HMX.out]
              rcases hx with rfl | rfl <;> rcases hy with rfl | rfl <;> first | rfl | exact absurd ⟨rfl, rfl⟩ hboth))
            have HRI2 := hid (show wr.ownsRow S 3 1 (.slice (some ⟨gj, 0, none⟩) (mutL R p (j + 1)).length cj) (mutL R p (j + 1)).length (natV (mutL R p (j + 1))) from by rw [HL2.out, ← HLE.out, ← HME.out]; exact HRI.out)
            have hlen : m = (mutL R p (j + 1)).length := by rw [HL2.out, ← HLE.out, ← HME.out]
            have hx0 : x = 0 ∨ (x = 1 ∧ y = 0) := by omega
            rcases hx0 with rfl | ⟨rfl, rfl⟩
            · clear hboth
              go_wp2
              go_roundw
              case rel => exact ⟨j + 1, gj, cj, by omega, by go_num, by rw [hlen], HRI2, HBQ⟩
              case measure => simp [intOf]; omega
            · clear hboth
              go_wp2
              go_roundw
              case rel => exact ⟨j + 1, gj, cj, by omega, by go_num, by rw [hlen], HRI2, HBQ⟩
              case measure => simp [intOf]; omega
        · obtain rfl : j = n := by omega
          have HLD := hid (HML.out p hltp)
          rw [← HLE.out] at HLD
          have hbS : Below wo.heap.size wo wr := by rw [← HSE.out]; exact HBQ.out
          have ho2 := owns_below HOO.out hbS
          have HG2 := hid (HGR.out.below hbS)
          have HBW := hid (HBL.out.trans (hbS.mono hszL))
          have HYES := hid (fun hm => HCY.out p hm)
          have HNO := hid (fun hm => HCN.out p hm)
          rw [← HDE.out] at HYES HNO
          have hgl2 := (ho2.lt go rfl).1
          have hgRw : gR < wr.heap.size := (HG2.out.own.lt gR rfl).2
          cases hx : L[0]? with
          | none =>
            have hm0 : m = 0 := by
              rw [HME.out]
              cases L with
              | nil => rfl
              | cons z L => simp at hx
            have HN := hid (HNO.out (by rw [HLD.out, hx]; rfl))
            have HO2 := hid ho2
            clear ho2 hx
            subst hm0
            go_wp2
            go_roundw
            case rel => exact ⟨p + 1, go, co, vs, by omega, by go_num, by rw [HN.out], hgo, hid (by rw [HN.out]; exact HO2.out), HG2, HBW⟩
            case measure => simp [intOf]; omega
          | some z =>
            have hm0 : 0 < m := by
              rw [HME.out]
              exact (List.getElem?_eq_some_iff.1 hx).1
            have hmi : (0 : Int) < (m : Int) := by omega
            have hc0 := (HRI.out.cellAt 0 (by omega)).trans (natV_get hx)
            by_cases hzp : z = p
            · have HN := hid (HYES.out (by rw [HLD.out, hx, hzp]; simp))
              subst hzp
              clear hx
              go_wp2_with (first | (at_builtin; go_must (refine wpList_appN rfl _ _ 31 rfl w.heap.size 39 (.slice none 0 0) 24 Tryz.underlying31 infoInts rfl go co D vs (ho2.alloc _) rfl wr.heap.size 0 1 1 [.slice (some ⟨gj, 0, none⟩) m cj] rfl rfl (lit_cellsP rfl) (by intro u hu; simp at hu; subst hu; rfl) (by omega) (by unfold maxLen; omega) (by simp; omega) ?_); intro g3 c3 w3 hown3 hgr3 hor3 hlt3))
              have HO3 := hid hown3
              have HG3 := hid ((HG2.out.below ((Below.refl _ _).alloc (Nat.le_refl _) _)).grown (ho2.alloc (.cells #[.slice (some ⟨gj, 0, none⟩) m cj] 39)) hgr3 (by intro e; injection e with e; exact hgo e))
              have HB3 := hid ((HBW.out.alloc (by omega) (.cells #[.slice (some ⟨gj, 0, none⟩) m cj] 39)).grown hgr3 (by simp; omega) (by rintro k ⟨⟩; exact hgl2))
              have hgo3 : ¬ (g3 = gR) := by
                rcases hor3 with h | h
                · rw [h]; exact hgo
                · simp at h; omega
              clear hown3 hgr3 ho2
              go_roundw
              case rel => exact ⟨z + 1, g3, c3, _, by omega, by go_num, by rw [HN.out], hgo3, hid (by rw [HN.out]; exact HO3.out), HG3, HB3⟩
              case measure => simp [intOf]; omega
            · have HN := hid (HNO.out (by rw [HLD.out, hx]; simp [hzp]))
              have HO2 := hid ho2
              have hzpi : ((z : Int) == (p : Int)) = false := by simp; omega
              clear ho2 hx
              go_wp2
              go_roundw
              case rel => exact ⟨p + 1, go, co, vs, by omega, by go_num, by rw [HN.out], hgo, hid (by rw [HN.out]; exact HO2.out), HG2, HBW⟩
              case measure => simp [intOf]; omega
    · obtain rfl : p = n := by omega
      go_wp2
      go_ret
      exact ⟨_, _, rfl, HBL.out⟩
end Go.Proofs.YtpfeflhcbcgbfaaGreatDoor
