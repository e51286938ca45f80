/- Components counted, the program's way. Conditions: a matrix in memory. -/
import Derived.Test.YtpfeflhcbcgbfaaGreatDoorCmpS
namespace Go.Proofs.YtpfeflhcbcgbfaaGreatDoor
open Go.RowKit
def sbV (n : Nat) (K : Nat → Bool) : List Value := (List.range n).map fun j => Value.bool (K j)
theorem sbV_get {n : Nat} {K : Nat → Bool} {j : Nat} (h : j < n) : (sbV n K)[j]? = some (.bool (K j)) := by simp [sbV, h]
theorem sbV_ext {n : Nat} {K J : Nat → Bool} (h : ∀ j, j < n → K j = J j) : sbV n K = sbV n J := by
  unfold sbV
  exact List.map_congr_left fun j hj => by rw [h j (List.mem_range.1 hj)]
theorem sbV_set {n : Nat} {K J : Nat → Bool} {j : Nat} (hj : J j = true) (h : ∀ q, q < n → q ≠ j → J q = K q) : (sbV n K).set j (.bool true) = sbV n J := by
  refine List.ext_getElem? fun q => ?_
  rw [List.getElem?_set]
  by_cases hq : q < n
  · rw [sbV_get hq, sbV_get hq]
    by_cases e : j = q
    · subst e
      rw [if_pos rfl, if_pos (by simp [sbV]; exact hq), hj]
    · rw [if_neg e, h q hq (fun e2 => e e2.symm)]
  · have h1 : ∀ F, (sbV n F)[q]? = none := fun F => List.getElem?_eq_none (by simp [sbV]; omega)
    rw [h1, h1]
    split
    · rw [if_neg (by simp [sbV]; omega)]
    · rfl
theorem sbV_made (n : Nat) : (madeCells (Value.bool false).cells (n * 1)).toList = sbV n fun _ => false := by
  rw [Nat.mul_one]
  show (madeCells #[Value.bool false] n).toList = _
  rw [toList_madeCells_one]
  refine List.ext_getElem (by simp [sbV]) fun q h1 h2 => ?_
  simp [sbV]
theorem infoBoolZ : (Tryz.prog.info? 4).map (fun i => (i.zero, i.size, i.bytes)) = some (some (.bool false), 1, 1) := by kernel_rfl
theorem seen_zero (R : List (List Int)) : (fun j => seenR R 0 j) = fun _ => false := by
  funext j
  simp [seenR]
theorem seen_succ (R : List (List Int)) (i j : Nat) : seenR R (i + 1) j = (seenR R i j || (leadB R i && mutB R i j)) := by
  unfold seenR
  rw [List.range_succ, List.any_append]
  simp
/-- While a component is told: what is seen. -/
def seenH (R : List (List Int)) (p j q : Nat) : Bool := seenR R p q || (decide (q < j) && mutB R p q)
theorem GridB.seen {w w' : World} {B gR cR n gs : Nat} {R : List (List Int)} {vsR xs : List Value} (h : GridB w B gR cR n R vsR) (ho : w.ownsRow B 4 1 (.slice (some ⟨gs, 0, none⟩) n n) n xs) (hg : w.grownBy w' (some gs)) : GridB w' B gR cR n R vsR :=
  ⟨h.own.kept hg (by have := owns_ne h.own ho (by decide); exact this), h.rows.kept ho (by decide) hg⟩
set_option maxHeartbeats 8000000 in
set_option maxRecDepth 100000 in
theorem impl_ComponentsOf_c (a : Option Addr) (n c : Nat) (M : List (List Int)) (w : World) (h : TabAt w a n M) (hM : isMat M = true) :
    Calls Tryz.prog 52 #[.slice a n c] w fun e w' => ∃ g cg, e = .returned (.slice g (cmpN (reachOf M n) n) cg) ∧ Below w.heap.size w w' := by
  obtain ⟨hn, hR, hM0⟩ := isMat_facts hM (tab_len h).1
  have hbits := reachOf_bits (M := M) (n := n) fun i j hi hj => (hM0 i j).1
  have HIM := hid (impl_IsMatrix_c a n c M w h)
  rw [hM] at HIM
  have HRE := hid (impl_reach_c a n c M w h hR hn.1 hn.2 (fun i j hi hj => (hM0 i j).1))
  have HSL := hid (fun (i : Nat) (hi : i < n) => seen_lead (M := M) (n := n) (fun i j hi hj => (hM0 i j).1) i hi)
  unfold GridPost at HRE
  obtain ⟨R, hRR⟩ : ∃ R, R = reachOf M n := ⟨_, rfl⟩
  rw [← hRR] at HRE hbits HSL
  rw [← hRR]
  have HBT := hid hbits
  have HMY := hid (fun (i j : Nat) (hm : mutB R i j = true) => mutL_yes hm)
  have HMN := hid (fun (i j : Nat) (hm : mutB R i j = false) => mutL_no hm)
  have HMLE := hid (fun (i j : Nat) => mutL_le R i j)
  have HCY := hid (fun (j : Nat) (hm : leadB R j = true) => cmpN_yes hm)
  have HCN := hid (fun (j : Nat) (hm : leadB R j = false) => cmpN_no hm)
  have HCLE := hid (fun j => cmpN_le R j)
  have HMB := hid (fun i j => show mutB R i j = (decide (at2 R i j = 1) && decide (at2 R j i = 1)) from rfl)
  have HSU := hid (fun i j => seen_succ R i j)
  have HSZ := hid (seen_zero R)
  have HSH := hid (fun p j q => show seenH R p j q = (seenR R p q || (decide (q < j) && mutB R p q)) from rfl)
  obtain ⟨ti, hti, hz, hz1, hz2⟩ := info_parts infoBoolZ
  clear h hM hR hM0 hbits hRR
  go_enter Tryz.func52, Tryz.ntmps52
  go_wp2_with fail
  refine HIM.out.mono ?_
  rintro e w' ⟨rfl, rfl⟩
  go_wp2_with fail
  refine HRE.out.mono ?_
  rintro e w1 ⟨v, rfl, hg, hb1⟩
  obtain ⟨gR, cR, rfl, hgR, hgRl⟩ := grid_form hg HBT.out.rect.len (by omega)
  obtain ⟨vsR, hoR, hrR⟩ := hg
  rw [HBT.out.rect.len] at hoR
  have HG1 := hid (show GridB w1 w.heap.size gR cR n R vsR from ⟨hoR, hrR⟩)
  have HB1 := hid hb1
  have hs1 := hb1.size
  clear hoR hrR hb1 HRE HIM
  go_wp2_with (first | (at_make; refine wpList_make_full _ rfl _ _ 81 rfl w.heap.size 4 ti (.bool false) 1 Tryz.underlying81 hti hz hz1 .i64 .i64 _ _ n rfl rfl rfl rfl (by rw [hz2]; omega) (by unfold maxLen; omega) hs1 ?_; intro w2 hown2 hgr2))
  have HS2 := hid (show w2.ownsRow w.heap.size 4 1 (.slice (some ⟨w1.heap.size, 0, none⟩) n n) n (sbV n (fun j => seenR R 0 j)) from by rw [HSZ.out, ← sbV_made n]; exact hown2)
  have hb2 : Below w1.heap.size w1 w2 := (Below.refl _ _).grown hgr2 (Nat.le_refl _) (by intro k h; cases h)
  have HG2 := hid (HG1.out.below hb2)
  have HB2 := hid (HB1.out.trans (hb2.mono hs1))
  obtain ⟨gs, hgs⟩ : ∃ gs, gs = w1.heap.size := ⟨_, rfl⟩
  rw [← hgs] at HS2
  rw [← hgs]
  have hgsw := (HS2.out.lt gs rfl)
  have hgRs : ¬ (w2.heap.size = gR) := by have := hb2.size; omega
  have HO0 := hid (show (w2.alloc (.cells #[] 39)).ownsRow w.heap.size 39 1 (.slice (some ⟨w2.heap.size, 0, none⟩) 0 0) 0 [] from owns_lit3 #[] _ rfl (by omega) (by unfold maxLen; simp))
  have HS3 := hid (HS2.out.alloc (.cells #[] 39))
  have HG3 := hid (HG2.out.below ((Below.refl _ _).alloc (Nat.le_refl _) (.cells #[] 39)))
  have HB3 := hid (HB2.out.alloc (by omega) (.cells #[] 39))
  clear hown2 hgr2 hb2 hgs HG1 HB1 HS2 HG2 HB2
  go_wp2
  go_loopw [5, 20] (fun v i wr => ∃ (p go co : Nat) (vs : List Value), p ≤ n ∧ i = .int .i64 p ∧ v = .slice (some ⟨go, 0, none⟩) (cmpN R p) co ∧ ¬ (go = gR) ∧ Hid (wr.ownsRow w.heap.size 39 1 (.slice (some ⟨go, 0, none⟩) (cmpN R p) co) (cmpN R p) vs) ∧ Hid (wr.ownsRow w.heap.size 4 1 (.slice (some ⟨gs, 0, none⟩) n n) n (sbV n (fun j => seenR R p j))) ∧ Hid (GridB wr w.heap.size gR cR n R vsR) ∧ Hid (Below w.heap.size w wr)) (fun _ i _ => n - (intOf i).toNat)
  case atStart => exact ⟨0, w2.heap.size, 0, [], by omega, rfl, rfl, hgRs, HO0, HS3, HG3, HB3⟩
  case round =>
    clear HO0 HS3 HG3 HB3
    obtain ⟨p, go, co, vs, hp, rfl, rfl, hgo, HOO, HSS, HGR, HBL⟩ := hrel
    obtain ⟨wo, hwo⟩ : ∃ wo, wo = wr := ⟨_, rfl⟩
    subst hwo
    by_cases hltp : p < n
    · have hpi : (p : Int) < (n : Int) := by omega
      have hszL := HBL.out.size
      have hcle := HCLE.out p
      have HTB := hid (HGR.out.tab HBT.out.rect (by omega))
      obtain ⟨b, off, b2, off2, c2, e1, hb, hc1, hb2, hc2⟩ := rect_cell HTB.out HBT.out.rect hltp hltp
      simp only [Option.some.injEq, Addr.mk.injEq, and_true] at e1
      obtain ⟨rfl, rfl⟩ := e1
      rw [Nat.zero_add] at hc1
      have hcs := (HSS.out.cellAt p (by omega)).trans (sbV_get hltp)
      have hx := HBT.out.bit p p hltp hltp
      have HLD := hid (HSL.out p hltp)
      rw [HMB.out p p] at HLD
      have HYES := hid (fun hm => HCY.out p hm)
      have HNO := hid (fun hm => HCN.out p hm)
      have HSN := hid (fun (hm : leadB R p = false) => show sbV n (fun j => seenR R (p + 1) j) = sbV n (fun j => seenR R p j) from sbV_ext fun j _ => by rw [HSU.out, hm]; simp)
      have HSY := hid (fun (hm : leadB R p = true) => show sbV n (fun j => seenR R (p + 1) j) = sbV n (seenH R p n) from sbV_ext fun j hj => by rw [HSU.out, hm, HSH.out, decide_eq_true hj])
      have HS0 := hid (show sbV n (fun j => seenR R p j) = sbV n (seenH R p 0) from sbV_ext fun j _ => by rw [HSH.out]; simp)
      obtain ⟨D, hD⟩ : ∃ D, D = cmpN R p := ⟨_, rfl⟩
      rw [← hD] at HOO hcle HYES HNO
      rw [← hD]
      obtain ⟨x, hxe⟩ : ∃ x, x = at2 R p p := ⟨_, rfl⟩
      rw [← hxe] at hc2 hx HLD
      obtain ⟨s, hse⟩ : ∃ s, s = seenR R p p := ⟨_, rfl⟩
      rw [← hse] at hcs HLD
      clear hD hxe hse
      cases s with
      | true =>
        have hld : leadB R p = false := by rw [← HLD.out]; rfl
        have HN := hid (HNO.out hld)
        have HS := hid (HSN.out hld)
        clear hc1 hc2
        go_wp2
        go_roundw
        case rel => exact ⟨p + 1, go, co, vs, by omega, by go_num, by rw [HN.out], hgo, hid (by rw [HN.out]; exact HOO.out), hid (by rw [HS.out]; exact HSS.out), HGR, HBL⟩
        case measure => simp [intOf]; omega
      | false =>
        rcases hx with rfl | rfl
        · have hld : leadB R p = false := by rw [← HLD.out]; rfl
          have HN := hid (HNO.out hld)
          have HS := hid (HSN.out hld)
          go_wp2
          go_roundw
          case rel => exact ⟨p + 1, go, co, vs, by omega, by go_num, by rw [HN.out], hgo, hid (by rw [HN.out]; exact HOO.out), hid (by rw [HS.out]; exact HSS.out), HGR, HBL⟩
          case measure => simp [intOf]; omega
        · have hld : leadB R p = true := by rw [← HLD.out]; rfl
          have HN := hid (HYES.out hld)
          have HS := hid (HSY.out hld)
          have HRI := hid (show (wo.alloc (.cells #[] 3)).ownsRow wo.heap.size 3 1 (.slice (some ⟨wo.heap.size, 0, none⟩) 0 0) 0 (natV (mutL R p 0)) from owns_lit3 (w := wo) (base := wo.heap.size) (e := 3) #[] [] rfl (Nat.le_refl _) (by unfold maxLen; simp))
          have HSI := hid (show (wo.alloc (.cells #[] 3)).ownsRow w.heap.size 4 1 (.slice (some ⟨gs, 0, none⟩) n n) n (sbV n (seenH R p 0)) from by rw [← HS0.out]; exact HSS.out.alloc _)
          have HGI := hid (show wo.grownBy (wo.alloc (.cells #[] 3)) (some gs) from ⟨rfl, rfl, rfl, by simp, fun k hk _ => ((Below.refl wo.heap.size wo).alloc (Nat.le_refl _) _).block k hk⟩)
          obtain ⟨S, hSd⟩ : ∃ S, S = wo.heap.size := ⟨_, rfl⟩
          have HSE := hid hSd
          clear hld HLD HSN HSY HS0
          go_wp2
          clear hcs
          go_loopw [7, 40] (fun v i wr => ∃ (j gj cj : Nat), j ≤ n ∧ i = .int .i64 j ∧ v = .slice (some ⟨gj, 0, none⟩) (mutL R p j).length cj ∧ Hid (wr.ownsRow S 3 1 (.slice (some ⟨gj, 0, none⟩) (mutL R p j).length cj) (mutL R p j).length (natV (mutL R p j))) ∧ Hid (wr.ownsRow w.heap.size 4 1 (.slice (some ⟨gs, 0, none⟩) n n) n (sbV n (seenH R p j))) ∧ Hid (wo.grownBy wr (some gs))) (fun _ i _ => n - (intOf i).toNat)
          case atStart => exact ⟨0, S, 0, by omega, rfl, by rw [HSE.out]; rfl, by rw [HSE.out]; exact HRI, HSI, HGI⟩
          case round =>
            clear HRI HSI HGI hc1 hc2
            obtain ⟨j, gj, cj, hj, rfl, rfl, HRI, HSI, HGI⟩ := hrel
            have hmle := HMLE.out p j
            have hszQ : wo.heap.size ≤ wr.heap.size := HGI.out.size
            have hszS : S ≤ wr.heap.size := by rw [HSE.out]; exact hszQ
            have HG2 := hid (HGR.out.seen HSS.out HGI.out)
            have HOO2 := hid (HOO.out.kept HGI.out (by have := owns_ne HOO.out HSS.out (by decide); exact this))
            have HBW := hid (HBL.out.grown HGI.out hszL (by rintro k ⟨⟩; exact hgsw.1))
            by_cases hltj : j < n
            · have hji : (j : Int) < (n : Int) := by omega
              have HTB2 := hid (HG2.out.tab HBT.out.rect (by omega))
              obtain ⟨b', off', b4, off4, c4, e4, hb', hc1, hb4, hc2⟩ := rect_cell HTB2.out HBT.out.rect hltp hltj
              obtain ⟨b'', off'', b3, off3, c3, e2, hb'', hc3, hb3, hc4⟩ := rect_cell HTB2.out HBT.out.rect hltj hltp
              simp only [Option.some.injEq, Addr.mk.injEq, and_true] at e4 e2
              obtain ⟨rfl, rfl⟩ := e4
              obtain ⟨rfl, rfl⟩ := e2
              rw [Nat.zero_add] at hc1 hc3
              have hx := HBT.out.bit p j hltp hltj
              have hy := HBT.out.bit j p hltj hltp
              have HMX := hid (HMB.out p j)
              have HLY := hid (fun hm => HMY.out p j hm)
              have HLN := hid (fun hm => HMN.out p j hm)
              have HKY := hid (fun (hm : mutB R p j = true) => show (sbV n (seenH R p j)).set j (.bool true) = sbV n (seenH R p (j + 1)) from sbV_set (by rw [HSH.out, hm, decide_eq_true (by omega)]; simp) fun q _ hq => by
                rw [HSH.out, HSH.out]
                congr 2
                rw [Bool.eq_iff_iff, decide_eq_true_iff, decide_eq_true_iff]
                omega)
              have HKN := hid (fun (hm : mutB R p j = false) => show sbV n (seenH R p (j + 1)) = sbV n (seenH R p j) from sbV_ext fun q _ => by
                rw [HSH.out, HSH.out]
                by_cases hq : q = j
                · rw [hq, hm]; simp
                · congr 2
                  rw [Bool.eq_iff_iff, decide_eq_true_iff, decide_eq_true_iff]
                  omega)
              obtain ⟨x, hxe⟩ : ∃ x, x = at2 R p j := ⟨_, rfl⟩
              obtain ⟨y, hye⟩ : ∃ y, y = at2 R j p := ⟨_, rfl⟩
              rw [← hxe] at hc2 hx HMX
              rw [← hye] at hc4 hy HMX
              obtain ⟨L, hL⟩ : ∃ L, L = mutL R p j := ⟨_, rfl⟩
              have HLE := hid hL
              rw [← hL] at HRI hmle
              rw [← hL]
              obtain ⟨m, hm⟩ : ∃ m, m = L.length := ⟨_, rfl⟩
              have HME := hid hm
              rw [← hm] at HRI hmle
              rw [← hm]
              clear hL hm hxe hye
              by_cases hboth : x = 1 ∧ y = 1
              · obtain ⟨rfl, rfl⟩ := hboth
                have hmt : mutB R p j = true := by rw [HMX.out]; rfl
                have HL2 := hid (HLY.out hmt)
                have HK2 := hid (HKY.out hmt)
                have hgl := (HRI.out.lt gj rfl).1
                have hfr := HSI.out.frozenAt j
                have hst := HSI.out.stored j (.bool true)
                have hcj := HSI.out.cellAt j (by omega)
                rw [sbV_get hltj] at hcj
                rw [HK2.out] at hst
                have HST := hid hst
                have hgsS : gs < S := by rw [HSE.out]; exact (HSS.out.lt gs rfl).2
                have HRS := hid (HRI.out.kept hst.2 (Or.inr (by simp [Value.ownBlock]; omega)))
                have HGS := hid (grown_trans HGI.out hst.2)
                clear hst hmt
                go_wp2_with (first | (at_builtin; go_must (refine wpList_appN rfl _ _ 39 rfl S 3 (.int .i64 0) 8 Tryz.underlying39 infoIntZ rfl gj cj m (natV L) (HRS.out.alloc _) rfl wr.heap.size 0 1 1 [.int .i64 j] rfl rfl (by intro q u hq; have := lit_cellsP (w := wr.setCell ⟨gs, j, none⟩ (.bool true)) (cs := #[.int .i64 (j : Int)]) (T := 3) rfl q u hq; simpa using this) (by intro u hu; simp at hu; subst hu; rfl) (by omega) (by unfold maxLen; omega) (by simp; omega) ?_); intro g3 c3 w3 hown3 hgr3 hor3 hlt3))
                have HO3 := hid hown3
                have HS3 := hid ((HST.out.1.alloc (.cells #[.int .i64 j] 3)).kept hgr3 (Or.inr (by simp [Value.ownBlock]; omega)))
                have HG3 := hid (grown_own HGS.out (grown_trans (World.grownBy_alloc _ _ _) hgr3) (Or.inr (by rw [← HSE.out]; exact hgl)))
                have hlen : (mutL R p (j + 1)).length = m + 1 := by rw [HL2.out, ← HLE.out, List.length_append, ← HME.out]; rfl
                have HNV := hid (show natV (mutL R p (j + 1)) = natV L ++ [.int .i64 (j : Int)] by rw [HL2.out, ← HLE.out]; simp [natV, intVals])
                clear hown3 hgr3
                go_roundw
                case rel => exact ⟨j + 1, g3, c3, by omega, by go_num, by rw [hlen], hid (by rw [hlen, HNV.out]; exact HO3.out), HS3, HG3⟩
                case measure => simp [intOf]; omega
              · have hmt : mutB R p j = false := by
                  rw [HMX.out]
                  rcases hx with rfl | rfl <;> rcases hy with rfl | rfl <;> first | rfl | exact absurd ⟨rfl, rfl⟩ hboth
                have HL2 := hid (HLN.out hmt)
                have HK2 := hid (HKN.out hmt)
                have HRI2 := hid (show wr.ownsRow S 3 1 (.slice (some ⟨gj, 0, none⟩) (mutL R p (j + 1)).length cj) (mutL R p (j + 1)).length (natV (mutL R p (j + 1))) from by rw [HL2.out, ← HLE.out, ← HME.out]; exact HRI.out)
                have hlen : m = (mutL R p (j + 1)).length := by rw [HL2.out, ← HLE.out, ← HME.out]
                have hx0 : x = 0 ∨ (x = 1 ∧ y = 0) := by omega
                clear hmt
                rcases hx0 with rfl | ⟨rfl, rfl⟩
                · clear hboth
                  go_wp2
                  go_roundw
                  case rel => exact ⟨j + 1, gj, cj, by omega, by go_num, by rw [hlen], HRI2, hid (by rw [HK2.out]; exact HSI.out), HGI⟩
                  case measure => simp [intOf]; omega
                · clear hboth
                  go_wp2
                  go_roundw
                  case rel => exact ⟨j + 1, gj, cj, by omega, by go_num, by rw [hlen], HRI2, hid (by rw [HK2.out]; exact HSI.out), HGI⟩
                  case measure => simp [intOf]; omega
            · obtain rfl : j = n := by omega
              have ho2 := HOO2.out
              have hgl2 := (ho2.lt go rfl).1
              have hszW := HBW.out.size
              have hgRw : gR < wr.heap.size := (HG2.out.own.lt gR rfl).2
              obtain ⟨m, hm⟩ : ∃ m, m = (mutL R p j).length := ⟨_, rfl⟩
              rw [← hm]
              clear hm
              go_wp2_with (first | (at_builtin; go_must (refine wpList_appN rfl _ _ 31 rfl w.heap.size 39 (.slice none 0 0) 24 Tryz.underlying31 infoInts rfl go co D vs (ho2.alloc _) rfl wr.heap.size 0 1 1 [.slice (some ⟨gj, 0, none⟩) m cj] rfl rfl (lit_cellsP rfl) (by intro u hu; simp at hu; subst hu; rfl) (by omega) (by unfold maxLen; omega) (by simp; omega) ?_); intro g3 c3 w3 hown3 hgr3 hor3 hlt3))
              have HO3 := hid hown3
              have HG3 := hid ((HG2.out.below ((Below.refl _ _).alloc (Nat.le_refl _) _)).grown (ho2.alloc (.cells #[.slice (some ⟨gj, 0, none⟩) m cj] 39)) hgr3 (by intro e; injection e with e; exact hgo e))
              have HS3 := hid ((HSI.out.alloc (.cells #[.slice (some ⟨gj, 0, none⟩) m cj] 39)).kept hgr3 (by have := owns_ne HSI.out ho2 (by decide); exact this))
              have HB3 := hid ((HBW.out.alloc hszW (.cells #[.slice (some ⟨gj, 0, none⟩) m cj] 39)).grown hgr3 (by simp; omega) (by rintro k ⟨⟩; exact hgl2))
              have hgo3 : ¬ (g3 = gR) := by
                rcases hor3 with h | h
                · rw [h]; exact hgo
                · simp at h; omega
              clear hown3 hgr3 ho2
              go_roundw
              case rel => exact ⟨p + 1, g3, c3, _, by omega, by go_num, by rw [HN.out], hgo3, hid (by rw [HN.out]; exact HO3.out), hid (by rw [HS.out]; exact HS3.out), HG3, HB3⟩
              case measure => simp [intOf]; omega
    · obtain rfl : p = n := by omega
      go_wp2
      go_ret
      exact ⟨_, _, rfl, HBL.out⟩
end Go.Proofs.YtpfeflhcbcgbfaaGreatDoor
