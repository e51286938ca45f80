/- Products and powers of matrices, closed paths, the program's. Conditions: matrices in memory. -/
import Derived.Test.YtpfeflhcbcgbfaaGreatDoorMnrP
import Derived.Test.YtpfeflhcbcgbfaaGreatDoorPrim
import Derived.Test.YtpfeflhcbcgbfaaGreatDoorPow
namespace Go.Proofs.YtpfeflhcbcgbfaaGreatDoor
open Go.RowKit
def muLn (A B : List (List Int)) (n p k j : Nat) : List Int := (List.range n).map fun q => if q < j then mulTo A B p q (k + 1) else mulTo A B p q k
def muP (A B : List (List Int)) (n i : Nat) : List (List Int) := (List.range i).map fun p => muLn A B n p n 0
theorem muLn_len (A B : List (List Int)) (n p k j : Nat) : (muLn A B n p k j).length = n := by simp [muLn]
theorem muLn_get {A B : List (List Int)} {n p k j q : Nat} (h : q < n) : (muLn A B n p k j)[q]? = some (if q < j then mulTo A B p q (k + 1) else mulTo A B p q k) := by simp [muLn, h]
theorem muLn_zero (A B : List (List Int)) (n p : Nat) : muLn A B n p 0 0 = List.replicate n 0 := by
  refine List.ext_getElem (by simp [muLn]) fun q h1 h2 => ?_
  simp only [muLn, List.getElem_map, List.getElem_range, List.getElem_replicate]
  rw [if_neg (by omega)]
  rfl
theorem muLn_here {A B : List (List Int)} {n p k j : Nat} (h : j < n) : (muLn A B n p k j)[j]? = some (mulTo A B p j k) := by rw [muLn_get h, if_neg (by omega)]
theorem muLn_set {A B : List (List Int)} {n p k j : Nat} (h : j < n) : (muLn A B n p k j).set j (mulTo A B p j k + at2 A p k * at2 B k j) = muLn A B n p k (j + 1) := by
  refine List.ext_getElem? fun q => ?_
  rw [List.getElem?_set, muLn_len]
  by_cases hq : q < n
  · rw [muLn_get hq, muLn_get hq]
    by_cases h1 : j = q
    · subst h1
      rw [if_pos rfl, if_pos hq, if_pos (by omega)]
      rfl
    · rw [if_neg h1]
      by_cases h2 : q < j
      · rw [if_pos h2, if_pos (by omega)]
      · rw [if_neg h2, if_neg (by omega)]
  · rw [if_neg (by omega), List.getElem?_eq_none (by rw [muLn_len]; omega), List.getElem?_eq_none (by rw [muLn_len]; omega)]
theorem muLn_next (A B : List (List Int)) (n p k : Nat) : muLn A B n p k n = muLn A B n p (k + 1) 0 := by
  refine List.map_congr_left fun q hq => ?_
  rw [if_pos (List.mem_range.1 hq), if_neg (by omega)]
theorem muP_succ (A B : List (List Int)) (n i : Nat) : muP A B n (i + 1) = muP A B n i ++ [muLn A B n i n 0] := by simp [muP, List.range_succ]
theorem muP_len (A B : List (List Int)) (n i : Nat) : (muP A B n i).length = i := by simp [muP]
theorem muP_end {A B : List (List Int)} {n : Nat} (hA : A.length = n) (hB : B.length = n) : muP A B n n = muOf A B n := by
  unfold muP muOf
  rw [hA, hB]
  refine List.map_congr_left fun p _ => ?_
  unfold muLn
  refine List.map_congr_left fun q _ => ?_
  rw [if_neg (by omega)]
set_option maxHeartbeats 4000000 in
set_option maxRecDepth 100000 in
theorem impl_times_c (a b : Option Addr) (n ca cb : Nat) (A B : List (List Int)) (w : World) (ha : TabAt w a n A) (hb : TabAt w b n B) (hRA : Rect A n n) (hRB : Rect B n n) (h1 : 1 ≤ n) (h9 : n ≤ 9) (hbA : ∀ i j, 0 ≤ at2 A i j ∧ at2 A i j ≤ 1000000) (hbB : ∀ i j, 0 ≤ at2 B i j ∧ at2 B i j ≤ 1000000) :
    Calls Tryz.prog 164 #[.slice a n ca, .slice b n cb] w (GridPost (muOf A B n) w) := by
  have HAR := hid (fun (i : Nat) (hi : i < n) => rect_row ha hRA hi)
  have HBR := hid (fun (i : Nat) (hi : i < n) => rect_row hb hRB hi)
  have HLZ := hid (fun p => muLn_zero A B n p)
  have HLH := hid (fun (p k j : Nat) (h : j < n) => muLn_here (A := A) (B := B) (p := p) (k := k) h)
  have HLS := hid (fun (p k j : Nat) (h : j < n) => muLn_set (A := A) (B := B) (p := p) (k := k) h)
  have HLN := hid (fun (p k : Nat) => muLn_next A B n p k)
  have HLL := hid (fun (p k j : Nat) => muLn_len A B n p k j)
  have HPS := hid (fun i => muP_succ A B n i)
  have HPL := hid (fun i => muP_len A B n i)
  have HPE := hid (muP_end (A := A) (B := B) hRA.len hRB.len)
  have HP0 := hid (show muP A B n 0 = [] from rfl)
  have HMB := hid (fun (p q k : Nat) (hk : k ≤ n) => sumTo_bd (f := fun t => at2 A p t * at2 B t q) (n := n) (B := 1000000 * 1000000) (fun t _ => prod_bd (hbA p t) (hbB t q)) k hk)
  have HAB := hid (fun (p k j : Nat) => prod_bd (hbA p k) (hbB k j))
  have HMT := hid (fun (p q k : Nat) => show sumTo (fun t => at2 A p t * at2 B t q) k = mulTo A B p q k from rfl)
  simp only [HMT.out] at HMB
  obtain ⟨ti, hti, hz, hz1, hz2⟩ := info_parts infoIntZ
  obtain ⟨FIN, hFIN⟩ : ∃ FIN, FIN = muOf A B n := ⟨_, rfl⟩
  rw [← hFIN] at HPE
  rw [← hFIN]
  obtain ⟨TO, hTO⟩ : ∃ TO, TO = muP A B n := ⟨_, rfl⟩
  rw [← hTO] at HPS HPL HPE HP0
  obtain ⟨LN, hLN⟩ : ∃ LN, LN = muLn A B n := ⟨_, rfl⟩
  rw [← hLN] at HLZ HLH HLS HLN HLL HPS
  have HO0 := hid (show (w.alloc (.cells #[] 39)).ownsRow w.heap.size 39 1 (.slice (some ⟨w.heap.size, 0, none⟩) 0 0) 0 [] from owns_lit3 #[] _ rfl (Nat.le_refl _) (by unfold maxLen; simp))
  have HT0 := hid (show TRows 3 (w.alloc (.cells #[] 39)) w.heap.size [] (TO 0) from by rw [HP0.out]; exact TRows.nil _ _ _)
  have HB0 := hid (show Below w.heap.size w (w.alloc (.cells #[] 39)) from (Below.refl _ _).alloc (Nat.le_refl _) _)
  clear ha hb hRA hRB hbA hbB hFIN hTO hLN
  go_enter Tryz.func164, Tryz.ntmps164
  go_wp2
  go_loopw [5, 16] (fun v i wr => ∃ (p go co : Nat) (vs : List Value), p ≤ n ∧ i = .int .i64 p ∧ v = .slice (some ⟨go, 0, none⟩) p co ∧ Hid (wr.ownsRow w.heap.size 39 1 (.slice (some ⟨go, 0, none⟩) p co) p vs) ∧ Hid (TRows 3 wr w.heap.size vs (TO p)) ∧ Hid (Below w.heap.size w wr)) (fun _ i _ => n - (intOf i).toNat)
  case atStart => exact ⟨0, w.heap.size, 0, [], by omega, rfl, rfl, HO0, HT0, HB0⟩
  case round =>
    clear HO0 HT0 HB0
    obtain ⟨p, go, co, vs, hp, rfl, rfl, HOO, HRS, HBL⟩ := hrel
    obtain ⟨wo, hwo⟩ : ∃ wo, wo = wr := ⟨_, rfl⟩
    subst hwo
    by_cases hltp : p < n
    · have hpi : (p : Int) < (n : Int) := by omega
      obtain ⟨b1, off1, a1, c1, r1, rfl, hb1, hc1, hrow1, hr1, hat1⟩ := HAR.out p hltp
      have hcp := (HBL.out.cell (p := ⟨b1, off1 + p, none⟩) hb1).trans hc1
      obtain ⟨b2, off2, a2, c2, r2, rfl, hb2, hc2, hrow2, hr2, hat2⟩ := HBR.out 0 (by omega)
      have hc0 := (HBL.out.cell (p := ⟨b2, off2 + 0, none⟩) hb2).trans hc2
      have HROW1 := hid hrow1
      have HAT1 := hid hat1
      have HPN := hid (HPS.out p)
      have hszL := HBL.out.size
      rw [Nat.add_zero] at hc0
      obtain ⟨S, hS⟩ : ∃ S, S = wo.heap.size := ⟨_, rfl⟩
      clear hc1 hrow1 hr1 hat1 hc2 hrow2 hr2 hat2
      go_wp2_with (first | (at_make; refine wpList_make_full _ rfl _ _ 39 rfl wo.heap.size 3 ti (.int .i64 0) 1 Tryz.underlying39 hti hz hz1 .i64 .i64 _ _ n rfl rfl rfl rfl (by rw [hz2]; omega) (by unfold maxLen; omega) (Nat.le_refl _) ?_; intro w1 hown1 hgr1))
      have HO1 := hid (show w1.ownsRow wo.heap.size 3 1 (.slice (some ⟨wo.heap.size, 0, none⟩) n n) n (intVals (LN p 0 0)) from by rw [HLZ.out, ← made_zeros n]; exact hown1)
      have HB1 := hid (show Below wo.heap.size wo w1 from (Below.refl _ _).grown hgr1 (Nat.le_refl _) (by intro k h; cases h))
      rw [← hS] at HO1 HB1
      have HSE := hid hS
      clear hown1 hgr1 hc0 hcp
      try rw [← hS]
      clear hS
      go_loopw [27] (fun i wr => ∃ k : Nat, k ≤ n ∧ i = .int .i64 k ∧ Hid (wr.ownsRow S 3 1 (.slice (some ⟨S, 0, none⟩) n n) n (intVals (LN p k 0))) ∧ Hid (Below S wo wr)) (fun i _ => n - (intOf i).toNat)
      case atStart => exact ⟨0, by omega, rfl, HO1, HB1⟩
      case round =>
        clear HO1 HB1
        obtain ⟨k, hk, rfl, HO1, HB1⟩ := hrel
        by_cases hltk : k < n
        · have hki : (k : Int) < (n : Int) := by omega
          have hbS : Below wo.heap.size wo wr := by rw [← HSE.out]; exact HB1.out
          have hBW := HBL.out.trans (hbS.mono hszL)
          obtain ⟨b3, off3, rfl, hb3, hc3⟩ := HROW1.out.at_ (by omega)
          have hrl1 : r1.length = n := by simpa [intVals] using HROW1.out.len
          have hcx := (hBW.cell (p := ⟨b3, off3 + k, none⟩) hb3).trans (hc3 k (.int .i64 (at0 r1 k)) (intVals_get (at0_some (by omega))))
          rw [← HAT1.out k] at hcx
          obtain ⟨b4, off4, a4, c4, r4, hbe, hb4, hc4, hrow4, hr4, hat4⟩ := HBR.out k hltk
          simp only [Option.some.injEq, Addr.mk.injEq] at hbe
          obtain ⟨rfl, rfl, -⟩ := hbe
          have hck := (hBW.cell (p := ⟨b2, off2 + k, none⟩) hb4).trans hc4
          have HROW4 := hid hrow4
          have HAT4 := hid hat4
          have HBW := hid hBW
          obtain ⟨x, hx⟩ : ∃ x, x = at2 A p k := ⟨_, rfl⟩
          rw [← hx] at hcx
          have HXE := hid hx
          clear hc3 hc4 hrow4 hr4 hat4 hbS hBW hrl1 hx
          go_wp2
          go_loopw [37] (fun i wr => ∃ j : Nat, j ≤ n ∧ i = .int .i64 j ∧ Hid (wr.ownsRow S 3 1 (.slice (some ⟨S, 0, none⟩) n n) n (intVals (LN p k j))) ∧ Hid (Below S wo wr)) (fun i _ => n - (intOf i).toNat)
          case atStart => exact ⟨0, by omega, rfl, HO1, HB1⟩
          case round =>
            clear HO1 HB1 hcx hck
            obtain ⟨j, hj, rfl, HO1, HB1⟩ := hrel
            by_cases hltj : j < n
            · have hji : (j : Int) < (n : Int) := by omega
              have hbS : Below wo.heap.size wo wr := by rw [← HSE.out]; exact HB1.out
              have hBW := HBL.out.trans (hbS.mono hszL)
              obtain ⟨b5, off5, rfl, hb5, hc5⟩ := HROW4.out.at_ (by omega)
              have hrl4 : r4.length = n := by simpa [intVals] using HROW4.out.len
              have hcy := (hBW.cell (p := ⟨b5, off5 + j, none⟩) hb5).trans (hc5 j (.int .i64 (at0 r4 j)) (intVals_get (at0_some (by omega))))
              rw [← HAT4.out j] at hcy
              have hcu := (HO1.out.cellAt j (by omega)).trans (intVals_get (HLH.out p k j hltj))
              have hfr := HO1.out.frozenAt j
              have hab := HAB.out p k j
              have hmb := HMB.out p j k hk
              have hls := HLS.out p k j hltj
              rw [← HXE.out] at hab hls
              obtain ⟨y, hy⟩ : ∃ y, y = at2 B k j := ⟨_, rfl⟩
              rw [← hy] at hcy hab hls
              obtain ⟨u, hu⟩ : ∃ u, u = mulTo A B p j k := ⟨_, rfl⟩
              rw [← hu] at hcu hmb hls
              have hst := HO1.out.stored j (.int .i64 (u + x * y))
              rw [intVals_put, hls] at hst
              have HST := hid hst
              obtain ⟨z, hzz⟩ : ∃ z, z = x * y := ⟨_, rfl⟩
              have hw1 : IntKind.i64.wrap (x * y) = x * y := IntWalk.i64_in _ (by omega)
              have hw2 : IntKind.i64.wrap (u + x * y) = u + x * y := IntWalk.i64_in _ (by rw [← hzz] at hab ⊢; omega)
              clear hc5 hbS hBW hrl4 hy hu hst hls hab hmb hzz
              go_wp2
              go_roundw
              case rel => exact ⟨j + 1, by omega, by go_num, hid HST.out.1, hid (HB1.out.setCell (Nat.le_refl _) _)⟩
              case measure => simp [intOf]; omega
            · obtain rfl : j = n := by omega
              have HO2 := hid (show wr.ownsRow S 3 1 (.slice (some ⟨S, 0, none⟩) j j) j (intVals (LN p (k + 1) 0)) from by rw [← HLN.out]; exact HO1.out)
              go_wp2
              go_roundw
              case rel => exact ⟨k + 1, by omega, by go_num, HO2, HB1⟩
              case measure => simp [intOf]; omega
        · obtain rfl : k = n := by omega
          have hbS : Below wo.heap.size wo wr := by rw [← HSE.out]; exact HB1.out
          have hgS : wo.heap.size ≤ S := by rw [← HSE.out]; exact Nat.le_refl _
          have ho2 := owns_below HOO.out hbS
          have hszQ := hbS.size
          have HR2 := hid (HRS.out.moreAt (r := LN p k 0) (c := k) (below_none hbS) hgS (by rw [HLL.out]; exact owns_base HO1.out (by rw [HSE.out]; exact hszL)))
          rw [HLL.out] at HR2
          go_wp2_with (first | (at_builtin; go_must (refine wpList_appN rfl _ _ 31 rfl w.heap.size 39 (.slice none 0 0) 24 Tryz.underlying31 infoInts rfl go co p vs (ho2.alloc _) rfl wr.heap.size 0 1 1 [.slice (some ⟨S, 0, none⟩) k k] rfl rfl (lit_cellsP rfl) (by intro u hu; simp at hu; subst hu; rfl) (by omega) (by unfold maxLen; omega) (by simp; omega) ?_); intro g3 c3 w3 hown3 hgr3 hor3 hlt3))
          have HR3 := hid ((HR2.out.below ((Below.refl _ _).alloc (Nat.le_refl _) _)).kept (ho2.alloc _) (by decide) hgr3)
          have HO3 := hid hown3
          have HB3 := hid (((HBL.out.trans (hbS.mono hszL)).alloc (by omega) _).grown hgr3 (by simp; omega) (by rintro k ⟨⟩; exact (ho2.lt go rfl).1))
          clear hown3 hgr3 ho2 hbS
          go_roundw
          case rel => exact ⟨p + 1, g3, c3, _, by omega, by go_num, rfl, HO3, hid (by rw [HPN.out]; exact HR3.out), HB3⟩
          case measure => simp [intOf]; omega
    · obtain rfl : p = n := by omega
      have HF := hid (show TGrid 39 3 wo w.heap.size (.slice (some ⟨go, 0, none⟩) p co) FIN from ⟨vs, by rw [← HPE.out, HPL.out]; exact HOO.out, by rw [← HPE.out]; exact HRS.out⟩)
      go_wp2
      go_ret
      exact ⟨_, rfl, HF.out, HBL.out⟩
end Go.Proofs.YtpfeflhcbcgbfaaGreatDoor
