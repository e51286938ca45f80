/- Labelled graphs: how many states the smallest one has, the reference's way. Conditions: a resolving labelled graph, its arcs in memory. -/
import Derived.Test.YtpfeflhcbcgbfaaDoorClsW
import Derived.Test.YtpfeflhcbcgbfaaDoorSmlI
namespace Go.Proofs.YtpfeflhcbcgbfaaDoor
open Go.RowKit

theorem repN_lt {r : Nat → Nat → Bool} (h : EqR r) {p S : Nat} (hp : p < S) : repN r p < S := by
  obtain ⟨h1, _⟩ := repN_facts h p
  omega
set_option maxHeartbeats 4000000 in
set_option maxRecDepth 100000 in
theorem spec_SmallestLabels_yes (L S : Nat) (a : Option Addr) (n c : Nat) (G : List (Nat × Nat × Nat)) (w : World) (hr : RowAt w a (n * 3) (arcVals (arcN G))) (hn : n ≤ 1000000) (h : resolvB L S (arcN G) = true) (hG : LabG L S G) :
    Calls Tryd.prog 16 #[.agg #[.int .i64 L, .int .i64 S, .slice a n c]] w (SmalPost L S G w) := by
  obtain ⟨W2, hW2⟩ : ∃ W2, W2 = (w.alloc (.cells #[.int .i64 L, .int .i64 S, .slice a n c] 29)).alloc (.cells #[.int .i64 0, .int .i64 0, .slice none 0 0] 29) := ⟨_, rfl⟩
  have hs2 : W2.heap.size = w.heap.size + 1 + 1 := by rw [hW2]; simp
  have HBX := hid (fun (V : World) (hV : Below W2.heap.size W2 V) => show BoxC V w.heap.size #[.int .i64 L, .int .i64 S, .slice a n c] ∧ BoxC V (w.heap.size + 1) #[.int .i64 0, .int .i64 0, .slice none 0 0] ∧ Below w.heap.size w V from by
    rw [hW2] at hV
    obtain ⟨⟨c0, f0⟩, ⟨c1, f1⟩, h4, h5⟩ := box2 hV
    exact ⟨⟨by omega, c0, f0⟩, ⟨h4, c1, f1⟩, h5⟩)
  have HI := hid (fun (W : World) (hW : Below w.heap.size w W) => spec_IsResolving_c L S a n c (arcN G) W (hr.below hW (Nat.le_refl _)) (by omega))
  rw [h] at HI
  have HCL := hid (fun (W : World) (hW : Below w.heap.size w W) => l15Classes_c L S a n c G W (hr.below hW (Nat.le_refl _)) hG (by omega))
  have HAR := hid (garcs_at hr (Below.refl _ _))
  have HGL := hid hG
  obtain ⟨HX0, HX1, hbw⟩ := HBX.out W2 (Below.refl _ _)
  obtain ⟨p0, p1, p2⟩ := HX0.c3.1
  have h12 := hG.s12
  have h1 := hG.s1
  have hL3 := hG.k3
  obtain ⟨ti, hi, hz, hz1, hz2⟩ := info_parts infoIntZ
  clear hr h HX0 HX1 hG
  go_enter Tryd.func16, Tryd.ntmps16
  go_wp2_with (rw [← hW2])
  first | rw [← hW2] | skip
  refine (HI.out _ hbw).mono ?_
  rintro e w1 ⟨rfl, hb1⟩
  obtain ⟨HX0, HX1, hbw1⟩ := HBX.out w1 hb1
  clear hW2 p0 p1 p2 hbw
  obtain ⟨p0, p1, p2⟩ := HX0.c3.1
  go_wp2_with fail
  refine (HCL.out _ hbw1).mono ?_
  rintro e w6 ⟨t, g, c', hst, rfl, hown, hb6⟩
  have hb26 := hb1.trans (hb6.mono hb1.size)
  have hgl : g < w6.heap.size := (hown.lt g rfl).2
  have HST := hid hst
  have HEQ := hid (relN_eqR G L t)
  have HCN := hid (show cntN G L S t = numTo (isRep (relN G L t)) S from rfl)
  obtain ⟨R, hR⟩ : ∃ R, R = relN G L t := ⟨_, rfl⟩
  rw [← hR] at HEQ HCN hown
  have HCC := hid (fun (V : World) (hV : Below w6.heap.size w6 V) (p : Nat) (hp : p < S) => show V.cell? ⟨g, p, none⟩ = some (.int .i64 (repN R p : Nat)) from (hV.cell (p := ⟨g, p, none⟩) hgl).trans ((hown.cellAt p (by omega)).trans (intVals_get (show (repL R S)[p]? = some ((repN R p : Nat) : Int) from by unfold repL; rw [List.getElem?_map, List.getElem?_range hp]; rfl))))
  clear HX0 HX1 hbw1 p0 p1 p2 HI HCL hst hR hown hb1 hb6
  obtain ⟨HX0, HX1, hbw6⟩ := HBX.out w6 hb26
  obtain ⟨p0, p1, p2⟩ := HX0.c3.1
  have HB26 := hid hb26
  have hl1 := HX1.lt
  have hl0 := hbw6.size
  have HX06 := hid HX0
  have HX16 := hid HX1
  obtain ⟨bN, hbN⟩ : ∃ bN, bN = w6.heap.size := ⟨_, rfl⟩
  have hbNe := hid hbN
  clear hb26 HX0 HX1
  go_wp2_with (first | (at_make; refine wpList_make_full _ rfl _ _ 41 rfl w6.heap.size 3 ti (.int .i64 0) 1 Tryd.underlying41 hi hz hz1 .i64 .i64 _ _ S rfl rfl rfl rfl (by rw [hz2]; omega) (by unfold maxLen; omega) (Nat.le_refl _) ?_; intro w3 hown3 hgr3; have hb3 : Below w6.heap.size w6 w3 := (Below.refl _ _).grown hgr3 (Nat.le_refl _) (by intro k h; cases h); obtain ⟨q0, q1, q2⟩ := (HX06.out.below hb3).c3.1))
  rw [← numV_zero (isRep R) S, ← hbNe.out] at hown3
  obtain ⟨W7, hW7⟩ : ∃ W7, W7 = w3.alloc (.cells #[.int .i64 L, .int .i64 0, .slice none 0 0] 29) := ⟨_, rfl⟩
  obtain ⟨bO, hbO⟩ : ∃ bO, bO = w3.heap.size := ⟨_, rfl⟩
  have hNl : bN < w3.heap.size := (hown3.lt _ rfl).2
  have hb37 : Below w3.heap.size w3 W7 := by rw [hW7]; exact (Below.refl _ _).alloc (Nat.le_refl _) _
  have HQ0 := hid (show KeepQ 3 53 w W7 w.heap.size (w.heap.size + 1) bN bO (bO + 1) #[.int .i64 L, .int .i64 S, .slice a n c] #[.int .i64 0, .int .i64 0, .slice none 0 0] S (numV (isRep R) S 0) (.int .i64 L) (.int .i64 ((numTo (isRep R) 0 : Nat) : Int)) (.slice none 0 0) 0 [] from by
    have hz7 : W7.heap.size = bO + 1 := by rw [hW7, hbO]; simp
    exact ⟨(hbw6.trans (hb3.mono hbw6.size)).trans (hb37.mono (by have := hb3.size; omega)), by omega, by omega, (HX06.out.below hb3).below hb37, (HX16.out.below hb3).below hb37, owns_below hown3 hb37, by rw [hW7, hbO]; exact BoxC.new _ _ _, World.ownsRow_nil _ _ _ _⟩)
  have HV0 := hid (hb3.trans (hb37.mono hb3.size))
  rw [← hW7, ← hbO]
  first | rw [← hbNe.out] | skip
  rw [← hbNe.out] at HCC HV0
  clear hW7 hbO hown3 hgr3 hb3 hb37 hbw6 p0 p1 p2 q0 q1 q2 hbN
  go_loopw [7] (fun i wr => ∃ q : Nat, q ≤ S ∧ i = .int .i64 q ∧ KeepQ 3 53 w wr w.heap.size (w.heap.size + 1) bN bO (bO + 1) #[.int .i64 L, .int .i64 S, .slice a n c] #[.int .i64 0, .int .i64 0, .slice none 0 0] S (numV (isRep R) S q) (.int .i64 L) (.int .i64 ((numTo (isRep R) q : Nat) : Int)) (.slice none 0 0) 0 [] ∧ Below bN w6 wr) (fun i _ => S - (intOf i).toNat)
  case atStart => exact ⟨0, by omega, rfl, HQ0.out, HV0.out⟩
  case round =>
    clear HQ0 HV0
    obtain ⟨q, hq, rfl, HQ, hb6⟩ := hrel
    obtain ⟨p0, p1, p2⟩ := HQ.b0.c3.1
    by_cases hlt : q < S
    · have hcq := HCC.out wr hb6 q hlt
      obtain ⟨⟨o0, o1, o2⟩, f0, f1, f2⟩ := HQ.b3.c3
      have hqi : (q : Int) < (S : Int) := by omega
      have hnc := (HQ.num.cellAt q (by omega)).trans (numV_get hlt)
      rw [if_neg (by omega)] at hnc
      have hnf := HQ.num.frozenAt q
      have hord := HQ.ord
      have hne1 : ¬ (bO = bN) := by omega
      have hne2 : ¬ (bN = bO) := by omega
      have hbb : bN ≤ bO := by omega
      have hm := numTo_le (isRep R) q
      have HQH := hid HQ
      have HB6 := hid hb6
      have HYES := hid (fun h : isRep R q = true => numV_yes (S := S) h hlt)
      have HNO := hid (fun h : isRep R q = false => numV_no (S := S) h)
      have HY2 := hid (fun h : isRep R q = true => numTo_yes h)
      have HN2 := hid (fun h : isRep R q = false => numTo_no h)
      have HDF := hid (show isRep R q = decide (repN R q = q) from rfl)
      obtain ⟨x, hx⟩ : ∃ x, x = isRep R q := ⟨_, rfl⟩
      obtain ⟨y, hy⟩ : ∃ y, y = numTo (isRep R) q := ⟨_, rfl⟩
      obtain ⟨z, hz⟩ : ∃ z, z = repN R q := ⟨_, rfl⟩
      rw [← hz] at hcq HDF
      rw [← hx] at HYES HNO HY2 HN2 HDF
      rw [← hy] at o1 HY2 HN2 hm HYES HQH
      clear hx hy hz HQ hord hb6
      cases x
      · have H1 := hid (HNO.out rfl)
        have H2 := hid (HN2.out rfl)
        have hzq : ((z : Int) == (q : Int)) = false := by
          have := HDF.out.symm
          rw [decide_eq_false_iff_not] at this
          simp; omega
        clear HYES HNO HY2 HN2 HDF
        go_wp2
        go_roundw
        case rel => exact ⟨q + 1, by omega, by go_num, by rw [H1.out, H2.out]; exact HQH.out, HB6.out⟩
        case measure => simp [intOf] <;> omega
      · have H1 := hid (HYES.out rfl)
        have H2 := hid (HY2.out rfl)
        have hzq : z = q := by
          have := HDF.out.symm
          rwa [decide_eq_true_iff] at this
        clear HYES HNO HY2 HN2 HDF
        subst hzq
        go_wp2
        go_roundw
        case rel => exact ⟨z + 1, by omega, by go_num, by
          have h1 := (HQH.out.setNum z (.int .i64 (y : Int))).setQ (.int .i64 ((y : Int) + 1))
          rw [H1.out] at h1
          rw [H2.out]
          exact h1, (HB6.out.setCell (p := ⟨bN, z, none⟩) (Nat.le_refl _) _).setCell (p := ⟨bO, 1, none⟩) hbb _⟩
        case measure => simp [intOf] <;> omega
    · obtain rfl : q = S := by omega
      have HQ0 := hid HQ
      have HV0 := hid hb6
      clear HQ hb6
      go_wp2
      go_loopw [8] (fun i wr => ∃ (k : Nat) (v : Value) (m : Nat) (xs : List Value), k ≤ n ∧ i = .int .i64 k ∧ m ≤ k ∧ KeepQ 3 53 w wr w.heap.size (w.heap.size + 1) bN bO (bO + 1) #[.int .i64 L, .int .i64 q, .slice a n c] #[.int .i64 0, .int .i64 0, .slice none 0 0] q (numV (isRep R) q q) (.int .i64 L) (.int .i64 ((numTo (isRep R) q : Nat) : Int)) v m xs ∧ Below bN w6 wr) (fun i _ => n - (intOf i).toNat)
      case atStart => exact ⟨0, _, 0, [], by omega, rfl, Nat.le_refl _, HQ0.out, HV0.out⟩
      case round =>
        clear HQ0 HV0 p0 p1 p2
        obtain ⟨k, v, m, xs, hk, rfl, hmk, HQ, hb6⟩ := hrel
        obtain ⟨p0, p1, p2⟩ := HQ.b0.c3.1
        by_cases hlt : k < n
        · obtain ⟨y, hy⟩ := get_some (l := G) (n := k) (by rw [HAR.out.1]; exact hlt)
          obtain ⟨b1, off1, rfl, hb1, hc1⟩ := HAR.out.2 k y hy
          have hya := HGL.out.arc y (List.mem_of_getElem? hy)
          obtain ⟨f, t', l⟩ := y
          obtain ⟨g0, g1, g2⟩ := hc1 wr HQ.bel
          have hki : (k : Int) < (n : Int) := by omega
          simp only [] at g0 g1 g2 hya
          have hfS : (f : Int) < (q : Int) := by omega
          have htS : (t' : Int) < (q : Int) := by omega
          obtain ⟨WA, hWA⟩ : ∃ WA, WA = wr.alloc (.cells #[.int .i64 f, .int .i64 t', .int .i64 l] 53) := ⟨_, rfl⟩
          have hbA : Below wr.heap.size wr WA := by rw [hWA]; exact (Below.refl _ _).alloc (Nat.le_refl _) _
          have hszr : bN ≤ wr.heap.size := by have := HQ.ord; have := HQ.sz; omega
          have HQA := hid (HQ.below hbA)
          have HBA := hid (show BoxC WA wr.heap.size #[.int .i64 f, .int .i64 t', .int .i64 l] by rw [hWA]; exact BoxC.new _ _ _)
          have HVA := hid (hb6.trans (hbA.mono hszr))
          have HCF := hid (fun V hV => HCC.out V hV f hya.1)
          have HCT := hid (fun V hV => HCC.out V hV t' hya.2.1)
          have HDF := hid (show isRep R f = decide (repN R f = f) from rfl)
          have hrt := repN_lt HEQ.out hya.2.1
          have hrti : ((repN R t' : Nat) : Int) < (q : Int) := by omega
          have HRT2 := hid (show isRep R (repN R t') = true from by unfold isRep; rw [decide_eq_true_eq]; exact repN_rep HEQ.out t')
          have HNT := hid ((HQA.out.num.cellAt (repN R t') (by omega)).trans (numV_get (K := isRep R) (i := q) hrt) |>.trans (by rw [if_pos ⟨HRT2.out, hrt⟩]))
          have HNF := hid (fun h : isRep R f = true => (HQA.out.num.cellAt f (by omega)).trans (numV_get (K := isRep R) (i := q) hya.1) |>.trans (by rw [if_pos ⟨h, hya.1⟩]))
          obtain ⟨rt, hrtd⟩ : ∃ rt, rt = repN R t' := ⟨_, rfl⟩
          rw [← hrtd] at HCT hrt hrti HNT
          obtain ⟨nt, hnt⟩ : ∃ nt, nt = numTo (isRep R) rt := ⟨_, rfl⟩
          rw [← hnt] at HNT
          obtain ⟨nf, hnf⟩ : ∃ nf, nf = numTo (isRep R) f := ⟨_, rfl⟩
          rw [← hnf] at HNF
          obtain ⟨x, hx⟩ : ∃ x, x = isRep R f := ⟨_, rfl⟩
          rw [← hx] at HNF HDF
          obtain ⟨z, hz⟩ : ∃ z, z = repN R f := ⟨_, rfl⟩
          rw [← hz] at HCF HDF
          have HWA := hid hWA
          have hszD : bO + 1 ≤ wr.heap.size := HQ.sz
          have HVL := hid (fun (g : Nat) (h : v.ownBlock = some g) => (HQ.own.lt g h).2)
          obtain ⟨⟨y0, y1, y2⟩, _⟩ := HBA.out.c3
          have hcf := HCF.out WA HVA.out
          clear hx hz hy hc1 hya hWA hbA HQ hnt hrtd HRT2 hb6 hnf
          cases x with
          | false =>
            have hzq : ((z : Int) == (f : Int)) = false := by
              have := HDF.out.symm
              rw [decide_eq_false_iff_not] at this
              simp; omega
            clear HDF HNF
            go_wp2_with fail
            rw [← HWA.out]
            go_quiet (fail)
            go_wp2
            go_roundw
            case rel => exact ⟨k + 1, v, m, xs, by omega, by go_num, by omega, HQA.out.below (below_drewN (Below.refl _ _) _), below_drewN HVA.out _⟩
            case measure => simp [intOf] <;> omega
          | true =>
            have hzq : z = f := by
              have := HDF.out.symm
              rwa [decide_eq_true_iff] at this
            have HNF1 := hid (HNF.out rfl)
            clear HDF HNF
            subst hzq
            go_wp2_with fail
            rw [← HWA.out]
            go_quiet (fail)
            go_wp2
            obtain ⟨W0, hW0⟩ : ∃ W0, W0 = WA.drewN nq := ⟨_, rfl⟩
            have hbA0 : Below WA.heap.size WA W0 := by rw [hW0]; exact below_drewN (Below.refl _ _) _
            have HQ0 := hid (HQA.out.below hbA0)
            have HB0 := hid (HBA.out.below hbA0)
            have hszA0 : bN ≤ WA.heap.size := HVA.out.size |> fun h => by have := HQA.out.ord; have := HQA.out.sz; omega
            have HV0 := hid (HVA.out.trans (hbA0.mono hszA0))
            have HNF0 := hid ((hbA0.cell (p := ⟨bN, z, none⟩) (HQA.out.num.lt _ rfl).2).trans HNF1.out)
            have HNT0 := hid ((hbA0.cell (p := ⟨bN, rt, none⟩) (HQA.out.num.lt _ rfl).2).trans HNT.out)
            have HWL := hid (show bO + 1 ≤ wr.heap.size ∧ wr.heap.size < WA.heap.size from ⟨hszD, HBA.out.lt⟩)
            first | rw [← hW0] | trace_state
            clear hW0 hbA0 HQA HBA HVA HNF1 HNT y0 y1 y2 hcf HWA
            obtain ⟨S', hSd⟩ : ∃ S' : World → Prop, S' = fun V => V.cell? ⟨bO, 2, none⟩ = some v ∧ V.cell? ⟨bN, z, none⟩ = some (.int .i64 (nf : Nat)) ∧ V.cell? ⟨bN, rt, none⟩ = some (.int .i64 (nt : Nat)) ∧ V.cell? ⟨g, t', none⟩ = some (.int .i64 (rt : Nat)) ∧ V.cell? ⟨wr.heap.size, 0, none⟩ = some (.int .i64 z) ∧ V.cell? ⟨wr.heap.size, 1, none⟩ = some (.int .i64 t') ∧ V.cell? ⟨wr.heap.size, 2, none⟩ = some (.int .i64 l) := ⟨_, rfl⟩
            have HSO := hid (show ∀ V, S' V → V.cell? ⟨bO, 2, none⟩ = some v ∧ V.cell? ⟨bN, z, none⟩ = some (.int .i64 (nf : Nat)) ∧ V.cell? ⟨bN, rt, none⟩ = some (.int .i64 (nt : Nat)) ∧ V.cell? ⟨g, t', none⟩ = some (.int .i64 (rt : Nat)) ∧ V.cell? ⟨wr.heap.size, 0, none⟩ = some (.int .i64 z) ∧ V.cell? ⟨wr.heap.size, 1, none⟩ = some (.int .i64 t') ∧ V.cell? ⟨wr.heap.size, 2, none⟩ = some (.int .i64 l) from fun V hV => by rw [hSd] at hV; exact hV)
            have HSK := hid (show ∀ V, Below W0.heap.size W0 V → S' V from fun V hb => by
              obtain ⟨⟨_, _, z2⟩, _⟩ := (HQ0.out.b3.below hb).c3
              obtain ⟨⟨z3, z4, z5⟩, _⟩ := (HB0.out.below hb).c3
              have hl1 : bN < W0.heap.size := (HQ0.out.num.lt _ rfl).2
              rw [hSd]; exact ⟨z2, (hb.cell (p := ⟨bN, z, none⟩) hl1).trans HNF0.out, (hb.cell (p := ⟨bN, rt, none⟩) hl1).trans HNT0.out, HCT.out V (HV0.out.trans (hb.mono (by omega))), z3, z4, z5⟩)
            have hS0 : S' W0.drew := HSK.out _ (Below.refl _ _).drew
            have hS1' : S' (W0.drew.alloc (.cells #[.int .i64 nf, .int .i64 nt, .int .i64 l] 53)) := HSK.out _ ((Below.refl _ _).drew.alloc (Nat.le_refl _) _)
            have hszA : bO + 1 ≤ W0.drew.heap.size := HQ0.out.sz
            have HOWN := hid (owns_below HQ0.out.own (Below.refl _ _).drew)
            have HSG := hid (show ∀ V, W0.drew.grownBy V v.ownBlock → Below (bO + 1) W0.drew V → S' V from fun V hg hb => by
              have hbY := HB0.out.below (Below.refl _ _).drew
              have ho := HQ0.out.ord
              obtain ⟨⟨_, _, z2⟩, _⟩ := ((HQ0.out.b3.below (Below.refl _ _).drew).at_ hb (by omega)).c3
              obtain ⟨⟨z3, z4, z5⟩, _⟩ := (hbY.keep hg (fun e => by have := HVL.out _ e; omega)).c3
              have hl1 : bN < bO + 1 := by omega
              rw [hSd]; exact ⟨z2, (hb.cell (p := ⟨bN, z, none⟩) hl1).trans HNF0.out, (hb.cell (p := ⟨bN, rt, none⟩) hl1).trans HNT0.out, HCT.out V (HV0.out.drew.trans (hb.mono (by omega))), z3, z4, z5⟩)
            have hm7 : m ≤ 1048576 := by omega
            clear hSd
            refine wp_region_T (S := S') 21 (by kernel_rfl) ?_
            (refine wpAnyT_take (i := 0) (v := ?v0) rfl (by kernel_rfl) (by kernel_rfl) (by kernel_rfl) (by kernel_rfl) (fun _ _ _ h => h) (Or.inl ⟨by rfl, ?y0⟩) (by assumption) ?r0; case y0 => (intro V hSw; have hSw := HSO.out V hSw; go_split_ands; go_simp; first | done | with_reducible rfl); try simp only [Act.put, List.setIfInBounds_toArray, List.set_cons_zero, List.set_cons_succ])
            (refine wpAnyT_take (i := 1) (v := ?v1) rfl (by kernel_rfl) (by kernel_rfl) (by kernel_rfl) (by kernel_rfl) (fun _ _ _ h => h) (Or.inl ⟨by rfl, ?y1⟩) (by assumption) ?r1; case y1 => (intro V hSw; have hSw := HSO.out V hSw; go_split_ands; go_simp; first | done | with_reducible rfl); try simp only [Act.put, List.setIfInBounds_toArray, List.set_cons_zero, List.set_cons_succ])
            (refine wpAnyT_take (i := 2) (v := ?v2) rfl (by kernel_rfl) (by kernel_rfl) (by kernel_rfl) (by kernel_rfl) (fun _ _ _ h => h) (Or.inl ⟨by rfl, ?y2⟩) (by assumption) ?r2; case y2 => (intro V hSw; have hSw := HSO.out V hSw; go_split_ands; go_simp; first | done | with_reducible rfl); try simp only [Act.put, List.setIfInBounds_toArray, List.set_cons_zero, List.set_cons_succ])
            (refine wpAnyT_take (i := 3) (v := ?v3) rfl (by kernel_rfl) (by kernel_rfl) (by kernel_rfl) (by kernel_rfl) (fun _ _ _ h => h) (Or.inl ⟨by rfl, ?y3⟩) (by assumption) ?r3; case y3 => (intro V hSw; have hSw := HSO.out V hSw; go_split_ands; go_simp; first | done | with_reducible rfl); try simp only [Act.put, List.setIfInBounds_toArray, List.set_cons_zero, List.set_cons_succ])
            (refine wpAnyT_take (i := 4) (v := ?v4) rfl (by kernel_rfl) (by kernel_rfl) (by kernel_rfl) (by kernel_rfl) (fun _ _ _ h => h) (Or.inl ⟨by rfl, ?y4⟩) (by assumption) ?r4; case y4 => (intro V hSw; have hSw := HSO.out V hSw; go_split_ands; go_simp; first | done | with_reducible rfl); try simp only [Act.put, List.setIfInBounds_toArray, List.set_cons_zero, List.set_cons_succ])
            (refine wpAnyT_take (i := 5) (v := ?v5) rfl (by kernel_rfl) (by kernel_rfl) (by kernel_rfl) (by kernel_rfl) (fun _ _ _ h => h) (Or.inl ⟨by rfl, ?y5⟩) (by assumption) ?r5; case y5 => (intro V hSw; have hSw := HSO.out V hSw; go_split_ands; go_simp; first | done | with_reducible rfl); try simp only [Act.put, List.setIfInBounds_toArray, List.set_cons_zero, List.set_cons_succ])
            (refine wpAnyT_take (i := 6) (v := ?v6) rfl (by kernel_rfl) (by kernel_rfl) (by kernel_rfl) (by kernel_rfl) (fun _ _ _ h => h) (Or.inl ⟨by rfl, ?y6⟩) (by assumption) ?r6; case y6 => (intro V hSw; have hSw := HSO.out V hSw; go_split_ands; go_simp; first | done | with_reducible rfl); try simp only [Act.put, List.setIfInBounds_toArray, List.set_cons_zero, List.set_cons_succ])
            (refine wpAnyT_take (i := 7) (v := ?v7) rfl (by kernel_rfl) (by kernel_rfl) (by kernel_rfl) (by kernel_rfl) (fun _ _ _ h => h) (Or.inl ⟨by rfl, ?y7⟩) (by assumption) ?r7; case y7 => (intro V hSw; have hSw := HSO.out V hSw; go_split_ands; go_simp; first | done | with_reducible rfl); try simp only [Act.put, List.setIfInBounds_toArray, List.set_cons_zero, List.set_cons_succ])
            (refine wpAnyT_take (i := 8) (v := ?v8) rfl (by kernel_rfl) (by kernel_rfl) (by kernel_rfl) (by kernel_rfl) (fun _ _ _ h => h) (Or.inl ⟨by rfl, ?y8⟩) (by assumption) ?r8; case y8 => (intro V hSw; have hSw := HSO.out V hSw; go_split_ands; go_simp; first | done | with_reducible rfl); try simp only [Act.put, List.setIfInBounds_toArray, List.set_cons_zero, List.set_cons_succ])
            (refine wpAnyT_take (i := 9) (v := ?v9) rfl (by kernel_rfl) (by kernel_rfl) (by kernel_rfl) (by kernel_rfl) (fun _ _ _ h => h) (Or.inl ⟨by rfl, ?y9⟩) (by assumption) ?r9; case y9 => (intro V hSw; have hSw := HSO.out V hSw; go_split_ands; go_simp; first | done | with_reducible rfl); try simp only [Act.put, List.setIfInBounds_toArray, List.set_cons_zero, List.set_cons_succ])
            (refine wpAnyT_take (i := 10) (v := ?v10) rfl (by kernel_rfl) (by kernel_rfl) (by kernel_rfl) (by kernel_rfl) (fun _ _ _ h => h) (Or.inl ⟨by rfl, ?y10⟩) (by assumption) ?r10; case y10 => (intro V hSw; have hSw := HSO.out V hSw; go_split_ands; go_simp; first | done | with_reducible rfl); try simp only [Act.put, List.setIfInBounds_toArray, List.set_cons_zero, List.set_cons_succ])
            (refine wpAnyT_take (i := 11) (v := ?v11) rfl (by kernel_rfl) (by kernel_rfl) (by kernel_rfl) (by kernel_rfl) (fun _ _ _ h => h) (Or.inl ⟨by rfl, ?y11⟩) (by assumption) ?r11; case y11 => (intro V hSw; have hSw := HSO.out V hSw; go_split_ands; go_simp; first | done | with_reducible rfl); try simp only [Act.put, List.setIfInBounds_toArray, List.set_cons_zero, List.set_cons_succ])
            (refine wpAnyT_take (i := 12) (v := ?v12) rfl (by kernel_rfl) (by kernel_rfl) (by kernel_rfl) (by kernel_rfl) (fun _ _ _ h => h) (Or.inl ⟨by rfl, ?y12⟩) (by assumption) ?r12; case y12 => (intro V hSw; have hSw := HSO.out V hSw; go_split_ands; go_simp; first | done | with_reducible rfl); try simp only [Act.put, List.setIfInBounds_toArray, List.set_cons_zero, List.set_cons_succ])
            (refine wpAnyT_take (i := 13) (v := ?v13) rfl (by kernel_rfl) (by kernel_rfl) (by kernel_rfl) (by kernel_rfl) (fun _ _ _ h => h) (Or.inl ⟨by rfl, ?y13⟩) (by assumption) ?r13; case y13 => (intro V hSw; have hSw := HSO.out V hSw; go_split_ands; go_simp; first | done | with_reducible rfl); try simp only [Act.put, List.setIfInBounds_toArray, List.set_cons_zero, List.set_cons_succ])
            (refine wpAnyT_take (i := 14) (v := ?v14) rfl (by kernel_rfl) (by kernel_rfl) (by kernel_rfl) (by kernel_rfl) (fun _ _ _ h => h) (Or.inl ⟨by rfl, ?y14⟩) (by assumption) ?r14; case y14 => (intro V hSw; have hSw := HSO.out V hSw; go_split_ands; go_simp; first | done | with_reducible rfl); try simp only [Act.put, List.setIfInBounds_toArray, List.set_cons_zero, List.set_cons_succ])
            (refine wpAnyT_take (i := 15) (v := ?v15) rfl (by kernel_rfl) (by kernel_rfl) (by kernel_rfl) (by kernel_rfl) (fun _ _ _ h => h) (Or.inl ⟨by rfl, ?y15⟩) (by assumption) ?r15; case y15 => (intro V hSw; have hSw := HSO.out V hSw; go_split_ands; go_simp; first | done | with_reducible rfl); try simp only [Act.put, List.setIfInBounds_toArray, List.set_cons_zero, List.set_cons_succ])
            (refine wpAnyT_take (i := 16) (v := ?v16) rfl (by kernel_rfl) (by kernel_rfl) (by kernel_rfl) (by kernel_rfl) (fun _ _ _ h => h) (Or.inl ⟨by rfl, ?y16⟩) (by assumption) ?r16; case y16 => (intro V hSw; have hSw := HSO.out V hSw; go_split_ands; go_simp; first | done | with_reducible rfl); try simp only [Act.put, List.setIfInBounds_toArray, List.set_cons_zero, List.set_cons_succ])
            (refine wpAnyT_take (i := 17) (v := ?v17) rfl (by kernel_rfl) (by kernel_rfl) (by kernel_rfl) (by kernel_rfl) (fun _ _ _ h => h) (Or.inl ⟨by rfl, ?y17⟩) (by assumption) ?r17; case y17 => (intro V hSw; have hSw := HSO.out V hSw; go_split_ands; go_simp; first | done | with_reducible rfl); try simp only [Act.put, List.setIfInBounds_toArray, List.set_cons_zero, List.set_cons_succ])
            refine wpAnyT_step (i := 18) rfl (by kernel_rfl) (by decide) (fun K hK => ?_)
            go_simp
            refine hK.out _ _ hS1' ?_
            clear hK K
            try simp only [Act.put, List.setIfInBounds_toArray, List.set_cons_zero, List.set_cons_succ]
            refine wpAnyT_step (i := 19) rfl (by kernel_rfl) (by decide) (fun K hK => ?_)
            refine step_appA (by rfl) _ _ 27 (by rfl) (bO + 1) 53 Tryd.underlying27 infoArc v _ _ _ _ _ HOWN.out (by rfl) (by rfl) hm7 hszA ?_
            intro g6 c6 w9 hown6 hbel6 hgr6
            refine hK.out _ _ (HSG.out _ hgr6 hbel6) ?_
            clear hK K
            try simp only [Act.put, List.setIfInBounds_toArray, List.set_cons_zero, List.set_cons_succ]
            have hS6 := HSG.out _ hgr6 hbel6
            have hQ6 := (HQ0.out.below (Below.refl _ _).drew).app hbel6 hown6
            obtain ⟨⟨_, _, z2⟩, _, _, z3⟩ := ((HQ0.out.b3.below (Below.refl _ _).drew).at_ hbel6 (Nat.lt_succ_self _)).c3
            have HQ6 := hid hQ6
            have hob : bN ≤ bO := by have := HQ0.out.ord; omega
            have HV6 := hid ((HV0.out.drew.trans (hbel6.mono (by omega))).setCell (p := ⟨bO, 2, none⟩) hob (.slice (some ⟨g6, 0, none⟩) (m + 1) c6))
            clear hQ6 hown6 hgr6
            (refine wpAnyT_take (i := 20) (v := ?v20) rfl (by kernel_rfl) (by kernel_rfl) (by kernel_rfl) (by kernel_rfl) (fun _ _ _ h => h) (Or.inl ⟨by rfl, ?y20⟩) (by assumption) ?r20; case y20 => (intro V hSw; have hSw := HSO.out V hSw; go_split_ands; go_simp; first | done | with_reducible rfl); try simp only [Act.put, List.setIfInBounds_toArray, List.set_cons_zero, List.set_cons_succ])
            refine wpAnyT_last rfl (by kernel_rfl) (by kernel_rfl) (fun K hK => ?_)
            go_simp
            refine hK.out _ _ ?_
            clear hK K
            go_wp2
            go_roundw
            case rel => exact ⟨k + 1, .slice (some ⟨g6, 0, none⟩) (m + 1) c6, m + 1, _, by omega, by go_num, by omega, HQ6.out, HV6.out⟩
            case measure => simp [intOf] <;> omega
        · obtain rfl : k = n := by omega
          obtain ⟨⟨o0, o1, o2⟩, _⟩ := HQ.b3.c3
          obtain ⟨⟨r0, r1, r2⟩, f0, f1, f2⟩ := HQ.b1.c3
          have HQH := hid HQ
          obtain ⟨gq, cq, rfl⟩ := slice_form HQ.own
          rw [← HCN.out] at o1
          clear HQ
          go_wp2
          have hordH := HQH.out.ord
          refine bodyPost_ret (v := .tuple #[.agg #[.int .i64 L, .int .i64 (cntN G L q t : Nat), .slice gq m cq], .bool true]) (by simp [results, Tryd.results16, go_sem, r0, r1, r2]) rfl ⟨t, m, cq, gq, HST.out, rfl, ?_⟩
          exact ((HQH.out.bel.setCell (by show w.heap.size ≤ w.heap.size + 1; omega) _).setCell (by show w.heap.size ≤ w.heap.size + 1; omega) _).setCell (by show w.heap.size ≤ w.heap.size + 1; omega) _
end Go.Proofs.YtpfeflhcbcgbfaaDoor
