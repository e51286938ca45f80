/- Labelled graphs: how many states the smallest one has, the program's way. Conditions: a resolving labelled graph, its arcs in memory. -/
import Derived.Test.YtpfeflhcbcgbfaaDoorClsI
import Derived.Test.YtpfeflhcbcgbfaaDoorResC
namespace Go.Proofs.YtpfeflhcbcgbfaaDoor
open Go.RowKit

def SmalPost (L S : Nat) (G : List (Nat × Nat × Nat)) (w : World) (e : Ending) (w' : World) : Prop :=
  ∃ (t m c : Nat) (g : Option Addr), stabN G L S t ∧ e = .returned (.tuple #[.agg #[.int .i64 L, .int .i64 (cntN G L S t : Nat), .slice g m c], .bool true]) ∧ Below w.heap.size w w'
theorem cls_low {r : Nat → Nat → Bool} (h : EqR r) {p : Nat} (e : isRep r p = false) : clsN r p < numTo (isRep r) p := by
  obtain ⟨h1, _⟩ := repN_facts h p
  unfold isRep at e
  rw [decide_eq_false_iff_not] at e
  unfold clsN
  exact numTo_lt (K := isRep r) (by omega) (by unfold isRep; rw [decide_eq_true_eq]; exact repN_rep h p)
set_option maxHeartbeats 4000000 in
set_option maxRecDepth 100000 in
theorem impl_SmallestLabels_yes (L S : Nat) (a : Option Addr) (n c : Nat) (G : List (Nat × Nat × Nat)) (w : World) (hr : RowAt w a (n * 3) (arcVals (arcN G))) (hn : n ≤ 1000000) (h : resolvB L S (arcN G) = true) (hG : LabG L S G) :
    Calls Tryd.prog 26 #[.agg #[.int .i64 L, .int .i64 S, .slice a n c]] w (SmalPost L S G w) := by
  obtain ⟨W2, hW2⟩ : ∃ W2, W2 = (w.alloc (.cells #[.int .i64 L, .int .i64 S, .slice a n c] 29)).alloc (.cells #[.int .i64 0, .int .i64 0, .slice none 0 0] 29) := ⟨_, rfl⟩
  have hs2 : W2.heap.size = w.heap.size + 1 + 1 := by rw [hW2]; simp
  have HBX := hid (fun (V : World) (hV : Below W2.heap.size W2 V) => show BoxC V w.heap.size #[.int .i64 L, .int .i64 S, .slice a n c] ∧ BoxC V (w.heap.size + 1) #[.int .i64 0, .int .i64 0, .slice none 0 0] ∧ Below w.heap.size w V from by
    rw [hW2] at hV
    obtain ⟨⟨c0, f0⟩, ⟨c1, f1⟩, h4, h5⟩ := box2 hV
    exact ⟨⟨by omega, c0, f0⟩, ⟨h4, c1, f1⟩, h5⟩)
  have HI := hid (fun (W : World) (hW : Below w.heap.size w W) => impl_IsResolving_c L S a n c (arcN G) W (hr.below hW (Nat.le_refl _)) (by omega))
  rw [h] at HI
  have HCL := hid (fun (W : World) (hW : Below w.heap.size w W) => impl_classes_c L S a n c G W (hr.below hW (Nat.le_refl _)) hG (by omega))
  have HTG := hid (fun (W : World) (p x : Nat) (hW : Below w.heap.size w W) => impl_target_c L S a n c G p x W (hr.below hW (Nat.le_refl _)) (by omega))
  have HTL := hid (fun (p x t : Nat) (h : tgtN G p x = some t) => tgtN_lt hG h)
  obtain ⟨HX0, HX1, hbw⟩ := HBX.out W2 (Below.refl _ _)
  obtain ⟨p0, p1, p2⟩ := HX0.c3.1
  have h12 := hG.s12
  have h1 := hG.s1
  have hL3 := hG.k3
  clear hr h HX0 HX1 hG
  go_enter Tryd.func26, Tryd.ntmps26
  go_wp2_with (rw [← hW2])
  first | rw [← hW2] | skip
  refine (HI.out _ hbw).mono ?_
  rintro e w1 ⟨rfl, hb1⟩
  obtain ⟨HX0, HX1, hbw1⟩ := HBX.out w1 hb1
  clear hW2 p0 p1 p2 hbw
  obtain ⟨p0, p1, p2⟩ := HX0.c3.1
  go_wp2_with fail
  refine (HCL.out _ hbw1).mono ?_
  rintro e w6 ⟨t, g, c', hst, rfl, hown, hb6⟩
  have hb26 := hb1.trans (hb6.mono hb1.size)
  have hgl : g < w6.heap.size := (hown.lt g rfl).2
  have HST := hid hst
  have HEQ := hid (relN_eqR G L t)
  have HCN := hid (show cntN G L S t = numTo (isRep (relN G L t)) S from rfl)
  obtain ⟨R, hR⟩ : ∃ R, R = relN G L t := ⟨_, rfl⟩
  rw [← hR] at HEQ HCN hown
  have HCC := hid (fun (V : World) (hV : Below w6.heap.size w6 V) (p : Nat) (hp : p < S) => show V.cell? ⟨g, p, none⟩ = some (.int .i64 (clsN R p : Nat)) from (hV.cell (p := ⟨g, p, none⟩) hgl).trans ((hown.cellAt p (by omega)).trans (intVals_get (show (clsL R S)[p]? = some ((clsN R p : Nat) : Int) from by unfold clsL; rw [List.getElem?_map, List.getElem?_range hp]; rfl))))
  clear HX0 HX1 hbw1 p0 p1 p2 HI HCL hst hR hown hb1 hb6
  obtain ⟨HX0, HX1, hbw6⟩ := HBX.out w6 hb26
  obtain ⟨p0, p1, p2⟩ := HX0.c3.1
  obtain ⟨bO, hbO⟩ : ∃ bO, bO = w6.heap.size := ⟨_, rfl⟩
  have HB26 := hid hb26
  have hl1 := HX1.lt
  have hl0 := hbw6.size
  obtain ⟨W7, hW7⟩ : ∃ W7, W7 = w6.alloc (.cells #[.int .i64 L, .int .i64 0, .slice none 0 0] 29) := ⟨_, rfl⟩
  have HQ0 := hid (show KeepR 53 w w6 W7 (w.heap.size + 1) bO (bO + 1) #[.int .i64 0, .int .i64 0, .slice none 0 0] (.int .i64 L) (.int .i64 0) (.slice none 0 0) 0 [] from by
    have hz7 : W7.heap.size = bO + 1 := by rw [hW7, hbO]; simp
    have hb7 : Below w6.heap.size w6 W7 := by rw [hW7]; exact (Below.refl _ _).alloc (Nat.le_refl _) _
    exact ⟨hbw6.trans (hb7.mono hbw6.size), hb7, by omega, by omega, HX1.below hb7, by rw [hW7, hbO]; exact BoxC.new _ _ _, World.ownsRow_nil _ _ _ _⟩)
  have HW7 := hid hW7
  have hbOe := hid hbO
  clear hW7 hb26 HX0 HX1 hbw6
  go_upto_region 5 with fail
  first | rw [← HW7.out, ← hbOe.out] | trace_state
  clear p0 p1 p2 hbO
  go_wp2
  go_loopw [21] (fun i wr => ∃ (p : Nat) (v : Value) (m : Nat) (xs : List Value), p ≤ S ∧ i = .int .i64 p ∧ Hid (m ≤ p * L) ∧ KeepR 53 w w6 wr (w.heap.size + 1) bO (bO + 1) #[.int .i64 0, .int .i64 0, .slice none 0 0] (.int .i64 L) (.int .i64 ((numTo (isRep R) p : Nat) : Int)) v m xs) (fun i _ => S - (intOf i).toNat)
  case atStart => exact ⟨0, _, 0, [], by omega, rfl, hid (by omega), HQ0.out⟩
  case round =>
    clear HQ0
    obtain ⟨p, v, m, xs, hp, rfl, HM, HQ⟩ := hrel
    by_cases hlt : p < S
    · have hpi : (p : Int) < (S : Int) := by omega
      have hcp := HCC.out wr HQ.bel6 p hlt
      obtain ⟨⟨o0, o1, o2⟩, f0, f1, f2⟩ := HQ.b3.c3
      have HQH := hid HQ
      have hmn := numTo_le (isRep R) p
      have HLOW := hid (fun e : isRep R p = false => cls_low HEQ.out e)
      have HNEW := hid (fun e : isRep R p = true => clsN_new e)
      have HNY := hid (fun e : isRep R p = true => numTo_yes (K := isRep R) (i := p) e)
      have HNN := hid (fun e : isRep R p = false => numTo_no (K := isRep R) (i := p) e)
      have hmul : (p + 1) * L = p * L + L := Nat.succ_mul p L
      have HMUL := hid hmul
      obtain ⟨k, hk⟩ : ∃ k, k = clsN R p := ⟨_, rfl⟩
      obtain ⟨y, hy⟩ : ∃ y, y = numTo (isRep R) p := ⟨_, rfl⟩
      obtain ⟨b, hb⟩ : ∃ b, b = isRep R p := ⟨_, rfl⟩
      rw [← hk] at hcp HLOW HNEW
      rw [← hy] at o1 HLOW HNEW HNY HNN hmn HQH
      rw [← hb] at HLOW HNEW HNY HNN
      clear hk hy hb HQ hmul
      cases b with
      | false =>
        have hky : (k : Int) < (y : Int) := by have := HLOW.out rfl; omega
        have H2 := hid (HNN.out rfl)
        clear HLOW HNEW HNY HNN
        go_wp2
        go_roundw
        case rel => exact ⟨p + 1, v, m, xs, by omega, by go_num, hid (by have := HM.out; have := HMUL.out; omega), by rw [H2.out]; exact HQH.out⟩
        case measure => simp [intOf] <;> omega
      | true =>
        have hky : ¬ ((k : Int) < (y : Int)) := by have := HNEW.out rfl; omega
        have H2 := hid (HNY.out rfl)
        have HQ1 := hid (HQH.out.set1 (.int .i64 ((y : Int) + 1)))
        clear HLOW HNEW HNY HNN HQH
        obtain ⟨p0, p1, p2⟩ := (HBX.out _ (HB26.out.trans (HQ1.out.bel6.mono HB26.out.size))).1.c3.1
        go_wp2
        go_loopw [36] (fun i wr => ∃ (x : Nat) (v : Value) (m : Nat) (xs : List Value), x ≤ L ∧ i = .int .i64 x ∧ Hid (m ≤ p * L + x) ∧ KeepR 53 w w6 wr (w.heap.size + 1) bO (bO + 1) #[.int .i64 0, .int .i64 0, .slice none 0 0] (.int .i64 L) (.int .i64 ((y : Int) + 1)) v m xs) (fun i _ => L - (intOf i).toNat)
        case atStart => exact ⟨0, v, m, xs, by omega, rfl, hid (by have := HM.out; omega), HQ1.out⟩
        case round =>
          clear HQ1 HM p0 p1 p2 o0 o1 o2 f0 f1 f2 hcp
          obtain ⟨x, v, m, xs, hx, rfl, HM, HQ⟩ := hrel
          by_cases hltx : x < L
          · have hxi : (x : Int) < (L : Int) := by omega
            have HQH := hid HQ
            have hbV := HB26.out.trans (HQ.bel6.mono HB26.out.size)
            obtain ⟨HX0, _, hbw⟩ := HBX.out wr hbV
            obtain ⟨p0, p1, p2⟩ := HX0.c3.1
            have HT := hid (HTG.out wr p x hbw)
            have HTT := hid (fun t h => HTL.out p x t h)
            obtain ⟨A, hA⟩ : ∃ A, A = tgtN G p x := ⟨_, rfl⟩
            rw [← hA] at HT HTT
            clear HQ hA HX0
            go_wp2_with fail
            refine HT.out.mono ?_
            rintro e w8 ⟨rfl, hb8⟩
            have HQ8 := hid (HQH.out.below hb8)
            clear HQH HT hb8 hbw hbV p0 p1 p2
            cases A with
            | none =>
              simp only [optI]
              go_wp2
              go_roundw
              case rel => exact ⟨x + 1, v, m, xs, by omega, by go_num, hid (by have := HM.out; omega), HQ8.out⟩
              case measure => simp [intOf] <;> omega
            | some u =>
              have huS := HTT.out u rfl
              have hu0 : decide ((0 : Int) ≤ (u : Int)) = true := decide_eq_true (by omega)
              have hui : (u : Int) < (S : Int) := by omega
              have hm36 : m ≤ 1000 := by
                have h1 := HM.out
                have h2 : p * L ≤ 12 * 3 := Nat.mul_le_mul (by omega) hL3
                omega
              have HCU := hid (fun (V : World) (hV : Below w6.heap.size w6 V) => HCC.out V hV u huS)
              obtain ⟨cu, hcu⟩ : ∃ cu, cu = clsN R u := ⟨_, rfl⟩
              rw [← hcu] at HCU
              obtain ⟨⟨o0, o1, o2⟩, f0, f1, f2⟩ := HQ8.out.b3.c3
              clear hcu
              simp only [optI]
              go_wp2_with fail
              obtain ⟨S', hSd⟩ : ∃ S' : World → Prop, S' = fun V => V.cell? ⟨bO, 2, none⟩ = some v ∧ V.cell? ⟨g, u, none⟩ = some (.int .i64 (cu : Nat)) := ⟨_, rfl⟩
              have HSO := hid (show ∀ V, S' V → V.cell? ⟨bO, 2, none⟩ = some v ∧ V.cell? ⟨g, u, none⟩ = some (.int .i64 (cu : Nat)) from fun V hV => by rw [hSd] at hV; exact hV)
              have HSG := hid (show ∀ V, Below (bO + 1) w8.drew V → S' V from fun V hb => by
                have ho := HQ8.out.ord
                have hb6 := HQ8.out.bel6.drew.trans (hb.mono (by omega))
                obtain ⟨⟨_, _, z2⟩, _⟩ := ((HQ8.out.b3.below (Below.refl _ _).drew).at_ hb (by omega)).c3
                rw [hSd]; exact ⟨z2, HCU.out V hb6⟩)
              have hszA : bO + 1 ≤ w8.drew.heap.size := HQ8.out.sz
              have hS0 : S' w8.drew := HSG.out _ (Below.refl _ _)
              have hS1' : S' (w8.drew.alloc (.cells #[.int .i64 k, .int .i64 cu, .int .i64 x] 53)) := HSG.out _ ((Below.refl _ _).alloc hszA _)
              have HOWN := hid (owns_below HQ8.out.own (Below.refl _ _).drew)
              clear hSd
              refine wp_region_T (S := S') 12 (by kernel_rfl) ?_
              (refine wpAnyT_take (i := 0) (v := ?v0) rfl (by kernel_rfl) (by kernel_rfl) (by kernel_rfl) (by kernel_rfl) (fun _ _ _ h => h) (Or.inl ⟨by rfl, ?y0⟩) (by assumption) ?r0; case y0 => (intro V hSw; have hSw := HSO.out V hSw; go_split_ands; go_simp; first | done | with_reducible rfl); try simp only [Act.put, List.setIfInBounds_toArray, List.set_cons_zero, List.set_cons_succ])
              (refine wpAnyT_take (i := 1) (v := ?v1) rfl (by kernel_rfl) (by kernel_rfl) (by kernel_rfl) (by kernel_rfl) (fun _ _ _ h => h) (Or.inl ⟨by rfl, ?y1⟩) (by assumption) ?r1; case y1 => (intro V hSw; have hSw := HSO.out V hSw; go_split_ands; go_simp; first | done | with_reducible rfl); try simp only [Act.put, List.setIfInBounds_toArray, List.set_cons_zero, List.set_cons_succ])
              (refine wpAnyT_take (i := 2) (v := ?v2) rfl (by kernel_rfl) (by kernel_rfl) (by kernel_rfl) (by kernel_rfl) (fun _ _ _ h => h) (Or.inl ⟨by rfl, ?y2⟩) (by assumption) ?r2; case y2 => (intro V hSw; have hSw := HSO.out V hSw; go_split_ands; go_simp; first | done | with_reducible rfl); try simp only [Act.put, List.setIfInBounds_toArray, List.set_cons_zero, List.set_cons_succ])
              (refine wpAnyT_take (i := 3) (v := ?v3) rfl (by kernel_rfl) (by kernel_rfl) (by kernel_rfl) (by kernel_rfl) (fun _ _ _ h => h) (Or.inl ⟨by rfl, ?y3⟩) (by assumption) ?r3; case y3 => (intro V hSw; have hSw := HSO.out V hSw; go_split_ands; go_simp; first | done | with_reducible rfl); try simp only [Act.put, List.setIfInBounds_toArray, List.set_cons_zero, List.set_cons_succ])
              (refine wpAnyT_take (i := 4) (v := ?v4) rfl (by kernel_rfl) (by kernel_rfl) (by kernel_rfl) (by kernel_rfl) (fun _ _ _ h => h) (Or.inl ⟨by rfl, ?y4⟩) (by assumption) ?r4; case y4 => (intro V hSw; have hSw := HSO.out V hSw; go_split_ands; go_simp; first | done | with_reducible rfl); try simp only [Act.put, List.setIfInBounds_toArray, List.set_cons_zero, List.set_cons_succ])
              (refine wpAnyT_take (i := 5) (v := ?v5) rfl (by kernel_rfl) (by kernel_rfl) (by kernel_rfl) (by kernel_rfl) (fun _ _ _ h => h) (Or.inl ⟨by rfl, ?y5⟩) (by assumption) ?r5; case y5 => (intro V hSw; have hSw := HSO.out V hSw; go_split_ands; go_simp; first | done | with_reducible rfl); try simp only [Act.put, List.setIfInBounds_toArray, List.set_cons_zero, List.set_cons_succ])
              (refine wpAnyT_take (i := 6) (v := ?v6) rfl (by kernel_rfl) (by kernel_rfl) (by kernel_rfl) (by kernel_rfl) (fun _ _ _ h => h) (Or.inl ⟨by rfl, ?y6⟩) (by assumption) ?r6; case y6 => (intro V hSw; have hSw := HSO.out V hSw; go_split_ands; go_simp; first | done | with_reducible rfl); try simp only [Act.put, List.setIfInBounds_toArray, List.set_cons_zero, List.set_cons_succ])
              (refine wpAnyT_take (i := 7) (v := ?v7) rfl (by kernel_rfl) (by kernel_rfl) (by kernel_rfl) (by kernel_rfl) (fun _ _ _ h => h) (Or.inl ⟨by rfl, ?y7⟩) (by assumption) ?r7; case y7 => (intro V hSw; have hSw := HSO.out V hSw; go_split_ands; go_simp; first | done | with_reducible rfl); try simp only [Act.put, List.setIfInBounds_toArray, List.set_cons_zero, List.set_cons_succ])
              (refine wpAnyT_take (i := 8) (v := ?v8) rfl (by kernel_rfl) (by kernel_rfl) (by kernel_rfl) (by kernel_rfl) (fun _ _ _ h => h) (Or.inl ⟨by rfl, ?y8⟩) (by assumption) ?r8; case y8 => (intro V hSw; have hSw := HSO.out V hSw; go_split_ands; go_simp; first | done | with_reducible rfl); try simp only [Act.put, List.setIfInBounds_toArray, List.set_cons_zero, List.set_cons_succ])
              refine wpAnyT_step (i := 9) rfl (by kernel_rfl) (by decide) (fun K hK => ?_)
              go_simp
              refine hK.out _ _ hS1' ?_
              clear hK K
              try simp only [Act.put, List.setIfInBounds_toArray, List.set_cons_zero, List.set_cons_succ]
              refine wpAnyT_step (i := 10) rfl (by kernel_rfl) (by decide) (fun K hK => ?_)
              refine step_appA (by rfl) _ _ 27 (by rfl) (bO + 1) 53 Tryd.underlying27 infoArc v _ _ _ _ _ HOWN.out (by rfl) (by rfl) (by omega) hszA ?_
              intro g8 c8 w9 hown8 hbel8 hgr8
              refine hK.out _ _ (HSG.out _ hbel8) ?_
              clear hK K
              try simp only [Act.put, List.setIfInBounds_toArray, List.set_cons_zero, List.set_cons_succ]
              have hS6 := HSG.out _ hbel8
              have hQ9 := (HQ8.out.below (Below.refl _ _).drew).app hbel8 hown8
              obtain ⟨⟨_, _, z2⟩, _, _, z3⟩ := ((HQ8.out.b3.below (Below.refl _ _).drew).at_ hbel8 (Nat.lt_succ_self _)).c3
              have HQ9 := hid hQ9
              clear hQ9 hown8 hgr8
              (refine wpAnyT_take (i := 11) (v := ?v11) rfl (by kernel_rfl) (by kernel_rfl) (by kernel_rfl) (by kernel_rfl) (fun _ _ _ h => h) (Or.inl ⟨by rfl, ?y11⟩) (by assumption) ?r11; case y11 => (intro V hSw; have hSw := HSO.out V hSw; go_split_ands; go_simp; first | done | with_reducible rfl); try simp only [Act.put, List.setIfInBounds_toArray, List.set_cons_zero, List.set_cons_succ])
              refine wpAnyT_last rfl (by kernel_rfl) (by kernel_rfl) (fun K hK => ?_)
              go_simp
              refine hK.out _ _ ?_
              clear hK K
              go_wp2
              go_roundw
              case rel => exact ⟨x + 1, .slice (some ⟨g8, 0, none⟩) (m + 1) c8, m + 1, _, by omega, by go_num, hid (by have := HM.out; omega), HQ9.out⟩
              case measure => simp [intOf] <;> omega
          · obtain rfl : x = L := by omega
            have HQH := hid HQ
            clear HQ
            go_wp2
            go_roundw
            case rel => exact ⟨p + 1, v, m, xs, by omega, by go_num, hid (by have := HM.out; have := HMUL.out; omega), by rw [H2.out]; exact HQH.out⟩
            case measure => simp [intOf] <;> omega
    · obtain rfl : p = S := by omega
      obtain ⟨⟨o0, o1, o2⟩, _⟩ := HQ.b3.c3
      obtain ⟨⟨r0, r1, r2⟩, f0, f1, f2⟩ := HQ.b1.c3
      have HQH := hid HQ
      obtain ⟨gq, cq, rfl⟩ := slice_form HQ.own
      rw [← HCN.out] at o1
      clear HQ
      go_wp2
      have hordH := HQH.out.ord
      refine bodyPost_ret (v := .tuple #[.agg #[.int .i64 L, .int .i64 (cntN G L p t : Nat), .slice gq m cq], .bool true]) (by simp [results, Tryd.results26, go_sem, r0, r1, r2]) rfl ⟨t, m, cq, gq, HST.out, rfl, ?_⟩
      exact ((HQH.out.bel.setCell (by show w.heap.size ≤ w.heap.size + 1; omega) _).setCell (by show w.heap.size ≤ w.heap.size + 1; omega) _).setCell (by show w.heap.size ≤ w.heap.size + 1; omega) _
end Go.Proofs.YtpfeflhcbcgbfaaDoor
