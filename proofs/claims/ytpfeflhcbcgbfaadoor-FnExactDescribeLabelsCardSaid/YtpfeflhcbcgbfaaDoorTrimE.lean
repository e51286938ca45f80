/- Labelled graphs: trimmed ones, the program's way. Conditions: the arcs lie in memory. -/
import Derived.Test.YtpfeflhcbcgbfaaDoorResA
namespace Go.Proofs.YtpfeflhcbcgbfaaDoor
open Go.RowKit

set_option maxHeartbeats 4000000 in
set_option maxRecDepth 100000 in
theorem impl_TrimLabels_no (L S : Int) (a : Option Addr) (n c : Nat) (A : List (Int × Int × Int)) (w : World) (hr : RowAt w a (n * 3) (arcVals A)) (hn : n ≤ 1048576) (h : labsB L S A = false) :
    Calls Tryd.prog 51 #[.agg #[.int .i64 L, .int .i64 S, .slice a n c]] w (LabsMay 0 none w) := by
  obtain ⟨W2, hW2⟩ : ∃ W2, W2 = (w.alloc (.cells #[.int .i64 L, .int .i64 S, .slice a n c] 29)).alloc (.cells #[.int .i64 0, .int .i64 0, .slice none 0 0] 29) := ⟨_, rfl⟩
  have hs2 : W2.heap.size = w.heap.size + 1 + 1 := by rw [hW2]; simp
  have HBX := hid (fun (V : World) (hV : Below W2.heap.size W2 V) => show BoxC V w.heap.size #[.int .i64 L, .int .i64 S, .slice a n c] ∧ BoxC V (w.heap.size + 1) #[.int .i64 0, .int .i64 0, .slice none 0 0] ∧ Below w.heap.size w V from by
    rw [hW2] at hV
    obtain ⟨⟨c0, f0⟩, ⟨c1, f1⟩, h4, h5⟩ := box2 hV
    exact ⟨⟨by omega, c0, f0⟩, ⟨h4, c1, f1⟩, h5⟩)
  have HI := hid (fun (W : World) (hW : Below w.heap.size w W) => impl_IsLabels_w L S a n c A W (hr.below hW (Nat.le_refl _)) hn)
  rw [h] at HI
  obtain ⟨HX0, HX1, hbw⟩ := HBX.out W2 (Below.refl _ _)
  obtain ⟨p0, p1, p2⟩ := HX0.c3.1
  clear hr h HX0 HX1
  go_enter Tryd.func51, Tryd.ntmps51
  go_wp2_with (rw [← hW2])
  first | rw [← hW2] | skip
  refine (HI.out _ hbw).mono ?_
  rintro e w1 ⟨rfl, hb1⟩
  obtain ⟨HX0, HX1, hbw1⟩ := HBX.out w1 hb1
  obtain ⟨⟨r0, r1, r2⟩, f0, f1, f2⟩ := HX1.c3
  clear hW2 p0 p1 p2
  go_wp2
  refine bodyPost_ret (v := .tuple #[.agg #[.int .i64 0, .int .i64 0, .slice none 0 0], .bool false]) (by simp [results, Tryd.results51, go_sem, r0, r1, r2]) rfl (labsMay_none ?_)
  exact ((hbw1.setCell (by show w.heap.size ≤ w.heap.size + 1; omega) _).setCell (by show w.heap.size ≤ w.heap.size + 1; omega) _).setCell (by show w.heap.size ≤ w.heap.size + 1; omega) _
set_option maxHeartbeats 4000000 in
set_option maxRecDepth 100000 in
theorem impl_TrimLabels_yes (L S : Nat) (a : Option Addr) (n c : Nat) (G : List (Nat × Nat × Nat)) (w : World) (hr : RowAt w a (n * 3) (arcVals (arcN G))) (hn : n ≤ 1000000) (h : labsB L S (arcN G) = true) (hG : LabG L S G) :
    Calls Tryd.prog 51 #[.agg #[.int .i64 L, .int .i64 S, .slice a n c]] w (TrimPost L S G w) := by
  obtain ⟨W2, hW2⟩ : ∃ W2, W2 = (w.alloc (.cells #[.int .i64 L, .int .i64 S, .slice a n c] 29)).alloc (.cells #[.int .i64 0, .int .i64 0, .slice none 0 0] 29) := ⟨_, rfl⟩
  have hs2 : W2.heap.size = w.heap.size + 1 + 1 := by rw [hW2]; simp
  have HBX := hid (fun (V : World) (hV : Below W2.heap.size W2 V) => show BoxC V w.heap.size #[.int .i64 L, .int .i64 S, .slice a n c] ∧ BoxC V (w.heap.size + 1) #[.int .i64 0, .int .i64 0, .slice none 0 0] ∧ Below w.heap.size w V from by
    rw [hW2] at hV
    obtain ⟨⟨c0, f0⟩, ⟨c1, f1⟩, h4, h5⟩ := box2 hV
    exact ⟨⟨by omega, c0, f0⟩, ⟨h4, c1, f1⟩, h5⟩)
  have HI := hid (fun (W : World) (hW : Below w.heap.size w W) => impl_IsLabels_w L S a n c (arcN G) W (hr.below hW (Nat.le_refl _)) (by omega))
  rw [h] at HI
  obtain ⟨HX0, HX1, hbw⟩ := HBX.out W2 (Below.refl _ _)
  obtain ⟨p0, p1, p2⟩ := HX0.c3.1
  have HAR := hid (garcs_at hr (Below.refl _ _))
  have h12 := hG.s12
  have h1 := hG.s1
  have HGL := hid hG
  obtain ⟨ti, hi, hz, hz1, hz2⟩ := info_parts infoIntZ
  obtain ⟨tj, hi', hz', hz1', hz2'⟩ := info_parts infoInts
  clear hr h HX0 HX1 hG
  unfold TrimPost LabsMay labV
  go_enter Tryd.func51, Tryd.ntmps51
  go_wp2_with (rw [← hW2])
  first | rw [← hW2] | skip
  refine (HI.out _ hbw).mono ?_
  rintro e w1 ⟨rfl, hb1⟩
  obtain ⟨HX0, HX1, hbw1⟩ := HBX.out w1 hb1
  clear hW2 p0 p1 p2 hbw
  obtain ⟨p0, p1, p2⟩ := HX0.c3.1
  have HBW1 := hid hbw1
  have HB1 := hid hb1
  clear hb1 hbw1 HX0 HX1
  go_wp2_with (first | (at_make; refine wpList_make_full _ rfl _ _ 59 rfl w1.heap.size 41 tj (.slice none 0 0) 1 Tryd.underlying59 hi' hz' hz1' .i64 .i64 _ _ S rfl rfl rfl rfl (by rw [hz2']; omega) (by unfold maxLen; omega) (Nat.le_refl _) ?_; intro w3 hown3 hgr3; have hb3 : Below w1.heap.size w1 w3 := (Below.refl _ _).grown hgr3 (Nat.le_refl _) (by intro k h; cases h); have hb23 := HB1.out.trans (hb3.mono HB1.out.size); obtain ⟨HX0, HX1, hbw3⟩ := HBX.out w3 hb23; obtain ⟨p0, p1, p2⟩ := HX0.c3.1))
  have hbT2' := HB1.out.size
  have hO3 := hown3
  rw [made_nils] at hO3
  obtain ⟨bT, hbT⟩ : ∃ b, b = w1.heap.size := ⟨_, rfl⟩
  rw [← hbT] at hO3 hbT2'
  rw [← hbT]
  have hbT2 : W2.heap.size ≤ bT := hbT2'
  have hT3 := TRows.nils 3 w3 bT S
  rw [← rowsK_zero G S] at hT3
  have HO3 := hid hO3
  have HT3 := hid hT3
  have HB3 := hid hb23
  clear hO3 hT3 hown3 hgr3 hb3 hb23 hbw3 HX0 HX1 p0 p1 p2 hbT hbT2' HB1 HBW1
  go_loopw [24] (fun i wr => ∃ (k : Nat) (vs : List Value), k ≤ n ∧ i = .int .i64 k ∧ wr.ownsRow bT 41 1 (.slice (some ⟨bT, 0, none⟩) S S) S vs ∧ TRows 3 wr bT vs (rowsK G S k) ∧ Below W2.heap.size W2 wr) (fun i _ => n - (intOf i).toNat)
  case atStart => exact ⟨0, _, by omega, rfl, HO3.out, HT3.out, HB3.out⟩
  case round =>
    clear HO3 HT3 HB3
    obtain ⟨k, vs, hk, rfl, ho, hT, hbel⟩ := hrel
    obtain ⟨HX0, HX1, hbw⟩ := HBX.out wr hbel
    obtain ⟨p0, p1, p2⟩ := HX0.c3.1
    by_cases hlt : k < n
    · obtain ⟨y, hy⟩ := get_some (l := G) (n := k) (by rw [HAR.out.1]; exact hlt)
      obtain ⟨b1, off1, rfl, hb1, hc1⟩ := HAR.out.2 k y hy
      have hya := HGL.out.arc y (List.mem_of_getElem? hy)
      have HRS := hid (rowsK_step (S := S) hy hya.1)
      obtain ⟨f, t, l⟩ := y
      obtain ⟨g0, g1, g2⟩ := hc1 wr hbw
      have hki : (k : Int) < (n : Int) := by omega
      simp only [] at g0 g1 g2 hya HRS
      have hfS2 : f < S := hya.1
      have hfS : (f : Int) < (S : Int) := by omega
      obtain ⟨WA, hWA⟩ : ∃ WA, WA = wr.alloc (.cells #[.int .i64 f, .int .i64 t, .int .i64 l] 53) := ⟨_, rfl⟩
      have hbA : Below wr.heap.size wr WA := by rw [hWA]; exact (Below.refl _ _).alloc (Nat.le_refl _) _
      have HOA := hid (owns_below ho hbA)
      have HTA := hid (hT.below hbA)
      have HBA := hid (show BoxC WA wr.heap.size #[.int .i64 f, .int .i64 t, .int .i64 l] by rw [hWA]; exact BoxC.new _ _ _)
      have HBEL := hid (hbel.trans (hbA.mono hbel.size))
      obtain ⟨x, hx⟩ := get_some (l := vs) (n := f) (by have := ho.1; omega)
      have HXV := hid hx
      have HXC := hid ((HOA.out.cellAt f (by omega)).trans hx)
      have HROW := hid (HTA.out.own f x _ hx (rowsK_get hfS2))
      have HNA := hid (show x.ownBlock ≠ some wr.heap.size from fun e => by have := ((hT.own f x _ hx (rowsK_get hfS2)).lt _ e).2; omega)
      have hrl := rowOfK_len G k f
      have hbq : bT < WA.heap.size := (HOA.out.lt _ rfl).2
      have HWA := hid hWA
      clear hx hy hc1 hya hWA hbA ho hT hbel HX0 HX1 hbw
      go_wp2_with fail
      rw [← HWA.out]
      obtain ⟨⟨y0, y1, y2⟩, _⟩ := HBA.out.c3
      obtain ⟨S', hSd⟩ : ∃ S' : World → Prop, S' = fun V => V.cell? ⟨wr.heap.size, 0, none⟩ = some (.int .i64 f) ∧ V.cell? ⟨wr.heap.size, 1, none⟩ = some (.int .i64 t) ∧ V.cell? ⟨bT, f, none⟩ = some x := ⟨_, rfl⟩
      have HSO := hid (show ∀ V, S' V → V.cell? ⟨wr.heap.size, 0, none⟩ = some (.int .i64 f) ∧ V.cell? ⟨wr.heap.size, 1, none⟩ = some (.int .i64 t) ∧ V.cell? ⟨bT, f, none⟩ = some x from fun V hV => by rw [hSd] at hV; exact hV)
      have hlt1 : bT < WA.heap.size := (HOA.out.lt _ rfl).2
      have HSK := hid (show ∀ V, Below WA.heap.size WA V → S' V from fun V hb => by
        obtain ⟨⟨z3, z4, z5⟩, _⟩ := (HBA.out.below hb).c3
        rw [hSd]; exact ⟨z3, z4, (hb.cell (p := ⟨bT, f, none⟩) hlt1).trans HXC.out⟩)
      have hS0 : S' WA.drew := HSK.out _ (Below.refl _ _).drew
      have hS1' : S' (WA.drew.alloc (.cells #[.int .i64 t] 3)) := HSK.out _ ((Below.refl _ _).drew.alloc (Nat.le_refl _) _)
      have HOX := hid (owns_below HROW.out (Below.refl _ _).drew)
      have HOD := hid (owns_below HOA.out (Below.refl _ _).drew)
      have HTD := hid (HTA.out.below (Below.refl _ _).drew)
      have hszA : bT ≤ WA.drew.heap.size := Nat.le_of_lt hlt1
      have HSG := hid (show ∀ V, WA.drew.grownBy V x.ownBlock → S' V from fun V hg => by
        obtain ⟨⟨z3, z4, z5⟩, _⟩ := ((HBA.out.below (Below.refl _ _).drew).keep hg HNA.out).c3
        have h1 := HOD.out.kept hg (owns_ne HOD.out HOX.out (by decide))
        rw [hSd]; exact ⟨z3, z4, (h1.cellAt f (by omega)).trans HXV.out⟩)
      clear hSd
      refine wp_region_T (S := S') 13 (by kernel_rfl) ?_
      (refine wpAnyT_take (i := 0) (v := ?v0) rfl (by kernel_rfl) (by kernel_rfl) (by kernel_rfl) (by kernel_rfl) (fun _ _ _ h => h) (Or.inl ⟨by rfl, ?y0⟩) (by assumption) ?r0; case y0 => (intro V hSw; have hSw := HSO.out V hSw; go_split_ands; go_simp; first | done | with_reducible rfl); try simp only [Act.put, List.setIfInBounds_toArray, List.set_cons_zero, List.set_cons_succ])
      (refine wpAnyT_take (i := 1) (v := ?v1) rfl (by kernel_rfl) (by kernel_rfl) (by kernel_rfl) (by kernel_rfl) (fun _ _ _ h => h) (Or.inl ⟨by rfl, ?y1⟩) (by assumption) ?r1; case y1 => (intro V hSw; have hSw := HSO.out V hSw; go_split_ands; go_simp; first | done | with_reducible rfl); try simp only [Act.put, List.setIfInBounds_toArray, List.set_cons_zero, List.set_cons_succ])
      (refine wpAnyT_take (i := 2) (v := ?v2) rfl (by kernel_rfl) (by kernel_rfl) (by kernel_rfl) (by kernel_rfl) (fun _ _ _ h => h) (Or.inl ⟨by rfl, ?y2⟩) (by assumption) ?r2; case y2 => (intro V hSw; have hSw := HSO.out V hSw; go_split_ands; go_simp; first | done | with_reducible rfl); try simp only [Act.put, List.setIfInBounds_toArray, List.set_cons_zero, List.set_cons_succ])
      (refine wpAnyT_take (i := 3) (v := ?v3) rfl (by kernel_rfl) (by kernel_rfl) (by kernel_rfl) (by kernel_rfl) (fun _ _ _ h => h) (Or.inl ⟨by rfl, ?y3⟩) (by assumption) ?r3; case y3 => (intro V hSw; have hSw := HSO.out V hSw; go_split_ands; go_simp; first | done | with_reducible rfl); try simp only [Act.put, List.setIfInBounds_toArray, List.set_cons_zero, List.set_cons_succ])
      (refine wpAnyT_take (i := 4) (v := ?v4) rfl (by kernel_rfl) (by kernel_rfl) (by kernel_rfl) (by kernel_rfl) (fun _ _ _ h => h) (Or.inl ⟨by rfl, ?y4⟩) (by assumption) ?r4; case y4 => (intro V hSw; have hSw := HSO.out V hSw; go_split_ands; go_simp; first | done | with_reducible rfl); try simp only [Act.put, List.setIfInBounds_toArray, List.set_cons_zero, List.set_cons_succ])
      (refine wpAnyT_take (i := 5) (v := ?v5) rfl (by kernel_rfl) (by kernel_rfl) (by kernel_rfl) (by kernel_rfl) (fun _ _ _ h => h) (Or.inl ⟨by rfl, ?y5⟩) (by assumption) ?r5; case y5 => (intro V hSw; have hSw := HSO.out V hSw; go_split_ands; go_simp; first | done | with_reducible rfl); try simp only [Act.put, List.setIfInBounds_toArray, List.set_cons_zero, List.set_cons_succ])
      (refine wpAnyT_take (i := 6) (v := ?v6) rfl (by kernel_rfl) (by kernel_rfl) (by kernel_rfl) (by kernel_rfl) (fun _ _ _ h => h) (Or.inl ⟨by rfl, ?y6⟩) (by assumption) ?r6; case y6 => (intro V hSw; have hSw := HSO.out V hSw; go_split_ands; go_simp; first | done | with_reducible rfl); try simp only [Act.put, List.setIfInBounds_toArray, List.set_cons_zero, List.set_cons_succ])
      (refine wpAnyT_take (i := 7) (v := ?v7) rfl (by kernel_rfl) (by kernel_rfl) (by kernel_rfl) (by kernel_rfl) (fun _ _ _ h => h) (Or.inl ⟨by rfl, ?y7⟩) (by assumption) ?r7; case y7 => (intro V hSw; have hSw := HSO.out V hSw; go_split_ands; go_simp; first | done | with_reducible rfl); try simp only [Act.put, List.setIfInBounds_toArray, List.set_cons_zero, List.set_cons_succ])
      (refine wpAnyT_take (i := 8) (v := ?v8) rfl (by kernel_rfl) (by kernel_rfl) (by kernel_rfl) (by kernel_rfl) (fun _ _ _ h => h) (Or.inl ⟨by rfl, ?y8⟩) (by assumption) ?r8; case y8 => (intro V hSw; have hSw := HSO.out V hSw; go_split_ands; go_simp; first | done | with_reducible rfl); try simp only [Act.put, List.setIfInBounds_toArray, List.set_cons_zero, List.set_cons_succ])
      (refine wpAnyT_take (i := 9) (v := ?v9) rfl (by kernel_rfl) (by kernel_rfl) (by kernel_rfl) (by kernel_rfl) (fun _ _ _ h => h) (Or.inl ⟨by rfl, ?y9⟩) (by assumption) ?r9; case y9 => (intro V hSw; have hSw := HSO.out V hSw; go_split_ands; go_simp; first | done | with_reducible rfl); try simp only [Act.put, List.setIfInBounds_toArray, List.set_cons_zero, List.set_cons_succ])
      refine wpAnyT_step (i := 10) rfl (by kernel_rfl) (by decide) (fun K hK => ?_)
      go_simp
      refine hK.out _ _ hS1' ?_
      clear hK K
      try simp only [Act.put, List.setIfInBounds_toArray, List.set_cons_zero, List.set_cons_succ]
      refine wpAnyT_step (i := 11) rfl (by kernel_rfl) (by decide) (fun K hK => ?_)
      refine step_appN (by rfl) _ _ 41 (by rfl) bT 3 Tryd.underlying41 infoIntZ x _ _ _ HOX.out (by rfl) (by rfl) (by omega) hszA ?_
      intro g6 c6 w6 hown6 hgr6 hor6
      refine hK.out _ _ (HSG.out _ hgr6) ?_
      clear hK K
      try simp only [Act.put, List.setIfInBounds_toArray, List.set_cons_zero, List.set_cons_succ]
      have hS6 := HSG.out _ hgr6
      have hO6 := HOD.out.kept hgr6 (owns_ne HOD.out HOX.out (by decide))
      have hT6 := HTD.out.replace (v' := .slice (some ⟨g6, 0, none⟩) ((rowOfK G k f).length + 1) c6) (x := (t : Int)) HXV.out (rowsK_get hfS2) (by simpa [intVals] using hown6) hgr6 (by rintro g ⟨⟩; exact hor6)
      rw [HRS.out] at hT6
      have hst := hO6.stored f (.slice (some ⟨g6, 0, none⟩) ((rowOfK G k f).length + 1) c6)
      have HO7 := hid hst.1
      have HT7 := hid (hT6.kept hO6 (by decide) hst.2)
      have hb6 : Below W2.heap.size W2 w6 := (HBEL.out.drew).grown hgr6 HBEL.out.drew.size (fun k hk => by have := (HOX.out.lt k hk).1; omega)
      have HB7 := hid (hb6.grown hst.2 hb6.size (by rintro k ⟨⟩; exact hbT2))
      obtain ⟨z0, z1, z2⟩ := HSO.out _ hS6
      have hf7 := hO6.frozenAt f
      clear hst hT6 hO6 hgr6 hown6 hb6
      (refine wpAnyT_take (i := 12) (v := ?v12) rfl (by kernel_rfl) (by kernel_rfl) (by kernel_rfl) (by kernel_rfl) (fun _ _ _ h => h) (Or.inl ⟨by rfl, ?y12⟩) (by assumption) ?r12; case y12 => (intro V hSw; have hSw := HSO.out V hSw; go_split_ands; go_simp; first | done | with_reducible rfl); try simp only [Act.put, List.setIfInBounds_toArray, List.set_cons_zero, List.set_cons_succ])
      refine wpAnyT_last rfl (by kernel_rfl) (by kernel_rfl) (fun K hK => ?_)
      go_simp
      refine hK.out _ _ ?_
      clear hK K
      go_wp2
      go_roundw
      case rel => exact ⟨k + 1, _, by omega, by go_num, HO7.out, HT7.out, HB7.out⟩
      case measure => simp [intOf] <;> omega
    · obtain rfl : k = n := by omega
      have hGt : G.take k = G := List.take_of_length_le (by rw [HAR.out.1]; omega)
      have hrk : rowsK G S k = rowsG G S := by unfold rowsK; rw [hGt]
      rw [hrk] at hT
      have hgl : (rowsG G S).length = S := by simp [rowsG]
      have hgrow : ∀ (i : Nat) (r : List Int), (rowsG G S)[i]? = some r → ∀ x ∈ r, 0 ≤ x ∧ x < (S : Int) := fun i r hr x hx => by
        have hi : i < S := by rw [← hgl]; exact (List.getElem?_eq_some_iff.1 hr).1
        rw [rowsG_get hi] at hr
        injection hr with hr
        subst hr
        obtain ⟨a, ha, rfl⟩ := List.mem_map.1 hx
        have := (HGL.out.arc a (List.mem_filter.1 ha).1).2.1
        omega
      obtain ⟨a9, c9, e9, ht9⟩ := grid_tabAt (T1 := 41) (T0 := 3) (base := bT) ⟨vs, by rw [hgl]; exact ho, hT⟩ (by rw [hgl]; omega) (fun r hr => by
        obtain ⟨i, hi⟩ := List.mem_iff_getElem?.1 hr
        have hi2 : i < S := by rw [← hgl]; exact (List.getElem?_eq_some_iff.1 hi).1
        rw [rowsG_get hi2] at hi
        injection hi with hi
        subst hi
        have := List.length_filter_le (fun a : Nat × Nat × Nat => decide (a.1 = i)) G
        rw [HAR.out.1] at this
        simp
        omega)
      rw [hgl] at e9 ht9
      injection e9 with e1 e2 e3
      subst e1 e3
      have HL := hid (show Calls Tryd.prog 73 #[.slice (some ⟨bT, 0, none⟩) S S] wr (LivesPost G S wr) from impl_lively_c S (rowsG G S) (some ⟨bT, 0, none⟩) S wr ht9 hgrow (by omega))
      unfold LivesPost at HL
      have HBEL := hid hbel
      clear hGt hrk hT hgl hgrow ho hbel ht9 HX0 HX1 hbw
      go_wp2_with fail
      clear p0 p1 p2
      refine HL.out.mono ?_
      rintro e w4 ⟨v4, K, rfl, ho4, hb4, hK4⟩
      have hK := hid hK4
      obtain ⟨ak, ck, rfl, hra⟩ := owns_rowAt ho4 (by omega)
      obtain ⟨bk, ok, rfl, hbk, hck⟩ := keep_cell hra h1
      have HKK := hid (fun (V : World) (hV : Below w4.heap.size w4 V) (j : Nat) (hj : j < S) => show V.cell? ⟨bk, ok + j, none⟩ = some (.bool (K j)) from (hV.cell (p := ⟨bk, ok + j, none⟩) hbk).trans (hck j hj))
      have HB4 := hid (HBEL.out.trans (hb4.mono HBEL.out.size))
      obtain ⟨HX0, HX1, hbw⟩ := HBX.out w4 HB4.out
      obtain ⟨p0, p1, p2⟩ := HX0.c3.1
      clear ho4 hra hck hK4 HL hb4
      go_wp2_with (first | (at_make; refine wpList_make_full _ rfl _ _ 41 rfl w4.heap.size 3 ti (.int .i64 0) 1 Tryd.underlying41 hi hz hz1 .i64 .i64 _ _ S rfl rfl rfl rfl (by rw [hz2]; omega) (by unfold maxLen; omega) (Nat.le_refl _) ?_; intro w5 hown5 hgr5; have hb5 : Below w4.heap.size w4 w5 := (Below.refl _ _).grown hgr5 (Nat.le_refl _) (by intro k h; cases h); clear HX0 HX1 hbw p0 p1 p2; obtain ⟨HX0, HX1, hbw⟩ := HBX.out w5 (HB4.out.trans (hb5.mono HB4.out.size)); obtain ⟨p0, p1, p2⟩ := HX0.c3.1))
      have hN1 : w4.heap.size < w5.heap.size := (hown5.lt _ rfl).2
      rw [← numV_zero K S] at hown5
      obtain ⟨W6, hW6⟩ : ∃ W6, W6 = w5.alloc (.cells #[.int .i64 L, .int .i64 0, .slice none 0 0] 29) := ⟨_, rfl⟩
      obtain ⟨bO, hbO⟩ : ∃ bO, bO = w5.heap.size := ⟨_, rfl⟩
      obtain ⟨bN, hbN⟩ : ∃ bN, bN = w4.heap.size := ⟨_, rfl⟩
      rw [← hbN] at hown5
      have hB4s := HB4.out.size
      have hb46 : Below w4.heap.size w4 W6 := by rw [hW6]; exact hb5.alloc hb5.size _
      have HQ0 := hid (show KeepQ 3 53 w W6 w.heap.size (w.heap.size + 1) bN bO (bO + 1) #[.int .i64 L, .int .i64 S, .slice a k c] #[.int .i64 0, .int .i64 0, .slice none 0 0] S (numV K S 0) (.int .i64 L) (.int .i64 ((numTo K 0 : Nat) : Int)) (.slice none 0 0) 0 (arcVals (arcN (keepG K (G.take 0)))) from by
        have hz6 : W6.heap.size = bO + 1 := by rw [hW6, hbO]; simp
        have hb6 : Below w5.heap.size w5 W6 := by rw [hW6]; exact (Below.refl _ _).alloc (Nat.le_refl _) _
        exact ⟨hbw.trans (hb6.mono hbw.size), by omega, by omega, HX0.below hb6, HX1.below hb6, owns_below hown5 hb6, by rw [hW6, hbO]; exact BoxC.new _ _ _, World.ownsRow_nil _ _ _ _⟩)
      have HB46 := hid hb46
      have hbO4 : w4.heap.size ≤ bO := by omega
      have hbN4 : w4.heap.size ≤ bN := by omega
      rw [← hW6, ← hbO, ← hbN]
      clear hW6 hbO hbN hown5 hgr5 hb5 hbw HX0 HX1 p0 p1 p2 hb46 HBX HBEL
      go_loopw [52] (fun i wr => ∃ q : Nat, q ≤ S ∧ i = .int .i64 q ∧ KeepQ 3 53 w wr w.heap.size (w.heap.size + 1) bN bO (bO + 1) #[.int .i64 L, .int .i64 S, .slice a k c] #[.int .i64 0, .int .i64 0, .slice none 0 0] S (numV K S q) (.int .i64 L) (.int .i64 ((numTo K q : Nat) : Int)) (.slice none 0 0) 0 (arcVals (arcN (keepG K (G.take 0)))) ∧ Below w4.heap.size w4 wr) (fun i _ => S - (intOf i).toNat)
      case atStart => exact ⟨0, by omega, rfl, HQ0.out, HB46.out⟩
      case round =>
        clear HQ0 HB46
        obtain ⟨q, hq, rfl, HQ, hb4⟩ := hrel
        obtain ⟨p0, p1, p2⟩ := HQ.b0.c3.1
        by_cases hlt : q < S
        · have hkc := HKK.out wr hb4 q hlt
          obtain ⟨⟨o0, o1, o2⟩, f0, f1, f2⟩ := HQ.b3.c3
          have hqi : (q : Int) < (S : Int) := by omega
          have hnc := (HQ.num.cellAt q (by omega)).trans (numV_get hlt)
          rw [if_neg (by omega)] at hnc
          have hnf := HQ.num.frozenAt q
          have hord := HQ.ord
          have hne1 : ¬ (bO = bN) := by omega
          have hne2 : ¬ (bN = bO) := by omega
          have hm := numTo_le K q
          have HQH := hid HQ
          have HB4H := hid hb4
          have HYES := hid (fun h : K q = true => numV_yes (S := S) h hlt)
          have HNO := hid (fun h : K q = false => numV_no (S := S) h)
          have HY2 := hid (fun h : K q = true => numTo_yes h)
          have HN2 := hid (fun h : K q = false => numTo_no h)
          obtain ⟨x, hx⟩ : ∃ x, x = K q := ⟨_, rfl⟩
          obtain ⟨y, hy⟩ : ∃ y, y = numTo K q := ⟨_, rfl⟩
          rw [← hx] at hkc HYES HNO HY2 HN2
          rw [← hy] at o1 HY2 HN2 hm HYES HQH
          clear hx hy HQ hord hb4
          cases x
          · have H1 := hid (HNO.out rfl)
            have H2 := hid (HN2.out rfl)
            clear HYES HNO HY2 HN2
            go_wp2
            go_roundw
            case rel => exact ⟨q + 1, by omega, by go_num, by rw [H1.out, H2.out]; exact HQH.out, HB4H.out⟩
            case measure => simp [intOf] <;> omega
          · have H1 := hid (HYES.out rfl)
            have H2 := hid (HY2.out rfl)
            clear HYES HNO HY2 HN2
            go_wp2
            go_roundw
            case rel => exact ⟨q + 1, by omega, by go_num, by
              have h1 := (HQH.out.setNum q (.int .i64 (y : Int))).setQ (.int .i64 ((y : Int) + 1))
              rw [H1.out] at h1
              rw [H2.out]
              exact h1, (HB4H.out.setCell (p := ⟨bN, q, none⟩) hbN4 _).setCell (p := ⟨bO, 1, none⟩) hbO4 _⟩
            case measure => simp [intOf] <;> omega
        · obtain rfl : q = S := by omega
          obtain ⟨⟨o0, o1, o2⟩, _⟩ := HQ.b3.c3
          obtain ⟨⟨r0, r1, r2⟩, f0, f1, f2⟩ := HQ.b1.c3
          have HQ0 := hid HQ
          have HB40 := hid hb4
          have hTO := hid (show trimO K q G = if numTo K q = 0 then none else some (numTo K q, keepG K G) from rfl)
          have HQN := hid (rfl : numTo K q = numTo K q)
          by_cases hN0 : numTo K q = 0
          · have hTO := hid (hTO.out.trans (if_pos hN0))
            have hNb : (((numTo K q : Nat) : Int) == 0) = true := by simp [hN0]
            clear HQ hb4
            go_wp2
            refine bodyPost_ret (v := .tuple #[.agg #[.int .i64 0, .int .i64 0, .slice none 0 0], .bool false]) (by simp [results, Tryd.results51, go_sem, r0, r1, r2]) rfl ⟨K, hK.out, ?_⟩
            rw [hTO.out]
            exact labsMay_none (((HQ0.out.bel.setCell (by show w.heap.size ≤ w.heap.size + 1; omega) _).setCell (by show w.heap.size ≤ w.heap.size + 1; omega) _).setCell (by show w.heap.size ≤ w.heap.size + 1; omega) _)
          · have hTO := hid (hTO.out.trans (if_neg hN0))
            have hNb : (((numTo K q : Nat) : Int) == 0) = false := by simp [hN0]
            clear HQ hb4
            go_wp2
            go_loopw [75] (fun i wr => ∃ (m : Nat) (v : Value), m ≤ k ∧ i = .int .i64 m ∧ KeepQ 3 53 w wr w.heap.size (w.heap.size + 1) bN bO (bO + 1) #[.int .i64 L, .int .i64 q, .slice a k c] #[.int .i64 0, .int .i64 0, .slice none 0 0] q (numV K q q) (.int .i64 L) (.int .i64 ((numTo K q : Nat) : Int)) v (keepG K (G.take m)).length (arcVals (arcN (keepG K (G.take m)))) ∧ Below w4.heap.size w4 wr) (fun i _ => k - (intOf i).toNat)
            case atStart => exact ⟨0, _, by omega, rfl, HQ0.out, HB40.out⟩
            case round =>
              clear HQ0 HB40 p0 p1 p2 o0 o1 o2 r0 r1 r2 f0 f1 f2 hk
              obtain ⟨m, v, hk, rfl, HQ, hb4⟩ := hrel
              obtain ⟨p0, p1, p2⟩ := HQ.b0.c3.1
              by_cases hlt : m < k
              · obtain ⟨y, hy⟩ := get_some (l := G) (n := m) (by rw [HAR.out.1]; exact hlt)
                obtain ⟨b1, off1, rfl, hb1, hc1⟩ := HAR.out.2 m y hy
                have hya := HGL.out.arc y (List.mem_of_getElem? hy)
                have HYES := hid (fun h : keepArc K y = true => keepG_yes hy h)
                have HNO := hid (fun h : keepArc K y = false => keepG_no hy h)
                obtain ⟨f, t, l⟩ := y
                obtain ⟨g0, g1, g2⟩ := hc1 wr HQ.bel
                have hki : (m : Int) < (k : Int) := by omega
                simp only [] at g0 g1 g2 hya
                have hfS : (f : Int) < (q : Int) := by omega
                have htS : (t : Int) < (q : Int) := by omega
                obtain ⟨WA, hWA⟩ : ∃ WA, WA = wr.alloc (.cells #[.int .i64 f, .int .i64 t, .int .i64 l] 53) := ⟨_, rfl⟩
                have hbA : Below wr.heap.size wr WA := by rw [hWA]; exact (Below.refl _ _).alloc (Nat.le_refl _) _
                have HQA := hid (HQ.below hbA)
                have HB4A := hid (hb4.trans (hbA.mono hb4.size))
                have HBA := hid (show BoxC WA wr.heap.size #[.int .i64 f, .int .i64 t, .int .i64 l] by rw [hWA]; exact BoxC.new _ _ _)
                have hkf : (wr.alloc (.cells #[.int .i64 f, .int .i64 t, .int .i64 l] 53)).cell? ⟨bk, ok + f, none⟩ = some (.bool (K f)) := by rw [← hWA]; exact HKK.out WA HB4A.out f hya.1
                have hkt : (wr.alloc (.cells #[.int .i64 f, .int .i64 t, .int .i64 l] 53)).cell? ⟨bk, ok + t, none⟩ = some (.bool (K t)) := by rw [← hWA]; exact HKK.out WA HB4A.out t hya.2.1
                have hlen := keepG_len K (G.take m)
                have hlen2 : (G.take m).length ≤ k := by rw [List.length_take, HAR.out.1]; omega
                have hnf := fun h : K f = true => (HQA.out.num.cellAt f (by omega)).trans (numV_get (K := K) (i := q) hya.1) |>.trans (by rw [if_pos ⟨h, hya.1⟩])
                have hnt := fun h : K t = true => (HQA.out.num.cellAt t (by omega)).trans (numV_get (K := K) (i := q) hya.2.1) |>.trans (by rw [if_pos ⟨h, hya.2.1⟩])
                have hka : keepArc K (f, t, l) = (K f && K t) := rfl
                rw [hka] at HYES HNO
                have HNF := hid hnf
                have HNT := hid hnt
                obtain ⟨x, hx⟩ : ∃ x, x = K f := ⟨_, rfl⟩
                obtain ⟨z, hz⟩ : ∃ z, z = K t := ⟨_, rfl⟩
                rw [← hx] at hkf HYES HNO HNF
                rw [← hz] at hkt HYES HNO HNT
                have HWA := hid hWA
                have HVL := hid (fun (g : Nat) (h : v.ownBlock = some g) => (HQ.own.lt g h).2)
                clear hx hz hy hc1 hya hnf hnt hka hWA hbA HQ hb4
                cases x
                · have H1 := hid (HNO.out rfl)
                  clear HYES HNO HNF HNT
                  go_wp2
                  rw [← HWA.out]
                  go_roundw
                  case rel => exact ⟨m + 1, v, by omega, by go_num, by rw [H1.out]; exact HQA.out, HB4A.out⟩
                  case measure => simp [intOf] <;> omega
                · cases z
                  · have H1 := hid (HNO.out rfl)
                    clear HYES HNO HNF HNT
                    go_wp2
                    rw [← HWA.out]
                    go_roundw
                    case rel => exact ⟨m + 1, v, by omega, by go_num, by rw [H1.out]; exact HQA.out, HB4A.out⟩
                    case measure => simp [intOf] <;> omega
                  · have H1 := hid (HYES.out rfl)
                    have HNF1 := hid (HNF.out rfl)
                    have HNT1 := hid (HNT.out rfl)
                    clear HYES HNO HNF HNT
                    obtain ⟨⟨o0, o1, o2⟩, f0, f1, f2⟩ := HQA.out.b3.c3
                    obtain ⟨⟨y0, y1, y2⟩, _⟩ := HBA.out.c3
                    go_wp2_with fail
                    rw [← HWA.out]
                    obtain ⟨S', hSd⟩ : ∃ S' : World → Prop, S' = fun V => V.cell? ⟨bO, 2, none⟩ = some v ∧ V.cell? ⟨bN, f, none⟩ = some (.int .i64 (numTo K f : Nat)) ∧ V.cell? ⟨bN, t, none⟩ = some (.int .i64 (numTo K t : Nat)) ∧ V.cell? ⟨wr.heap.size, 0, none⟩ = some (.int .i64 f) ∧ V.cell? ⟨wr.heap.size, 1, none⟩ = some (.int .i64 t) ∧ V.cell? ⟨wr.heap.size, 2, none⟩ = some (.int .i64 l) := ⟨_, rfl⟩
                    have HSO := hid (show ∀ V, S' V → V.cell? ⟨bO, 2, none⟩ = some v ∧ V.cell? ⟨bN, f, none⟩ = some (.int .i64 (numTo K f : Nat)) ∧ V.cell? ⟨bN, t, none⟩ = some (.int .i64 (numTo K t : Nat)) ∧ V.cell? ⟨wr.heap.size, 0, none⟩ = some (.int .i64 f) ∧ V.cell? ⟨wr.heap.size, 1, none⟩ = some (.int .i64 t) ∧ V.cell? ⟨wr.heap.size, 2, none⟩ = some (.int .i64 l) from fun V hV => by rw [hSd] at hV; exact hV)
                    have HSK := hid (show ∀ V, Below WA.heap.size WA V → S' V from fun V hb => by
                      obtain ⟨⟨_, _, z2⟩, _⟩ := (HQA.out.b3.below hb).c3
                      obtain ⟨⟨z3, z4, z5⟩, _⟩ := (HBA.out.below hb).c3
                      have hl1 : bN < WA.heap.size := (HQA.out.num.lt _ rfl).2
                      rw [hSd]; exact ⟨z2, (hb.cell (p := ⟨bN, f, none⟩) hl1).trans HNF1.out, (hb.cell (p := ⟨bN, t, none⟩) hl1).trans HNT1.out, z3, z4, z5⟩)
                    have hS0 : S' WA.drew := HSK.out _ (Below.refl _ _).drew
                    have hS1' : S' (WA.drew.alloc (.cells #[.int .i64 (numTo K f : Nat), .int .i64 (numTo K t : Nat), .int .i64 l] 53)) := HSK.out _ ((Below.refl _ _).drew.alloc (Nat.le_refl _) _)
                    have hszA : bO + 1 ≤ WA.drew.heap.size := HQA.out.sz
                    have HOWN := hid (owns_below HQA.out.own (Below.refl _ _).drew)
                    have HSG := hid (show ∀ V, WA.drew.grownBy V v.ownBlock → Below (bO + 1) WA.drew V → S' V from fun V hg hb => by
                      have hbY := HBA.out.below (Below.refl _ _).drew
                      have ho := HQA.out.ord
                      obtain ⟨⟨_, _, z2⟩, _⟩ := ((HQA.out.b3.below (Below.refl _ _).drew).at_ hb (by omega)).c3
                      obtain ⟨⟨z3, z4, z5⟩, _⟩ := (hbY.keep hg (fun e => by have := HVL.out _ e; omega)).c3
                      have hl1 : bN < bO + 1 := by omega
                      rw [hSd]; exact ⟨z2, (hb.cell (p := ⟨bN, f, none⟩) hl1).trans HNF1.out, (hb.cell (p := ⟨bN, t, none⟩) hl1).trans HNT1.out, z3, z4, z5⟩)
                    clear hSd
                    refine wp_region_T (S := S') 18 (by kernel_rfl) ?_
                    (refine wpAnyT_take (i := 0) (v := ?v0b) rfl (by kernel_rfl) (by kernel_rfl) (by kernel_rfl) (by kernel_rfl) (fun _ _ _ h => h) (Or.inl ⟨by rfl, ?y0b⟩) (by assumption) ?r0b; case y0b => (intro V hSw; have hSw := HSO.out V hSw; go_split_ands; go_simp; first | done | with_reducible rfl); try simp only [Act.put, List.setIfInBounds_toArray, List.set_cons_zero, List.set_cons_succ])
                    (refine wpAnyT_take (i := 1) (v := ?v1b) rfl (by kernel_rfl) (by kernel_rfl) (by kernel_rfl) (by kernel_rfl) (fun _ _ _ h => h) (Or.inl ⟨by rfl, ?y1b⟩) (by assumption) ?r1b; case y1b => (intro V hSw; have hSw := HSO.out V hSw; go_split_ands; go_simp; first | done | with_reducible rfl); try simp only [Act.put, List.setIfInBounds_toArray, List.set_cons_zero, List.set_cons_succ])
                    (refine wpAnyT_take (i := 2) (v := ?v2b) rfl (by kernel_rfl) (by kernel_rfl) (by kernel_rfl) (by kernel_rfl) (fun _ _ _ h => h) (Or.inl ⟨by rfl, ?y2b⟩) (by assumption) ?r2b; case y2b => (intro V hSw; have hSw := HSO.out V hSw; go_split_ands; go_simp; first | done | with_reducible rfl); try simp only [Act.put, List.setIfInBounds_toArray, List.set_cons_zero, List.set_cons_succ])
                    (refine wpAnyT_take (i := 3) (v := ?v3b) rfl (by kernel_rfl) (by kernel_rfl) (by kernel_rfl) (by kernel_rfl) (fun _ _ _ h => h) (Or.inl ⟨by rfl, ?y3b⟩) (by assumption) ?r3b; case y3b => (intro V hSw; have hSw := HSO.out V hSw; go_split_ands; go_simp; first | done | with_reducible rfl); try simp only [Act.put, List.setIfInBounds_toArray, List.set_cons_zero, List.set_cons_succ])
                    (refine wpAnyT_take (i := 4) (v := ?v4b) rfl (by kernel_rfl) (by kernel_rfl) (by kernel_rfl) (by kernel_rfl) (fun _ _ _ h => h) (Or.inl ⟨by rfl, ?y4b⟩) (by assumption) ?r4b; case y4b => (intro V hSw; have hSw := HSO.out V hSw; go_split_ands; go_simp; first | done | with_reducible rfl); try simp only [Act.put, List.setIfInBounds_toArray, List.set_cons_zero, List.set_cons_succ])
                    (refine wpAnyT_take (i := 5) (v := ?v5b) rfl (by kernel_rfl) (by kernel_rfl) (by kernel_rfl) (by kernel_rfl) (fun _ _ _ h => h) (Or.inl ⟨by rfl, ?y5b⟩) (by assumption) ?r5b; case y5b => (intro V hSw; have hSw := HSO.out V hSw; go_split_ands; go_simp; first | done | with_reducible rfl); try simp only [Act.put, List.setIfInBounds_toArray, List.set_cons_zero, List.set_cons_succ])
                    (refine wpAnyT_take (i := 6) (v := ?v6b) rfl (by kernel_rfl) (by kernel_rfl) (by kernel_rfl) (by kernel_rfl) (fun _ _ _ h => h) (Or.inl ⟨by rfl, ?y6b⟩) (by assumption) ?r6b; case y6b => (intro V hSw; have hSw := HSO.out V hSw; go_split_ands; go_simp; first | done | with_reducible rfl); try simp only [Act.put, List.setIfInBounds_toArray, List.set_cons_zero, List.set_cons_succ])
                    (refine wpAnyT_take (i := 7) (v := ?v7b) rfl (by kernel_rfl) (by kernel_rfl) (by kernel_rfl) (by kernel_rfl) (fun _ _ _ h => h) (Or.inl ⟨by rfl, ?y7b⟩) (by assumption) ?r7b; case y7b => (intro V hSw; have hSw := HSO.out V hSw; go_split_ands; go_simp; first | done | with_reducible rfl); try simp only [Act.put, List.setIfInBounds_toArray, List.set_cons_zero, List.set_cons_succ])
                    (refine wpAnyT_take (i := 8) (v := ?v8b) rfl (by kernel_rfl) (by kernel_rfl) (by kernel_rfl) (by kernel_rfl) (fun _ _ _ h => h) (Or.inl ⟨by rfl, ?y8b⟩) (by assumption) ?r8b; case y8b => (intro V hSw; have hSw := HSO.out V hSw; go_split_ands; go_simp; first | done | with_reducible rfl); try simp only [Act.put, List.setIfInBounds_toArray, List.set_cons_zero, List.set_cons_succ])
                    (refine wpAnyT_take (i := 9) (v := ?v9b) rfl (by kernel_rfl) (by kernel_rfl) (by kernel_rfl) (by kernel_rfl) (fun _ _ _ h => h) (Or.inl ⟨by rfl, ?y9b⟩) (by assumption) ?r9b; case y9b => (intro V hSw; have hSw := HSO.out V hSw; go_split_ands; go_simp; first | done | with_reducible rfl); try simp only [Act.put, List.setIfInBounds_toArray, List.set_cons_zero, List.set_cons_succ])
                    (refine wpAnyT_take (i := 10) (v := ?v10b) rfl (by kernel_rfl) (by kernel_rfl) (by kernel_rfl) (by kernel_rfl) (fun _ _ _ h => h) (Or.inl ⟨by rfl, ?y10b⟩) (by assumption) ?r10b; case y10b => (intro V hSw; have hSw := HSO.out V hSw; go_split_ands; go_simp; first | done | with_reducible rfl); try simp only [Act.put, List.setIfInBounds_toArray, List.set_cons_zero, List.set_cons_succ])
                    (refine wpAnyT_take (i := 11) (v := ?v11b) rfl (by kernel_rfl) (by kernel_rfl) (by kernel_rfl) (by kernel_rfl) (fun _ _ _ h => h) (Or.inl ⟨by rfl, ?y11b⟩) (by assumption) ?r11b; case y11b => (intro V hSw; have hSw := HSO.out V hSw; go_split_ands; go_simp; first | done | with_reducible rfl); try simp only [Act.put, List.setIfInBounds_toArray, List.set_cons_zero, List.set_cons_succ])
                    (refine wpAnyT_take (i := 12) (v := ?v12b) rfl (by kernel_rfl) (by kernel_rfl) (by kernel_rfl) (by kernel_rfl) (fun _ _ _ h => h) (Or.inl ⟨by rfl, ?y12b⟩) (by assumption) ?r12b; case y12b => (intro V hSw; have hSw := HSO.out V hSw; go_split_ands; go_simp; first | done | with_reducible rfl); try simp only [Act.put, List.setIfInBounds_toArray, List.set_cons_zero, List.set_cons_succ])
                    (refine wpAnyT_take (i := 13) (v := ?v13b) rfl (by kernel_rfl) (by kernel_rfl) (by kernel_rfl) (by kernel_rfl) (fun _ _ _ h => h) (Or.inl ⟨by rfl, ?y13b⟩) (by assumption) ?r13b; case y13b => (intro V hSw; have hSw := HSO.out V hSw; go_split_ands; go_simp; first | done | with_reducible rfl); try simp only [Act.put, List.setIfInBounds_toArray, List.set_cons_zero, List.set_cons_succ])
                    (refine wpAnyT_take (i := 14) (v := ?v14b) rfl (by kernel_rfl) (by kernel_rfl) (by kernel_rfl) (by kernel_rfl) (fun _ _ _ h => h) (Or.inl ⟨by rfl, ?y14b⟩) (by assumption) ?r14b; case y14b => (intro V hSw; have hSw := HSO.out V hSw; go_split_ands; go_simp; first | done | with_reducible rfl); try simp only [Act.put, List.setIfInBounds_toArray, List.set_cons_zero, List.set_cons_succ])
                    refine wpAnyT_step (i := 15) rfl (by kernel_rfl) (by decide) (fun K hK => ?_)
                    go_simp
                    refine hK.out _ _ hS1' ?_
                    clear hK K
                    try simp only [Act.put, List.setIfInBounds_toArray, List.set_cons_zero, List.set_cons_succ]
                    refine wpAnyT_step (i := 16) rfl (by kernel_rfl) (by decide) (fun K hK => ?_)
                    refine step_appA (by rfl) _ _ 27 (by rfl) (bO + 1) 53 Tryd.underlying27 infoArc v _ _ _ _ _ HOWN.out (by rfl) (by rfl) (by omega) hszA ?_
                    intro g6 c6 w6 hown6 hbel6 hgr6
                    refine hK.out _ _ (HSG.out _ hgr6 hbel6) ?_
                    clear hK K
                    try simp only [Act.put, List.setIfInBounds_toArray, List.set_cons_zero, List.set_cons_succ]
                    have hS6 := HSG.out _ hgr6 hbel6
                    have hQ6 := (HQA.out.below (Below.refl _ _).drew).app hbel6 hown6
                    obtain ⟨⟨_, _, z2⟩, _, _, z3⟩ := ((HQA.out.b3.below (Below.refl _ _).drew).at_ hbel6 (Nat.lt_succ_self _)).c3
                    have HQ6 := hid hQ6
                    have HB6 := hid (((HB4A.out.drew).trans (hbel6.mono (by have := HQA.out.ord; omega))).setCell (p := ⟨bO, 2, none⟩) hbO4 (.slice (some ⟨g6, 0, none⟩) ((keepG K (G.take m)).length + 1) c6))
                    clear hQ6 hown6 hgr6
                    (refine wpAnyT_take (i := 17) (v := ?v17b) rfl (by kernel_rfl) (by kernel_rfl) (by kernel_rfl) (by kernel_rfl) (fun _ _ _ h => h) (Or.inl ⟨by rfl, ?y17b⟩) (by assumption) ?r17b; case y17b => (intro V hSw; have hSw := HSO.out V hSw; go_split_ands; go_simp; first | done | with_reducible rfl); try simp only [Act.put, List.setIfInBounds_toArray, List.set_cons_zero, List.set_cons_succ])
                    refine wpAnyT_last rfl (by kernel_rfl) (by kernel_rfl) (fun K hK => ?_)
                    go_simp
                    refine hK.out _ _ ?_
                    clear hK K
                    go_wp2
                    go_roundw
                    case rel => exact ⟨m + 1, .slice (some ⟨g6, 0, none⟩) ((keepG K (G.take m)).length + 1) c6, by omega, by go_num, by rw [H1.out, List.length_append, arcN_snoc, arcVals_snoc]; exact HQ6.out, HB6.out⟩
                    case measure => simp [intOf] <;> omega
              · obtain rfl : m = k := by omega
                have hGt : G.take m = G := List.take_of_length_le (by rw [HAR.out.1]; omega)
                rw [hGt] at HQ
                obtain ⟨⟨o0, o1, o2⟩, _⟩ := HQ.b3.c3
                obtain ⟨⟨r0, r1, r2⟩, f0, f1, f2⟩ := HQ.b1.c3
                have HQH := hid HQ
                obtain ⟨gq, cq, rfl⟩ := slice_form HQ.own
                clear HQ hGt hb4
                go_wp2
                have hordH := HQH.out.ord
                refine bodyPost_ret (v := .tuple #[.agg #[.int .i64 L, .int .i64 ((numTo K q : Nat) : Int), .slice gq (keepG K G).length cq], .bool true]) (by simp [results, Tryd.results51, go_sem, r0, r1, r2]) rfl ⟨K, hK.out, ?_⟩
                rw [hTO.out]
                exact ⟨gq, cq, rfl, owns_base (own_setB (own_setB (own_setB HQH.out.own (by omega) _ _) (by omega) _ _) (by omega) _ _) (by omega), ((HQH.out.bel.setCell (by show w.heap.size ≤ w.heap.size + 1; omega) _).setCell (by show w.heap.size ≤ w.heap.size + 1; omega) _).setCell (by show w.heap.size ≤ w.heap.size + 1; omega) _⟩
end Go.Proofs.YtpfeflhcbcgbfaaDoor
