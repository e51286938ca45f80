/- Labelled graphs: trimmed ones, the reference's way. Conditions: the arcs lie in memory. -/
import Derived.Test.YtpfeflhcbcgbfaaDoorTrimB
import Derived.Test.YtpfeflhcbcgbfaaDoorLabT
namespace Go.Proofs.YtpfeflhcbcgbfaaDoor
open Go.RowKit

theorem alloc_both {W2 V : World} (cs : Array Value) (T : TypeId) (h : Below W2.heap.size W2 V) : Below W2.heap.size W2 (V.alloc (.cells cs T)) ∧ BoxC (V.alloc (.cells cs T)) V.heap.size cs ∧ Below V.heap.size V (V.alloc (.cells cs T)) ∧ W2.heap.size ≤ V.heap.size :=
  ⟨h.alloc h.size _, BoxC.new _ _ _, (Below.refl _ _).alloc (Nat.le_refl _) _, h.size⟩
theorem own_setN {wr : World} {B e s n b : Nat} {v : Value} {xs : List Value} (h : wr.ownsRow B e s v n xs) (hb : ∀ q, v.ownBlock = some q → q ≠ b) (q : Nat) (y : Value) : (wr.setCell ⟨b, q, none⟩ y).ownsRow B e s v n xs :=
  h.kept (row := some b) ⟨rfl, rfl, rfl, by simp, fun p hq hr => Below.heap_setCell _ _ _ _ (fun e => hr (by rw [show p = b from e]))⟩ (by
    cases hv : v.ownBlock with
    | none => exact .inl rfl
    | some q => exact .inr fun e => hb q hv (by injection e))
theorem box_name {w : World} {b B : Nat} {A : Array Value} (h : BoxC w b A) (hB : B ≤ b) : ∃ b', b' = b ∧ B ≤ b' ∧ BoxC w b' A := ⟨b, rfl, hB, h⟩
section
open Go
variable {P : Program} {ops : Array Oper} {Q : Exit → Act → World → Prop} {md : Region.Mode} {S : World → Prop} {n : Nat}
/-- Two come up: whichever goes first. -/
theorem wpAnyT_two {i j : Nat} {oi oj : Oper} {fuel : Nat} {listed : Array Bool} {a : Act} {w : World} (hi : ops[i]? = some oi) (hj : ops[j]? = some oj) (hr : Region.ready md ops listed = [i, j]) (hin : i < n) (hjn : j < n)
    (h : ∀ K' : Act → World → Prop, Shut (∀ a w, S w → (HeadInv md ops n (listed.setIfInBounds i true) → wpAnyT P md ops Q S n fuel (listed.setIfInBounds i true) a w) → K' a w) → if Region.wanted oi (yielded ops a.tmps) = true then Oper.wp P oi a w K' Q else K' (a.put oi.dst undef) w)
    (k : ∀ K' : Act → World → Prop, Shut (∀ a w, S w → (HeadInv md ops n (listed.setIfInBounds j true) → wpAnyT P md ops Q S n fuel (listed.setIfInBounds j true) a w) → K' a w) → if Region.wanted oj (yielded ops a.tmps) = true then Oper.wp P oj a w K' Q else K' (a.put oj.dst undef) w) :
    HeadInv md ops n listed → wpAnyT P md ops Q S n (fuel + 1) listed a w := fun inv => by
  have h1 : i ∈ Region.ready md ops listed := by rw [hr]; simp
  have h2 : j ∈ Region.ready md ops listed := by rw [hr]; simp
  refine ⟨fun h0 => (by rw [hr] at h0; cases h0), fun q hq => ?_⟩
  rw [hr] at hq
  rcases List.mem_cons.1 hq with rfl | hq
  · exact wpOp_step hi (fun K' hK => h K' (fun a w hS hW => hK a w ⟨fun _ => hS, hW (inv.set h1 hin)⟩))
  · obtain rfl := List.mem_singleton.1 hq
    exact wpOp_step hj (fun K' hK => k K' (fun a w hS hW => hK a w ⟨fun _ => hS, hW (inv.set h2 hjn)⟩))
end
def trimO (K : Nat → Bool) (S : Nat) (G : List (Nat × Nat × Nat)) : Option (Nat × List (Nat × Nat × Nat)) := if numTo K S = 0 then none else some (numTo K S, keepG K G)
/-- A labelled graph and whether there is one. -/
def LabsMay (L : Nat) (o : Option (Nat × List (Nat × Nat × Nat))) (w : World) (e : Ending) (w' : World) : Prop :=
  ∃ g c, e = .returned (.tuple #[labV (if o.isSome then L else 0) (o.getD (0, [])).1 g (o.getD (0, [])).2.length c, .bool o.isSome]) ∧ w'.ownsRow w.heap.size 53 3 (.slice g (o.getD (0, [])).2.length c) (o.getD (0, [])).2.length (arcVals (arcN (o.getD (0, [])).2)) ∧ Below w.heap.size w w'
def TrimPost (L S : Nat) (G : List (Nat × Nat × Nat)) (w : World) (e : Ending) (w' : World) : Prop :=
  ∃ K : Nat → Bool, (∀ i, i < S → (K i = true ↔ LivesG G S i)) ∧ LabsMay L (trimO K S G) w e w'
theorem labsMay_none {L : Nat} {w w' : World} (h : Below w.heap.size w w') : LabsMay L none w (.returned (.tuple #[.agg #[.int .i64 0, .int .i64 0, .slice none 0 0], .bool false])) w' := ⟨none, 0, rfl, World.ownsRow_nil _ _ _ _, h⟩
set_option maxHeartbeats 4000000 in
set_option maxRecDepth 100000 in
theorem spec_TrimLabels_no (L S : Int) (a : Option Addr) (n c : Nat) (A : List (Int × Int × Int)) (w : World) (hr : RowAt w a (n * 3) (arcVals A)) (hn : n ≤ 1048576) (h : labsB L S A = false) :
    Calls Tryd.prog 37 #[.agg #[.int .i64 L, .int .i64 S, .slice a n c]] w (LabsMay 0 none w) := by
  obtain ⟨W2, hW2⟩ : ∃ W2, W2 = (w.alloc (.cells #[.int .i64 L, .int .i64 S, .slice a n c] 29)).alloc (.cells #[.int .i64 0, .int .i64 0, .slice none 0 0] 29) := ⟨_, rfl⟩
  have hs2 : W2.heap.size = w.heap.size + 1 + 1 := by rw [hW2]; simp
  have HBX := hid (fun (V : World) (hV : Below W2.heap.size W2 V) => show BoxC V w.heap.size #[.int .i64 L, .int .i64 S, .slice a n c] ∧ BoxC V (w.heap.size + 1) #[.int .i64 0, .int .i64 0, .slice none 0 0] ∧ Below w.heap.size w V from by
    rw [hW2] at hV
    obtain ⟨⟨c0, f0⟩, ⟨c1, f1⟩, h4, h5⟩ := box2 hV
    exact ⟨⟨by omega, c0, f0⟩, ⟨h4, c1, f1⟩, h5⟩)
  have HI := hid (fun (W : World) (hW : Below w.heap.size w W) => spec_IsLabels_c L S a n c A W (hr.below hW (Nat.le_refl _)) hn)
  rw [h] at HI
  obtain ⟨HX0, HX1, hbw⟩ := HBX.out W2 (Below.refl _ _)
  obtain ⟨p0, p1, p2⟩ := HX0.c3.1
  clear hr h HX0 HX1
  go_enter Tryd.func37, Tryd.ntmps37
  go_wp2_with (rw [← hW2])
  first | rw [← hW2] | skip
  refine (HI.out _ hbw).mono ?_
  rintro e w1 ⟨rfl, hb1⟩
  obtain ⟨HX0, HX1, hbw1⟩ := HBX.out w1 hb1
  obtain ⟨⟨r0, r1, r2⟩, f0, f1, f2⟩ := HX1.c3
  clear hW2 p0 p1 p2
  go_wp2
  refine bodyPost_ret (v := .tuple #[.agg #[.int .i64 0, .int .i64 0, .slice none 0 0], .bool false]) (by simp [results, Tryd.results37, go_sem, r0, r1, r2]) rfl (labsMay_none ?_)
  exact ((hbw1.setCell (by show w.heap.size ≤ w.heap.size + 1; omega) _).setCell (by show w.heap.size ≤ w.heap.size + 1; omega) _).setCell (by show w.heap.size ≤ w.heap.size + 1; omega) _
set_option maxHeartbeats 4000000 in
set_option maxRecDepth 100000 in
theorem spec_TrimLabels_yes (L S : Nat) (a : Option Addr) (n c : Nat) (G : List (Nat × Nat × Nat)) (w : World) (hr : RowAt w a (n * 3) (arcVals (arcN G))) (hn : n ≤ 1000000) (h : labsB L S (arcN G) = true) (hG : LabG L S G) :
    Calls Tryd.prog 37 #[.agg #[.int .i64 L, .int .i64 S, .slice a n c]] w (TrimPost L S G w) := by
  obtain ⟨W2, hW2⟩ : ∃ W2, W2 = (w.alloc (.cells #[.int .i64 L, .int .i64 S, .slice a n c] 29)).alloc (.cells #[.int .i64 0, .int .i64 0, .slice none 0 0] 29) := ⟨_, rfl⟩
  have hs2 : W2.heap.size = w.heap.size + 1 + 1 := by rw [hW2]; simp
  have HBX := hid (fun (V : World) (hV : Below W2.heap.size W2 V) => show BoxC V w.heap.size #[.int .i64 L, .int .i64 S, .slice a n c] ∧ BoxC V (w.heap.size + 1) #[.int .i64 0, .int .i64 0, .slice none 0 0] ∧ Below w.heap.size w V from by
    rw [hW2] at hV
    obtain ⟨⟨c0, f0⟩, ⟨c1, f1⟩, h4, h5⟩ := box2 hV
    exact ⟨⟨by omega, c0, f0⟩, ⟨h4, c1, f1⟩, h5⟩)
  have HI := hid (fun (W : World) (hW : Below w.heap.size w W) => spec_IsLabels_c L S a n c (arcN G) W (hr.below hW (Nat.le_refl _)) (by omega))
  rw [h] at HI
  have HLV := hid (fun (W : World) (hW : Below w.heap.size w W) => l14Live_c L S a n c G W (hr.below hW (Nat.le_refl _)) hG (by omega))
  unfold LivesPost at HLV
  have HKP := hid (fun (W : World) (hW : Below w.heap.size w W) (ak : Option Addr) (ck : Nat) (K : Nat → Bool) (hk : RowAt W ak S (boolVals (rowB K S))) => l14Keep_c L S a ak n c ck G K W (hr.below hW (Nat.le_refl _)) hk hG hn)
  unfold LabsPost labV at HKP
  obtain ⟨HX0, HX1, hbw⟩ := HBX.out W2 (Below.refl _ _)
  obtain ⟨p0, p1, p2⟩ := HX0.c3.1
  have hS12 := hG.s12
  clear hr h HX0 HX1 hG
  unfold TrimPost LabsMay labV
  go_enter Tryd.func37, Tryd.ntmps37
  go_wp2_with (rw [← hW2])
  first | rw [← hW2] | skip
  refine (HI.out _ hbw).mono ?_
  rintro e w1 ⟨rfl, hb1⟩
  obtain ⟨HX0, HX1, hbw1⟩ := HBX.out w1 hb1
  clear hW2 p0 p1 p2
  obtain ⟨p0, p1, p2⟩ := HX0.c3.1
  have HB1 := hid hb1
  have HK := hid (fun (V : World) (hV : Below W2.heap.size W2 V) => show V.cell? ⟨w.heap.size, 0, none⟩ = some (.int .i64 L) ∧ V.cell? ⟨w.heap.size, 1, none⟩ = some (.int .i64 S) ∧ V.cell? ⟨w.heap.size, 2, none⟩ = some (.slice a n c) ∧ Below W2.heap.size W2 V from by
    obtain ⟨q0, q1, q2⟩ := (HBX.out V hV).1.c3.1
    exact ⟨q0, q1, q2, hV⟩)
  go_wp2
  have hbZ : Below W2.heap.size W2 w1.drew := HB1.out.drew
  have HKC := hid (fun (V : World) (hV : Below W2.heap.size W2 V) => show V.cell? ⟨w.heap.size, 0, none⟩ = some (.int .i64 L) ∧ V.cell? ⟨w.heap.size, 1, none⟩ = some (.int .i64 S) ∧ V.cell? ⟨w.heap.size, 2, none⟩ = some (.slice a n c) from ⟨(HK.out V hV).1, (HK.out V hV).2.1, (HK.out V hV).2.2.1⟩)
  have HF := hid (fun (V : World) (hV : Below W2.heap.size W2 V) => (HBX.out V hV).2.2)
  refine wp_region_T (S := fun V => V.cell? ⟨w.heap.size, 0, none⟩ = some (.int .i64 L) ∧ V.cell? ⟨w.heap.size, 1, none⟩ = some (.int .i64 S) ∧ V.cell? ⟨w.heap.size, 2, none⟩ = some (.slice a n c)) 5 (by kernel_rfl) ?_
  have HSO := hid (fun (V : World) (hV : V.cell? ⟨w.heap.size, 0, none⟩ = some (.int .i64 L) ∧ V.cell? ⟨w.heap.size, 1, none⟩ = some (.int .i64 S) ∧ V.cell? ⟨w.heap.size, 2, none⟩ = some (.slice a n c)) => hV)
  have hS0 : w1.drew.cell? ⟨w.heap.size, 0, none⟩ = some (.int .i64 L) ∧ w1.drew.cell? ⟨w.heap.size, 1, none⟩ = some (.int .i64 S) ∧ w1.drew.cell? ⟨w.heap.size, 2, none⟩ = some (.slice a n c) := ⟨p0, p1, p2⟩
  (refine wpAnyT_take (i := 0) (v := ?v0) rfl (by kernel_rfl) (by kernel_rfl) (by kernel_rfl) (by kernel_rfl) (fun _ _ _ h => h) (Or.inl ⟨by rfl, ?y0⟩) (by assumption) ?r0; case y0 => (intro V hSw; have hSw := HSO.out V hSw; go_split_ands; go_simp; first | done | with_reducible rfl); try simp only [Act.put, List.setIfInBounds_toArray, List.set_cons_zero, List.set_cons_succ])
  (refine wpAnyT_take (i := 1) (v := ?v1) rfl (by kernel_rfl) (by kernel_rfl) (by kernel_rfl) (by kernel_rfl) (fun _ _ _ h => h) (Or.inl ⟨by rfl, ?y1⟩) (by assumption) ?r1; case y1 => (intro V hSw; have hSw := HSO.out V hSw; go_split_ands; go_simp; first | done | with_reducible rfl); try simp only [Act.put, List.setIfInBounds_toArray, List.set_cons_zero, List.set_cons_succ])
  clear p0 p1 p2 hb1 hbw hbw1 HX0 HX1
  refine wpAnyT_two (i := 2) (j := 4) rfl rfl (by kernel_rfl) (by decide) (by decide) (fun K hK => ?_) (fun K hK => ?_)
  · skip
    go_simp
    go_at_call 63
    refine (HLV.out _ (HF.out _ hbZ)).mono ?_
    rintro e w3 ⟨v3, KK, rfl, ho3, hb3, hK3⟩
    obtain ⟨ak, ck, rfl, hra⟩ := owns_rowAt ho3 (by omega)
    go_wp2_with fail
    have hbZ := hbZ.trans (hb3.mono hbZ.size)
    try have hbt := hbt.below hb3
    refine hK.out _ _ (HKC.out _ hbZ) ?_
    clear hK K
    try simp only [Act.put, List.setIfInBounds_toArray, List.set_cons_zero, List.set_cons_succ]
    refine wpAnyT_two (i := 3) (j := 4) rfl rfl (by kernel_rfl) (by decide) (by decide) (fun K hK => ?_) (fun K hK => ?_)
    · skip
      go_simp
      go_at_call 62
      refine (HKP.out _ (HF.out _ hbZ) ak ck KK hra).mono ?_
      rintro e w4 ⟨g4, c4, rfl, ho4, hb4⟩
      go_wp2_with fail
      have hbZ0 := hbZ.size
      try have hbtl := hbt.lt
      have hbZ := hbZ.trans (hb4.mono hbZ.size)
      try have hbt := hbt.below hb4
      have ho5 := owns_base (base' := W2.heap.size) ho4 hbZ0
      refine hK.out _ _ (HKC.out _ hbZ) ?_
      clear hK K
      try simp only [Act.put, List.setIfInBounds_toArray, List.set_cons_zero, List.set_cons_succ]
      refine wpAnyT_step (i := 4) rfl (by kernel_rfl) (by decide) (fun K hK => ?_)
      have hbY := hbZ
      have hoY := ho5
      go_simp
      obtain ⟨hbZ, hbt, hbA, hbq⟩ := alloc_both #[.int .i64 0, .int .i64 0, .slice none 0 0] 29 hbZ
      try (change BoxC _ w1.heap.size _ at hbt)
      try have hra := hra.below hbA (Nat.le_refl _)
      try have ho5 := owns_below ho5 hbA
      refine hK.out _ _ (HKC.out _ hbZ) ?_
      clear hK K
      try simp only [Act.put, List.setIfInBounds_toArray, List.set_cons_zero, List.set_cons_succ]
      have hbq : W2.heap.size ≤ w4.heap.size := hbq
      obtain ⟨⟨t0, t1, t2⟩, tf0, tf1, tf2⟩ := hbt.c3
      refine wpAnyT_last rfl (by kernel_rfl) (by kernel_rfl) (fun K hK => ?_)
      go_simp
      refine hK.out _ _ ?_
      clear hK K
      obtain ⟨_, HX1, hbw2⟩ := HBX.out w4 hbY
      have HS := hid (BoxC.new w4 #[.int .i64 L, .int .i64 (numTo KK S : Nat), .slice g4 (keepG KK G).length c4] 29)
      have HR := hid (HX1.alloc (.cells #[.int .i64 L, .int .i64 (numTo KK S : Nat), .slice g4 (keepG KK G).length c4] 29))
      have HO3 := hid (owns_below hoY ((Below.refl w4.heap.size w4).alloc (Nat.le_refl _) (.cells #[.int .i64 L, .int .i64 (numTo KK S : Nat), .slice g4 (keepG KK G).length c4] 29)))
      have HB3 := hid (hbw2.alloc hbw2.size (.cells #[.int .i64 L, .int .i64 (numTo KK S : Nat), .slice g4 (keepG KK G).length c4] 29))
      clear t0 t1 t2 tf0 tf1 tf2 HX1 hbw2 hbt ho5
      generalize hV3 : World.alloc w4 (.cells #[.int .i64 L, .int .i64 (numTo KK S : Nat), .slice g4 (keepG KK G).length c4] 29) = V3 at HS HR HO3 HB3 ⊢
      obtain ⟨⟨t0, t1, t2⟩, _⟩ := HS.out.c3
      obtain ⟨⟨r0, r1, r2⟩, f0, f1, f2⟩ := HR.out.c3
      have hTO := hid (show trimO KK S G = if numTo KK S = 0 then none else some (numTo KK S, keepG KK G) from rfl)
      obtain ⟨N, hN⟩ : ∃ N, N = numTo KK S := ⟨_, rfl⟩
      rw [← hN] at t1 hTO
      clear hV3 ho4 hb4 hbZ hN
      by_cases hN0 : N = 0
      · have hTO := hid (hTO.out.trans (if_pos hN0))
        have hNb : ((N : Int) == 0) = true := by simp [hN0]
        go_wp2
        refine bodyPost_ret (v := .tuple #[.agg #[.int .i64 0, .int .i64 0, .slice none 0 0], .bool false]) (by simp [results, Tryd.results37, go_sem, r0, r1, r2]) rfl ⟨KK, hK3, ?_⟩
        rw [hTO.out]
        exact labsMay_none (((HB3.out.setCell (by show w.heap.size ≤ w.heap.size + 1; omega) _).setCell (by show w.heap.size ≤ w.heap.size + 1; omega) _).setCell (by show w.heap.size ≤ w.heap.size + 1; omega) _)
      · have hTO := hid (hTO.out.trans (if_neg hN0))
        have hNb : ((N : Int) == 0) = false := by simp [hN0]
        go_wp2
        refine bodyPost_ret (v := .tuple #[.agg #[.int .i64 L, .int .i64 N, .slice g4 (keepG KK G).length c4], .bool true]) (by simp [results, Tryd.results37, go_sem, r0, r1, r2]) rfl ⟨KK, hK3, ?_⟩
        rw [hTO.out]
        exact ⟨g4, c4, rfl, owns_base (own_setB (own_setB (own_setB HO3.out (by omega) _ _) (by omega) _ _) (by omega) _ _) (by omega), ((HB3.out.setCell (by show w.heap.size ≤ w.heap.size + 1; omega) _).setCell (by show w.heap.size ≤ w.heap.size + 1; omega) _).setCell (by show w.heap.size ≤ w.heap.size + 1; omega) _⟩
    · skip
      go_simp
      obtain ⟨hbZ, hbt, hbA, hbq⟩ := alloc_both #[.int .i64 0, .int .i64 0, .slice none 0 0] 29 hbZ
      try (change BoxC _ w1.heap.size _ at hbt)
      try have hra := hra.below hbA (Nat.le_refl _)
      try have ho5 := owns_below ho5 hbA
      refine hK.out _ _ (HKC.out _ hbZ) ?_
      clear hK K
      try simp only [Act.put, List.setIfInBounds_toArray, List.set_cons_zero, List.set_cons_succ]
      refine wpAnyT_step (i := 3) rfl (by kernel_rfl) (by decide) (fun K hK => ?_)
      go_simp
      go_at_call 62
      refine (HKP.out _ (HF.out _ hbZ) ak ck KK hra).mono ?_
      rintro e w4 ⟨g4, c4, rfl, ho4, hb4⟩
      go_wp2_with fail
      have hbZ0 := hbZ.size
      try have hbtl := hbt.lt
      have hbZ := hbZ.trans (hb4.mono hbZ.size)
      try have hbt := hbt.below hb4
      have ho5 := owns_base (base' := W2.heap.size) ho4 hbZ0
      refine hK.out _ _ (HKC.out _ hbZ) ?_
      clear hK K
      try simp only [Act.put, List.setIfInBounds_toArray, List.set_cons_zero, List.set_cons_succ]
      have hbq : W2.heap.size ≤ w3.heap.size := hbq
      have HNE := hid (fun (q : Nat) (hq : (Value.slice g4 (keepG KK G).length c4).ownBlock = some q) => show q ≠ w3.heap.size from by have := ho4.lt q hq; omega)
      obtain ⟨⟨t0, t1, t2⟩, tf0, tf1, tf2⟩ := hbt.c3
      obtain ⟨HX0, HX1, hbw2⟩ := HBX.out _ hbZ
      refine wpAnyT_last rfl (by kernel_rfl) (by kernel_rfl) (fun K hK => ?_)
      go_simp
      refine hK.out _ _ ?_
      clear hK K
      have HS := hid (hbt.set0 (.int .i64 L) |>.set1 (.int .i64 (numTo KK S : Nat)) |>.set2 (.slice g4 (keepG KK G).length c4))
      have hneR : w3.heap.size ≠ w.heap.size + 1 := by omega
      have HR := hid (((HX1.other (i := 0) hneR (.int .i64 L)).other (i := 1) hneR (.int .i64 (numTo KK S : Nat))).other (i := 2) hneR (.slice g4 (keepG KK G).length c4))
      have HO3 := hid (own_setN (own_setN (own_setN ho5 HNE.out 0 (.int .i64 L)) HNE.out 1 (.int .i64 (numTo KK S : Nat))) HNE.out 2 (.slice g4 (keepG KK G).length c4))
      have hwb : w.heap.size ≤ w3.heap.size := by omega
      have HB3 := hid (((hbw2.setCell (p := ⟨w3.heap.size, 0, none⟩) hwb (.int .i64 L)).setCell (p := ⟨w3.heap.size, 1, none⟩) hwb (.int .i64 (numTo KK S : Nat))).setCell (p := ⟨w3.heap.size, 2, none⟩) hwb (.slice g4 (keepG KK G).length c4))
      clear t0 t1 t2 tf0 tf1 tf2 HX0 HX1 hbw2 hbt ho5 HNE
      generalize hV3 : (World.setCell (World.setCell (World.setCell _ ⟨w3.heap.size, 0, none⟩ _) ⟨w3.heap.size, 1, none⟩ _) ⟨w3.heap.size, 2, none⟩ (.slice g4 (keepG KK G).length c4)) = V3 at HS HR HO3 HB3 ⊢
      obtain ⟨⟨t0, t1, t2⟩, _⟩ := HS.out.c3
      obtain ⟨⟨r0, r1, r2⟩, f0, f1, f2⟩ := HR.out.c3
      have hTO := hid (show trimO KK S G = if numTo KK S = 0 then none else some (numTo KK S, keepG KK G) from rfl)
      obtain ⟨N, hN⟩ : ∃ N, N = numTo KK S := ⟨_, rfl⟩
      rw [← hN] at t1 hTO
      clear hV3 ho4 hb4 hbZ hN
      by_cases hN0 : N = 0
      · have hTO := hid (hTO.out.trans (if_pos hN0))
        have hNb : ((N : Int) == 0) = true := by simp [hN0]
        go_wp2
        refine bodyPost_ret (v := .tuple #[.agg #[.int .i64 0, .int .i64 0, .slice none 0 0], .bool false]) (by simp [results, Tryd.results37, go_sem, r0, r1, r2]) rfl ⟨KK, hK3, ?_⟩
        rw [hTO.out]
        exact labsMay_none (((HB3.out.setCell (by show w.heap.size ≤ w.heap.size + 1; omega) _).setCell (by show w.heap.size ≤ w.heap.size + 1; omega) _).setCell (by show w.heap.size ≤ w.heap.size + 1; omega) _)
      · have hTO := hid (hTO.out.trans (if_neg hN0))
        have hNb : ((N : Int) == 0) = false := by simp [hN0]
        go_wp2
        refine bodyPost_ret (v := .tuple #[.agg #[.int .i64 L, .int .i64 N, .slice g4 (keepG KK G).length c4], .bool true]) (by simp [results, Tryd.results37, go_sem, r0, r1, r2]) rfl ⟨KK, hK3, ?_⟩
        rw [hTO.out]
        exact ⟨g4, c4, rfl, owns_base (own_setB (own_setB (own_setB HO3.out (by omega) _ _) (by omega) _ _) (by omega) _ _) (by omega), ((HB3.out.setCell (by show w.heap.size ≤ w.heap.size + 1; omega) _).setCell (by show w.heap.size ≤ w.heap.size + 1; omega) _).setCell (by show w.heap.size ≤ w.heap.size + 1; omega) _⟩
  · skip
    go_simp
    obtain ⟨hbZ, hbt, hbA, hbq⟩ := alloc_both #[.int .i64 0, .int .i64 0, .slice none 0 0] 29 hbZ
    try (change BoxC _ w1.heap.size _ at hbt)
    try have hra := hra.below hbA (Nat.le_refl _)
    try have ho5 := owns_below ho5 hbA
    refine hK.out _ _ (HKC.out _ hbZ) ?_
    clear hK K
    try simp only [Act.put, List.setIfInBounds_toArray, List.set_cons_zero, List.set_cons_succ]
    refine wpAnyT_step (i := 2) rfl (by kernel_rfl) (by decide) (fun K hK => ?_)
    go_simp
    go_at_call 63
    refine (HLV.out _ (HF.out _ hbZ)).mono ?_
    rintro e w3 ⟨v3, KK, rfl, ho3, hb3, hK3⟩
    obtain ⟨ak, ck, rfl, hra⟩ := owns_rowAt ho3 (by omega)
    go_wp2_with fail
    have hbZ := hbZ.trans (hb3.mono hbZ.size)
    try have hbt := hbt.below hb3
    refine hK.out _ _ (HKC.out _ hbZ) ?_
    clear hK K
    try simp only [Act.put, List.setIfInBounds_toArray, List.set_cons_zero, List.set_cons_succ]
    refine wpAnyT_step (i := 3) rfl (by kernel_rfl) (by decide) (fun K hK => ?_)
    go_simp
    go_at_call 62
    refine (HKP.out _ (HF.out _ hbZ) ak ck KK hra).mono ?_
    rintro e w4 ⟨g4, c4, rfl, ho4, hb4⟩
    go_wp2_with fail
    have hbZ0 := hbZ.size
    try have hbtl := hbt.lt
    have hbZ := hbZ.trans (hb4.mono hbZ.size)
    try have hbt := hbt.below hb4
    have ho5 := owns_base (base' := W2.heap.size) ho4 hbZ0
    refine hK.out _ _ (HKC.out _ hbZ) ?_
    clear hK K
    try simp only [Act.put, List.setIfInBounds_toArray, List.set_cons_zero, List.set_cons_succ]
    have hbq : W2.heap.size ≤ w1.heap.size := hbq
    have HNE := hid (fun (q : Nat) (hq : (Value.slice g4 (keepG KK G).length c4).ownBlock = some q) => show q ≠ w1.heap.size from by have := ho4.lt q hq; omega)
    obtain ⟨⟨t0, t1, t2⟩, tf0, tf1, tf2⟩ := hbt.c3
    obtain ⟨HX0, HX1, hbw2⟩ := HBX.out _ hbZ
    refine wpAnyT_last rfl (by kernel_rfl) (by kernel_rfl) (fun K hK => ?_)
    go_simp
    refine hK.out _ _ ?_
    clear hK K
    have HS := hid (hbt.set0 (.int .i64 L) |>.set1 (.int .i64 (numTo KK S : Nat)) |>.set2 (.slice g4 (keepG KK G).length c4))
    have hneR : w1.heap.size ≠ w.heap.size + 1 := by omega
    have HR := hid (((HX1.other (i := 0) hneR (.int .i64 L)).other (i := 1) hneR (.int .i64 (numTo KK S : Nat))).other (i := 2) hneR (.slice g4 (keepG KK G).length c4))
    have HO3 := hid (own_setN (own_setN (own_setN ho5 HNE.out 0 (.int .i64 L)) HNE.out 1 (.int .i64 (numTo KK S : Nat))) HNE.out 2 (.slice g4 (keepG KK G).length c4))
    have hwb : w.heap.size ≤ w1.heap.size := by omega
    have HB3 := hid (((hbw2.setCell (p := ⟨w1.heap.size, 0, none⟩) hwb (.int .i64 L)).setCell (p := ⟨w1.heap.size, 1, none⟩) hwb (.int .i64 (numTo KK S : Nat))).setCell (p := ⟨w1.heap.size, 2, none⟩) hwb (.slice g4 (keepG KK G).length c4))
    clear t0 t1 t2 tf0 tf1 tf2 HX0 HX1 hbw2 hbt ho5 HNE
    generalize hV3 : (World.setCell (World.setCell (World.setCell _ ⟨w1.heap.size, 0, none⟩ _) ⟨w1.heap.size, 1, none⟩ _) ⟨w1.heap.size, 2, none⟩ (.slice g4 (keepG KK G).length c4)) = V3 at HS HR HO3 HB3 ⊢
    obtain ⟨⟨t0, t1, t2⟩, _⟩ := HS.out.c3
    obtain ⟨⟨r0, r1, r2⟩, f0, f1, f2⟩ := HR.out.c3
    have hTO := hid (show trimO KK S G = if numTo KK S = 0 then none else some (numTo KK S, keepG KK G) from rfl)
    obtain ⟨N, hN⟩ : ∃ N, N = numTo KK S := ⟨_, rfl⟩
    rw [← hN] at t1 hTO
    clear hV3 ho4 hb4 hbZ hN
    by_cases hN0 : N = 0
    · have hTO := hid (hTO.out.trans (if_pos hN0))
      have hNb : ((N : Int) == 0) = true := by simp [hN0]
      go_wp2
      refine bodyPost_ret (v := .tuple #[.agg #[.int .i64 0, .int .i64 0, .slice none 0 0], .bool false]) (by simp [results, Tryd.results37, go_sem, r0, r1, r2]) rfl ⟨KK, hK3, ?_⟩
      rw [hTO.out]
      exact labsMay_none (((HB3.out.setCell (by show w.heap.size ≤ w.heap.size + 1; omega) _).setCell (by show w.heap.size ≤ w.heap.size + 1; omega) _).setCell (by show w.heap.size ≤ w.heap.size + 1; omega) _)
    · have hTO := hid (hTO.out.trans (if_neg hN0))
      have hNb : ((N : Int) == 0) = false := by simp [hN0]
      go_wp2
      refine bodyPost_ret (v := .tuple #[.agg #[.int .i64 L, .int .i64 N, .slice g4 (keepG KK G).length c4], .bool true]) (by simp [results, Tryd.results37, go_sem, r0, r1, r2]) rfl ⟨KK, hK3, ?_⟩
      rw [hTO.out]
      exact ⟨g4, c4, rfl, owns_base (own_setB (own_setB (own_setB HO3.out (by omega) _ _) (by omega) _ _) (by omega) _ _) (by omega), ((HB3.out.setCell (by show w.heap.size ≤ w.heap.size + 1; omega) _).setCell (by show w.heap.size ≤ w.heap.size + 1; omega) _).setCell (by show w.heap.size ≤ w.heap.size + 1; omega) _⟩
end Go.Proofs.YtpfeflhcbcgbfaaDoor
