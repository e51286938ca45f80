/- Sessions compared, marked and held by the laws. Conditions: what is read lies in memory. -/
import Derived.Test.YtpncmmdjkcdemaaDoorNewSes
namespace Go.Proofs.YtpncmmdjkcdemaaDoor
open Go.RowKit

theorem tab_mk {w : World} {base : Nat} {a : Option Addr} {n c : Nat} {vs : List Value} {rows : List (List Int)} (h1 : w.ownsRow base 48 1 (.slice a n c) n vs) (h2 : TRows 3 w base vs rows) (hn : rows.length = n) (h9 : n ≤ 9) (hr : ∀ r ∈ rows, r.length ≤ 9) : TabAt w a n rows := by
  subst hn
  obtain ⟨a', c', hv, ht⟩ := grid_tabAt (show TGrid 48 3 w base (.slice a rows.length c) rows from ⟨vs, h1, h2⟩) (by omega) (fun r hrr => Nat.le_trans (hr r hrr) (by omega))
  simp only [Value.slice.injEq] at hv
  obtain ⟨rfl, _, rfl⟩ := hv
  exact ht
theorem TRows.keptBy {T0 : TypeId} {w w' : World} {base B : Nat} {row : Option Nat} {vs : List Value} {rows : List (List Int)} (h : TRows T0 w base vs rows) (hlt : ∀ x ∈ vs, ∀ q, x.ownBlock = some q → q < B) (hg : w.grownBy w' row) (hr : ∀ g, row = some g → B ≤ g) : TRows T0 w' base vs rows :=
  ⟨h.len, fun i x r hx hrr => (h.own i x r hx hrr).kept hg (by
    cases hv : x.ownBlock with
    | none => exact .inl rfl
    | some q =>
      refine .inr fun e => ?_
      have h1 := hlt x (List.mem_of_getElem? hx) q hv
      have h2 := hr q e.symm
      omega), h.apart⟩
theorem own_keptBy {w w' : World} {base e n B : Nat} {row : Option Nat} {v : Value} {xs : List Value} (h : w.ownsRow base e 1 v n xs) (hlt : ∀ q, v.ownBlock = some q → q < B) (hg : w.grownBy w' row) (hr : ∀ g, row = some g → B ≤ g) : w'.ownsRow base e 1 v n xs :=
  h.kept hg (by
    cases hv : v.ownBlock with
    | none => exact .inl rfl
    | some q =>
      refine .inr fun e => ?_
      have h1 := hlt q hv
      have h2 := hr q e.symm
      omega)
theorem eqCodeN_c (w : World) :
    Calls Tryd.prog 32 #[.agg #[.int .i64 2, .int .i64 2, .string ⟨#[97, 98, 98, 97]⟩], .agg #[.int .i64 2, .int .i64 2, .string ⟨#[97, 98, 98, 97]⟩]] w fun e w' => e = .returned (.bool true) ∧ Below w.heap.size w w' := by
  go_enter Tryd.func32, Tryd.ntmps32
  go_wp2
  go_ret
  exact ⟨rfl, ((Below.refl _ _).alloc (Nat.le_refl _) _).alloc (by simp) _⟩
set_option maxHeartbeats 2000000 in
theorem eqSessionN_c (a1 a2 b1 b2 : Option Addr) (c1 c2 d1 d2 : Nat) (w : World) (ha1 : TabAt w a1 2 sesM) (hb1 : TabAt w b1 2 sesM) (ha2 : RowAt w a2 1 (strVals sesS)) (hb2 : RowAt w b2 1 (strVals sesS)) :
    Calls Tryd.prog 18 #[.agg (sesA a1 c1 a2 c2), .agg (sesA b1 d1 b2 d2)] w fun e w' => e = .returned (.bool true) ∧ Below w.heap.size w w' := by
  unfold sesA
  obtain ⟨W2, hW2⟩ : ∃ W2, W2 = (w.alloc (.cells #[.slice a1 2 c1, .int .i64 2, .slice a2 1 c2, .int .i64 2, .int .i64 2, .string ⟨#[97, 98, 98, 97]⟩] 38)).alloc (.cells #[.slice b1 2 d1, .int .i64 2, .slice b2 1 d2, .int .i64 2, .int .i64 2, .string ⟨#[97, 98, 98, 97]⟩] 38) := ⟨_, rfl⟩
  have hB : Below w.heap.size w W2 := by rw [hW2]; exact ((Below.refl _ _).alloc (Nat.le_refl _) _).alloc (by simp) _
  have HE := hid (eqIntSS_c a1 b1 2 c1 d1 sesM W2 (ha1.below hB (Nat.le_refl _)) (hb1.below hB (Nat.le_refl _)))
  have HES := hid (fun (V : World) (hV : Below w.heap.size w V) => eqShiftS_c 2 a2 b2 1 c2 d2 sesS V (ha2.below hV (Nat.le_refl _)) (hb2.below hV (Nat.le_refl _)))
  rw [hW2] at HE
  have HB := hid hB
  clear ha1 hb1 ha2 hb2 hB
  go_enter Tryd.func18, Tryd.ntmps18
  go_wp2_with fail
  refine HE.out.mono ?_
  rintro e w1 ⟨rfl, m, hm⟩
  have hB2 : Below W2.heap.size W2 w1 := by rw [hm, ← hW2]; exact below_drewN (Below.refl _ _) m
  have hB2' := hB2
  rw [hW2] at hB2'
  obtain ⟨⟨y0, y1, y2, y3, y4, y5⟩, _, hz2, hBB⟩ := ses_box hB2'
  obtain ⟨⟨x0, x1, x2, x3, x4, x5⟩, _, hz1, _⟩ := ses_box (((Below.refl _ _).alloc (Nat.le_refl _) _).trans (hB2'.mono (by simp)))
  rw [World.size_alloc] at y0 y1 y2 y3 y4 y5 hz2
  have HB1 := hid (HB.out.trans (hB2.mono HB.out.size))
  have HX := hid (And.intro (And.intro x3 (And.intro x4 x5)) (And.intro y3 (And.intro y4 y5)))
  clear hm hB2 hB2' hBB HE x3 x4 x5 y3 y4 y5
  go_wp2_with fail
  refine (HES.out _ HB1.out).mono ?_
  rintro e w2 ⟨rfl, hb2⟩
  obtain ⟨⟨x3, x4, x5⟩, y3, y4, y5⟩ := HX.out
  have x3 := (hb2.cell (p := ⟨w.heap.size, 3, none⟩) hz1).trans x3
  have x4 := (hb2.cell (p := ⟨w.heap.size, 4, none⟩) hz1).trans x4
  have x5 := (hb2.cell (p := ⟨w.heap.size, 5, none⟩) hz1).trans x5
  have y3 := (hb2.cell (p := ⟨w.heap.size + 1, 3, none⟩) hz2).trans y3
  have y4 := (hb2.cell (p := ⟨w.heap.size + 1, 4, none⟩) hz2).trans y4
  have y5 := (hb2.cell (p := ⟨w.heap.size + 1, 5, none⟩) hz2).trans y5
  have HB2 := hid (bs HB1.out hb2)
  clear hb2 HES
  go_wp2_with fail
  refine (eqCodeN_c _).mono ?_
  rintro e w3 ⟨rfl, hb3⟩
  have HB3 := hid (bs HB2.out hb3)
  clear hb3
  go_wp2
  go_ret
  exact ⟨rfl, HB3.out⟩
set_option maxHeartbeats 2000000 in
theorem markSessionN_c (base B Q : Nat) (a1 a2 : Option Addr) (c1 c2 : Nat) (vs : List Value) (w : World) (hv : w.ownsRow base 48 1 (.slice a1 2 c1) 2 vs) (ht : TRows 3 w base vs sesM) (hB : ∀ x ∈ Value.slice a1 2 c1 :: vs, ∀ q, x.ownBlock = some q → q < B) (ho : OffRow w B a2 1 (strVals sesS)) (hb : base ≤ B) (hQ : B ≤ Q) (hQw : B ≤ w.heap.size) (haQ : ∀ g, blkN a2 1 = some g → B ≤ g ∧ g < Q) :
    Calls Tryd.prog 19 #[.agg (sesA a1 c1 a2 c2), .int .i64 1] w fun e w' => e = .returned (.int .i64 6) ∧ w'.ownsRow base 48 1 (.slice a1 2 c1) 2 vs ∧ TRows 3 w' base vs (markTab 1 sesM) ∧ OffRow w' B a2 1 (strVals (smarks 5 1)) ∧ Below base w w' ∧ ∀ q, Q ≤ q → q < w.heap.size → w'.heap[q]? = w.heap[q]? := by
  unfold sesA
  have hA := (Below.refl w.heap.size w).alloc (Nat.le_refl _) (.cells #[.slice a1 2 c1, .int .i64 2, .slice a2 1 c2, .int .i64 2, .int .i64 2, .string ⟨#[97, 98, 98, 97]⟩] 38)
  have HM := hid (markIntSS_k base B (.slice a1 2 c1) vs 1 sesM _ (owns_below hv hA) (ht.below hA) (fun x hx => hB x (List.mem_cons_of_mem _ hx)) (by decide) (by decide) (by simp; omega))
  rw [show cells sesM = 4 from rfl] at HM
  have HOA := hid (ho.below hA)
  have HA := hid hA
  have HBB := hid hB
  have HAQ := hid haQ
  clear hv ht hB ho hA haQ
  go_enter Tryd.func19, Tryd.ntmps19
  go_wp2_with fail
  refine HM.out.mono ?_
  rintro e w1 ⟨rfl, hv1, ht1, hb1, hk1⟩
  have hA0 := (hk1 w.heap.size (by omega) (by simp))
  obtain ⟨⟨x0, x1, x2, x3, x4, x5⟩, _, _, _⟩ := ses_box (Below.refl (w.alloc (.cells #[.slice a1 2 c1, .int .i64 2, .slice a2 1 c2, .int .i64 2, .int .i64 2, .string ⟨#[97, 98, 98, 97]⟩] 38)).heap.size (w.alloc (.cells #[.slice a1 2 c1, .int .i64 2, .slice a2 1 c2, .int .i64 2, .int .i64 2, .string ⟨#[97, 98, 98, 97]⟩] 38)))
  obtain ⟨x0, x1, x2, x3, x4, x5⟩ := ses_kept ⟨x0, x1, x2, x3, x4, x5⟩ hA0
  have HO1 := hid (HOA.out.blocks hb1.size (fun q h1 h2 => hk1 q h1 h2))
  have HMS := hid (markShift_c B 2 a2 1 c2 5 (strVals sesS) w1 HO1.out (by omega))
  have HV1 := hid hv1
  have HT1 := hid ht1
  have HB1 := hid hb1
  have HK1 := hid (show ∀ q, Q ≤ q → q < w.heap.size → w1.heap[q]? = w.heap[q]? from fun q h1 h2 => (hk1 q (by omega) (by simp; omega)).trans (HA.out.block q h2))
  clear hv1 ht1 hb1 hk1 hA0 HM x0 x3 x4 x5
  go_wp2_with fail
  refine HMS.out.mono ?_
  rintro e w2 ⟨rfl, ho2, hg2⟩
  have HV2 := hid (own_keptBy HV1.out (HBB.out _ (by simp)) hg2 (fun g hg => (HAQ.out g hg).1))
  have HT2 := hid (HT1.out.keptBy (fun x hx => HBB.out x (List.mem_cons_of_mem _ hx)) hg2 (fun g hg => (HAQ.out g hg).1))
  have HO2 := hid ho2
  have HB2 := hid (show Below base w w2 from ((HA.out.mono (by omega)).trans HB1.out).grown hg2 (by have := HB1.out.size; simp at this; omega) (fun g hg => Nat.le_trans hb (HAQ.out g hg).1))
  have HK2 := hid (show ∀ q, Q ≤ q → q < w.heap.size → w2.heap[q]? = w.heap[q]? from fun q h1 h2 => (hg2.block q (by have := HB1.out.size; simp at this; omega) (fun e => by have := (HAQ.out q e.symm).2; omega)).trans (HK1.out q h1 h2))
  clear ho2 hg2 HMS
  go_wp2
  go_ret
  exact ⟨rfl, HV2.out, HT2.out, HO2.out, HB2.out, HK2.out⟩
set_option maxHeartbeats 2000000 in
theorem heldSessionN_c (a1 a2 : Option Addr) (c1 c2 : Nat) (w : World) (h1 : TabAt w a1 2 (markTab 1 sesM)) (h2 : RowAt w a2 1 (strVals (smarks 5 1))) :
    Calls Tryd.prog 20 #[.agg (sesA a1 c1 a2 c2), .int .i64 1] w fun e w' => e = .returned (.int .i64 6) ∧ Below w.heap.size w w' := by
  unfold sesA
  have hA := (Below.refl w.heap.size w).alloc (Nat.le_refl _) (.cells #[.slice a1 2 c1, .int .i64 2, .slice a2 1 c2, .int .i64 2, .int .i64 2, .string ⟨#[97, 98, 98, 97]⟩] 38)
  have HM := hid (heldIntSS_c a1 2 c1 1 sesM _ (h1.below hA (Nat.le_refl _)) (by decide))
  rw [show cells sesM = 4 from rfl] at HM
  have HS := hid (heldShift_c 2 a2 1 c2 5 _ (h2.below hA (Nat.le_refl _)) (by omega) (by omega))
  have HA := hid hA
  clear h1 h2 hA
  go_enter Tryd.func20, Tryd.ntmps20
  go_wp2_with fail
  refine HM.out.mono ?_
  rintro e w1 ⟨rfl, rfl⟩
  go_wp2_with fail
  refine HS.out.mono ?_
  rintro e w2 ⟨rfl, hb⟩
  have HB := hid (HA.out.trans (hb.mono (by simp)))
  clear hb
  go_wp2
  go_ret
  exact ⟨rfl, HB.out⟩
end Go.Proofs.YtpncmmdjkcdemaaDoor
