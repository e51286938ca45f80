/- The labelled graph of run lengths: both functions. Conditions: bounds of at most 7. -/
import Derived.Test.YtpncmmdjkcdemaaGreatDoorArc
namespace Go.Proofs.YtpncmmdjkcdemaaGreatDoor
open Go.RowKit

/-- The arcs of the first j states, three numbers each. -/
def arcsN (d k : Nat) : Nat → List Int
  | 0 => []
  | j + 1 => arcsN d k j ++ (if j < k then [(j : Int), (j : Int) + 1, 0] else []) ++ (if d ≤ j then [(j : Int), 0, 1] else [])
def arcsC (d k : Nat) : Nat → Nat
  | 0 => 0
  | j + 1 => arcsC d k j + (if j < k then 1 else 0) + (if d ≤ j then 1 else 0)
theorem arcs_len (d k : Nat) : ∀ j, (arcsN d k j).length = arcsC d k j * 3
  | 0 => rfl
  | j + 1 => by
    have := arcs_len d k j
    unfold arcsN arcsC
    rw [List.length_append, List.length_append, this]
    split <;> split <;> simp <;> omega
theorem arcsC_le (d k : Nat) : ∀ j, arcsC d k j ≤ 2 * j
  | 0 => Nat.le_refl _
  | j + 1 => by
    have := arcsC_le d k j
    unfold arcsC
    split <;> split <;> omega
theorem infoArc : (Tryz.prog.info? 54).map (fun i => (i.zero, i.size, i.bytes)) = some (some (.agg #[.int .i64 0, .int .i64 0, .int .i64 0]), 3, 24) := by kernel_rfl
theorem intVals_app (a b : List Int) : intVals (a ++ b) = intVals a ++ intVals b := by simp [intVals]
/-- An arc appended to arcs of the call's own. -/
theorem wpList_appA {P : Program} {wr : World} {ops : Array Oper} {rest : List Oper} {o : Oper} {a : Act} {Q : Exit → Act → World → Prop}
    (hg : o.guard = none) (s x : Operand) (t : TypeId) (hop : o.op = Op.call { callee := Callee.builtin Builtin.append, args := #[s, x], argTypes := #[t, t] })
    (B : Nat) (e : TypeId) (h1 : P.underlying t = some (.slice e)) (hinfo : (P.info? e).map (fun i => (i.zero, i.size, i.bytes)) = some (some (.agg #[.int .i64 0, .int .i64 0, .int .i64 0]), 3, 24))
    (v : Value) (m : Nat) (xs : List Int) (x0 x1 x2 : Int) (hown : wr.ownsRow B e 3 v m (intVals xs)) (hs : a.eval s = v) (H : Nat) (hH : wr.heap.size = H) (hx : a.eval x = .slice (some ⟨H, 0, none⟩) 1 1)
    (hlim : m ≤ 1000000) (hB : B ≤ wr.heap.size)
    (hK : ∀ g' c' w1, w1.ownsRow B e 3 (.slice (some ⟨g', 0, none⟩) (m + 1) c') (m + 1) (intVals (xs ++ [x0, x1, x2])) → Below B wr w1 → wpList P ops Q rest (a.put o.dst (.slice (some ⟨g', 0, none⟩) (m + 1) c')) w1) :
    wpList P ops Q (o :: rest) a (wr.alloc (.cells #[.int .i64 x0, .int .i64 x1, .int .i64 x2] e)) := by
  subst hH
  obtain ⟨i, hi, hz, hz1, hz2⟩ := info_parts hinfo
  refine wpList_append_own _ hg s x t hop B e i _ 3 24 h1 hi hz hz1 hz2 rfl (by decide) v m (intVals xs) hs (hown.alloc _) ⟨wr.heap.size, 0, none⟩ 1 1 (intVals [x0, x1, x2]) hx rfl ?_ (by intro u hu; obtain ⟨x, _, rfl⟩ := List.mem_map.1 hu; rfl) (by unfold maxLen; omega) (by omega) (by simp; omega) ?_
  · intro j y hj
    have hjl := (List.getElem?_eq_some_iff.1 hj).1
    have ha : (⟨wr.heap.size, 0, none⟩ : Addr).add j = ⟨wr.heap.size, j, none⟩ := by
      unfold Addr.add
      split
      · rename_i h0; subst h0; rfl
      · simp
    rw [ha, World.cell?_alloc_at _ _ _ _ rfl]
    rw [← hj]
    simp [intVals]
  · intro v' w1 hown' hgrow hiff
    have hne : v' ≠ .slice none 0 0 := fun e => by have := (hiff.1 e).2; omega
    obtain ⟨g', c', rfl⟩ : ∃ g' c', v' = .slice (some ⟨g', 0, none⟩) (m + 1) c' := by
      rcases hown'.2 with ⟨h0, _⟩ | ⟨g, cap, cur, he, _⟩
      · exact absurd h0 hne
      · exact ⟨g, cap, he⟩
    exact hK g' c' w1 (by rw [intVals_app]; exact hown') (((Below.refl _ _).alloc hB _).grown hgrow (by simp; omega) (fun k hk => (hown.lt k hk).1))
/-- The state of the loop: the box of the graph and the box of the result. -/
structure RunSt (w wr : World) (k n : Nat) (xs : List Int) (v : Value) : Prop where
  size : w.heap.size + 2 ≤ wr.heap.size
  os : Below w.heap.size w wr
  r0 : wr.cell? ⟨w.heap.size, 0, none⟩ = some (.int .i64 0)
  r1 : wr.cell? ⟨w.heap.size, 1, none⟩ = some (.int .i64 0)
  r2 : wr.cell? ⟨w.heap.size, 2, none⟩ = some (.slice none 0 0)
  f0 : wr.frozen? ⟨w.heap.size, 0, none⟩ = false
  f1 : wr.frozen? ⟨w.heap.size, 1, none⟩ = false
  f2 : wr.frozen? ⟨w.heap.size, 2, none⟩ = false
  c0 : wr.cell? ⟨w.heap.size + 1, 0, none⟩ = some (.int .i64 2)
  c1 : wr.cell? ⟨w.heap.size + 1, 1, none⟩ = some (.int .i64 ((k : Int) + 1))
  g2 : wr.frozen? ⟨w.heap.size + 1, 2, none⟩ = false
  c2 : wr.cell? ⟨w.heap.size + 1, 2, none⟩ = some v
  own : wr.ownsRow (w.heap.size + 2) 54 3 v n (intVals xs)
theorem RunSt.step {w wr w1 : World} {k n n' : Nat} {xs xs' : List Int} {v v' : Value} (h : RunSt w wr k n xs v) (hb : Below (w.heap.size + 2) wr w1) (hown : w1.ownsRow (w.heap.size + 2) 54 3 v' n' (intVals xs')) : RunSt w (w1.setCell ⟨w.heap.size + 1, 2, none⟩ v') k n' xs' v' := by
  have hs := hb.size
  have hsz := h.size
  have cell : ∀ b o v, b < w.heap.size + 2 → (b ≠ w.heap.size + 1 ∨ o ≠ 2) → wr.cell? ⟨b, o, none⟩ = some v → (w1.setCell ⟨w.heap.size + 1, 2, none⟩ v').cell? ⟨b, o, none⟩ = some v := fun b o v hlt hne hc => by
    rw [World.cell?_setCell_other _ _ _ _ (fun e => by injection e with e1 e2; rcases hne with h | h; exact h e1.symm; exact h e2.symm)]
    exact (hb.cell (p := ⟨b, o, none⟩) hlt).trans hc
  have fro : ∀ b o, b < w.heap.size + 2 → wr.frozen? ⟨b, o, none⟩ = false → (w1.setCell ⟨w.heap.size + 1, 2, none⟩ v').frozen? ⟨b, o, none⟩ = false := fun b o hlt hc => by
    rw [World.frozen?_setCell]
    exact (hb.frozen (p := ⟨b, o, none⟩) hlt).trans hc
  have hcv := h.c2
  refine ⟨by simp; omega, (h.os.trans (hb.mono (by omega))).setCell (by simp) _, cell _ _ _ (by omega) (.inl (by omega)) h.r0, cell _ _ _ (by omega) (.inl (by omega)) h.r1, cell _ _ _ (by omega) (.inl (by omega)) h.r2, fro _ _ (by omega) h.f0, fro _ _ (by omega) h.f1, fro _ _ (by omega) h.f2, cell _ _ _ (by omega) (.inr (by omega)) h.c0, cell _ _ _ (by omega) (.inr (by omega)) h.c1, fro _ _ (by omega) h.g2, ?_, ?_⟩
  · exact World.cell?_setCell_same _ _ _ ((hb.cell (p := ⟨w.heap.size + 1, 2, none⟩) (by show w.heap.size + 1 < _; omega)).trans hcv)
  · exact hown.kept (row := some (w.heap.size + 1)) ⟨rfl, rfl, rfl, by simp, fun q hq hr => Below.heap_setCell _ _ _ _ (fun e => hr (by rw [show q = w.heap.size + 1 from e]))⟩ (by
      cases hv : v'.ownBlock with
      | none => exact .inl rfl
      | some q =>
        refine .inr fun e => ?_
        injection e with e
        have := (hown.lt q hv).1
        omega)
theorem own_set {wr : World} {B e s n b : Nat} {v : Value} {xs : List Value} (h : wr.ownsRow B e s v n xs) (hb : b < B) (q : Nat) (y : Value) : (wr.setCell ⟨b, q, none⟩ y).ownsRow B e s v n xs :=
  h.kept (row := some b) ⟨rfl, rfl, rfl, by simp, fun p hq hr => Below.heap_setCell _ _ _ _ (fun e => hr (by rw [show p = b from e]))⟩ (by
    cases hv : v.ownBlock with
    | none => exact .inl rfl
    | some q =>
      refine .inr fun e => ?_
      injection e with e
      have := (h.lt q hv).1
      omega)
def RunPost (d k : Nat) (w : World) (e : Ending) (w' : World) : Prop :=
  ∃ v, e = .returned (.tuple #[.agg #[.int .i64 2, .int .i64 ((k : Int) + 1), v], .bool true]) ∧ w'.ownsRow w.heap.size 54 3 v (arcsC d k (k + 1)) (intVals (arcsN d k (k + 1))) ∧ Below w.heap.size w w'
set_option maxHeartbeats 2000000 in
set_option maxRecDepth 100000 in
theorem spec_RunLabels_c (d k : Nat) (w : World) (hd : d ≤ k) (hk : k ≤ 7) :
    Calls Tryz.prog 32 #[.int .i64 d, .int .i64 k] w (RunPost d k w) := by
  unfold RunPost
  have HF := hid (fun w => show Calls Tryz.prog 48 #[.int .i64 d, .int .i64 k] w fun e w' => e = .returned (.bool true) ∧ w = w' from by
    have h1 : (0 : Int) ≤ (d : Int) := by omega
    have h2 : (d : Int) ≤ (k : Int) := by omega
    have h3 : (k : Int) ≤ 7 := by omega
    go_enter Tryz.func48, Tryz.ntmps48
    go_wp2
    go_ret
    exact ⟨rfl, rfl⟩)
  go_enter Tryz.func32, Tryz.ntmps32
  go_wp2_with (go_at_call 48; refine (HF.out _).mono ?_; rintro e w' ⟨rfl, rfl⟩)
  go_loopw [7] (fun i wr => ∃ (j : Nat) (v : Value), j ≤ k + 1 ∧ i = .int .i64 j ∧ RunSt w wr k (arcsC d k j) (arcsN d k j) v) (fun i _ => k + 1 - (intOf i).toNat)
  case atStart =>
    refine ⟨0, .slice none 0 0, by omega, rfl, ?_⟩
    have hc : ∀ q, ((w.alloc (.cells #[.int .i64 0, .int .i64 0, .slice none 0 0] 35)).alloc (.cells #[.int .i64 2, .int .i64 ((k : Int) + 1), .slice none 0 0] 35)).cell? ⟨w.heap.size + 1, q, none⟩ = (#[.int .i64 2, .int .i64 ((k : Int) + 1), .slice none 0 0] : Array Value)[q]? := fun q => World.cell?_alloc_at _ _ _ _ (by simp)
    have hf : ∀ q, ((w.alloc (.cells #[.int .i64 0, .int .i64 0, .slice none 0 0] 35)).alloc (.cells #[.int .i64 2, .int .i64 ((k : Int) + 1), .slice none 0 0] 35)).frozen? ⟨w.heap.size + 1, q, none⟩ = false := fun q => World.frozen?_alloc_at _ _ _ _ (by simp)
    have hc' : ∀ q, ((w.alloc (.cells #[.int .i64 0, .int .i64 0, .slice none 0 0] 35)).alloc (.cells #[.int .i64 2, .int .i64 ((k : Int) + 1), .slice none 0 0] 35)).cell? ⟨w.heap.size, q, none⟩ = (#[.int .i64 0, .int .i64 0, .slice none 0 0] : Array Value)[q]? := fun q => by
      rw [World.cell?_alloc_past _ _ _ (by simp), World.cell?_alloc_at _ _ _ _ rfl]
    have hf' : ∀ q, ((w.alloc (.cells #[.int .i64 0, .int .i64 0, .slice none 0 0] 35)).alloc (.cells #[.int .i64 2, .int .i64 ((k : Int) + 1), .slice none 0 0] 35)).frozen? ⟨w.heap.size, q, none⟩ = false := fun q => by
      rw [World.frozen?_alloc_past _ _ _ (by simp), World.frozen?_alloc_at _ _ _ _ rfl]
    exact ⟨by simp, ((Below.refl _ _).alloc (Nat.le_refl _) _).alloc (by simp) _, hc' 0, hc' 1, hc' 2, hf' 0, hf' 1, hf' 2, hc 0, hc 1, hf 2, hc 2, World.ownsRow_nil _ _ _ _⟩
  case round =>
    obtain ⟨j, v, hj, rfl, hst⟩ := hrel
    by_cases hlt : j ≤ k
    · have hlt2 : (j : Int) ≤ (k : Int) := by omega
      have hcv := hst.c2
      have hown := hst.own
      have hc1 := hst.c1
      have hcm := arcsC_le d k j
      have hfz := hst.g2
      have HST := hid hst
      have hszr := hst.size
      clear hst
      by_cases hjk : j < k
      · have hjk2 : (j : Int) < (k : Int) := by omega
        by_cases hdj : d ≤ j
        · have hdj2 : (d : Int) ≤ (j : Int) := by omega
          have HAN := hid (show arcsN d k (j + 1) = arcsN d k j ++ [(j : Int), (j : Int) + 1, 0] ++ [(j : Int), 0, 1] by rw [arcsN, if_pos hjk, if_pos hdj])
          have HAC := hid (show arcsC d k (j + 1) = arcsC d k j + 1 + 1 by rw [arcsC, if_pos hjk, if_pos hdj])
          have tok1 : True := trivial
          go_wp2_with (first
            | (at_builtin
               have _t := tok1
               go_must (refine wpList_appA rfl _ _ 33 rfl (w.heap.size + 2) 54 Tryz.underlying33 infoArc _ (arcsC d k j) (arcsN d k j) _ _ _ hown rfl wr.heap.size rfl rfl (by omega) hszr ?_)
               intro v1 c1 w1 hown1 hb1
               clear tok1
               have HS1 := hid (HST.out.step hb1 hown1)
               have hfz1 := (hb1.frozen (p := ⟨w.heap.size + 1, 2, none⟩) (by show w.heap.size + 1 < _; omega)).trans hfz
               have hcv1 := (hb1.cell (p := ⟨w.heap.size + 1, 2, none⟩) (by show w.heap.size + 1 < _; omega)).trans hcv
               have hsz1 := HS1.out.size
               have tok2 : True := trivial)
            | (at_builtin
               have _t := tok2
               go_must (refine wpList_appA rfl _ _ 33 rfl (w.heap.size + 2) 54 Tryz.underlying33 infoArc _ (arcsC d k j + 1) (arcsN d k j ++ [(j : Int), (j : Int) + 1, 0]) _ _ _ HS1.out.own rfl w1.heap.size (by simp) rfl (by omega) hsz1 ?_)
               intro v2 c2 w2 hown2 hb2
               clear tok2
               have HS2 := hid (HS1.out.step hb2 hown2)
               have hfz2 := (hb2.frozen (p := ⟨w.heap.size + 1, 2, none⟩) (by show w.heap.size + 1 < _; omega)).trans HS1.out.g2
               have hcv2 := (hb2.cell (p := ⟨w.heap.size + 1, 2, none⟩) (by show w.heap.size + 1 < _; omega)).trans HS1.out.c2))
          go_roundw
          case rel => exact ⟨j + 1, _, by omega, by go_num, by rw [HAN.out, HAC.out]; exact HS2.out⟩
          case measure => simp [intOf] <;> omega
        · have hdj2 : ¬ ((d : Int) ≤ (j : Int)) := by omega
          have HAN := hid (show arcsN d k (j + 1) = arcsN d k j ++ [(j : Int), (j : Int) + 1, 0] by rw [arcsN, if_pos hjk, if_neg hdj, List.append_nil])
          have HAC := hid (show arcsC d k (j + 1) = arcsC d k j + 1 by rw [arcsC, if_pos hjk, if_neg hdj])
          go_wp2_with (first
            | (at_builtin
               go_must (refine wpList_appA rfl _ _ 33 rfl (w.heap.size + 2) 54 Tryz.underlying33 infoArc _ (arcsC d k j) (arcsN d k j) _ _ _ hown rfl wr.heap.size rfl rfl (by omega) hszr ?_)
               intro v1 c1 w1 hown1 hb1
               have HS1 := hid (HST.out.step hb1 hown1)
               have hfz1 := (hb1.frozen (p := ⟨w.heap.size + 1, 2, none⟩) (by show w.heap.size + 1 < _; omega)).trans hfz
               have hcv1 := (hb1.cell (p := ⟨w.heap.size + 1, 2, none⟩) (by show w.heap.size + 1 < _; omega)).trans hcv))
          go_roundw
          case rel => exact ⟨j + 1, _, by omega, by go_num, by rw [HAN.out, HAC.out]; exact HS1.out⟩
          case measure => simp [intOf] <;> omega
      · obtain rfl : j = k := by omega
        have hjk2 : ¬ ((j : Int) < (j : Int)) := by omega
        have hdj2 : (d : Int) ≤ (j : Int) := by omega
        have HAN := hid (show arcsN d j (j + 1) = arcsN d j j ++ [(j : Int), 0, 1] by rw [arcsN, if_neg (by omega), if_pos hd, List.append_nil])
        have HAC := hid (show arcsC d j (j + 1) = arcsC d j j + 1 by rw [arcsC, if_neg (by omega), if_pos hd])
        go_wp2_with (first
          | (at_builtin
             go_must (refine wpList_appA rfl _ _ 33 rfl (w.heap.size + 2) 54 Tryz.underlying33 infoArc _ (arcsC d j j) (arcsN d j j) _ _ _ hown rfl wr.heap.size rfl rfl (by omega) hszr ?_)
             intro v1 c1 w1 hown1 hb1
             have HS1 := hid (HST.out.step hb1 hown1)
             have hfz1 := (hb1.frozen (p := ⟨w.heap.size + 1, 2, none⟩) (by show w.heap.size + 1 < _; omega)).trans hfz
             have hcv1 := (hb1.cell (p := ⟨w.heap.size + 1, 2, none⟩) (by show w.heap.size + 1 < _; omega)).trans hcv))
        go_roundw
        case rel => exact ⟨j + 1, _, by omega, by go_num, by rw [HAN.out, HAC.out]; exact HS1.out⟩
        case measure => simp [intOf] <;> omega
    · have hlt2 : ¬ ((j : Int) ≤ (k : Int)) := by omega
      obtain rfl : j = k + 1 := by omega
      have h0 := hst.r0
      have h1 := hst.r1
      have h2 := hst.r2
      have f0 := hst.f0
      have f1 := hst.f1
      have f2 := hst.f2
      have c0 := hst.c0
      have c1 := hst.c1
      have c2 := hst.c2
      have hsz := hst.size
      have HO := hid hst.own
      have HBL := hid hst.os
      clear hst
      obtain ⟨g, c, rfl⟩ : ∃ g c, v = .slice g (arcsC d k (k + 1)) c := by
        rcases HO.out.2 with ⟨h0, h1⟩ | ⟨g, cap, cur, he, _⟩
        · exact ⟨none, 0, by rw [h0, h1]⟩
        · exact ⟨_, _, he⟩
      go_wp2
      refine bodyPost_ret (v := .tuple #[.agg #[.int .i64 2, .int .i64 ((k : Int) + 1), .slice g (arcsC d k (k + 1)) c], .bool true]) (by simp [results, Tryz.results32, go_sem, h0, h1, h2]) rfl ⟨_, rfl, ?_, ?_⟩
      · exact owns_base (own_set (own_set (own_set HO.out (by omega) _ _) (by omega) _ _) (by omega) _ _) (by omega)
      · exact ((HBL.out.setCell (Nat.le_refl _) _).setCell (Nat.le_refl _) _).setCell (Nat.le_refl _) _
set_option maxHeartbeats 2000000 in
set_option maxRecDepth 100000 in
theorem impl_RunLabels_c (d k : Nat) (w : World) (hd : d ≤ k) (hk : k ≤ 7) :
    Calls Tryz.prog 31 #[.int .i64 d, .int .i64 k] w (RunPost d k w) := by
  unfold RunPost
  have HF := hid (fun w => show Calls Tryz.prog 47 #[.int .i64 d, .int .i64 k] w fun e w' => e = .returned (.bool true) ∧ w = w' from by
    have h1 : (0 : Int) ≤ (d : Int) := by omega
    have h2 : (d : Int) ≤ (k : Int) := by omega
    have h3 : (k : Int) ≤ 7 := by omega
    go_enter Tryz.func47, Tryz.ntmps47
    go_wp2
    go_ret
    exact ⟨rfl, rfl⟩)
  go_enter Tryz.func31, Tryz.ntmps31
  go_wp2_with (go_at_call 47; refine (HF.out _).mono ?_; rintro e w' ⟨rfl, rfl⟩)
  go_loopw [18] (fun i wr => ∃ (j : Nat) (v : Value), j ≤ k + 1 ∧ i = .int .i64 j ∧ RunSt w wr k (arcsC d k j) (arcsN d k j) v) (fun i _ => k + 1 - (intOf i).toNat)
  case atStart =>
    refine ⟨0, .slice none 0 0, by omega, rfl, ?_⟩
    have hc : ∀ q, ((w.alloc (.cells #[.int .i64 0, .int .i64 0, .slice none 0 0] 35)).alloc (.cells #[.int .i64 2, .int .i64 ((k : Int) + 1), .slice none 0 0] 35)).cell? ⟨w.heap.size + 1, q, none⟩ = (#[.int .i64 2, .int .i64 ((k : Int) + 1), .slice none 0 0] : Array Value)[q]? := fun q => World.cell?_alloc_at _ _ _ _ (by simp)
    have hf : ∀ q, ((w.alloc (.cells #[.int .i64 0, .int .i64 0, .slice none 0 0] 35)).alloc (.cells #[.int .i64 2, .int .i64 ((k : Int) + 1), .slice none 0 0] 35)).frozen? ⟨w.heap.size + 1, q, none⟩ = false := fun q => World.frozen?_alloc_at _ _ _ _ (by simp)
    have hc' : ∀ q, ((w.alloc (.cells #[.int .i64 0, .int .i64 0, .slice none 0 0] 35)).alloc (.cells #[.int .i64 2, .int .i64 ((k : Int) + 1), .slice none 0 0] 35)).cell? ⟨w.heap.size, q, none⟩ = (#[.int .i64 0, .int .i64 0, .slice none 0 0] : Array Value)[q]? := fun q => by
      rw [World.cell?_alloc_past _ _ _ (by simp), World.cell?_alloc_at _ _ _ _ rfl]
    have hf' : ∀ q, ((w.alloc (.cells #[.int .i64 0, .int .i64 0, .slice none 0 0] 35)).alloc (.cells #[.int .i64 2, .int .i64 ((k : Int) + 1), .slice none 0 0] 35)).frozen? ⟨w.heap.size, q, none⟩ = false := fun q => by
      rw [World.frozen?_alloc_past _ _ _ (by simp), World.frozen?_alloc_at _ _ _ _ rfl]
    exact ⟨by simp, ((Below.refl _ _).alloc (Nat.le_refl _) _).alloc (by simp) _, hc' 0, hc' 1, hc' 2, hf' 0, hf' 1, hf' 2, hc 0, hc 1, hf 2, hc 2, World.ownsRow_nil _ _ _ _⟩
  case round =>
    obtain ⟨j, v, hj, rfl, hst⟩ := hrel
    by_cases hlt : j < k + 1
    · have hlt2 : (j : Int) < (k : Int) + 1 := by omega
      have hcv := hst.c2
      have hown := hst.own
      have hc1 := hst.c1
      have hcm := arcsC_le d k j
      have hfz := hst.g2
      have HST := hid hst
      have hszr := hst.size
      clear hst
      by_cases hjk : j < k
      · have hjk2 : (j : Int) < (k : Int) := by omega
        by_cases hdj : d ≤ j
        · have hdj2 : (d : Int) ≤ (j : Int) := by omega
          have HAN := hid (show arcsN d k (j + 1) = arcsN d k j ++ [(j : Int), (j : Int) + 1, 0] ++ [(j : Int), 0, 1] by rw [arcsN, if_pos hjk, if_pos hdj])
          have HAC := hid (show arcsC d k (j + 1) = arcsC d k j + 1 + 1 by rw [arcsC, if_pos hjk, if_pos hdj])
          have tok1 : True := trivial
          go_wp2_with (first
            | (at_builtin
               have _t := tok1
               go_must (refine wpList_appA rfl _ _ 33 rfl (w.heap.size + 2) 54 Tryz.underlying33 infoArc _ (arcsC d k j) (arcsN d k j) _ _ _ hown rfl wr.heap.size rfl rfl (by omega) hszr ?_)
               intro v1 c1 w1 hown1 hb1
               clear tok1
               have HS1 := hid (HST.out.step hb1 hown1)
               have hfz1 := (hb1.frozen (p := ⟨w.heap.size + 1, 2, none⟩) (by show w.heap.size + 1 < _; omega)).trans hfz
               have hcv1 := (hb1.cell (p := ⟨w.heap.size + 1, 2, none⟩) (by show w.heap.size + 1 < _; omega)).trans hcv
               have hsz1 := HS1.out.size
               have tok2 : True := trivial)
            | (at_builtin
               have _t := tok2
               go_must (refine wpList_appA rfl _ _ 33 rfl (w.heap.size + 2) 54 Tryz.underlying33 infoArc _ (arcsC d k j + 1) (arcsN d k j ++ [(j : Int), (j : Int) + 1, 0]) _ _ _ HS1.out.own rfl w1.heap.size (by simp) rfl (by omega) hsz1 ?_)
               intro v2 c2 w2 hown2 hb2
               clear tok2
               have HS2 := hid (HS1.out.step hb2 hown2)
               have hfz2 := (hb2.frozen (p := ⟨w.heap.size + 1, 2, none⟩) (by show w.heap.size + 1 < _; omega)).trans HS1.out.g2
               have hcv2 := (hb2.cell (p := ⟨w.heap.size + 1, 2, none⟩) (by show w.heap.size + 1 < _; omega)).trans HS1.out.c2))
          go_roundw
          case rel => exact ⟨j + 1, _, by omega, by go_num, by rw [HAN.out, HAC.out]; exact HS2.out⟩
          case measure => simp [intOf] <;> omega
        · have hdj2 : ¬ ((d : Int) ≤ (j : Int)) := by omega
          have HAN := hid (show arcsN d k (j + 1) = arcsN d k j ++ [(j : Int), (j : Int) + 1, 0] by rw [arcsN, if_pos hjk, if_neg hdj, List.append_nil])
          have HAC := hid (show arcsC d k (j + 1) = arcsC d k j + 1 by rw [arcsC, if_pos hjk, if_neg hdj])
          go_wp2_with (first
            | (at_builtin
               go_must (refine wpList_appA rfl _ _ 33 rfl (w.heap.size + 2) 54 Tryz.underlying33 infoArc _ (arcsC d k j) (arcsN d k j) _ _ _ hown rfl wr.heap.size rfl rfl (by omega) hszr ?_)
               intro v1 c1 w1 hown1 hb1
               have HS1 := hid (HST.out.step hb1 hown1)
               have hfz1 := (hb1.frozen (p := ⟨w.heap.size + 1, 2, none⟩) (by show w.heap.size + 1 < _; omega)).trans hfz
               have hcv1 := (hb1.cell (p := ⟨w.heap.size + 1, 2, none⟩) (by show w.heap.size + 1 < _; omega)).trans hcv))
          go_roundw
          case rel => exact ⟨j + 1, _, by omega, by go_num, by rw [HAN.out, HAC.out]; exact HS1.out⟩
          case measure => simp [intOf] <;> omega
      · obtain rfl : j = k := by omega
        have hjk2 : ¬ ((j : Int) < (j : Int)) := by omega
        have hdj2 : (d : Int) ≤ (j : Int) := by omega
        have HAN := hid (show arcsN d j (j + 1) = arcsN d j j ++ [(j : Int), 0, 1] by rw [arcsN, if_neg (by omega), if_pos hd, List.append_nil])
        have HAC := hid (show arcsC d j (j + 1) = arcsC d j j + 1 by rw [arcsC, if_neg (by omega), if_pos hd])
        go_wp2_with (first
          | (at_builtin
             go_must (refine wpList_appA rfl _ _ 33 rfl (w.heap.size + 2) 54 Tryz.underlying33 infoArc _ (arcsC d j j) (arcsN d j j) _ _ _ hown rfl wr.heap.size rfl rfl (by omega) hszr ?_)
             intro v1 c1 w1 hown1 hb1
             have HS1 := hid (HST.out.step hb1 hown1)
             have hfz1 := (hb1.frozen (p := ⟨w.heap.size + 1, 2, none⟩) (by show w.heap.size + 1 < _; omega)).trans hfz
             have hcv1 := (hb1.cell (p := ⟨w.heap.size + 1, 2, none⟩) (by show w.heap.size + 1 < _; omega)).trans hcv))
        go_roundw
        case rel => exact ⟨j + 1, _, by omega, by go_num, by rw [HAN.out, HAC.out]; exact HS1.out⟩
        case measure => simp [intOf] <;> omega
    · have hlt2 : ¬ ((j : Int) < (k : Int) + 1) := by omega
      obtain rfl : j = k + 1 := by omega
      have h0 := hst.r0
      have h1 := hst.r1
      have h2 := hst.r2
      have f0 := hst.f0
      have f1 := hst.f1
      have f2 := hst.f2
      have c0 := hst.c0
      have c1 := hst.c1
      have c2 := hst.c2
      have hsz := hst.size
      have HO := hid hst.own
      have HBL := hid hst.os
      clear hst
      obtain ⟨g, c, rfl⟩ : ∃ g c, v = .slice g (arcsC d k (k + 1)) c := by
        rcases HO.out.2 with ⟨h0, h1⟩ | ⟨g, cap, cur, he, _⟩
        · exact ⟨none, 0, by rw [h0, h1]⟩
        · exact ⟨_, _, he⟩
      go_wp2
      refine bodyPost_ret (v := .tuple #[.agg #[.int .i64 2, .int .i64 ((k : Int) + 1), .slice g (arcsC d k (k + 1)) c], .bool true]) (by simp [results, Tryz.results31, go_sem, h0, h1, h2]) rfl ⟨_, rfl, ?_, ?_⟩
      · exact owns_base (own_set (own_set (own_set HO.out (by omega) _ _) (by omega) _ _) (by omega) _ _) (by omega)
      · exact ((HBL.out.setCell (Nat.le_refl _) _).setCell (Nat.le_refl _) _).setCell (Nat.le_refl _) _
end Go.Proofs.YtpncmmdjkcdemaaGreatDoor
