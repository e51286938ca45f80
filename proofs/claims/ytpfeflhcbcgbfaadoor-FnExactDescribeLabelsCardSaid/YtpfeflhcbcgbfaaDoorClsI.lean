/- Labelled graphs: the classes of states, the program's numbers. Conditions: a valid labelled graph, its arcs in memory. -/
import Derived.Test.YtpfeflhcbcgbfaaDoorAlkW
import Derived.Test.YtpfeflhcbcgbfaaDoorClsW
import Derived.Test.YtpfeflhcbcgbfaaDoorAppK
namespace Go.Proofs.YtpfeflhcbcgbfaaDoor
open Go.RowKit

set_option maxHeartbeats 2000000 in
set_option maxRecDepth 100000 in
theorem impl_same_c (L S : Nat) (a : Option Addr) (n c : Nat) (G : List (Nat × Nat × Nat)) (cl : Option Addr) (cc : Nat) (cls : List Int) (p q : Nat) (w : World) (hr : RowAt w a (n * 3) (arcVals (arcN G))) (hG : LabG L S G) (hn : n ≤ 1048576) (hcl : RowAt w cl S (intVals cls)) (hcs : cls.length = S) (hp : p < S) (hq : q < S) :
    Calls Tryd.prog 74 #[.agg #[.int .i64 L, .int .i64 S, .slice a n c], .slice cl S cc, .int .i64 p, .int .i64 q] w fun e w' => e = .returned (.bool (clR cls p q && alTo cls G p q L)) ∧ Below w.heap.size w w' := by
  have HBX := hid (fun (V : World) (hV : Below (w.heap.size + 1) (w.alloc (.cells #[.int .i64 L, .int .i64 S, .slice a n c] 29)) V) => lab_box hV)
  obtain ⟨W2, hW2⟩ : ∃ W2, W2 = w.alloc (.cells #[.int .i64 L, .int .i64 S, .slice a n c] 29) := ⟨_, rfl⟩
  have hB : Below w.heap.size w W2 := by rw [hW2]; exact (Below.refl _ _).alloc (Nat.le_refl _) _
  have hsz : W2.heap.size = w.heap.size + 1 := by rw [hW2]; simp
  rw [← hW2, ← hsz] at HBX
  have HB := hid hB
  have hzB : w.heap.size ≤ W2.heap.size := hB.size
  have HTG := hid (fun (W : World) (r x : Nat) (hW : Below w.heap.size w W) => impl_target_c L S a n c G r x W (hr.below hW (Nat.le_refl _)) hn)
  have hS1 := hG.s1
  obtain ⟨cb, co, rfl, hcb, hcc⟩ := hcl.at_ (by omega)
  have HCL := hid (fun (V : World) (hV : Below w.heap.size w V) (t : Nat) (ht : t < S) => show V.cell? ⟨cb, co + t, none⟩ = some (.int .i64 (cls.getD t 0)) from by
    obtain ⟨z, hz⟩ := get_some (l := cls) (n := t) (by omega)
    rw [List.getD_eq_getElem?_getD, hz]
    exact (hV.cell (p := ⟨cb, co + t, none⟩) hcb).trans (hcc t _ (intVals_get hz)))
  have HTL := hid (fun (r x t : Nat) (h : tgtN G r x = some t) => tgtN_lt hG h)
  have HSTOP := hid (fun (k : Nat) (hk : k < L) (h : alikeB (clR cls) (tgtN G p k) (tgtN G q k) = false) => show alTo cls G p q L = false from by
    have := alTo_stop h (L - (k + 1))
    rw [show k + 1 + (L - (k + 1)) = L by omega] at this
    exact this)
  have HSU := hid (fun (k : Nat) => show alTo cls G p q (k + 1) = (alTo cls G p q k && alikeB (clR cls) (tgtN G p k) (tgtN G q k)) from rfl)
  obtain ⟨Z, hZ⟩ : ∃ Z : Nat → Bool, Z = alTo cls G p q := ⟨_, rfl⟩
  rw [← hZ] at HSTOP HSU
  have HZ0 := hid (show Z 0 = true by rw [hZ]; rfl)
  have hL3 := hG.k3
  have hS12 := hG.s12
  rw [← hZ]
  have hcp := HCL.out W2 hB p hp
  have hcq := HCL.out W2 hB q hq
  have HPE := hid (fun (h : cls.getD p 0 = cls.getD q 0) => show (clR cls p q && Z L) = Z L from by rw [clR_t h]; rfl)
  have HPN := hid (fun (h : ¬ cls.getD p 0 = cls.getD q 0) => show (clR cls p q && Z L) = false from by rw [clR_f h]; rfl)
  obtain ⟨RZ, hRZ⟩ : ∃ RZ, RZ = (clR cls p q && Z L) := ⟨_, rfl⟩
  rw [← hRZ] at HPE HPN
  rw [← hRZ]
  obtain ⟨yp, hyp⟩ : ∃ y, y = cls.getD p 0 := ⟨_, rfl⟩
  obtain ⟨yq, hyq⟩ : ∃ y, y = cls.getD q 0 := ⟨_, rfl⟩
  rw [← hyp] at hcp HPE HPN
  rw [← hyq] at hcq HPE HPN
  have HBR := hid (Below.refl W2.heap.size W2)
  have hpi : (p : Int) < (S : Int) := by omega
  have hqi : (q : Int) < (S : Int) := by omega
  clear hr hB hZ hG hcl hRZ hyp hyq
  go_enter Tryd.func74, Tryd.ntmps74
  by_cases e0 : yp = yq
  · have HPX := hid (HPE.out e0)
    clear HPE HPN
    subst e0
    go_wp2
    rw [← hW2]
    clear hW2
    go_quiet (fail)
    obtain ⟨⟨p0, p1, p2⟩, hz, hbw⟩ := HBX.out W2 HBR.out
    go_wp2
    go_loopw [23] (fun i wr => ∃ k : Nat, k ≤ L ∧ i = .int .i64 k ∧ Hid (Z k = true) ∧ Below W2.heap.size W2 wr) (fun i _ => L - (intOf i).toNat)
    case atStart => exact ⟨0, by omega, rfl, HZ0, below_drewN HBR.out _⟩
    case round =>
      clear p0 p1 p2 hz hbw
      obtain ⟨k, hk, rfl, HZK, hbel⟩ := hrel
      obtain ⟨⟨p0, p1, p2⟩, hz, hbw⟩ := HBX.out wr hbel
      by_cases hlt : k < L
      · have hki : (k : Int) < (L : Int) := by omega
        have HSK := hid (HSU.out k)
        have HSP := hid (HSTOP.out k hlt)
        have HTP := hid (fun V (hV : Below wr.heap.size wr V) => HTG.out V p k (hbw.trans (hV.mono hbw.size)))
        have HTQ := hid (fun V (hV : Below wr.heap.size wr V) => HTG.out V q k (hbw.trans (hV.mono hbw.size)))
        have HL1 := hid (HTL.out p k)
        have HL2 := hid (HTL.out q k)
        obtain ⟨A, hA⟩ : ∃ A, A = tgtN G p k := ⟨_, rfl⟩
        obtain ⟨B, hB⟩ : ∃ B, B = tgtN G q k := ⟨_, rfl⟩
        rw [← hA] at HSK HSP HTP HL1
        rw [← hB] at HSK HSP HTQ HL2
        clear hA hB
        have hbZ : Below wr.heap.size wr wr.drew := (Below.refl _ _).drew
        have HKK := hid (fun (V : World) (hV : Below wr.heap.size wr V) => show V.cell? ⟨w.heap.size, 0, none⟩ = some (.int .i64 L) ∧ V.cell? ⟨w.heap.size, 1, none⟩ = some (.int .i64 S) ∧ V.cell? ⟨w.heap.size, 2, none⟩ = some (.slice a n c) ∧ Below wr.heap.size wr V from by
          obtain ⟨⟨q0, q1, q2⟩, _⟩ := HBX.out V (hbel.trans (hV.mono hbel.size))
          exact ⟨q0, q1, q2, hV⟩)
        go_wp2
        go_region_held3 (fun V => V.cell? ⟨w.heap.size, 0, none⟩ = some (.int .i64 L) ∧ V.cell? ⟨w.heap.size, 1, none⟩ = some (.int .i64 S) ∧ V.cell? ⟨w.heap.size, 2, none⟩ = some (.slice a n c) ∧ Below wr.heap.size wr V)
          (first | with_reducible exact HKK.out _ hbZ)
          (first | (go_at_call 55; first | (with_reducible refine (HTP.out _ hbZ).mono ?_; rintro e w3 ⟨rfl, hb3⟩; have hbZ := hbZ.trans (hb3.mono hbZ.size)) | (with_reducible refine (HTQ.out _ hbZ).mono ?_; rintro e w3 ⟨rfl, hb3⟩; have hbZ := hbZ.trans (hb3.mono hbZ.size))))
        all_goals
          have hbel4 := hbel.trans (hbZ.mono hbel.size)
          have hbw4 := hbw.trans (hbZ.mono hbw.size)
          clear p0 p1 p2 hb3 HKK HTP HTQ
          cases A with
          | none =>
            cases B with
            | none =>
              have HN := hid (show Z (k + 1) = true by rw [HSK.out, HZK.out]; rfl)
              simp only [optI]
              go_wp2
              go_quiet (fail)
              go_wp2
              go_roundw
              case rel => exact ⟨k + 1, by omega, by go_num, HN, below_drewN hbel4 _⟩
              case measure => simp [intOf] <;> omega
            | some u =>
              have HR := hid (HSP.out rfl)
              have hu0 : decide ((u : Int) < 0) = false := decide_eq_false (by omega)
              simp only [optI]
              go_wp2
              go_quiet (fail)
              go_wp2
              go_ret
              exact ⟨ret_bool (HPX.out.trans HR.out).symm, below_drewN hbw4 _⟩
          | some t =>
            cases B with
            | none =>
              have HR := hid (HSP.out rfl)
              have ht0 : decide ((t : Int) < 0) = false := decide_eq_false (by omega)
              simp only [optI]
              go_wp2
              go_quiet (fail)
              go_wp2
              go_ret
              exact ⟨ret_bool (HPX.out.trans HR.out).symm, below_drewN hbw4 _⟩
            | some u =>
              have ht0 : decide ((t : Int) < 0) = false := decide_eq_false (by omega)
              have hu0 : decide ((u : Int) < 0) = false := decide_eq_false (by omega)
              have ht1 : decide ((0 : Int) ≤ (t : Int)) = true := decide_eq_true (by omega)
              have htS := HL1.out t rfl
              have huS := HL2.out u rfl
              have htc := HCL.out _ hbw4 t htS
              have huc := HCL.out _ hbw4 u huS
              simp only [optI]
              have HEQ := hid (fun (h : cls.getD t 0 = cls.getD u 0) => show Z (k + 1) = true from by rw [HSK.out, HZK.out]; exact clR_t h)
              have HNE := hid (fun (h : ¬ cls.getD t 0 = cls.getD u 0) => HSP.out (clR_f h))
              obtain ⟨y, hy⟩ : ∃ y, y = cls.getD t 0 := ⟨_, rfl⟩
              obtain ⟨z, hz⟩ : ∃ z, z = cls.getD u 0 := ⟨_, rfl⟩
              rw [← hy] at htc HEQ HNE
              rw [← hz] at huc HEQ HNE
              clear hy hz
              by_cases e : y = z
              · have HN := hid (HEQ.out e)
                subst e
                go_wp2
                go_quiet (fail)
                go_wp2
                go_roundw
                case rel => exact ⟨k + 1, by omega, by go_num, HN, below_drewN hbel4 _⟩
                case measure => simp [intOf] <;> omega
              · have HR := hid (HNE.out e)
                have hyz : (y == z) = false := by simpa using e
                have hyz2 : decide (y = z) = false := decide_eq_false e
                go_wp2
                go_quiet (fail)
                go_wp2
                go_ret
                exact ⟨ret_bool (HPX.out.trans HR.out).symm, below_drewN hbw4 _⟩
      · obtain rfl : k = L := by omega
        go_wp2
        go_ret
        exact ⟨ret_bool (HPX.out.trans HZK.out).symm, hbw⟩
  · have HR := hid (HPN.out e0)
    have hyz : (yp == yq) = false := by simpa using e0
    have hyz2 : decide (yp = yq) = false := decide_eq_false e0
    go_wp2
    rw [← hW2]
    clear hW2
    go_quiet (fail)
    go_wp2
    go_ret
    exact ⟨ret_bool HR.out.symm, below_drewN HB.out _⟩
end Go.Proofs.YtpfeflhcbcgbfaaDoor
namespace Go.Proofs.YtpfeflhcbcgbfaaDoor
open Go.RowKit

theorem clsL_made (G : List (Nat × Nat × Nat)) (L S : Nat) : intVals (clsL (relN G L 0) S) = (madeCells (Value.int .i64 0).cells (S * 1)).toList := by
  rw [← repL_made G L S]
  refine congrArg intVals ?_
  unfold clsL repL clsN
  refine List.map_congr_left fun i _ => ?_
  rw [rep_zero]
  rfl
theorem cls_hit {r : Nat → Nat → Bool} (h : EqR r) {p q : Nat} (e : r p q = true) : clsN r p = clsN r q := (clsN_eq h).2 e
theorem met_rep {r : Nat → Nat → Bool} (h : EqR r) {p : Nat} (e : metB r p p = false) : isRep r p = true := by
  rw [metB_rep h] at e
  simpa using e
theorem met_not {r : Nat → Nat → Bool} (h : EqR r) {p q : Nat} (hq : q < p) (e : r p q = true) : isRep r p = false := by
  have h1 : metB r p p = true := by
    unfold metB
    rw [List.any_eq_true]
    exact ⟨q, List.mem_range.2 hq, e⟩
  rw [metB_rep h] at h1
  simpa using h1
theorem met_go {r : Nat → Nat → Bool} {p q : Nat} (h : metB r p q = false) (e : r p q = false) : metB r p (q + 1) = false := by rw [metB_succ, h, e]; rfl
theorem clsL_vals (r : Nat → Nat → Bool) (p : Nat) : intVals (clsL r (p + 1)) = intVals (clsL r p) ++ [.int .i64 ((clsN r p : Nat) : Int)] := by rw [clsL_succ]; simp [intVals]
theorem owns_nilQ (w : World) (B e : TypeId) (hB : B ≤ w.heap.size) : (w.alloc (.cells #[] e)).ownsRow B e 1 (.slice (some ⟨w.heap.size, 0, none⟩) 0 0) 0 [] := owns_lit3 #[] _ rfl hB (by unfold maxLen; simp)
set_option maxHeartbeats 4000000 in
set_option maxRecDepth 100000 in
theorem impl_classes_c (L S : Nat) (a : Option Addr) (n c : Nat) (G : List (Nat × Nat × Nat)) (w : World) (hr : RowAt w a (n * 3) (arcVals (arcN G))) (hG : LabG L S G) (hn : n ≤ 1048576) :
    Calls Tryd.prog 54 #[.agg #[.int .i64 L, .int .i64 S, .slice a n c]] w (ClsPost clsL L S G w) := by
  have HAL := hid (fun (W : World) (cl : Option Addr) (cc : Nat) (cls : List Int) (p q : Nat) (hW : Below w.heap.size w W) (hcl : RowAt W cl S (intVals cls)) (hcs : cls.length = S) (hp : p < S) (hq : q < S) => impl_same_c L S a n c G cl cc cls p q W (hr.below hW (Nat.le_refl _)) hG hn hcl hcs hp hq)
  have HBX := hid (fun (V : World) (hV : Below (w.heap.size + 1) (w.alloc (.cells #[.int .i64 L, .int .i64 S, .slice a n c] 29)) V) => lab_box hV)
  obtain ⟨W2, hW2⟩ : ∃ W2, W2 = w.alloc (.cells #[.int .i64 L, .int .i64 S, .slice a n c] 29) := ⟨_, rfl⟩
  have hB : Below w.heap.size w W2 := by rw [hW2]; exact (Below.refl _ _).alloc (Nat.le_refl _) _
  have hsz : W2.heap.size = w.heap.size + 1 := by rw [hW2]; simp
  rw [← hW2, ← hsz] at HBX
  have hS1 := hG.s1
  have hS12 := hG.s12
  have HRS := hid (fun (t p q : Nat) (hp : p < S) (hq : q < S) => rel_step hG (cls := clsL (relN G L t) S) (t := t) (fun a b ha hb => clR_cls (relN_eqR G L t) ha hb) hp hq)
  obtain ⟨ti, hi, hz, hz1, hz2⟩ := info_parts infoIntZ
  clear hr hG
  have HB := hid hB
  go_enter Tryd.func54, Tryd.ntmps54
  go_wp2_with (first | (at_make; refine wpList_make_full _ rfl _ _ 41 rfl (w.heap.size + 1) 3 ti (.int .i64 0) 1 Tryd.underlying41 hi hz hz1 .i64 .i64 _ _ S rfl rfl rfl rfl (by rw [hz2]; omega) (by unfold maxLen; omega) (by simp) ?_; intro w1 hown1 hgr1; rw [← hW2] at hgr1 hown1; rw [← hsz] at hown1; have hb1 : Below W2.heap.size W2 w1 := (Below.refl _ _).grown hgr1 (Nat.le_refl _) (by intro k h; cases h)))
  rw [← clsL_made G L S] at hown1
  have HO1 := hid hown1
  have HB1 := hid hb1
  first | rw [← hW2] | skip
  clear hown1 hgr1 hb1 hW2 hB hi hz hz1 hz2
  go_loopg [3] (S + 1) (fun k cls wr => ∃ (t g c' : Nat), cls = .slice (some ⟨g, 0, none⟩) S c' ∧ wr.ownsRow W2.heap.size 3 1 (.slice (some ⟨g, 0, none⟩) S c') S (intVals (clsL (relN G L t) S)) ∧ Below W2.heap.size W2 wr ∧ Hid (S + 1 - cntN G L S t ≤ k))
  case atStart => exact ⟨0, W2.heap.size, S, by rw [hsz], HO1.out, HB1.out, hid (by omega)⟩
  case round =>
    clear HO1 HB1
    obtain ⟨t, g, c', rfl, hown, hbel, HK⟩ := hrel
    have HC1 := hid (fun h => cnt_grow (G := G) (L := L) (S := S) (t := t) h HK.out)
    have HD := hid (dif_cls (G := G) (L := L) (S := S) (t := t))
    have HRT := hid (HRS.out t)
    have HEQ := hid (relN_eqR G L (t + 1))
    obtain ⟨R, hR⟩ : ∃ R, R = relN G L (t + 1) := ⟨_, rfl⟩
    obtain ⟨cls, hcls⟩ : ∃ cls, cls = clsL (relN G L t) S := ⟨_, rfl⟩
    have HR := hid hR
    have HCLS := hid hcls
    have hcl := hid (show cls.length = S by rw [hcls, clsL_len])
    rw [← hR] at HEQ HD HRT
    rw [← hcls] at hown HD HRT
    have hBw := hbel.size
    have hgl : g < wr.heap.size := (hown.lt g rfl).2
    obtain ⟨wo, rfl⟩ : ∃ wo, wo = wr := ⟨_, rfl⟩
    have HN3 := hid (owns_nilQ wo W2.heap.size 3 hBw)
    have HO3 := hid (hown.alloc (.cells #[] 3))
    have HB3 := hid (hbel.alloc hBw (.cells #[] 3))
    obtain ⟨⟨p0, p1, p2⟩, _⟩ := HBX.out _ HB3.out
    clear hown hbel hR hcls HRS
    go_wp2
    go_loopw [4, 5, 17] (fun nv mv i wr => ∃ p gN cN : Nat, p ≤ S ∧ i = .int .i64 p ∧ mv = .int .i64 ((numTo (isRep R) p : Nat) : Int) ∧ nv = .slice (some ⟨gN, 0, none⟩) p cN ∧ wr.ownsRow W2.heap.size 3 1 (.slice (some ⟨gN, 0, none⟩) p cN) p (intVals (clsL R p)) ∧ Hid (¬ (gN = g)) ∧ wr.ownsRow W2.heap.size 3 1 (.slice (some ⟨g, 0, none⟩) S c') S (intVals cls) ∧ Below W2.heap.size W2 wr) (fun _ _ i _ => S - (intOf i).toNat)
    case atStart => exact ⟨0, wo.heap.size, 0, by omega, rfl, rfl, rfl, HN3.out, hid (by omega), HO3.out, HB3.out⟩
    case round =>
      clear HN3 HO3 HB3
      obtain ⟨p, gN, cN, hp, rfl, rfl, rfl, hnx, HNE, hcw, hbel⟩ := hrel
      have hne := HNE.out
      obtain ⟨⟨p0, p1, p2⟩, _⟩ := HBX.out wr hbel
      have hmn := numTo_le (isRep R) p
      by_cases hlt : p < S
      · have hpi : (p : Int) < (S : Int) := by omega
        have HN1 := hid hnx
        have HO1 := hid hcw
        have HB1 := hid hbel
        have HNW := hid (fun (h : metB R p p = false) => clsN_new (met_rep HEQ.out h))
        have HNY := hid (fun (h : metB R p p = false) => numTo_yes (met_rep HEQ.out h))
        have HNN := hid (fun (q : Nat) (hq : q < p) (h : R p q = true) => numTo_no (met_not HEQ.out hq h))
        obtain ⟨m, hm⟩ : ∃ m, m = numTo (isRep R) p := ⟨_, rfl⟩
        rw [← hm] at HNW HNY HNN hmn
        rw [← hm]
        clear hnx hcw hbel hm
        obtain ⟨wp, rfl⟩ : ∃ wp, wp = wr := ⟨_, rfl⟩
        go_wp2
        go_loopw [7, 21] (fun fv i wr => ∃ q : Nat, q ≤ p ∧ i = .int .i64 q ∧ fv = .int .i64 (-1) ∧ Hid (metB R p q = false) ∧ wr.ownsRow W2.heap.size 3 1 (.slice (some ⟨gN, 0, none⟩) p cN) p (intVals (clsL R p)) ∧ wr.ownsRow W2.heap.size 3 1 (.slice (some ⟨g, 0, none⟩) S c') S (intVals cls) ∧ Below W2.heap.size W2 wr) (fun _ i _ => p - (intOf i).toNat)
        case atStart => exact ⟨0, by omega, rfl, rfl, hid rfl, HN1.out, HO1.out, HB1.out⟩
        case round =>
          clear HN1 HO1 HB1 p0 p1 p2
          obtain ⟨q, hq, rfl, rfl, HMT, hnx, hcw, hbel⟩ := hrel
          obtain ⟨⟨p0, p1, p2⟩, _⟩ := HBX.out wr hbel
          have HN1 := hid hnx
          have HO1 := hid hcw
          have HB1 := hid hbel
          clear hnx hcw hbel
          by_cases hlq : q < p
          · have hqi : (q : Int) < (p : Int) := by omega
            have hqS : q < S := by omega
            have HAP := hid (show Calls Tryd.prog 74 #[.agg #[.int .i64 L, .int .i64 S, .slice a n c], .slice (some ⟨g, 0, none⟩) S c', .int .i64 p, .int .i64 q] wr fun e w' => e = .returned (.bool (R p q)) ∧ Below wr.heap.size wr w' from by
              obtain ⟨a', c'', he, hra⟩ := owns_rowAt HO1.out (by omega)
              simp only [Value.slice.injEq, true_and] at he
              obtain ⟨rfl, rfl⟩ := he
              rw [← HRT.out p q hlt hqS]
              exact HAL.out wr (some ⟨g, 0, none⟩) c' cls p q (HB.out.trans (HB1.out.mono HB.out.size)) hra hcl.out hlt hqS)
            have HHIT := hid (fun h : R p q = true => cls_hit HEQ.out h)
            have HNQ := hid (fun h : R p q = true => HNN.out q hlq h)
            have HGO := hid (fun h : R p q = false => met_go HMT.out h)
            obtain ⟨b, hb⟩ : ∃ b, b = R p q := ⟨_, rfl⟩
            rw [← hb] at HAP HHIT HNQ HGO
            clear hb
            go_wp2_with fail
            refine HAP.out.mono ?_
            rintro e w3 ⟨rfl, hb3⟩
            have HN2 := hid (owns_below HN1.out hb3)
            have HO2 := hid (owns_below HO1.out hb3)
            have HB2 := hid (HB1.out.trans (hb3.mono HB1.out.size))
            clear HN1 HO1 HB1 HAP p0 p1 p2 hb3
            obtain ⟨⟨p0, p1, p2⟩, _⟩ := HBX.out w3 HB2.out
            cases b with
            | false =>
              have HG := hid (HGO.out rfl)
              clear HGO HHIT HNQ
              go_wp2
              go_roundw
              case rel => exact ⟨q + 1, by omega, by go_num, rfl, HG, HN2.out, HO2.out, HB2.out⟩
              case measure => simp [intOf] <;> omega
            | true =>
              have HH := hid (HHIT.out rfl)
              have HNM := hid (HNQ.out rfl)
              have hcq := (HN2.out.cellAt q (by omega)).trans (intVals_get (show (clsL R p)[q]? = some ((clsN R q : Nat) : Int) from by unfold clsL; rw [List.getElem?_map, List.getElem?_range hlq]; rfl))
              obtain ⟨v, hv⟩ : ∃ v, v = clsN R q := ⟨_, rfl⟩
              rw [← hv] at hcq HH
              clear hv HGO HHIT HNQ
              have hv0 : decide ((v : Int) < 0) = false := decide_eq_false (by omega)
              have HU := hid (HN2.out.alloc (.cells #[.int .i64 (v : Int)] 3))
              go_wp2_with (first | (at_builtin; go_must (refine wpList_appN rfl _ _ 41 rfl W2.heap.size 3 (.int .i64 0) 8 Tryd.underlying41 infoIntZ rfl gN cN p _ HU.out rfl w3.heap.size 0 1 1 [.int .i64 (Nat.cast v)] rfl rfl (by intro q u hq; match q, hq with | 0, hq => simp at hq; subst hq; simp) (by intro u hu; simp at hu; subst hu; rfl) (by omega) (by unfold maxLen; omega) (by have := HB2.out.size; simp; omega) ?_); intro g6 c6 w6 hown6 hgr6 hor6 hlt6))
              have hb6 : Below W2.heap.size W2 w6 := (HB2.out.alloc HB2.out.size _).grown hgr6 (by have := HB2.out.size; simp; omega) (by rintro k ⟨⟩; exact (HU.out.lt _ rfl).1)
              have hgq := (HO2.out.lt g rfl).2
              have ho6 := ((HO2.out.alloc (.cells #[.int .i64 (Nat.cast v)] 3)).kept hgr6 (.inr (by simp [Value.ownBlock]; omega)))
              go_roundw
              case rel => exact ⟨p + 1, g6, c6, by omega, by go_num, by rw [HNM.out], rfl, by rw [clsL_vals]; rw [HH.out]; exact hown6, hid (by rcases hor6 with h | h; exact fun e => hne (by rw [← h, e]); simp at h; omega), ho6, hb6⟩
              case measure => simp [intOf] <;> omega
          · obtain rfl : p = q := by omega
            have HH := hid (HNW.out HMT.out)
            have HNM := hid (HNY.out HMT.out)
            have HU := hid (HN1.out.alloc (.cells #[.int .i64 (m : Int)] 3))
            go_wp2_with (first | (at_builtin; go_must (refine wpList_appN rfl _ _ 41 rfl W2.heap.size 3 (.int .i64 0) 8 Tryd.underlying41 infoIntZ rfl gN cN p _ HU.out rfl wr.heap.size 0 1 1 [.int .i64 (Nat.cast m)] rfl rfl (by intro q u hq; match q, hq with | 0, hq => simp at hq; subst hq; simp) (by intro u hu; simp at hu; subst hu; rfl) (by omega) (by unfold maxLen; omega) (by have := HB1.out.size; simp; omega) ?_); intro g6 c6 w6 hown6 hgr6 hor6 hlt6))
            have hb6 : Below W2.heap.size W2 w6 := (HB1.out.alloc HB1.out.size _).grown hgr6 (by have := HB1.out.size; simp; omega) (by rintro k ⟨⟩; exact (HU.out.lt _ rfl).1)
            have hgq := (HO1.out.lt g rfl).2
            have ho6 := ((HO1.out.alloc (.cells #[.int .i64 (Nat.cast m)] 3)).kept hgr6 (.inr (by simp [Value.ownBlock]; omega)))
            go_roundw
            case rel => exact ⟨p + 1, g6, c6, by omega, by go_num, by rw [HNM.out]; go_num, rfl, by rw [clsL_vals]; rw [HH.out]; exact hown6, hid (by rcases hor6 with h | h; exact fun e => hne (by rw [← h, e]); simp at h; omega), ho6, hb6⟩
            case measure => simp [intOf] <;> omega
      · obtain rfl : p = S := by omega
        have HN1 := hid hnx
        have HO1 := hid hcw
        have HB1 := hid hbel
        clear hnx hcw hbel
        go_wp2
        go_loopw [9, 46] (fun ch i wr => ∃ j : Nat, j ≤ p ∧ i = .int .i64 j ∧ ch = .bool (!difTo cls (clsL R p) j) ∧ Hid (wr.ownsRow W2.heap.size 3 1 (.slice (some ⟨gN, 0, none⟩) p cN) p (intVals (clsL R p))) ∧ Hid (wr.ownsRow W2.heap.size 3 1 (.slice (some ⟨g, 0, none⟩) p c') p (intVals cls)) ∧ Below W2.heap.size W2 wr) (fun _ i _ => p - (intOf i).toNat)
        case atStart => exact ⟨0, by omega, rfl, rfl, hid HN1.out, hid HO1.out, HB1.out⟩
        case round =>
          clear HN1 HO1 HB1 p0 p1 p2
          obtain ⟨j, hj, rfl, rfl, HN1, HO1, hbel⟩ := hrel
          have HB1 := hid hbel
          clear hbel
          by_cases hlj : j < p
          · have hji : (j : Int) < (p : Int) := by omega
            obtain ⟨yc, hyc⟩ := get_some (l := cls) (n := j) (by rw [hcl.out]; omega)
            obtain ⟨yn, hyn⟩ := get_some (l := clsL R p) (n := j) (by rw [clsL_len]; omega)
            have hcc := (HO1.out.cellAt j (by omega)).trans (intVals_get hyc)
            have hcn := (HN1.out.cellAt j (by omega)).trans (intVals_get hyn)
            have HDS := hid (show difTo cls (clsL R p) (j + 1) = (difTo cls (clsL R p) j || !decide (yc = yn)) from by rw [difTo_succ, List.getD_eq_getElem?_getD, List.getD_eq_getElem?_getD, hyn, hyc]; rfl)
            obtain ⟨b, hb⟩ : ∃ b, b = difTo cls (clsL R p) j := ⟨_, rfl⟩
            rw [← hb] at HDS
            rw [← hb]
            clear hyc hyn hb
            cases b with
            | true =>
              have HDT := hid (show difTo cls (clsL R p) (j + 1) = true from HDS.out)
              clear HDS
              simp only [Bool.not_true]
              go_wp2
              go_quiet (fail)
              go_wp2
              go_roundw
              case rel => exact ⟨j + 1, by omega, by go_num, by rw [HDT.out]; rfl, hid (own_drewN HN1.out _), hid (own_drewN HO1.out _), below_drewN HB1.out _⟩
              case measure => simp [intOf] <;> omega
            | false =>
              simp only [Bool.not_false]
              by_cases e : yc = yn
              · have HDT := hid (show difTo cls (clsL R p) (j + 1) = false from by rw [HDS.out, decide_eq_true e]; rfl)
                clear HDS
                subst e
                go_wp2
                go_quiet (fail)
                go_wp2
                go_roundw
                case rel => exact ⟨j + 1, by omega, by go_num, by rw [HDT.out]; rfl, hid (own_drewN HN1.out _), hid (own_drewN HO1.out _), below_drewN HB1.out _⟩
                case measure => simp [intOf] <;> omega
              · have HDT := hid (show difTo cls (clsL R p) (j + 1) = true from by rw [HDS.out, decide_eq_false e]; rfl)
                have ge : (yc == yn) = false := by simpa using e
                have ge2 : decide (yc = yn) = false := decide_eq_false e
                clear HDS
                go_wp2
                go_quiet (fail)
                go_wp2
                go_roundw
                case rel => exact ⟨j + 1, by omega, by go_num, by rw [HDT.out]; rfl, hid (own_drewN HN1.out _), hid (own_drewN HO1.out _), below_drewN HB1.out _⟩
                case measure => simp [intOf] <;> omega
          · obtain rfl : j = p := by omega
            obtain ⟨b, hb⟩ : ∃ b, b = difTo cls (clsL R j) j := ⟨_, rfl⟩
            rw [← hb] at HD
            rw [← hb]
            clear hb
            cases b with
            | true =>
              have HNS := hid (show ¬ stabN G L j t from fun h => by have := HD.out.2 h; cases this)
              have HC := hid (HC1.out HNS.out)
              simp only [Bool.not_true]
              go_wp2
              go_roundg (j + 1 - cntN G L j (t + 1))
              case measure => exact HC.out
              case rel => exact ⟨t + 1, gN, cN, rfl, by rw [← HR.out]; exact HN1.out, HB1.out, hid (Nat.le_refl _)⟩
            | false =>
              have HS := hid (HD.out.1 rfl)
              simp only [Bool.not_false]
              go_wp2
              go_ret
              exact ⟨t, g, c', HS.out, rfl, by rw [← HCLS.out]; exact owns_base HO1.out HB.out.size, HB.out.trans (HB1.out.mono HB.out.size)⟩
end Go.Proofs.YtpfeflhcbcgbfaaDoor
