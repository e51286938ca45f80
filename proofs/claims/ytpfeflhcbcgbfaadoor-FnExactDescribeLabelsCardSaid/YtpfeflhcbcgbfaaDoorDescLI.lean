/- Labelled graphs: a report, the program's function. Conditions: a valid labelled graph, its arcs in memory; the laid table of powers of ten. -/
import Derived.Test.YtpfeflhcbcgbfaaDoorRchS
import Derived.Test.YtpfeflhcbcgbfaaDoorDescP
import Derived.Test.YtpfeflhcbcgbfaaDoorSmlI
import Derived.Test.YtpfeflhcbcgbfaaDoorResD
namespace Go.Proofs.YtpfeflhcbcgbfaaDoor
open Go.RowKit

theorem impl_ShortestSync_no (L S : Int) (a : Option Addr) (n c : Nat) (A : List (Int × Int × Int)) (w : World) (hr : RowAt w a (n * 3) (arcVals A)) (hn : n ≤ 1048576) (h : resolvB L S A = false) :
    Calls Tryd.prog 23 #[.agg #[.int .i64 L, .int .i64 S, .slice a n c]] w fun e w' => e = .returned (synV none) ∧ Below w.heap.size w w' := by
  have HBX := hid (fun (V : World) (hV : Below (w.heap.size + 1) (w.alloc (.cells #[.int .i64 L, .int .i64 S, .slice a n c] 29)) V) => lab_box hV)
  obtain ⟨W2, hW2⟩ : ∃ W2, W2 = w.alloc (.cells #[.int .i64 L, .int .i64 S, .slice a n c] 29) := ⟨_, rfl⟩
  have hB : Below w.heap.size w W2 := by rw [hW2]; exact (Below.refl _ _).alloc (Nat.le_refl _) _
  have hsz : W2.heap.size = w.heap.size + 1 := by rw [hW2]; simp
  rw [← hW2, ← hsz] at HBX
  have HI := hid (fun (W : World) (hW : Below w.heap.size w W) => impl_IsResolving_c L S a n c A W (hr.below hW (Nat.le_refl _)) hn)
  rw [h] at HI
  obtain ⟨⟨p0, p1, p2⟩, _⟩ := HBX.out W2 (Below.refl _ _)
  have HB := hid hB
  clear hr hB h
  go_enter Tryd.func23, Tryd.ntmps23
  go_wp2_with (rw [← hW2])
  first | rw [← hW2] | skip
  clear hW2
  refine (HI.out _ HB.out).mono ?_
  rintro e w1 ⟨rfl, hb1⟩
  go_wp2
  go_ret2
  exact ⟨rfl, HB.out.trans (hb1.mono HB.out.size)⟩
set_option maxHeartbeats 2000000 in
theorem impl_ShortestSync_yes (L S : Nat) (a : Option Addr) (n c : Nat) (G : List (Nat × Nat × Nat)) (w : World) (hr : RowAt w a (n * 3) (arcVals (arcN G))) (hG : LabG L S G) (hn : n ≤ 1048576) (h : resolvB L S (arcN G) = true) :
    Calls Tryd.prog 23 #[.agg #[.int .i64 L, .int .i64 S, .slice a n c]] w fun e w' => e = .returned (synV (syO G L (2 ^ S - 1))) ∧ Below w.heap.size w w' := by
  have HBX := hid (fun (V : World) (hV : Below (w.heap.size + 1) (w.alloc (.cells #[.int .i64 L, .int .i64 S, .slice a n c] 29)) V) => lab_box hV)
  obtain ⟨W2, hW2⟩ : ∃ W2, W2 = w.alloc (.cells #[.int .i64 L, .int .i64 S, .slice a n c] 29) := ⟨_, rfl⟩
  have hB : Below w.heap.size w W2 := by rw [hW2]; exact (Below.refl _ _).alloc (Nat.le_refl _) _
  have hsz : W2.heap.size = w.heap.size + 1 := by rw [hW2]; simp
  rw [← hW2, ← hsz] at HBX
  have HI := hid (fun (W : World) (hW : Below w.heap.size w W) => impl_IsResolving_c L S a n c (arcN G) W (hr.below hW (Nat.le_refl _)) hn)
  rw [h] at HI
  have HRE := hid (fun (W : World) (bw bf : Nat) (hW : Below w.heap.size w W) => reachSets_c L S a n c bw bf G W (hr.below hW (Nat.le_refl _)) hG hn)
  obtain ⟨o, ho⟩ : ∃ o, o = syO G L (2 ^ S - 1) := ⟨_, rfl⟩
  rw [← ho] at HRE
  rw [← ho]
  obtain ⟨⟨p0, p1, p2⟩, _⟩ := HBX.out W2 (Below.refl _ _)
  have HB := hid hB
  clear hr hB h hG ho
  go_enter Tryd.func23, Tryd.ntmps23
  go_wp2_with (rw [← hW2])
  first | rw [← hW2] | skip
  clear hW2
  refine (HI.out _ HB.out).mono ?_
  rintro e w1 ⟨rfl, hb1⟩
  clear p0 p1 p2
  have hs1 := hb1.size
  obtain ⟨W4, hW4⟩ : ∃ W4, W4 = w1.alloc (.cells #[.string ⟨#[]⟩] 9) := ⟨_, rfl⟩
  obtain ⟨W5, hW5⟩ : ∃ W5, W5 = W4.alloc (.cells #[.bool false] 4) := ⟨_, rfl⟩
  have hb4 : Below w1.heap.size w1 W4 := by rw [hW4]; exact (Below.refl _ _).alloc (Nat.le_refl _) _
  have hb5 : Below W4.heap.size W4 W5 := by rw [hW5]; exact (Below.refl _ _).alloc (Nat.le_refl _) _
  have hz4 : W4.heap.size = w1.heap.size + 1 := by rw [hW4]; simp
  have hz5 : W5.heap.size = w1.heap.size + 1 + 1 := by rw [hW5]; simp [hz4]
  have HX4 := hid ((show BoxC W4 w1.heap.size #[.string ⟨#[]⟩] by rw [hW4]; exact BoxC.new _ _ _).below hb5)
  have HX5 := hid (show BoxC W5 (w1.heap.size + 1) #[.bool false] by rw [hW5, ← hz4]; exact BoxC.new _ _ _)
  have HB5 := hid (hb1.trans ((bs hb4 hb5).mono hs1))
  have HW4 := hid hW4
  have HW5 := hid hW5
  obtain ⟨⟨p0, p1, p2⟩, _, hbw5⟩ := HBX.out W5 HB5.out
  have HR5 := hid (HRE.out W5 w1.heap.size (w1.heap.size + 1) hbw5 (HX4.out.cell 0) (HX4.out.froz 0) (HX5.out.cell 0) (HX5.out.froz 0) (by omega) (by omega) (by omega))
  clear hW4 hW5 hb4 hb5 hb1 HRE
  go_upto_region 4 with fail
  rw [← HW4.out, ← HW5.out]
  go_wp2_with fail
  refine HR5.out.mono ?_
  rintro e w8 ⟨rfl, hpost⟩
  cases o with
  | none =>
    have hb8 : Below W5.heap.size W5 w8 := hpost
    have hq0 : w8.cell? ⟨w1.heap.size, 0, none⟩ = some (.string ⟨#[]⟩) := (HX4.out.below hb8).cell 0
    have hq1 : w8.cell? ⟨w1.heap.size + 1, 0, none⟩ = some (.bool false) := (HX5.out.below hb8).cell 0
    have HBE := hid (hbw5.trans (hb8.mono hbw5.size))
    clear hpost p0 p1 p2
    go_wp2
    go_quiet (fail)
    go_wp2
    go_ret2
    exact ⟨rfl, below_drewN HBE.out _⟩
  | some l =>
    obtain ⟨V, hbV, hw8⟩ := hpost
    have hq0 : w8.cell? ⟨w1.heap.size, 0, none⟩ = some (.string ⟨l.toArray⟩) := by
      rw [hw8, World.cell?_setCell_other _ _ _ _ (fun e => by injection e; omega)]
      exact World.cell?_setCell_same _ _ _ ((HX4.out.below hbV).cell 0)
    have hq1 : w8.cell? ⟨w1.heap.size + 1, 0, none⟩ = some (.bool true) := by
      rw [hw8]
      exact World.cell?_setCell_same _ _ _ ((World.cell?_setCell_other _ _ _ _ (fun e => by injection e; omega)).trans ((HX5.out.below hbV).cell 0))
    have hbs := hbw5.size
    have HBE := hid (show Below w.heap.size w w8 from by
      rw [hw8]
      exact ((hbw5.trans (hbV.mono hbw5.size)).setCell (by show w.heap.size ≤ w1.heap.size; omega) _).setCell (by show w.heap.size ≤ w1.heap.size + 1; omega) _)
    clear hw8 hbV p0 p1 p2
    go_wp2
    go_quiet (fail)
    go_wp2
    go_ret2
    exact ⟨rfl, below_drewN HBE.out _⟩
end Go.Proofs.YtpfeflhcbcgbfaaDoor
namespace Go.Proofs.YtpfeflhcbcgbfaaDoor
open Go.RowKit

theorem strVals_app (xs ys : List ByteArray) : strVals (xs ++ ys) = strVals xs ++ strVals ys := by simp [strVals]
theorem lit_cells {w : World} {cs : Array Value} {T : TypeId} {us : List Value} (h : cs.toList = us) (j : Nat) (u : Value) (hj : us[j]? = some u) : (w.alloc (.cells cs T)).cell? ⟨w.heap.size, 0 + j, none⟩ = some u := by
  rw [Nat.zero_add, World.cell?_alloc_at _ _ _ _ rfl, ← hj, ← h]
  simp
set_option maxHeartbeats 1000000 in
theorem descl1_c (L S : Nat) (a : Option Addr) (n c b : Nat) (G : List (Nat × Nat × Nat)) (k : Nat) (w : World) (hbx : BoxC w b #[.int .i64 L, .int .i64 S, .slice a n c]) (hr : RowAt w a (n * 3) (arcVals (arcN G))) (hG : LabG L S G) (hn : n ≤ 1048576) (h : labsB L S (arcN G) = true) (hk : k ≤ 6) :
    Calls Tryd.prog 28 #[.int .i64 k, .pointer (some ⟨b, 0, none⟩)] w fun e w' => e = .returned (.int .i64 (rwI G L S k)) ∧ Below w.heap.size w w' := by
  have HR := hid (impl_ReadWords_yes L S a n c G k w hr hG hn h hk)
  unfold RwPost at HR
  unfold rwI
  obtain ⟨y, hy⟩ : ∃ y, y = rwN G (2 ^ S - 1) L k := ⟨_, rfl⟩
  rw [← hy] at HR
  rw [← hy]
  obtain ⟨⟨p0, p1, p2⟩, _⟩ := hbx.c3
  clear hr hG h hy
  go_enter Tryd.func28, Tryd.ntmps28
  go_wp2_with fail
  refine HR.out.mono ?_
  rintro e w1 ⟨g, cq, rfl, hb⟩
  go_wp2
  go_ret
  exact ⟨rfl, hb⟩
set_option maxHeartbeats 4000000 in
set_option maxRecDepth 100000 in
theorem impl_DescribeLabels_yes (L S : Nat) (a : Option Addr) (n c : Nat) (G : List (Nat × Nat × Nat)) (w : World) (hr : RowAt w a (n * 3) (arcVals (arcN G))) (hG : LabG L S G) (hn : n ≤ 1000000) (h : labsB L S (arcN G) = true) (ht : TabW w) :
    Calls Tryd.prog 7 #[.agg #[.int .i64 L, .int .i64 S, .slice a n c]] w fun e w' => e = .returned (.string (labT (fmtB (S : Int)) (fmtB (n : Int)) (resolvB L S (arcN G)) (syncT (synO L S G)) (smlT (smlO S L G)) (rdT L S G))) ∧ Below w.heap.size w w' := by
  have HBX := hid (fun (V : World) (hV : Below (w.heap.size + 1) (w.alloc (.cells #[.int .i64 L, .int .i64 S, .slice a n c] 29)) V) => lab_box hV)
  obtain ⟨W2, hW2⟩ : ∃ W2, W2 = w.alloc (.cells #[.int .i64 L, .int .i64 S, .slice a n c] 29) := ⟨_, rfl⟩
  have hB : Below w.heap.size w W2 := by rw [hW2]; exact (Below.refl _ _).alloc (Nat.le_refl _) _
  have hsz : W2.heap.size = w.heap.size + 1 := by rw [hW2]; simp
  have hbx : BoxC W2 w.heap.size #[.int .i64 L, .int .i64 S, .slice a n c] := by rw [hW2]; exact BoxC.new _ _ _
  rw [← hW2, ← hsz] at HBX
  have hS12 := hG.s12
  have HI := hid (fun (W : World) (hW : Below w.heap.size w W) => impl_IsLabels_w L S a n c (arcN G) W (hr.below hW (Nat.le_refl _)) (by omega))
  rw [h] at HI
  have HFS := hid (fun (W : World) (hW : Below w.heap.size w W) => impl_FormatInt_c (S : Int) W ⟨by omega, by omega⟩ (tab_below ht hW (Nat.le_refl _)))
  have HFN := hid (fun (W : World) (hW : Below w.heap.size w W) => impl_FormatInt_c (n : Int) W ⟨by omega, by omega⟩ (tab_below ht hW (Nat.le_refl _)))
  have HFZ := hid (fun (W : World) (z : Nat) (hz : z ≤ 1000) (hW : Below w.heap.size w W) => impl_FormatInt_c (z : Int) W ⟨by omega, by omega⟩ (tab_below ht hW (Nat.le_refl _)))
  have hfS := fmtB_le (x := (S : Int)) ⟨by omega, by omega⟩
  have hfN := fmtB_le (x := (n : Int)) ⟨by omega, by omega⟩
  have hlen : (arcN G).length = n := by have := hr.len; rw [arcVals_len] at this; omega
  have HRES := hid (fun (W : World) (hW : Below w.heap.size w W) => impl_isResolving_c L S a n c (arcN G) W (hr.below hW (Nat.le_refl _)) (by omega))
  have hres : resTo (arcN G) n = resolvB L S (arcN G) := by unfold resolvB; rw [h, hlen]; rfl
  rw [hres] at HRES
  have HSYN := hid (fun (W : World) (hW : Below w.heap.size w W) => show Calls Tryd.prog 23 #[.agg #[.int .i64 L, .int .i64 S, .slice a n c]] W fun e w' => e = .returned (synV (synO L S G)) ∧ Below W.heap.size W w' from by
    cases hb : resolvB L S (arcN G) with
    | true =>
      have := impl_ShortestSync_yes L S a n c G W (hr.below hW (Nat.le_refl _)) hG (by omega) hb
      unfold synO
      rw [hb]
      exact this
    | false =>
      have := impl_ShortestSync_no L S a n c (arcN G) W (hr.below hW (Nat.le_refl _)) (by omega) hb
      unfold synO
      rw [hb]
      exact this)
  have HREO := hid (fun (W : World) (hW : Below w.heap.size w W) => impl_ResolveLabels_yes L S a n c G W (hr.below hW (Nat.le_refl _)) hn h hG)
  have HLIV := hid (fun (K : Nat → Bool) (hK : ∀ i, i < S → (K i = true ↔ LivesG G S i)) => resOf_liv (L := L) hG hK)
  have HLAB := hid (fun (s : Nat) (A : List (Nat × Nat × Nat)) (hA : resOf (livK G S) S G L = some (s, A)) => resOf_lab hG hA)
  have HCO := hid (fun (W : World) (hW : Below W2.heap.size W2 W) => counted_c 0 5 6 28 (.pointer (some ⟨w.heap.size, 0, none⟩)) (rwI G L S) W rfl (by omega) (fun i V h1 h2 hV => descl1_c L S a n c w.heap.size G i V ((hbx.below hW).below hV) ((hr.below (hB.trans (hW.mono hB.size)) (Nat.le_refl _)).below hV (by have := hB.size; have := hW.size; omega)) hG (by omega) h (by omega)) (fun x w => Tryd.call28 _ w) (fun i h1 h2 => rw_i64 hG.k3 (by omega)) (tab_below ht (hB.trans (hW.mono hB.size)) (Nat.le_refl _)))
  rw [show joinV ((cntL (rwI G L S) 0 6).map fmtB) ⟨#[44]⟩ = rdT L S G from rfl] at HCO
  have hsy := syncT_size hG
  have hsm := smlT_size (smlO S L G) (smlO_le hG)
  have hrd := rdT_size (S := S) hG.k3 G
  have hsO : smlO S L G = (resOf (livK G S) S G L).map fun p => cntZ p.2 L p.1 := rfl
  obtain ⟨fS, hfS'⟩ : ∃ f, f = fmtB (S : Int) := ⟨_, rfl⟩
  obtain ⟨fN, hfN'⟩ : ∃ f, f = fmtB (n : Int) := ⟨_, rfl⟩
  obtain ⟨rs, hrs⟩ : ∃ r, r = resolvB L S (arcN G) := ⟨_, rfl⟩
  obtain ⟨sy, hsy'⟩ : ∃ s, s = synO L S G := ⟨_, rfl⟩
  obtain ⟨ro, hro⟩ : ∃ r, r = resOf (livK G S) S G L := ⟨_, rfl⟩
  obtain ⟨sm, hsm'⟩ : ∃ s, s = smlO S L G := ⟨_, rfl⟩
  obtain ⟨rd, hrd'⟩ : ∃ r, r = rdT L S G := ⟨_, rfl⟩
  rw [← hfS'] at HFS hfS
  rw [← hfN'] at HFN hfN
  rw [← hrs] at HRES
  rw [← hsy'] at HSYN hsy
  rw [← hro] at HLIV HLAB hsO
  rw [← hsm'] at hsm hsO
  rw [← hrd'] at HCO hrd
  rw [← hfS', ← hfN', ← hrs, ← hsy', ← hsm', ← hrd']
  have HSO := hid hsO
  have HB0 := hid hB
  obtain ⟨⟨p0, p1, p2⟩, _⟩ := HBX.out W2 (Below.refl _ _)
  clear hr hG h hfS' hfN' hrs hsy' hro hsm' hrd' hsO hB ht hlen hres hbx
  obtain ⟨st, hst⟩ : ∃ st, st = syncT sy := ⟨_, rfl⟩
  rw [← hst] at hsy
  rw [← hst]
  have HD1 := hid (fun W => shown_c (⟨(sy.getD []).toArray⟩ : ByteArray) W)
  obtain ⟨d1, hd1⟩ : ∃ d, d = dotB (⟨(sy.getD []).toArray⟩ : ByteArray) := ⟨_, rfl⟩
  rw [← hd1] at HD1
  have HST := hid (show st = if sy.isSome = true then d1 else ⟨#[45]⟩ from by
    rw [hst, hd1]
    cases sy <;> rfl)
  unfold synV at HSYN
  obtain ⟨s1', hs1⟩ : ∃ s, s = (⟨(sy.getD []).toArray⟩ : ByteArray) := ⟨_, rfl⟩
  rw [← hs1] at HD1 HSYN
  obtain ⟨b1, hb1⟩ : ∃ b, b = sy.isSome := ⟨_, rfl⟩
  rw [← hb1] at HST HSYN
  clear hst hd1 hs1 hb1 sy
  obtain ⟨sx, hsx⟩ : ∃ sx, sx = smlT sm := ⟨_, rfl⟩
  rw [← hsx] at hsm
  rw [← hsx]
  have HSX := hid hsx
  clear hsx
  have HLEN := hid (show (Lib.join ((headL fS fN rs ++ [w_sync, st, w_smallest, sx, w_words, rd]).map dlj) [32]).length ≤ 1000000000 from by
    have h1 := joinV_size (headL fS fN rs ++ [w_sync, st, w_smallest, sx, w_words, rd]) ⟨#[32]⟩
    have h2 := labT_eq fS fN rs st sx rd
    unfold labT at h2
    rw [h2] at h1
    show (Lib.join ((headL fS fN rs ++ [w_sync, st, w_smallest, sx, w_words, rd]).map dlj) (⟨#[32]⟩ : ByteArray).data.toList).length ≤ 1000000000
    rw [← h1]
    have h3 : (headS fS fN rs).size ≤ 100 := by
      cases rs
      · show (⟨#[115, 116, 97, 116, 101, 115, 32]⟩ ++ fS ++ ⟨#[32, 97, 114, 99, 115, 32]⟩ ++ fN : ByteArray).size ≤ 100
        simp only [ByteArray.size_append]
        show 7 + fS.size + 6 + fN.size ≤ 100
        omega
      · show (⟨#[115, 116, 97, 116, 101, 115, 32]⟩ ++ fS ++ ⟨#[32, 97, 114, 99, 115, 32]⟩ ++ fN ++ ⟨#[32, 114, 101, 115, 111, 108, 118, 105, 110, 103]⟩ : ByteArray).size ≤ 100
        simp only [ByteArray.size_append]
        show 7 + fS.size + 6 + fN.size + 10 ≤ 100
        omega
    simp only [ByteArray.size_append]
    show (headS fS fN rs).size + 6 + st.size + 10 + sx.size + 7 + rd.size ≤ 1000000000
    omega)
  have HTX := hid (show labT fS fN rs st sx rd = joinV (headL fS fN rs ++ [w_sync, st, w_smallest, sx, w_words, rd]) ⟨#[32]⟩ from rfl)
  obtain ⟨TX, hTX⟩ : ∃ T, T = labT fS fN rs st sx rd := ⟨_, rfl⟩
  rw [← hTX] at HTX
  rw [← hTX]
  have HHL := hid (show headL fS fN true = headL fS fN false ++ [w_resolving] from rfl)
  have HHF := hid (show headL fS fN false = [w_states, fS, w_arcs, fN] from rfl)
  clear hTX hfS hfN hsy hsm hrd
  go_enter Tryd.func7, Tryd.ntmps7
  go_wp2_with (rw [← hW2])
  first | rw [← hW2] | skip
  clear hW2 p0 p1 p2
  refine (HI.out _ HB0.out).mono ?_
  rintro e w1 ⟨rfl, hb1⟩
  have HB := hid hb1
  clear hb1 HI
  have hbZ : Below W2.heap.size W2 w1.drew := HB.out.drew
  have HKK := hid (fun (V : World) (hV : Below W2.heap.size W2 V) => show V.cell? ⟨w.heap.size, 0, none⟩ = some (.int .i64 L) ∧ V.cell? ⟨w.heap.size, 1, none⟩ = some (.int .i64 S) ∧ V.cell? ⟨w.heap.size, 2, none⟩ = some (.slice a n c) ∧ Below W2.heap.size W2 V from by
    obtain ⟨⟨q0, q1, q2⟩, _⟩ := HBX.out V hV
    exact ⟨q0, q1, q2, hV⟩)
  have HKA := hid (fun (V : World) (hV : Below W2.heap.size W2 V) (cs : Array Value) (T : TypeId) => HKK.out (V.alloc (.cells cs T)) (hV.alloc hV.size _))
  have HBV := hid (fun (V : World) (hV : Below W2.heap.size W2 V) => show Below w.heap.size w V from HB0.out.trans (hV.mono HB0.out.size))
  go_wp2
  go_region_held3 (fun V => V.cell? ⟨w.heap.size, 0, none⟩ = some (.int .i64 L) ∧ V.cell? ⟨w.heap.size, 1, none⟩ = some (.int .i64 S) ∧ V.cell? ⟨w.heap.size, 2, none⟩ = some (.slice a n c) ∧ Below W2.heap.size W2 V)
    (first | with_reducible exact HKK.out _ hbZ | with_reducible exact HKA.out _ hbZ _ _)
    (first | (go_at_call_of 21 S; refine (HFS.out _ (HBV.out _ hbZ)).mono ?_; rintro e w3 ⟨rfl, hb3⟩; have hbZ := hbZ.trans (hb3.mono hbZ.size)) | (go_at_call_of 21 n; refine (HFN.out _ (HBV.out _ hbZ)).mono ?_; rintro e w4 ⟨rfl, hb4⟩; have hbZ := hbZ.trans (hb4.mono hbZ.size)))
  have HO := hid (show (w4.alloc (.cells #[.string ⟨#[115, 116, 97, 116, 101, 115]⟩, .string fS, .string ⟨#[97, 114, 99, 115]⟩, .string fN] 9)).ownsRow W2.heap.size 9 1 (.slice (some ⟨w4.heap.size, 0, none⟩) 4 4) 4 (strVals (headL fS fN false)) from owns_lit3 (w := w4) (base := W2.heap.size) (e := 9) #[.string ⟨#[115, 116, 97, 116, 101, 115]⟩, .string fS, .string ⟨#[97, 114, 99, 115]⟩, .string fN] _ rfl hbZ.size (by unfold maxLen; simp))
  have HB := hid (hbZ.alloc hbZ.size (.cells #[.string ⟨#[115, 116, 97, 116, 101, 115]⟩, .string fS, .string ⟨#[97, 114, 99, 115]⟩, .string fN] 9))
  obtain ⟨W5, hW5⟩ : ∃ W5, W5 = w4.alloc (.cells #[.string ⟨#[115, 116, 97, 116, 101, 115]⟩, .string fS, .string ⟨#[97, 114, 99, 115]⟩, .string fN] 9) := ⟨_, rfl⟩
  rw [← hW5] at HO HB
  rw [← hW5]
  clear hW5 hb3 hb4 HKK HKA HFS HFN hbZ HHF
  obtain ⟨⟨s0, s1, s2⟩, _, hbw⟩ := HBX.out _ HB.out
  go_wp2_with fail
  clear s0 s1 s2
  refine (HRES.out _ hbw).mono ?_
  rintro e w5 ⟨rfl, hb⟩
  have HO5 := hid (owns_below HO.out hb)
  clear HO
  have HB := hid (HB.out.trans (hb.mono HB.out.size))
  clear hb hbw
  clear HRES
  go_upto_if 25 with fail
  go_cut [3] from 26 to 28 (fun v wx => ∃ m g cq : Nat, v = .slice (some ⟨g, 0, none⟩) m cq ∧ Hid ((headL fS fN rs).length = m) ∧ Hid (m ≤ 5) ∧ Hid (wx.ownsRow W2.heap.size 9 1 (.slice (some ⟨g, 0, none⟩) m cq) m (strVals (headL fS fN rs))) ∧ Hid (Below W2.heap.size W2 wx))
  case first =>
    clear HSYN HREO HLIV HLAB HCO HSO HFZ HD1 HST HSX HLEN HTX
    have hszB := HB.out.size
    cases rs
    · go_wp2
      go_meet
      case rel => exact ⟨4, _, 4, rfl, hid rfl, hid (by omega), HO5, HB⟩
    · have HU := hid (HO5.out.alloc (.cells #[.string ⟨#[114, 101, 115, 111, 108, 118, 105, 110, 103]⟩] 9))
      go_wp2_with (first | (at_builtin; go_must (refine wpList_appN rfl _ _ 42 rfl W2.heap.size 9 (.string ByteArray.empty) 16 Tryd.underlying42 infoStr rfl w4.heap.size 4 4 _ HU.out rfl w5.heap.size 0 1 1 [.string ⟨#[114, 101, 115, 111, 108, 118, 105, 110, 103]⟩] rfl rfl (lit_cells rfl) (by intro u hu; simp at hu; subst hu; rfl) (by omega) (by unfold maxLen; omega) (by simp; omega) ?_); intro g2 c3 w6 hown2 hgr2 hb2 hlt2))
      have hb3 : Below W2.heap.size W2 w6 := (HB.out.alloc hszB _).grown hgr2 (by simp; omega) (by rintro k ⟨⟩; exact (HU.out.lt _ rfl).1)
      go_meet
      case rel => exact ⟨5, g2, c3, rfl, hid rfl, hid (by omega), hid (by rw [HHL.out, strVals_app]; exact hown2), hid hb3⟩
  case rest =>
    obtain ⟨m, g, cq, rfl, HML, HM5, HO, HB⟩ := hcut
    have HO5 := HO
    clear HO HHL
    obtain ⟨⟨s0, s1, s2⟩, _, hbw⟩ := HBX.out _ HB.out
    go_wp2_with fail
    clear s0 s1 s2
    refine (HSYN.out _ hbw).mono ?_
    rintro e w6 ⟨rfl, hb⟩
    have HO6 := hid (owns_below HO5.out hb)
    clear HO5
    have HB := hid (HB.out.trans (hb.mono HB.out.size))
    clear hb hbw
    clear HSYN
    go_upto_if 34 with fail
    go_cut [4] from 35 to 36 (fun x3 wx => x3 = .string st ∧ Hid (wx = w6))
    case first =>
      clear HREO HLIV HLAB HCO HSO HFZ HSX HLEN HTX
      cases b1
      · have HE := hid (show st = ⟨#[45]⟩ from HST.out)
        go_wp2
        go_meet
        case rel => exact ⟨by rw [HE.out], hid rfl⟩
      · have HE := hid (show st = d1 from HST.out)
        go_wp2_with fail
        refine (HD1.out _).mono ?_
        rintro e w7 ⟨rfl, rfl⟩
        go_wp2
        go_meet
        case rel => exact ⟨by rw [HE.out], hid rfl⟩
    case rest =>
      obtain ⟨rfl, HW⟩ := hcut
      have hW := HW.out
      subst hW
      clear HST HD1 HW
      obtain ⟨⟨s0, s1, s2⟩, _, hbw⟩ := HBX.out _ HB.out
      go_wp2_with fail
      clear s0 s1 s2
      refine (HREO.out _ hbw).mono ?_
      rintro e w8 ⟨K, hK, g8, c8, rfl, ho8, hb⟩
      have HKE := hid (HLIV.out K hK)
      rw [HKE.out] at ho8
      rw [HKE.out]
      have HBW8 := hid (hbw.trans (hb.mono hbw.size))
      have HO7 := hid (owns_below HO6.out hb)
      clear HO6
      have HB := hid (HB.out.trans (hb.mono HB.out.size))
      clear hb hbw
      clear HREO HLIV HKE hK
      have HO8 := hid ho8
      clear ho8
      unfold labV
      obtain ⟨L9, hL9⟩ : ∃ L9 : Nat, L9 = if ro.isSome = true then L else 0 := ⟨_, rfl⟩
      rw [← hL9]
      have HL9 := hid hL9
      clear hL9
      obtain ⟨W9, hW9⟩ : ∃ W9, W9 = w8.alloc (.cells #[.int .i64 (L9 : Int), .int .i64 ((ro.getD (0, [])).1 : Nat), .slice g8 (ro.getD (0, [])).2.length c8] 29) := ⟨_, rfl⟩
      have hb9 : Below w8.heap.size w8 W9 := by rw [hW9]; exact (Below.refl _ _).alloc (Nat.le_refl _) _
      have HX9 := hid (show BoxC W9 w8.heap.size #[.int .i64 (L9 : Int), .int .i64 ((ro.getD (0, [])).1 : Nat), .slice g8 (ro.getD (0, [])).2.length c8] by rw [hW9]; exact BoxC.new _ _ _)
      have HB9 := hid (HB.out.trans (hb9.mono HB.out.size))
      have HO9 := hid (owns_below HO7.out hb9)
      have HW9 := hid hW9
      have hb89 := hb9
      clear hW9 hb9 HO7
      obtain ⟨⟨x0, x1, x2⟩, _⟩ := HX9.out.c3
      go_upto_if 42 with fail
      first | rw [← HW9.out] | trace_state
      go_cut [5, 10, 11] from 43 to 50 (fun x6 _ _ wx => x6 = .string sx ∧ Hid (wx.ownsRow W2.heap.size 9 1 (.slice (some ⟨g, 0, none⟩) m cq) m (strVals (headL fS fN rs))) ∧ Hid (Below W2.heap.size W2 wx))
      case first =>
        clear HCO HLEN HTX
        cases ro with
        | none =>
          have HE := hid (show sx = ⟨#[45]⟩ from by rw [HSX.out, HSO.out]; rfl)
          clear HSX HSO HLAB HO8
          simp only [Option.isSome_none]
          go_wp2
          go_meet
          case rel => exact ⟨by rw [HE.out], HO9, HB9⟩
        | some p =>
          obtain ⟨s, A⟩ := p
          obtain rfl : L = L9 := HL9.out.symm
          obtain ⟨hGA, hRA, hAn⟩ := HLAB.out s A rfl
          have hra := owns_rowAt3 HO8.out (by show A.length * 3 ≤ _; omega)
          have HSM := hid (impl_SmallestLabels_yes L s g8 A.length c8 A W9 (hra.below hb89 (Nat.le_refl _)) (by omega) hRA hGA)
          unfold SmalPost at HSM
          have HCZ := hid (fun t (h : stabN A L s t) => cntZ_eq hGA h)
          have HE := hid (show sx = fmtB (cntZ A L s : Nat) from by rw [HSX.out, HSO.out]; rfl)
          have hcz := cntZ_le A L s
          have hs12 := hGA.s12
          simp only [Option.isSome_some, Option.getD_some, if_true] at x0 x1 x2
          clear HSX HSO HLAB HO8 hGA hRA hra HX9
          simp only [Option.isSome_some, Option.getD_some, if_true]
          go_wp2_with fail
          refine HSM.out.mono ?_
          rintro e w10 ⟨t, m', c', g', hstab, rfl, hb⟩
          have HCT := hid (HCZ.out t hstab)
          rw [HCT.out]
          have HB10 := hid (HB9.out.trans (hb.mono HB9.out.size))
          have HO10 := hid (owns_below HO9.out hb)
          have HFZ2 := hid (fun W hW => HFZ.out W (cntZ A L s) (by omega) hW)
          rw [← HE.out] at HFZ2
          obtain ⟨z, hz⟩ : ∃ z, z = cntZ A L s := ⟨_, rfl⟩
          rw [← hz] at HFZ2
          rw [← hz]
          clear hz HCT HCZ HSM HE hb hstab x0 x1 x2 HFZ
          have HB11 := hid (HB10.out.alloc HB10.out.size (.cells #[.int .i64 L, .int .i64 z, .slice g' m' c'] 29))
          have HO11 := hid (HO10.out.alloc (.cells #[.int .i64 L, .int .i64 z, .slice g' m' c'] 29))
          go_wp2_with fail
          refine (HFZ2.out _ (HBV.out _ HB11.out)).mono ?_
          rintro e w11 ⟨rfl, hb⟩
          have HB12 := hid (HB11.out.trans (hb.mono HB11.out.size))
          have HO12 := hid (owns_below HO11.out hb)
          go_wp2
          go_meet
          case rel => exact ⟨rfl, HO12, HB12⟩
      case rest =>
        obtain ⟨rfl, HO, HB⟩ := hcut
        clear HL9 HSX HSO HLAB HO8 HX9 HB9 x0 x1 x2 HBW8 hb89 HW9 HO9
        go_wp2_with fail
        refine (HCO.out _ HB.out).mono ?_
        rintro e w12 ⟨rfl, hb⟩
        have HB12 := hid (HB.out.trans (hb.mono HB.out.size))
        have HO12 := hid (owns_below HO.out hb)
        have hszB := HB12.out.size
        have hm5 := HM5.out
        have HU := hid (HO12.out.alloc (.cells #[.string ⟨#[115, 121, 110, 99]⟩, .string st, .string ⟨#[115, 109, 97, 108, 108, 101, 115, 116]⟩, .string sx, .string ⟨#[119, 111, 114, 100, 115]⟩, .string rd] 9))
        clear HB HO hb HCO
        go_wp2_with (first | (at_builtin; go_must (refine wpList_appN rfl _ _ 42 rfl W2.heap.size 9 (.string ByteArray.empty) 16 Tryd.underlying42 infoStr rfl g cq m _ HU.out rfl w12.heap.size 0 6 6 (strVals [w_sync, st, w_smallest, sx, w_words, rd]) rfl rfl (lit_cells rfl) (by intro u hu; obtain ⟨x, _, rfl⟩ := List.mem_map.1 hu; rfl) (by omega) (by unfold maxLen; omega) (by simp; omega) ?_); intro g2 c3 w13 hown2 hgr2 hb2 hlt2))
        have hb3 : Below W2.heap.size W2 w13 := (HB12.out.alloc hszB _).grown hgr2 (by simp; omega) (by rintro k ⟨⟩; exact (HU.out.lt _ rfl).1)
        rw [← strVals_app] at hown2
        refine (line_c W2.heap.size g2 c3 (m + 6) _ w13 (by rw [List.length_append, HML.out]; rfl) hown2 (by omega) HLEN.out).mono ?_
        rintro e w14 ⟨rfl, hb⟩
        have HBE := hid (HB0.out.trans ((hb3.trans (hb.mono hb3.size)).mono HB0.out.size))
        go_wp2
        go_ret
        exact ⟨by rw [HTX.out]; rfl, HBE.out⟩
end Go.Proofs.YtpfeflhcbcgbfaaDoor
