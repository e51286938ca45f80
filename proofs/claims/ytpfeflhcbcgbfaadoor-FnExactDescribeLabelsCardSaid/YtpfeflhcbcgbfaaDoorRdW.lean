/- Labelled graphs: the words of a length that are read, both sides: how many. Conditions: a valid labelled graph, its arcs in memory. -/
import Derived.Test.YtpfeflhcbcgbfaaDoorSynF
import Derived.Test.YtpfeflhcbcgbfaaDoorLabT
import Derived.Test.YtpfeflhcbcgbfaaDoorKept
import Derived.Test.YtpfeflhcbcgbfaaDoorBoxC
import Derived.Test.YtpfeflhcbcgbfaaDoorTrimC
namespace Go.Proofs.YtpfeflhcbcgbfaaDoor
open Go.RowKit

def rwP (G : List (Nat × Nat × Nat)) (F L k i : Nat) : Bool := decide (0 < rdTo G F (wAt L k i) k)
def rwN (G : List (Nat × Nat × Nat)) (F L k : Nat) : Nat := ((List.range (L ^ k)).filter (rwP G F L k)).length
theorem rwN_le (G : List (Nat × Nat × Nat)) (F L k : Nat) : rwN G F L k ≤ L ^ k := kp_le _ _
def RwPost (G : List (Nat × Nat × Nat)) (F L k : Nat) (w : World) (e : Ending) (w' : World) : Prop := ∃ g c, e = .returned (.slice g (rwN G F L k) c) ∧ Below w.heap.size w w'
set_option maxHeartbeats 2000000 in
theorem reads1_c (L S : Nat) (a : Option Addr) (n c b : Nat) (G : List (Nat × Nat × Nat)) (k i : Nat) (w : World) (hbx : BoxC w b #[.int .i64 L, .int .i64 S, .slice a n c]) (hr : RowAt w a (n * 3) (arcVals (arcN G))) (hG : LabG L S G) (hn : n ≤ 1048576) (hk : k ≤ 6) :
    Calls Tryd.prog 58 #[.string (wdB L k i), .pointer (some ⟨b, 0, none⟩)] w fun e w' => e = .returned (.bool (rwP G (2 ^ S - 1) L k i)) ∧ Below w.heap.size w w' := by
  have HA := hid (fun (W : World) => impl_all_c (L : Int) S (.slice a n c) W hG.s12)
  have hp1 : 1 ≤ 2 ^ S := Nat.two_pow_pos S
  have HRD := hid (fun (W : World) (hW : Below w.heap.size w W) => impl_read_c L S a n c G (2 ^ S - 1) (wdB L k i) W (hr.below hW (Nat.le_refl _)) hG (by omega) (by rw [wdB_list]; exact wAt_LW hG.k1 k i) (by rw [wdB_size]; omega) hn)
  rw [wdB_list, wdB_size] at HRD
  have HBX := hid hbx
  unfold rwP
  obtain ⟨F, hF⟩ : ∃ F, F = 2 ^ S - 1 := ⟨_, rfl⟩
  rw [← hF] at HA HRD
  rw [← hF]
  obtain ⟨r, hr'⟩ : ∃ r, r = rdTo G F (wAt L k i) k := ⟨_, rfl⟩
  rw [← hr'] at HRD
  rw [← hr']
  obtain ⟨wd, hwd⟩ : ∃ wd, wd = wdB L k i := ⟨_, rfl⟩
  rw [← hwd] at HRD
  rw [← hwd]
  have hbZ : Below w.heap.size w w.drew := (Below.refl _ _).drew
  have HKK := hid (fun (V : World) (hV : Below w.heap.size w V) => show V.cell? ⟨b, 0, none⟩ = some (.int .i64 L) ∧ V.cell? ⟨b, 1, none⟩ = some (.int .i64 S) ∧ V.cell? ⟨b, 2, none⟩ = some (.slice a n c) ∧ Below w.heap.size w V from by
    obtain ⟨⟨z0, z1, z2⟩, _⟩ := (HBX.out.below hV).c3
    exact ⟨z0, z1, z2, hV⟩)
  clear hr hG hF hr' hwd hbx hp1
  go_enter Tryd.func58, Tryd.ntmps58
  go_wp2
  go_region_held3 (fun V => V.cell? ⟨b, 0, none⟩ = some (.int .i64 L) ∧ V.cell? ⟨b, 1, none⟩ = some (.int .i64 S) ∧ V.cell? ⟨b, 2, none⟩ = some (.slice a n c) ∧ Below w.heap.size w V)
    (first | with_reducible exact HKK.out _ hbZ)
    (first | (go_at_call 52; refine (HA.out _).mono ?_; rintro e w3 ⟨rfl, hb3⟩; have hbZ := hbZ.trans (hb3.mono hbZ.size)) | (go_at_call 59; refine (HRD.out _ hbZ).mono ?_; rintro e w4 ⟨rfl, hb4⟩; have hbZ := hbZ.trans (hb4.mono hbZ.size)))
  all_goals
    go_wp2
    go_ret
    exact ⟨ret_bool (by simp), hbZ⟩
set_option maxHeartbeats 2000000 in
theorem impl_ReadWords_yes (L S : Nat) (a : Option Addr) (n c : Nat) (G : List (Nat × Nat × Nat)) (k : Nat) (w : World) (hr : RowAt w a (n * 3) (arcVals (arcN G))) (hG : LabG L S G) (hn : n ≤ 1048576) (h : labsB L S (arcN G) = true) (hk : k ≤ 6) :
    Calls Tryd.prog 29 #[.agg #[.int .i64 L, .int .i64 S, .slice a n c], .int .i64 k] w (RwPost G (2 ^ S - 1) L k w) := by
  have HBX := hid (fun (V : World) (hV : Below (w.heap.size + 1) (w.alloc (.cells #[.int .i64 L, .int .i64 S, .slice a n c] 29)) V) => lab_box hV)
  obtain ⟨W2, hW2⟩ : ∃ W2, W2 = w.alloc (.cells #[.int .i64 L, .int .i64 S, .slice a n c] 29) := ⟨_, rfl⟩
  have hB : Below w.heap.size w W2 := by rw [hW2]; exact (Below.refl _ _).alloc (Nat.le_refl _) _
  have hsz : W2.heap.size = w.heap.size + 1 := by rw [hW2]; simp
  have hbx : BoxC W2 w.heap.size #[.int .i64 L, .int .i64 S, .slice a n c] := by rw [hW2]; exact BoxC.new _ _ _
  rw [← hW2, ← hsz] at HBX
  have HI := hid (fun (W : World) (hW : Below w.heap.size w W) => impl_IsLabels_w L S a n c (arcN G) W (hr.below hW (Nat.le_refl _)) hn)
  rw [h] at HI
  obtain ⟨⟨p0, p1, p2⟩, _⟩ := HBX.out W2 (Below.refl _ _)
  have HFI := hid (fun (W : World) (hW : Below W2.heap.size W2 W) => filtered_c L k 58 (.pointer (some ⟨w.heap.size, 0, none⟩)) (rwP G (2 ^ S - 1) L k) W ⟨hG.k1, hG.k3⟩ (by omega) (fun i w2 _ hw2 => reads1_c L S a n c w.heap.size G k i w2 ((hbx.below hW).below hw2) ((hr.below (hB.trans (hW.mono hB.size)) (Nat.le_refl _)).below hw2 (by omega)) hG hn hk) (fun x w => Tryd.call58 _ w))
  unfold KeptPost at HFI
  have hk0 : ¬ ((k : Int) < 0) := by omega
  have hk6 : ¬ ((6 : Int) < (k : Int)) := by omega
  have HB := hid hB
  unfold RwPost rwN
  obtain ⟨m, hm⟩ : ∃ m, m = ((List.range (L ^ k)).filter (rwP G (2 ^ S - 1) L k)).length := ⟨_, rfl⟩
  rw [← hm] at HFI
  rw [← hm]
  clear hr hB h hG hbx hm
  go_enter Tryd.func29, Tryd.ntmps29
  go_wp2_with (rw [← hW2])
  first | rw [← hW2] | skip
  clear hW2
  refine (HI.out _ HB.out).mono ?_
  rintro e w1 ⟨rfl, hb1⟩
  have HB1 := hid hb1
  obtain ⟨⟨q0, q1, q2⟩, _⟩ := HBX.out w1 hb1
  clear p0 p1 p2 HI
  go_wp2_with fail
  refine (HFI.out _ HB1.out).mono ?_
  rintro e w3 ⟨v, rfl, hown, hb3⟩
  obtain ⟨g, c3, rfl⟩ := slice_form hown
  have HBE := hid (HB.out.trans ((HB1.out.trans (hb3.mono HB1.out.size)).mono HB.out.size))
  clear hown hb3
  go_wp2
  go_ret
  exact ⟨g, c3, rfl, HBE.out⟩
set_option maxHeartbeats 2000000 in
theorem spec_ReadsWord_yes (L S : Nat) (a : Option Addr) (n c : Nat) (G : List (Nat × Nat × Nat)) (k i : Nat) (w : World) (hr : RowAt w a (n * 3) (arcVals (arcN G))) (hG : LabG L S G) (hn : n ≤ 1048576) (h : labsB L S (arcN G) = true) (hk : k ≤ 6) :
    Calls Tryd.prog 41 #[.agg #[.int .i64 L, .int .i64 S, .slice a n c], .string (wdB L k i)] w fun e w' => e = .returned (.bool (rwP G (2 ^ S - 1) L k i)) ∧ Below w.heap.size w w' := by
  have HBX := hid (fun (V : World) (hV : Below (w.heap.size + 1) (w.alloc (.cells #[.int .i64 L, .int .i64 S, .slice a n c] 29)) V) => lab_box hV)
  obtain ⟨W2, hW2⟩ : ∃ W2, W2 = w.alloc (.cells #[.int .i64 L, .int .i64 S, .slice a n c] 29) := ⟨_, rfl⟩
  have hB : Below w.heap.size w W2 := by rw [hW2]; exact (Below.refl _ _).alloc (Nat.le_refl _) _
  have hsz : W2.heap.size = w.heap.size + 1 := by rw [hW2]; simp
  rw [← hW2, ← hsz] at HBX
  have HI := hid (fun (W : World) (hW : Below w.heap.size w W) => spec_IsLabels_c L S a n c (arcN G) W (hr.below hW (Nat.le_refl _)) hn)
  rw [h] at HI
  have HW := hid (fun (W : World) => spec_IsWord_c L (wdB L k i) W ⟨hG.k1, hG.k3⟩ (by rw [wdB_size]; unfold maxLen; omega))
  rw [wdB_list, wdB_size, wAt_lets ⟨hG.k1, hG.k3⟩, decide_eq_true (show k ≤ 16 by omega)] at HW
  have hp1 : 1 ≤ 2 ^ S := Nat.two_pow_pos S
  have h4096 := two_pow12 hG.s12
  have hS12 := hG.s12
  have HRD := hid (fun (W : World) (hW : Below w.heap.size w W) => l14Read_c L S a n c G (2 ^ S - 1) (wdB L k i) W (hr.below hW (Nat.le_refl _)) hG (by omega) (by rw [wdB_list]; exact wAt_LW hG.k1 k i) (by rw [wdB_size]; omega) hn)
  rw [wdB_list, wdB_size] at HRD
  have hwu : IntKind.u64.wrap (S : Int) = (S : Int) := IntWalk.u64_in _ (by omega)
  have hmin : min S 64 = S := by omega
  unfold rwP
  obtain ⟨F, hF⟩ : ∃ F, F = 2 ^ S - 1 := ⟨_, rfl⟩
  have hsh : ∀ j, j = S → wrap64 (wrap64 (2 ^ j) - 1) = (F : Int) := fun j hj => by subst hj; rw [pow_less12a j (by omega), hF]
  rw [← hF] at HRD
  rw [← hF]
  obtain ⟨r, hr'⟩ : ∃ r, r = rdTo G F (wAt L k i) k := ⟨_, rfl⟩
  rw [← hr'] at HRD
  rw [← hr']
  obtain ⟨wd, hwd⟩ : ∃ wd, wd = wdB L k i := ⟨_, rfl⟩
  rw [← hwd] at HRD HW
  rw [← hwd]
  obtain ⟨⟨p0, p1, p2⟩, _⟩ := HBX.out W2 (Below.refl _ _)
  have HB := hid hB
  clear hr hB h hG hF hr' hwd
  go_enter Tryd.func41, Tryd.ntmps41
  go_wp2_with (rw [← hW2])
  first | rw [← hW2] | skip
  clear hW2
  refine (HI.out _ HB.out).mono ?_
  rintro e w1 ⟨rfl, hb1⟩
  have HB1 := hid hb1
  obtain ⟨⟨q0, q1, q2⟩, _, hbw1⟩ := HBX.out w1 hb1
  clear p0 p1 p2 HI
  go_wp2_with fail
  refine (HW.out _).mono ?_
  rintro e w2 ⟨rfl, rfl⟩
  go_wp2_with fail
  have hshS := hsh S rfl
  first | rw [hshS] | skip
  refine (HRD.out _ hbw1).mono ?_
  rintro e w3 ⟨rfl, hb3⟩
  have HBE := hid (hbw1.trans (hb3.mono hbw1.size))
  clear hsh hshS hwu hmin
  go_wp2
  go_ret
  exact ⟨ret_bool (by simp), HBE.out⟩
set_option maxHeartbeats 2000000 in
set_option maxRecDepth 100000 in
theorem spec_ReadWords_yes (L S : Nat) (a : Option Addr) (n c : Nat) (G : List (Nat × Nat × Nat)) (k : Nat) (w : World) (hr : RowAt w a (n * 3) (arcVals (arcN G))) (hG : LabG L S G) (hn : n ≤ 1048576) (h : labsB L S (arcN G) = true) (hk : k ≤ 6) :
    Calls Tryd.prog 17 #[.agg #[.int .i64 L, .int .i64 S, .slice a n c], .int .i64 k] w (RwPost G (2 ^ S - 1) L k w) := by
  have HBX := hid (fun (V : World) (hV : Below (w.heap.size + 1) (w.alloc (.cells #[.int .i64 L, .int .i64 S, .slice a n c] 29)) V) => lab_box hV)
  obtain ⟨W2, hW2⟩ : ∃ W2, W2 = w.alloc (.cells #[.int .i64 L, .int .i64 S, .slice a n c] 29) := ⟨_, rfl⟩
  have hB : Below w.heap.size w W2 := by rw [hW2]; exact (Below.refl _ _).alloc (Nat.le_refl _) _
  have hsz : W2.heap.size = w.heap.size + 1 := by rw [hW2]; simp
  rw [← hW2, ← hsz] at HBX
  have HI := hid (fun (W : World) (hW : Below w.heap.size w W) => spec_IsLabels_c L S a n c (arcN G) W (hr.below hW (Nat.le_refl _)) hn)
  rw [h] at HI
  have HIN := hid (fun (W : World) => l1In_c (k : Int) 0 6 W)
  rw [inB_t (by omega)] at HIN
  have HAL := hid (fun (W : World) => spec_l2All_c L k W ⟨hG.k1, hG.k3⟩ (by omega))
  unfold WordsPost at HAL
  have hps := pow_small hG.k3 (show k ≤ 8 by omega)
  have hm1 : 1 ≤ L ^ k := Nat.one_le_pow _ _ hG.k1
  have HRD := hid (fun (W : World) (i : Nat) (hW : Below w.heap.size w W) => spec_ReadsWord_yes L S a n c G k i W (hr.below hW (Nat.le_refl _)) hG hn h hk)
  unfold RwPost rwN
  obtain ⟨m, hm⟩ : ∃ m, m = L ^ k := ⟨_, rfl⟩
  obtain ⟨p, hp⟩ : ∃ p, p = rwP G (2 ^ S - 1) L k := ⟨_, rfl⟩
  rw [← hp] at HRD
  rw [← hm] at HAL hps hm1
  rw [← hm, ← hp]
  obtain ⟨⟨p0, p1, p2⟩, _⟩ := HBX.out W2 (Below.refl _ _)
  have HB := hid hB
  clear hr hB h hG hm hp
  go_enter Tryd.func17, Tryd.ntmps17
  go_wp2_with (rw [← hW2])
  first | rw [← hW2] | skip
  have hb0 : Below W2.heap.size W2 (W2.alloc (.cells #[] 9)) := (Below.refl _ _).alloc (Nat.le_refl _) _
  have HO0 := hid (owns_lit3 (w := W2) (base := W2.heap.size) (e := 9) #[] [] rfl (Nat.le_refl _) (by unfold maxLen; simp))
  obtain ⟨W3, hW3⟩ : ∃ W3, W3 = W2.alloc (.cells #[] 9) := ⟨_, rfl⟩
  have hz3 : W3.heap.size = W2.heap.size + 1 := by rw [hW3]; simp
  have HW3 := hid hW3
  rw [← hW3] at hb0 HO0
  obtain ⟨⟨p0, p1, p2⟩, _, hbw3⟩ := HBX.out W3 hb0
  first | rw [← hW3] | skip
  clear hW3 hW2
  refine (HI.out _ hbw3).mono ?_
  rintro e w1 ⟨rfl, hb1⟩
  have hb21 := hb0.trans (hb1.mono hb0.size)
  obtain ⟨⟨q0, q1, q2⟩, _, hbw1⟩ := HBX.out w1 hb21
  have HO1 := hid (owns_below HO0.out hb1)
  have hs31 := hb1.size
  clear p0 p1 p2 hb1 hb0 hbw3 HI HO0
  go_wp2_with fail
  refine (HIN.out _).mono ?_
  rintro e w2 ⟨rfl, rfl⟩
  go_wp2_with fail
  refine (HAL.out _).mono ?_
  rintro e w4 ⟨v, rfl, hown, hb4⟩
  obtain ⟨g5, c5, rfl, hg5, hlt5⟩ := hown.form (by omega)
  have HB4 := hid (hb21.trans (hb4.mono (by omega)))
  have HW4 := hid (owns_base (base' := W2.heap.size) hown (by omega))
  have HO4 := hid (owns_below HO1.out hb4)
  have hne0 : (Value.slice (some ⟨W2.heap.size, 0, none⟩) 0 0).ownBlock ≠ some g5 := by simp [Value.ownBlock]; omega
  clear hown hb4 hb21 q0 q1 q2 hbw1 HO1 HIN HAL hs31
  go_wp2
  go_loopw [5, 7] (fun v i wr => ∃ j : Nat, j ≤ m ∧ i = .int .i64 j ∧ wr.ownsRow W2.heap.size 9 1 v ((List.range j).filter p).length (strVals (kp p L k j)) ∧ v.ownBlock ≠ some g5 ∧ wr.ownsRow W2.heap.size 9 1 (.slice (some ⟨g5, 0, none⟩) m c5) m (strVals (wds L k m)) ∧ Below W2.heap.size W2 wr) (fun _ i _ => m - (intOf i).toNat)
  case atStart => exact ⟨0, by omega, rfl, by rw [← hsz]; exact HO4.out, by rw [← hsz]; exact hne0, HW4.out, HB4.out⟩
  case round =>
    clear HO4 HW4 HB4 hlt5
    obtain ⟨j, hj, rfl, hown, hne, hwords, hbel⟩ := hrel
    have hcnt := kp_le p j
    by_cases hlt : j < m
    · have hji : (j : Int) < (m : Int) := by omega
      have hcw := (hwords.cellAt j (by omega)).trans (strVals_get (wds_get hlt))
      have hg5w : g5 < wr.heap.size := (hwords.lt _ rfl).2
      have HO := hid hown
      have HWD := hid hwords
      have HBL := hid hbel
      have HFj := hid (fun (V : World) (hV : Below wr.heap.size wr V) => HRD.out V j (HB.out.trans ((HBL.out.trans (hV.mono HBL.out.size)).mono HB.out.size)))
      have HYES := hid (fun h : p j = true => kp_yes (k := L) (n := k) h)
      have HYC := hid (fun h : p j = true => cn_yes h)
      have HNO := hid (fun h : p j = false => kp_no (k := L) (n := k) h)
      have HNC := hid (fun h : p j = false => cn_no h)
      obtain ⟨u, hu⟩ : ∃ u, u = wdB L k j := ⟨_, rfl⟩
      rw [← hu] at hcw HFj HYES
      obtain ⟨cn, hcn⟩ : ∃ cn, cn = ((List.range j).filter p).length := ⟨_, rfl⟩
      rw [← hcn] at HO hcnt HYC HNC
      obtain ⟨b, hb⟩ : ∃ b, b = p j := ⟨_, rfl⟩
      rw [← hb] at HFj HYES HYC HNO HNC
      have hbZ : Below wr.heap.size wr wr.drew := (Below.refl _ _).drew
      have HKK := hid (fun (V : World) (hV : Below wr.heap.size wr V) => show V.cell? ⟨w.heap.size, 0, none⟩ = some (.int .i64 L) ∧ V.cell? ⟨w.heap.size, 1, none⟩ = some (.int .i64 S) ∧ V.cell? ⟨w.heap.size, 2, none⟩ = some (.slice a n c) ∧ V.cell? ⟨g5, j, none⟩ = some (.string u) ∧ Below wr.heap.size wr V from by
        obtain ⟨⟨z0, z1, z2⟩, _⟩ := HBX.out V (HBL.out.trans (hV.mono HBL.out.size))
        exact ⟨z0, z1, z2, (hV.cell (p := ⟨g5, j, none⟩) hg5w).trans hcw, hV⟩)
      clear hu hcn hb hown hwords hbel
      go_wp2
      go_region_held3 (fun V => V.cell? ⟨w.heap.size, 0, none⟩ = some (.int .i64 L) ∧ V.cell? ⟨w.heap.size, 1, none⟩ = some (.int .i64 S) ∧ V.cell? ⟨w.heap.size, 2, none⟩ = some (.slice a n c) ∧ V.cell? ⟨g5, j, none⟩ = some (.string u) ∧ Below wr.heap.size wr V)
        (first | with_reducible exact HKK.out _ hbZ)
        (first | (go_at_call 41; refine (HFj.out _ hbZ).mono ?_; rintro e w3 ⟨rfl, hb3⟩; have hbZ := hbZ.trans (hb3.mono hbZ.size)))
      have HO2 := hid (owns_below HO.out hbZ)
      have HW2 := hid (owns_below HWD.out hbZ)
      have HB2 := hid (HBL.out.trans (hbZ.mono HBL.out.size))
      obtain ⟨_, _, _, hcw2, _⟩ := HKK.out w3 hbZ
      have hg52 : g5 < w3.heap.size := Nat.lt_of_lt_of_le hg5w hbZ.size
      have hszB := HB2.out.size
      clear HKK HFj hb3 hcw HO HWD HBL hg5w
      cases b with
      | false =>
        have H1 := hid (HNO.out rfl)
        have H2 := hid (HNC.out rfl)
        clear HYES HYC HNO HNC
        go_wp2
        go_roundw
        case rel => exact ⟨j + 1, by omega, by go_num, by rw [H1.out, H2.out]; exact HO2.out, hne, HW2.out, HB2.out⟩
        case measure => simp [intOf] <;> omega
      | true =>
        have H1 := hid (HYES.out rfl)
        have H2 := hid (HYC.out rfl)
        clear HYES HYC HNO HNC
        go_wp2_with (first | (at_builtin; go_must (refine wpList_app3 rfl _ _ 42 rfl W2.heap.size 9 (.string ByteArray.empty) 16 Tryd.underlying42 infoStr3 rfl _ cn (strVals (kp p L k j)) _ HO2.out rfl rfl rfl (by omega) (by unfold maxLen; omega) hszB g5 hne hg52 ?_); intro v' w5 hown5 hgr5 hne5))
        go_roundw
        case rel => exact ⟨j + 1, by omega, by go_num, by rw [H1.out, H2.out]; exact hown5, hne5, HW2.out.kept hgr5 (Or.inr fun e => hne (by rw [← e]; rfl)), HB2.out.grown hgr5 hszB (fun q hq => (HO2.out.lt q hq).1)⟩
        case measure => simp [intOf] <;> omega
    · obtain rfl : j = m := by omega
      obtain ⟨g, c3, rfl⟩ := slice_form hown
      have HBE := hid (HB.out.trans (hbel.mono HB.out.size))
      clear hown hwords hbel
      go_wp2
      go_ret
      exact ⟨g, c3, rfl, HBE.out⟩
end Go.Proofs.YtpfeflhcbcgbfaaDoor
