/- Rings that stay: both functions. No condition but the sizes. -/
import Derived.Test.YtccknookhkahbaaGreatRule
import Derived.Test.YtccknookhkahbaaGreatKept
namespace Go.Proofs.YtccknookhkahbaaGreat
open Go.RowKit

theorem box2 {w wr : World} {A B : Array Value} {S T : TypeId} (h : Below ((w.alloc (.cells A S)).alloc (.cells B T)).heap.size ((w.alloc (.cells A S)).alloc (.cells B T)) wr) :
    ((∀ k, wr.cell? ⟨w.heap.size, k, none⟩ = A[k]?) ∧ (∀ k, wr.frozen? ⟨w.heap.size, k, none⟩ = false)) ∧ ((∀ k, wr.cell? ⟨w.heap.size + 1, k, none⟩ = B[k]?) ∧ (∀ k, wr.frozen? ⟨w.heap.size + 1, k, none⟩ = false)) ∧ w.heap.size + 1 < wr.heap.size ∧ Below w.heap.size w wr := by
  have hs := h.size
  simp at hs
  refine ⟨⟨fun k => ?_, fun k => ?_⟩, ⟨fun k => ?_, fun k => ?_⟩, by omega, (((Below.refl _ _).alloc (Nat.le_refl _) _).alloc (by simp) _).trans (h.mono (by simp; omega))⟩
  · refine (h.cell (p := ⟨w.heap.size, k, none⟩) (by simp; omega)).trans ?_
    rw [World.cell?_alloc_past _ _ _ (by simp), World.cell?_alloc_at _ _ _ _ rfl]
  · refine (h.frozen (p := ⟨w.heap.size, k, none⟩) (by simp; omega)).trans ?_
    rw [World.frozen?_alloc_past _ _ _ (by simp), World.frozen?_alloc_at _ _ _ _ rfl]
  · refine (h.cell (p := ⟨w.heap.size + 1, k, none⟩) (by simp)).trans ?_
    rw [World.cell?_alloc_at _ _ _ _ (by simp)]
  · refine (h.frozen (p := ⟨w.heap.size + 1, k, none⟩) (by simp)).trans ?_
    rw [World.frozen?_alloc_at _ _ _ _ (by simp)]
/-- The three cells of a block, as the walk reads them. -/
theorem three {wr : World} {b : Nat} {x y z : Value} (h : ∀ k, wr.cell? ⟨b, k, none⟩ = (#[x, y, z] : Array Value)[k]?) : wr.cell? ⟨b, 0, none⟩ = some x ∧ wr.cell? ⟨b, 1, none⟩ = some y ∧ wr.cell? ⟨b, 2, none⟩ = some z := ⟨h 0, h 1, h 2⟩
theorem cells_below {w wr : World} {b B : Nat} {A : Array Value} (h : ∀ k, w.cell? ⟨b, k, none⟩ = A[k]?) (hb : Below B w wr) (hB : b < B) : ∀ k, wr.cell? ⟨b, k, none⟩ = A[k]? := fun k => (hb.cell (p := ⟨b, k, none⟩) hB).trans (h k)
theorem frozen_below {w wr : World} {b B : Nat} (h : ∀ k, w.frozen? ⟨b, k, none⟩ = false) (hb : Below B w wr) (hB : b < B) : ∀ k, wr.frozen? ⟨b, k, none⟩ = false := fun k => (hb.frozen (p := ⟨b, k, none⟩) hB).trans (h k)
/-- The text that a cell holds. -/
def outAt (V : World) (a : Addr) : ByteArray := match V.cell? a with | some (.string z) => z | _ => ByteArray.empty
theorem outAt_of {V : World} {a : Addr} {z : ByteArray} (h : V.cell? a = some (.string z)) : outAt V a = z := by unfold outAt; rw [h]
theorem held_out {V : World} {a : Addr} {z : ByteArray} (h : V.cell? a = some (.string z)) : V.cell? a = some (.string (outAt V a)) := by rw [outAt_of h]; exact h
end Go.Proofs.YtccknookhkahbaaGreat
namespace Go.Proofs.YtccknookhkahbaaGreat
open Go.RowKit

def fitsB (k n : Int) (o : ByteArray) (m : Int) : Bool := isCode k n o && (decide (k = 2) && inB m 1 8)
theorem fits_facts {k n : Int} {o : ByteArray} {m : Int} (h : fitsB k n o m = true) : k = 2 ∧ ∃ nn mm : Nat, n = nn ∧ m = mm ∧ RFit o nn mm := by
  unfold fitsB at h
  rw [Bool.and_eq_true, Bool.and_eq_true, decide_eq_true_eq, inB_iff] at h
  obtain ⟨hc, rfl, hm1, hm8⟩ := h
  obtain ⟨kk, nn, hkk, rfl, hk, hn, hp, ho, hl⟩ := code_facts hc
  obtain rfl : kk = 2 := by omega
  obtain ⟨mm, rfl⟩ : ∃ mm : Nat, m = mm := ⟨m.toNat, by omega⟩
  exact ⟨rfl, nn, mm, rfl, rfl, ⟨hn.1, hn.2, ho, hl, by omega, by omega, hc⟩⟩
def cntS (o : ByteArray) (n m : Nat) : Nat := ((List.range (2 ^ m)).filter (stays o n m)).length
set_option maxHeartbeats 2000000 in
theorem spec_l33Fits_c (k n : Int) (o : ByteArray) (m : Int) (w : World) (ho : o.size ≤ maxLen) :
    Calls Tryz.prog 42 #[.agg #[.int .i64 k, .int .i64 n, .string o], .int .i64 m] w fun e w' => e = .returned (.bool (fitsB k n o m)) ∧ Below w.heap.size w w' := by
  have HI := hid (fun w : World => spec_IsCode_c k n o w ho)
  cases hc : isCode k n o
  · rw [hc] at HI
    have HF := hid (show fitsB k n o m = false by simp [fitsB, hc])
    rw [HF.out]
    clear hc
    go_enter Tryz.func42, Tryz.ntmps42
    go_wp2_with fail
    refine (HI.out _).mono ?_
    rintro e w1 ⟨rfl, hb1⟩
    go_wp2
    go_ret
    exact ⟨rfl, ((Below.refl _ _).alloc (Nat.le_refl _) _).trans (hb1.mono (by simp))⟩
  · rw [hc] at HI
    obtain ⟨kk, nn, rfl, rfl, hk, hrest⟩ := code_facts hc
    have HF := hid (show fitsB kk nn o m = (decide ((kk : Int) = 2) && inB m 1 8) by unfold fitsB; rw [hc, Bool.true_and])
    rw [HF.out]
    clear hc hrest
    obtain ⟨k, hkk⟩ : ∃ k : Int, k = kk := ⟨_, rfl⟩
    obtain ⟨n, hnn⟩ : ∃ n : Int, n = nn := ⟨_, rfl⟩
    have hk2 : k = 2 ∨ k = 3 := by omega
    rw [← hkk, ← hnn] at HI
    rw [← hkk, ← hnn]
    clear hkk hnn hk
    rcases hk2 with rfl | rfl
    all_goals
      go_enter Tryz.func42, Tryz.ntmps42
      go_wp2_with fail
      refine (HI.out _).mono ?_
      rintro e w1 ⟨rfl, hb1⟩
      obtain ⟨⟨hc0, hc1, hc2⟩, _, hz⟩ := box3 hb1
      go_wp2_with (go_at_call 35; refine (l1In_c _ _ _ _).mono ?_; rintro e w' ⟨rfl, rfl⟩)
      go_ret
      exact ⟨ret_bool (by simp), ((Below.refl _ _).alloc (Nat.le_refl _) _).trans (hb1.mono (by simp))⟩
set_option maxHeartbeats 2000000 in
theorem impl_areRings_c (k n : Int) (o : ByteArray) (m : Int) (w : World) (ho : o.size ≤ maxLen) :
    Calls Tryz.prog 37 #[.agg #[.int .i64 k, .int .i64 n, .string o], .int .i64 m] w fun e w' => e = .returned (.bool (fitsB k n o m)) ∧ Below w.heap.size w w' := by
  have HI := hid (fun w : World => impl_IsCode_c k n o w ho)
  cases hc : isCode k n o
  · rw [hc] at HI
    have HF := hid (show fitsB k n o m = false by simp [fitsB, hc])
    rw [HF.out]
    clear hc
    go_enter Tryz.func37, Tryz.ntmps37
    go_wp2_with fail
    refine (HI.out _).mono ?_
    rintro e w1 ⟨rfl, hb1⟩
    go_wp2
    go_ret
    exact ⟨rfl, ((Below.refl _ _).alloc (Nat.le_refl _) _).trans (hb1.mono (by simp))⟩
  · rw [hc] at HI
    obtain ⟨kk, nn, rfl, rfl, hk, hrest⟩ := code_facts hc
    have HF := hid (show fitsB kk nn o m = (decide ((kk : Int) = 2) && inB m 1 8) by unfold fitsB; rw [hc, Bool.true_and])
    rw [HF.out]
    clear hc hrest
    obtain ⟨k, hkk⟩ : ∃ k : Int, k = kk := ⟨_, rfl⟩
    obtain ⟨n, hnn⟩ : ∃ n : Int, n = nn := ⟨_, rfl⟩
    have hk2 : k = 2 ∨ k = 3 := by omega
    rw [← hkk, ← hnn] at HI
    rw [← hkk, ← hnn]
    clear hkk hnn hk
    rcases hk2 with rfl | rfl
    all_goals
      by_cases hm1 : 1 ≤ m
      · by_cases hm8 : m ≤ 8
        · go_enter Tryz.func37, Tryz.ntmps37
          go_wp2_with fail
          refine (HI.out _).mono ?_
          rintro e w1 ⟨rfl, hb1⟩
          obtain ⟨⟨hc0, hc1, hc2⟩, _, hz⟩ := box3 hb1
          go_wp2
          go_ret
          exact ⟨ret_bool (by simp [inB, hm1, hm8]), ((Below.refl _ _).alloc (Nat.le_refl _) _).trans (hb1.mono (by simp))⟩
        · go_enter Tryz.func37, Tryz.ntmps37
          go_wp2_with fail
          refine (HI.out _).mono ?_
          rintro e w1 ⟨rfl, hb1⟩
          obtain ⟨⟨hc0, hc1, hc2⟩, _, hz⟩ := box3 hb1
          go_wp2
          go_ret
          exact ⟨ret_bool (by simp [inB, hm1, hm8]), ((Below.refl _ _).alloc (Nat.le_refl _) _).trans (hb1.mono (by simp))⟩
      · go_enter Tryz.func37, Tryz.ntmps37
        go_wp2_with fail
        refine (HI.out _).mono ?_
        rintro e w1 ⟨rfl, hb1⟩
        obtain ⟨⟨hc0, hc1, hc2⟩, _, hz⟩ := box3 hb1
        go_wp2
        go_ret
        exact ⟨ret_bool (by simp [inB, hm1] <;> omega), ((Below.refl _ _).alloc (Nat.le_refl _) _).trans (hb1.mono (by simp))⟩
def NextsPost (o : ByteArray) (n m : Nat) (w : World) (e : Ending) (w' : World) : Prop := ∃ v, e = .returned v ∧ w'.ownsRow w.heap.size 3 1 v (2 ^ m) (intVals (nexts o n m (2 ^ m))) ∧ Below w.heap.size w w'
theorem infoIntK : (Tryz.prog.info? 3).map (fun i => (i.zero, i.size, i.bytes)) = some (some (.int .i64 0), 1, 8) := by kernel_rfl
set_option maxHeartbeats 2000000 in
set_option maxRecDepth 100000 in
theorem spec_l33Next_c (n m : Nat) (o : ByteArray) (w : World) (ho : o.size ≤ maxLen) (h : RFit o n m) :
    Calls Tryz.prog 43 #[.agg #[.int .i64 2, .int .i64 n, .string o], .int .i64 m] w (NextsPost o n m w) := by
  have hps := pow_small (k := 2) (by omega) h.m8
  have HA := hid (fun w : World => show Calls Tryz.prog 49 #[.int .i64 2, .int .i64 m] w (WordsPost 2 m w) from spec_l2All_c 2 m w (by omega) h.m8)
  have HR := hid (fun (i : Nat) (w : World) => show Calls Tryz.prog 30 #[.agg #[.int .i64 2, .int .i64 n, .string o], .string (wdB 2 m i)] w fun e w' => e = .returned (.tuple #[.string (txt (rnB o n m i)), .bool true]) ∧ Below w.heap.size w w' from spec_ring_wd h i w ho)
  have HNU := hid (fun (i : Nat) (w : World) => show Calls Tryz.prog 73 #[.int .i64 2, .string (txt (rnB o n m i))] w fun e w' => e = .returned (.int .i64 (nextB o n m i : Int)) ∧ w = w' from
    l13Number_c 2 (txt (rnB o n m i)) w (by omega) (rn_facts h i).2 (by rw [txt_size, (rn_facts h i).1]; have := h.m8; omega))
  obtain ⟨M, hM⟩ : ∃ M, M = 2 ^ m := ⟨_, rfl⟩
  have hM1 : 1 ≤ M := by rw [hM]; exact Nat.one_le_pow _ _ (by omega)
  unfold WordsPost at HA
  unfold NextsPost
  rw [← hM] at HA hps
  rw [← hM]
  clear hM h
  go_enter Tryz.func43, Tryz.ntmps43
  go_wp2_with fail
  refine (HA.out _).mono ?_
  rintro e w1 ⟨v, rfl, hown, hb1⟩
  have hown2 := owns_base (base' := w.heap.size + 1) hown (by simp)
  obtain ⟨a5, c5, rfl, hr5⟩ := owns_rowAt hown2 (by omega)
  have HW2 := hid hown2
  have hbelB : Below (w.heap.size + 1) (w.alloc (.cells #[.int .i64 2, .int .i64 n, .string o] 25)) w1 := ((Below.refl _ _).alloc (by simp) _).trans (hb1.mono (by simp))
  have hown8 : w1.ownsRow (w.heap.size + 1) 3 1 (.slice (some ⟨w.heap.size + 1, 0, none⟩) 0 0) 0 (intVals (nexts o n m 0)) := owns_below (show ((w.alloc (.cells #[.int .i64 2, .int .i64 n, .string o] 25)).alloc (.cells #[] 3)).ownsRow (w.heap.size + 1) 3 1 (.slice (some ⟨w.heap.size + 1, 0, none⟩) 0 0) 0 (intVals (nexts o n m 0)) by
    have := owns_lit3 (w := w.alloc (.cells #[.int .i64 2, .int .i64 n, .string o] 25)) (base := w.heap.size + 1) (e := 3) #[] [] rfl (by simp) (by unfold maxLen; simp)
    rw [show nexts o n m 0 = [] from rfl]
    simpa [intVals] using this) hb1
  clear hown hown2 hr5
  go_wp2
  go_loopw [5, 7] (fun v i wr => ∃ j : Nat, j ≤ M ∧ i = .int .i64 j ∧ wr.ownsRow (w.heap.size + 1) 3 1 v j (intVals (nexts o n m j)) ∧ wr.ownsRow (w.heap.size + 1) 9 1 (.slice a5 M c5) M (strVals (wds 2 m M)) ∧ Below (w.heap.size + 1) (w.alloc (.cells #[.int .i64 2, .int .i64 n, .string o] 25)) wr) (fun _ i _ => M - (intOf i).toNat)
  case atStart => exact ⟨0, by omega, rfl, hown8, HW2.out, hbelB⟩
  case round =>
    obtain ⟨j, hj, rfl, hown, hwords, hbel⟩ := hrel
    have hsz : w.heap.size + 1 ≤ wr.heap.size := by have := hbel.size; simpa using this
    by_cases hlt : j < M
    · obtain ⟨a6, c6, he6, hr6⟩ := owns_rowAt hwords (by omega)
      simp only [Value.slice.injEq, true_and] at he6
      obtain ⟨rfl, rfl⟩ := he6
      obtain ⟨b5, o5, rfl, hb5, hcl5⟩ := hr6.at_ (by omega)
      have hcell := hcl5 j _ (strVals_get (wds_get hlt))
      have HO := hid hown
      have HWD := hid hwords
      have hj0 : (0 : Int) ≤ (j : Int) := by omega
      have hjM : (j : Int) < (M : Int) := by omega
      have HRj := hid (HR.out j)
      have HNj := hid (HNU.out j)
      obtain ⟨y, hy⟩ : ∃ y, y = txt (rnB o n m j) := ⟨_, rfl⟩
      obtain ⟨s, hs⟩ : ∃ s, s = wdB 2 m j := ⟨_, rfl⟩
      rw [← hy] at HRj HNj
      rw [← hs] at HRj hcell
      have hK := hid (show ∀ V, Below (w.heap.size + 1) (w.alloc (.cells #[.int .i64 2, .int .i64 n, .string o] 25)) V → V.cell? ⟨w.heap.size, 0, none⟩ = some (.int .i64 2) ∧ V.cell? ⟨w.heap.size, 1, none⟩ = some (.int .i64 n) ∧ V.cell? ⟨w.heap.size, 2, none⟩ = some (.string o) from fun V hV => ⟨(box_kept hV 0).1, (box_kept hV 1).1, (box_kept hV 2).1⟩)
      obtain ⟨h0, h1, h2⟩ := hK.out _ hbel
      have hbel0 := hbel.drew
      clear hr6 hcl5 hown hwords hy hs
      go_wp2
      go_region_held3 (fun V => V.cell? ⟨w.heap.size, 0, none⟩ = some (.int .i64 2) ∧ V.cell? ⟨w.heap.size, 1, none⟩ = some (.int .i64 n) ∧ V.cell? ⟨w.heap.size, 2, none⟩ = some (.string o) ∧ V.cell? ⟨b5, o5 + j, none⟩ = some (.string s) ∧ Below (w.heap.size + 1) (w.alloc (.cells #[.int .i64 2, .int .i64 n, .string o] 25)) V)
        (first | exact ⟨h0, h1, h2, hcell, hbel0⟩ | exact ⟨(hK.out _ hbel2).1, (hK.out _ hbel2).2.1, (hK.out _ hbel2).2.2, (hb2.cell (p := ⟨b5, o5 + j, none⟩) hb5).trans hcell, hbel2⟩)
        (first | (go_at_call 30; refine (HRj.out _).mono ?_; rintro e w2 ⟨rfl, hb2⟩; have hbel2 := hbel0.trans (hb2.mono hsz)))
      have hown2 := owns_below (owns_below HO.out (Below.refl _ _).drew) hb2
      have hw2 := owns_below (owns_below HWD.out (Below.refl _ _).drew) hb2
      have hsz2 : w.heap.size + 1 ≤ w2.heap.size := Nat.le_trans hsz hb2.size
      go_wp2_with fail
      refine (HNj.out _).mono ?_
      rintro e w' ⟨rfl, rfl⟩
      go_wp2_with (first | (at_builtin; go_must (refine wpList_appg rfl _ _ 36 rfl (w.heap.size + 1) 3 (.int .i64 0) 8 Tryz.underlying36 infoIntK rfl _ j (intVals (nexts o n m j)) _ hown2 rfl rfl rfl (by omega) (by unfold maxLen; omega) hsz2 ?_); intro v' w3 hown3 hgr3))
      go_roundw
      case rel => exact ⟨j + 1, by omega, by go_num, by rw [nexts_succ]; exact hown3, hw2.kept hgr3 (owns_ne hw2 hown2 (by decide)), hbel2.grown hgr3 hsz2 (fun k hk => (hown2.lt k hk).1)⟩
      case measure => simp [intOf]; omega
    · obtain rfl : j = M := by omega
      clear hwords
      go_wp2
      go_ret
      exact ⟨_, rfl, owns_base hown (by omega), ((Below.refl _ _).alloc (Nat.le_refl _) _).trans (hbel.mono (by omega))⟩
set_option maxHeartbeats 2000000 in
theorem spec_FixedOnRings_no (k n : Int) (o : ByteArray) (m : Int) (w : World) (ho : o.size ≤ maxLen) (h : fitsB k n o m = false) :
    Calls Tryz.prog 22 #[.agg #[.int .i64 k, .int .i64 n, .string o], .int .i64 m] w fun e w' => e = .returned (.int .i64 (-1)) ∧ Below w.heap.size w w' := by
  have HN := hid (fun w => spec_l33Fits_c k n o m w ho)
  rw [h] at HN
  clear h
  go_enter Tryz.func22, Tryz.ntmps22
  go_wp2_with fail
  refine (HN.out _).mono ?_
  rintro e w1 ⟨rfl, hb1⟩
  go_wp2
  go_ret
  exact ⟨rfl, ((Below.refl _ _).alloc (Nat.le_refl _) _).trans (hb1.mono (by simp))⟩
set_option maxHeartbeats 2000000 in
theorem impl_FixedOnRings_no (k n : Int) (o : ByteArray) (m : Int) (w : World) (ho : o.size ≤ maxLen) (h : fitsB k n o m = false) :
    Calls Tryz.prog 21 #[.agg #[.int .i64 k, .int .i64 n, .string o], .int .i64 m] w fun e w' => e = .returned (.int .i64 (-1)) ∧ Below w.heap.size w w' := by
  have HN := hid (fun w => impl_areRings_c k n o m w ho)
  rw [h] at HN
  clear h
  have hmf : ∀ (fn : Fn) (first cap : Array Value) (w : World), (Instr.makeFunc fn first cap).run Tryz.prog w = .ok (.func fn first cap) w := fun _ _ _ _ => rfl
  go_enter Tryz.func21, Tryz.ntmps21
  go_wp2_with fail
  refine (HN.out _).mono ?_
  rintro e w1 ⟨rfl, hb1⟩
  go_wp2
  go_ret
  exact ⟨rfl, ((Below.refl _ _).alloc (Nat.le_refl _) _).trans (hb1.mono (by simp))⟩
set_option maxHeartbeats 2000000 in
set_option maxRecDepth 100000 in
theorem spec_FixedOnRings_yes (n m : Nat) (o : ByteArray) (w : World) (ho : o.size ≤ maxLen) (h : RFit o n m) (hf : fitsB 2 n o m = true) :
    Calls Tryz.prog 22 #[.agg #[.int .i64 2, .int .i64 n, .string o], .int .i64 m] w fun e w' => e = .returned (.int .i64 (cntS o n m : Int)) ∧ Below w.heap.size w w' := by
  have hps := pow_small (k := 2) (by omega) h.m8
  have HN := hid (fun w => spec_l33Fits_c 2 n o m w ho)
  rw [hf] at HN
  have HX := hid (fun w => spec_l33Next_c n m o w ho h)
  have HST := hid (fun (i : Nat) (hi : i < 2 ^ m) => stays_iff h hi)
  unfold cntS
  unfold NextsPost at HX
  obtain ⟨M, hM⟩ : ∃ M, M = 2 ^ m := ⟨_, rfl⟩
  rw [← hM] at HX hps HST
  rw [← hM]
  clear hM hf h
  go_enter Tryz.func22, Tryz.ntmps22
  go_wp2_with fail
  refine (HN.out _).mono ?_
  rintro e w1 ⟨rfl, hb1⟩
  obtain ⟨⟨hc0, hc1, hc2⟩, _, hz⟩ := box3 hb1
  have hbw1 : Below w.heap.size w w1 := ((Below.refl _ _).alloc (Nat.le_refl _) _).trans (hb1.mono (by simp))
  go_wp2_with fail
  refine (HX.out _).mono ?_
  rintro e w2 ⟨v, rfl, hown, hb2⟩
  obtain ⟨a5, c5, rfl, hr5⟩ := owns_rowAt hown (by omega)
  have HR5 := hid hr5
  have hbw2 := bs hbw1 hb2
  clear hc0 hc1 hc2 hown hr5
  go_wp2
  go_loop [5, 7] (fun c i => ∃ j q : Nat, j ≤ M ∧ i = .int .i64 j ∧ c = .int .i64 q ∧ q ≤ j ∧ Hid (q = ((List.range j).filter (stays o n m)).length)) (fun _ i => M - (intOf i).toNat)
  case atStart => exact ⟨0, 0, by omega, rfl, rfl, by omega, rfl⟩
  case round =>
    obtain ⟨j, q, hj, rfl, rfl, hqj, HQ⟩ := hrel
    by_cases hlt : j < M
    · obtain ⟨b5, o5, rfl, hb5, hcl5⟩ := HR5.out.at_ (by omega)
      have hcell := hcl5 j _ (intVals_get (nexts_get hlt))
      have hst := HST.out j hlt
      obtain ⟨x, hx⟩ : ∃ x, x = nextB o n m j := ⟨_, rfl⟩
      rw [← hx] at hcell hst
      clear hcl5 hx
      cases hb : stays o n m j
      · rw [hb, decide_eq_false_iff_not] at hst
        have hxi : ((x : Int) == (j : Int)) = false := by rw [beq_eq_false_iff_ne]; intro e; exact hst (by omega)
        have hxn : ¬ ((x : Int) = (j : Int)) := by omega
        have HB := hid hb
        clear hb
        go_wp2_with (go_at_call 46; refine (l1Bit_c _ _).mono ?_; rintro e w' ⟨rfl, rfl⟩)
        go_round
        case rel => exact ⟨j + 1, q, by omega, by go_num, by go_num, by omega, by show _ = _; rw [cn_no HB.out]; exact HQ.out⟩
        case measure => simp [intOf]; omega
      · rw [hb, decide_eq_true_eq] at hst
        subst hst
        have HB := hid hb
        clear hb
        go_wp2_with (go_at_call 46; refine (l1Bit_c _ _).mono ?_; rintro e w' ⟨rfl, rfl⟩)
        go_round
        case rel => exact ⟨x + 1, q + 1, by omega, by go_num, by go_num, by omega, by show _ = _; rw [cn_yes HB.out]; rw [HQ.out]⟩
        case measure => simp [intOf]; omega
    · obtain rfl : j = M := by omega
      go_wp2
      go_ret
      exact ⟨ret_int (by rw [HQ.out]), hbw2⟩
set_option maxHeartbeats 2000000 in
set_option maxRecDepth 100000 in
theorem impl_FixedOnRings_yes (n m : Nat) (o : ByteArray) (w : World) (ho : o.size ≤ maxLen) (h : RFit o n m) (hf : fitsB 2 n o m = true) :
    Calls Tryz.prog 21 #[.agg #[.int .i64 2, .int .i64 n, .string o], .int .i64 m] w fun e w' => e = .returned (.int .i64 (cntS o n m : Int)) ∧ Below w.heap.size w w' := by
  have hps := pow_small (k := 2) (by omega) h.m8
  have HN := hid (fun w => impl_areRings_c 2 n o m w ho)
  rw [hf] at HN
  have hmf : ∀ (fn : Fn) (first cap : Array Value) (w : World), (Instr.makeFunc fn first cap).run Tryz.prog w = .ok (.func fn first cap) w := fun _ _ _ _ => rfl
  have HFD := hid (fun (W : World) (hb : w.heap.size < W.heap.size) (hc0 : W.cell? ⟨w.heap.size, 0, none⟩ = some (.int .i64 2)) (hc1 : W.cell? ⟨w.heap.size, 1, none⟩ = some (.int .i64 n)) (hc2 : W.cell? ⟨w.heap.size, 2, none⟩ = some (.string o)) =>
    show Calls Tryz.prog 47 #[.int .i64 2, .int .i64 m, .func (.func 48) #[] #[.pointer (some ⟨w.heap.size, 0, none⟩)]] W (KeptPost (stays o n m) 2 m W) from
    filtered_c 2 m 48 (.pointer (some ⟨w.heap.size, 0, none⟩)) (stays o n m) W (by omega) h.m8 (fun i w2 _ hw2 => fixed1_c n m i w.heap.size o W w2 h hb hw2 hc0 hc1 hc2) (fun x w => Tryz.call48 _ w))
  unfold KeptPost at HFD
  have HC := hid (show cntS o n m = ((List.range (2 ^ m)).filter (stays o n m)).length from rfl)
  have hcl := kp_le (stays o n m) (2 ^ m)
  obtain ⟨c, hc⟩ : ∃ c, c = ((List.range (2 ^ m)).filter (stays o n m)).length := ⟨_, rfl⟩
  rw [← hc] at HFD HC hcl
  rw [HC.out]
  have hc2 : c ≤ 6561 := by omega
  clear hc hcl hps hf h
  go_enter Tryz.func21, Tryz.ntmps21
  go_wp2_with fail
  refine (HN.out _).mono ?_
  rintro e w1 ⟨rfl, hb1⟩
  obtain ⟨⟨hc0, hc1, hc2⟩, _, hz⟩ := box3 hb1
  have hbw1 : Below w.heap.size w w1 := ((Below.refl _ _).alloc (Nat.le_refl _) _).trans (hb1.mono (by simp))
  go_wp2_with fail
  refine (HFD.out _ hz hc0 hc1 hc2).mono ?_
  rintro e w2 ⟨v, rfl, hown, hb2⟩
  obtain ⟨a5, c5, rfl, hr5⟩ := owns_rowAt hown (by omega)
  have hbw2 := bs hbw1 hb2
  clear hc0 hc1 hc2 hown hr5
  go_wp2
  go_ret
  exact ⟨rfl, hbw2⟩
end Go.Proofs.YtccknookhkahbaaGreat
