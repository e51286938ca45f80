/- Codes that undo another one, the least width of one: both functions. Conditions: a code, a width from 1 to 4. -/
import Derived.Test.YtcmmlldincflkaaDoorTryI
namespace Go.Proofs.YtcmmlldincflkaaDoor
open Go.RowKit

/-- The first place among j at which a code is undone. -/
def seekT (o : ByteArray) (k n m : Nat) : Nat → Option (Nat × ByteArray)
  | 0 => none
  | j + 1 => match seekT o k n m j with
    | some r => some r
    | none => (tryO o k n m j).map fun s => (j, s)
theorem seek_more {o : ByteArray} {k n m j : Nat} {r : Nat × ByteArray} (h : seekT o k n m j = some r) : ∀ q, seekT o k n m (j + q) = some r
  | 0 => h
  | q + 1 => by
    show seekT o k n m ((j + q) + 1) = _
    rw [seekT, seek_more h q]
theorem seek_hit {o : ByteArray} {k n m j : Nat} {s : ByteArray} (h : seekT o k n m j = none) (ht : tryO o k n m j = some s) : seekT o k n m (j + 1) = some (j, s) := by rw [seekT, h, ht]; rfl
theorem seek_no {o : ByteArray} {k n m j : Nat} (h : seekT o k n m j = none) (ht : tryO o k n m j = none) : seekT o k n m (j + 1) = none := by rw [seekT, h, ht]; rfl
def undT (o : ByteArray) (k n m : Nat) : Option (Nat × ByteArray) := if k ^ m ≤ 27 then seekT o k n m (n + m - 1) else none
theorem undT_hit {o : ByteArray} {k n m j : Nat} {s : ByteArray} (h27 : k ^ m ≤ 27) (h : seekT o k n m j = none) (ht : tryO o k n m j = some s) (hj : j < n + m - 1) : undT o k n m = some (j, s) := by
  have := seek_more (seek_hit h ht) (n + m - 1 - (j + 1))
  rw [show j + 1 + (n + m - 1 - (j + 1)) = n + m - 1 by omega] at this
  unfold undT
  rw [if_pos h27, this]
def undR (k m : Nat) (r : Option (Nat × ByteArray)) : Value := match r with
  | some (a, s) => .tuple #[.agg #[.int .i64 k, .int .i64 m, .string s], .int .i64 a, .bool true]
  | none => .tuple #[.agg #[.int .i64 0, .int .i64 0, .string ⟨#[]⟩], .int .i64 0, .bool false]
set_option maxHeartbeats 4000000 in
set_option maxRecDepth 100000 in
theorem spec_UndoingCode_yes (k n m : Nat) (o : ByteArray) (w : World) (ho : o.size ≤ maxLen) (h : isCode k n o = true) (hm1 : 1 ≤ m) (hm4 : m ≤ 4) :
    Calls Tryd.prog 26 #[.agg #[.int .i64 k, .int .i64 n, .string o], .int .i64 m] w fun e w' => e = .returned (undR k m (undT o k n m)) ∧ Below w.heap.size w w' := by
  have hP := code_P h
  have hk := hP.k23
  have hn1 := hP.n1
  have hn4 := hP.n4
  have hk3 : k ≤ 3 := by omega
  obtain ⟨L, hL⟩ : ∃ L, L = n + m - 1 := ⟨_, rfl⟩
  have hLi : (n : Int) + (m : Int) - 1 = (L : Int) := by omega
  have hL7 : L ≤ 7 := by omega
  have hm1' : ¬ ((m : Int) < 1) := by omega
  have hm4' : ¬ ((4 : Int) < (m : Int)) := by omega
  have hin := inB_t (x := (m : Int)) (lo := 1) (hi := 4) (by omega)
  obtain ⟨P, hPe⟩ : ∃ P, P = k ^ m := ⟨_, rfl⟩
  have hP81 : P ≤ 6561 := by rw [hPe]; exact pow_small hk3 (by omega)
  have HI := hid (fun w : World => spec_IsCode_c k n o w ho)
  rw [h] at HI
  have HPW := hid (fun w => spec_l11Power_c k m hk3 hm4 w)
  try rw [show powN k m = k ^ m from rfl] at HPW
  rw [← hPe] at HPW
  have HBX := hid (fun (V : World) (hV : Below ((w.alloc (.cells #[.int .i64 k, .int .i64 n, .string o] 26)).alloc (.cells #[.int .i64 0, .int .i64 0, .string ⟨#[]⟩] 26)).heap.size ((w.alloc (.cells #[.int .i64 k, .int .i64 n, .string o] 26)).alloc (.cells #[.int .i64 0, .int .i64 0, .string ⟨#[]⟩] 26)) V) => show (V.cell? ⟨w.heap.size, 0, none⟩ = some (.int .i64 k) ∧ V.cell? ⟨w.heap.size, 1, none⟩ = some (.int .i64 n) ∧ V.cell? ⟨w.heap.size, 2, none⟩ = some (.string o)) ∧ (∀ q, V.cell? ⟨w.heap.size + 1, q, none⟩ = (#[.int .i64 0, .int .i64 0, .string ⟨#[]⟩] : Array Value)[q]?) ∧ (∀ q, V.frozen? ⟨w.heap.size + 1, q, none⟩ = false) ∧ w.heap.size + 1 < V.heap.size ∧ Below w.heap.size w V from by
    obtain ⟨⟨h1, _⟩, ⟨h2, h3⟩, h4, h5⟩ := box2 hV
    exact ⟨⟨h1 0, h1 1, h1 2⟩, h2, h3, h4, h5⟩)
  by_cases h27 : P ≤ 27
  · have hp27 : ¬ ((27 : Int) < (P : Int)) := by omega
    have HTR := hid (fun (j : Nat) (w : World) (hj : j < L) => spec_l13Try_c k n m j o w ⟨hP, hm1, hm4, by rw [← hPe]; exact h27, by omega⟩)
    have HYE := hid (fun (j : Nat) (s : ByteArray) (h : seekT o k n m j = none) (ht : tryO o k n m j = some s) (hj : j < L) => show undT o k n m = some (j, s) from undT_hit (by rw [← hPe]; exact h27) h ht (by omega))
    have HNO := hid (fun (h : seekT o k n m L = none) => show undT o k n m = none from by unfold undT; rw [← hPe, if_pos h27, ← hL]; exact h)
    obtain ⟨V, hV⟩ : ∃ V, V = undT o k n m := ⟨_, rfl⟩
    rw [← hV] at HYE HNO
    rw [← hV]
    clear h hP hk hn1 hn4 hL hPe hV
    go_enter Tryd.func26, Tryd.ntmps26
    go_wp2_with (first | (go_at_call 8; refine (HI.out _).mono ?_; rintro e w1 ⟨rfl, hb1⟩; obtain ⟨⟨s0, s1, s2⟩, _⟩ := HBX.out w1 hb1) | (go_at_call 21; refine (l1In_c _ _ _ _).mono ?_; rintro e w' ⟨rfl, rfl⟩) | (go_at_call 22; refine (HPW.out _).mono ?_; rintro e w' ⟨rfl, rfl⟩))
    have HB := hid hb1
    clear hb1 HI HPW s0 s1 s2
    go_loopw [7] (fun i wr => ∃ j : Nat, j ≤ L ∧ i = .int .i64 j ∧ Hid (seekT o k n m j = none) ∧ Hid (Below ((w.alloc (.cells #[.int .i64 k, .int .i64 n, .string o] 26)).alloc (.cells #[.int .i64 0, .int .i64 0, .string ⟨#[]⟩] 26)).heap.size ((w.alloc (.cells #[.int .i64 k, .int .i64 n, .string o] 26)).alloc (.cells #[.int .i64 0, .int .i64 0, .string ⟨#[]⟩] 26)) wr)) (fun i _ => L - (intOf i).toNat)
    case atStart => exact ⟨0, by omega, rfl, hid rfl, HB⟩
    case round =>
      clear HB
      obtain ⟨j, hj, rfl, HS, HB⟩ := hrel
      by_cases hlt : j < L
      · have hji : (j : Int) < (L : Int) := by omega
        obtain ⟨⟨s0, s1, s2⟩, _⟩ := HBX.out wr HB.out
        have HT := hid (HTR.out j)
        cases ht : tryO o k n m j with
        | none =>
          rw [ht] at HT
          simp only [tryV] at HT
          have HN := hid (seek_no HS.out ht)
          clear ht
          go_wp2_with fail
          refine (HT.out _ hlt).mono ?_
          rintro e w2 ⟨rfl, hb2⟩
          have HB2 := hid (HB.out.trans (hb2.mono HB.out.size))
          clear hb2 s0 s1 s2
          go_wp2
          go_roundw
          case rel => exact ⟨j + 1, by omega, by go_num, HN, HB2⟩
          case measure => simp [intOf]; omega
        | some s =>
          rw [ht] at HT
          simp only [tryV] at HT
          have HN := hid (HYE.out j s HS.out ht hlt)
          clear ht
          go_wp2_with fail
          refine (HT.out _ hlt).mono ?_
          rintro e w2 ⟨rfl, hb2⟩
          have HB2 := hid (HB.out.trans (hb2.mono HB.out.size))
          clear hb2 s0 s1 s2
          obtain ⟨⟨h0, h1, h2⟩, hC, hF, hlt5, hBF⟩ := HBX.out _ HB2.out
          obtain ⟨r0, r1, r2⟩ := three hC
          have u0 := hF 0
          have u1 := hF 1
          have u2 := hF 2
          clear hC hF
          go_wp2
          refine bodyPost_ret (v := .tuple #[.agg #[.int .i64 k, .int .i64 m, .string s], .int .i64 j, .bool true]) (by simp [results, Tryd.results26, go_sem, r0, r1, r2]) rfl ⟨by rw [HN.out]; rfl, ?_⟩
          exact ((hBF.setCell (by simp) _).setCell (by simp) _).setCell (by simp) _
      · obtain rfl : j = L := by omega
        have HN := hid (HNO.out HS.out)
        obtain ⟨⟨h0, h1, h2⟩, hC, hF, hlt5, hBF⟩ := HBX.out _ HB.out
        obtain ⟨r0, r1, r2⟩ := three hC
        have u0 := hF 0
        have u1 := hF 1
        have u2 := hF 2
        clear hC hF
        go_wp2
        refine bodyPost_ret (v := .tuple #[.agg #[.int .i64 0, .int .i64 0, .string ⟨#[]⟩], .int .i64 0, .bool false]) (by simp [results, Tryd.results26, go_sem, r0, r1, r2]) rfl ⟨by rw [HN.out]; rfl, ?_⟩
        first | exact hBF | exact ((hBF.setCell (by simp) _).setCell (by simp) _).setCell (by simp) _
  · have hp27 : (27 : Int) < (P : Int) := by omega
    have HN := hid (show undT o k n m = none by unfold undT; rw [← hPe, if_neg h27])
    clear h hP hk hn1 hn4 hL hPe
    go_enter Tryd.func26, Tryd.ntmps26
    go_wp2_with (first | (go_at_call 8; refine (HI.out _).mono ?_; rintro e w1 ⟨rfl, hb1⟩; obtain ⟨⟨s0, s1, s2⟩, hC, hF, hlt5, hBF⟩ := HBX.out w1 hb1; obtain ⟨r0, r1, r2⟩ := three hC; have u0 := hF 0; have u1 := hF 1; have u2 := hF 2) | (go_at_call 21; refine (l1In_c _ _ _ _).mono ?_; rintro e w' ⟨rfl, rfl⟩) | (go_at_call 22; refine (HPW.out _).mono ?_; rintro e w' ⟨rfl, rfl⟩))
    refine bodyPost_ret (v := .tuple #[.agg #[.int .i64 0, .int .i64 0, .string ⟨#[]⟩], .int .i64 0, .bool false]) (by simp [results, Tryd.results26, go_sem, r0, r1, r2]) rfl ⟨by rw [HN.out]; rfl, ?_⟩
    first | exact hBF | exact ((hBF.setCell (by simp) _).setCell (by simp) _).setCell (by simp) _
set_option maxHeartbeats 4000000 in
set_option maxRecDepth 100000 in
theorem impl_UndoingCode_yes (k n m : Nat) (o : ByteArray) (w : World) (ho : o.size ≤ maxLen) (h : isCode k n o = true) (hm1 : 1 ≤ m) (hm4 : m ≤ 4) :
    Calls Tryd.prog 33 #[.agg #[.int .i64 k, .int .i64 n, .string o], .int .i64 m] w fun e w' => e = .returned (undR k m (undT o k n m)) ∧ Below w.heap.size w w' := by
  have hP := code_P h
  have hk := hP.k23
  have hn1 := hP.n1
  have hn4 := hP.n4
  have hk3 : k ≤ 3 := by omega
  obtain ⟨L, hL⟩ : ∃ L, L = n + m - 1 := ⟨_, rfl⟩
  have hLi : (n : Int) + (m : Int) - 1 = (L : Int) := by omega
  have hL7 : L ≤ 7 := by omega
  have hm1' : ¬ ((m : Int) < 1) := by omega
  have hm4' : ¬ ((4 : Int) < (m : Int)) := by omega
  have hin := inB_t (x := (m : Int)) (lo := 1) (hi := 4) (by omega)
  obtain ⟨P, hPe⟩ : ∃ P, P = k ^ m := ⟨_, rfl⟩
  have hP81 : P ≤ 6561 := by rw [hPe]; exact pow_small hk3 (by omega)
  have HI := hid (fun w : World => impl_IsCode_c k n o w ho)
  rw [h] at HI
  have HPW := hid (fun w => impl_powB_c k m hk3 (by omega) w)
  try rw [show powN k m = k ^ m from rfl] at HPW
  rw [← hPe] at HPW
  have HBX := hid (fun (V : World) (hV : Below ((w.alloc (.cells #[.int .i64 k, .int .i64 n, .string o] 26)).alloc (.cells #[.int .i64 0, .int .i64 0, .string ⟨#[]⟩] 26)).heap.size ((w.alloc (.cells #[.int .i64 k, .int .i64 n, .string o] 26)).alloc (.cells #[.int .i64 0, .int .i64 0, .string ⟨#[]⟩] 26)) V) => show (V.cell? ⟨w.heap.size, 0, none⟩ = some (.int .i64 k) ∧ V.cell? ⟨w.heap.size, 1, none⟩ = some (.int .i64 n) ∧ V.cell? ⟨w.heap.size, 2, none⟩ = some (.string o)) ∧ (∀ q, V.cell? ⟨w.heap.size + 1, q, none⟩ = (#[.int .i64 0, .int .i64 0, .string ⟨#[]⟩] : Array Value)[q]?) ∧ (∀ q, V.frozen? ⟨w.heap.size + 1, q, none⟩ = false) ∧ w.heap.size + 1 < V.heap.size ∧ Below w.heap.size w V from by
    obtain ⟨⟨h1, _⟩, ⟨h2, h3⟩, h4, h5⟩ := box2 hV
    exact ⟨⟨h1 0, h1 1, h1 2⟩, h2, h3, h4, h5⟩)
  by_cases h27 : P ≤ 27
  · have hp27 : ¬ ((27 : Int) < (P : Int)) := by omega
    have HTR := hid (fun (j : Nat) (w : World) (hj : j < L) => impl_undoing_c k n m j o w ⟨hP, hm1, hm4, by rw [← hPe]; exact h27, by omega⟩)
    have HYE := hid (fun (j : Nat) (s : ByteArray) (h : seekT o k n m j = none) (ht : tryO o k n m j = some s) (hj : j < L) => show undT o k n m = some (j, s) from undT_hit (by rw [← hPe]; exact h27) h ht (by omega))
    have HNO := hid (fun (h : seekT o k n m L = none) => show undT o k n m = none from by unfold undT; rw [← hPe, if_pos h27, ← hL]; exact h)
    obtain ⟨V, hV⟩ : ∃ V, V = undT o k n m := ⟨_, rfl⟩
    rw [← hV] at HYE HNO
    rw [← hV]
    clear h hP hk hn1 hn4 hL hPe hV
    go_enter Tryd.func33, Tryd.ntmps33
    go_wp2_with (first | (go_at_call 14; refine (HI.out _).mono ?_; rintro e w1 ⟨rfl, hb1⟩; obtain ⟨⟨s0, s1, s2⟩, _⟩ := HBX.out w1 hb1) | (go_at_call 27; refine (HPW.out _).mono ?_; rintro e w' ⟨rfl, rfl⟩))
    have HB := hid hb1
    clear hb1 HI HPW s0 s1 s2
    go_loopw [34] (fun i wr => ∃ j : Nat, j ≤ L ∧ i = .int .i64 j ∧ Hid (seekT o k n m j = none) ∧ Hid (Below ((w.alloc (.cells #[.int .i64 k, .int .i64 n, .string o] 26)).alloc (.cells #[.int .i64 0, .int .i64 0, .string ⟨#[]⟩] 26)).heap.size ((w.alloc (.cells #[.int .i64 k, .int .i64 n, .string o] 26)).alloc (.cells #[.int .i64 0, .int .i64 0, .string ⟨#[]⟩] 26)) wr)) (fun i _ => L - (intOf i).toNat)
    case atStart => exact ⟨0, by omega, rfl, hid rfl, HB⟩
    case round =>
      clear HB
      obtain ⟨j, hj, rfl, HS, HB⟩ := hrel
      by_cases hlt : j < L
      · have hji : (j : Int) < (L : Int) := by omega
        obtain ⟨⟨s0, s1, s2⟩, _⟩ := HBX.out wr HB.out
        have HT := hid (HTR.out j)
        cases ht : tryO o k n m j with
        | none =>
          rw [ht] at HT
          simp only [undV] at HT
          have HN := hid (seek_no HS.out ht)
          clear ht
          go_wp2_with fail
          refine (HT.out _ hlt).mono ?_
          rintro e w2 ⟨rfl, hb2⟩
          have HB2 := hid ((HB.out.trans (hb2.mono HB.out.size)).alloc (HB.out.trans (hb2.mono HB.out.size)).size (.cells #[.int .i64 0, .int .i64 0, .string ⟨#[]⟩] 26))
          clear hb2 s0 s1 s2
          go_wp2
          go_roundw
          case rel => exact ⟨j + 1, by omega, by go_num, HN, HB2⟩
          case measure => simp [intOf]; omega
        | some s =>
          rw [ht] at HT
          simp only [undV] at HT
          have HN := hid (HYE.out j s HS.out ht hlt)
          clear ht
          go_wp2_with fail
          refine (HT.out _ hlt).mono ?_
          rintro e w2 ⟨rfl, hb2⟩
          have HB2 := hid ((HB.out.trans (hb2.mono HB.out.size)).alloc (HB.out.trans (hb2.mono HB.out.size)).size (.cells #[.int .i64 k, .int .i64 m, .string s] 26))
          clear hb2 s0 s1 s2
          obtain ⟨_, hC, hF, hlt5, hBF⟩ := HBX.out _ HB2.out
          obtain ⟨r0, r1, r2⟩ := three hC
          have u0 := hF 0
          have u1 := hF 1
          have u2 := hF 2
          clear hC hF
          go_wp2
          refine bodyPost_ret (v := .tuple #[.agg #[.int .i64 k, .int .i64 m, .string s], .int .i64 j, .bool true]) (by simp [results, Tryd.results33, go_sem, r0, r1, r2]) rfl ⟨by rw [HN.out]; rfl, ?_⟩
          exact ((hBF.setCell (by simp) _).setCell (by simp) _).setCell (by simp) _
      · obtain rfl : j = L := by omega
        have HN := hid (HNO.out HS.out)
        obtain ⟨⟨h0, h1, h2⟩, hC, hF, hlt5, hBF⟩ := HBX.out _ HB.out
        obtain ⟨r0, r1, r2⟩ := three hC
        have u0 := hF 0
        have u1 := hF 1
        have u2 := hF 2
        clear hC hF
        go_wp2
        refine bodyPost_ret (v := .tuple #[.agg #[.int .i64 0, .int .i64 0, .string ⟨#[]⟩], .int .i64 0, .bool false]) (by simp [results, Tryd.results33, go_sem, r0, r1, r2]) rfl ⟨by rw [HN.out]; rfl, ?_⟩
        first | exact hBF | exact ((hBF.setCell (by simp) _).setCell (by simp) _).setCell (by simp) _
  · have hp27 : (27 : Int) < (P : Int) := by omega
    have HN := hid (show undT o k n m = none by unfold undT; rw [← hPe, if_neg h27])
    clear h hP hk hn1 hn4 hL hPe
    go_enter Tryd.func33, Tryd.ntmps33
    go_wp2_with (first | (go_at_call 14; refine (HI.out _).mono ?_; rintro e w1 ⟨rfl, hb1⟩; obtain ⟨⟨s0, s1, s2⟩, hC, hF, hlt5, hBF⟩ := HBX.out w1 hb1; obtain ⟨r0, r1, r2⟩ := three hC; have u0 := hF 0; have u1 := hF 1; have u2 := hF 2) | (go_at_call 27; refine (HPW.out _).mono ?_; rintro e w' ⟨rfl, rfl⟩))
    refine bodyPost_ret (v := .tuple #[.agg #[.int .i64 0, .int .i64 0, .string ⟨#[]⟩], .int .i64 0, .bool false]) (by simp [results, Tryd.results33, go_sem, r0, r1, r2]) rfl ⟨by rw [HN.out]; rfl, ?_⟩
    first | exact hBF | exact ((hBF.setCell (by simp) _).setCell (by simp) _).setCell (by simp) _
end Go.Proofs.YtcmmlldincflkaaDoor
