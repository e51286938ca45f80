/- What a report on a code says: both functions. Conditions: sizes within the reach; for the program's, the laid table of powers of ten. -/
import Derived.Test.YtcmmlldincflkaaDoorUndo
import Derived.Test.YtcmmlldincflkaaDoorOrpI
import Derived.Test.YtcmmlldincflkaaDoorOneI
import Derived.Test.YtcmmlldincflkaaDoorOntoS
import Derived.Test.YtcmmlldincflkaaDoorNums
import Derived.Test.YtcmmlldincflkaaDoorRulesW
namespace Go.Proofs.YtcmmlldincflkaaDoor
open Go.RowKit

/-- The least width of an undoing code among the first j. -/
def seekU (o : ByteArray) (k n : Nat) : Nat → Option Nat
  | 0 => none
  | j + 1 => match seekU o k n j with
    | some r => some r
    | none => if (undT o k n (j + 1)).isSome then some (j + 1) else none
theorem seekU_more {o : ByteArray} {k n j r : Nat} (h : seekU o k n j = some r) : ∀ q, seekU o k n (j + q) = some r
  | 0 => h
  | q + 1 => by
    show seekU o k n ((j + q) + 1) = _
    rw [seekU, seekU_more h q]
theorem seekU_le {o : ByteArray} {k n r : Nat} : ∀ {j : Nat}, seekU o k n j = some r → r ≤ j
  | 0, h => by cases h
  | j + 1, h => by
    rw [seekU] at h
    cases hs : seekU o k n j with
    | some q =>
      rw [hs] at h
      injection h with h
      have := seekU_le hs
      omega
    | none =>
      rw [hs] at h
      simp only at h
      split at h
      · injection h with h; omega
      · cases h
def leastU (o : ByteArray) (k n : Nat) : Nat := (seekU o k n 4).getD 0
theorem leastU_hit {o : ByteArray} {k n j : Nat} (h : seekU o k n j = none) (hu : (undT o k n (j + 1)).isSome = true) (hj : j < 4) : leastU o k n = j + 1 := by
  have h1 : seekU o k n (j + 1) = some (j + 1) := by rw [seekU, h]; simp only [hu, if_true]
  have h2 := seekU_more h1 (4 - (j + 1))
  rw [show j + 1 + (4 - (j + 1)) = 4 by omega] at h2
  unfold leastU; rw [h2]; rfl
theorem leastU_no {o : ByteArray} {k n : Nat} (h : seekU o k n 4 = none) : leastU o k n = 0 := by unfold leastU; rw [h]; rfl
theorem seekU_no {o : ByteArray} {k n j : Nat} (h : seekU o k n j = none) (hu : undT o k n (j + 1) = none) : seekU o k n (j + 1) = none := by rw [seekU, h, hu]; rfl
theorem leastU_le (o : ByteArray) (k n : Nat) : leastU o k n ≤ 4 := by
  unfold leastU
  cases h : seekU o k n 4 with
  | none => simp
  | some r => exact seekU_le h
/-- The word without a source that is told. -/
def firstV (r : Option (List UInt8)) : Value := match r with
  | some l => if l.length ≤ 8 then .tuple #[.string (wordB l), .bool true] else .tuple #[.string ⟨#[]⟩, .bool false]
  | none => .tuple #[.string ⟨#[]⟩, .bool false]
def orpO (o : ByteArray) (k n : Nat) : Option (List UInt8) := srchAll (fun s a => stepS o k (powN k (n - 1)) s a) k (2 ^ powN k (n - 1) - 1)
set_option maxHeartbeats 4000000 in
set_option maxRecDepth 100000 in
theorem spec_LeastUndoing_yes (k n : Nat) (o : ByteArray) (w : World) (ho : o.size ≤ maxLen) (h : isCode k n o = true) :
    Calls Tryd.prog 13 #[.agg #[.int .i64 k, .int .i64 n, .string o]] w fun e w' => e = .returned (.int .i64 (leastU o k n : Int)) ∧ Below w.heap.size w w' := by
  obtain ⟨kk, nn, hkk, hnn, _⟩ := code_facts h
  have HU := hid (fun (m : Nat) (w : World) (h1 : 1 ≤ m) (h4 : m ≤ 4) => spec_UndoingCode_yes k n m o w ho h h1 h4)
  have HHIT := hid (fun (j : Nat) (hs : seekU o k n j = none) (hu : (undT o k n (j + 1)).isSome = true) (hj : j < 4) => leastU_hit hs hu hj)
  have HNO := hid (fun (hs : seekU o k n 4 = none) => leastU_no hs)
  obtain ⟨V, hV⟩ : ∃ V, V = leastU o k n := ⟨_, rfl⟩
  rw [← hV] at HHIT HNO
  rw [← hV]
  clear h hkk hnn hV
  go_enter Tryd.func13, Tryd.ntmps13
  have HBX := hid (fun (V : World) (hV : Below (w.heap.size + 1) (w.alloc (.cells #[.int .i64 k, .int .i64 n, .string o] 26)) V) => show (V.cell? ⟨w.heap.size, 0, none⟩ = some (.int .i64 k) ∧ V.cell? ⟨w.heap.size, 1, none⟩ = some (.int .i64 n) ∧ V.cell? ⟨w.heap.size, 2, none⟩ = some (.string o)) ∧ Below w.heap.size w V from ⟨⟨(box_kept hV 0).1, (box_kept hV 1).1, (box_kept hV 2).1⟩, ((Below.refl _ _).alloc (Nat.le_refl _) _).trans (hV.mono (by omega))⟩)
  go_wp2
  go_loopw [3] (fun i wr => ∃ j : Nat, j ≤ 4 ∧ i = .int .i64 ((j : Int) + 1) ∧ Hid (seekU o k n j = none) ∧ Hid (Below (w.heap.size + 1) (w.alloc (.cells #[.int .i64 k, .int .i64 n, .string o] 26)) wr)) (fun i _ => 5 - (intOf i).toNat)
  case atStart => exact ⟨0, by omega, rfl, hid rfl, hid (by have := Below.refl (w.alloc (.cells #[.int .i64 k, .int .i64 n, .string o] 26)).heap.size (w.alloc (.cells #[.int .i64 k, .int .i64 n, .string o] 26)); rw [World.size_alloc] at this; exact this)⟩
  case round =>
    obtain ⟨j, hj, rfl, HS, HB⟩ := hrel
    by_cases hlt : j < 4
    · have hji : (j : Int) + 1 ≤ 4 := by omega
      obtain ⟨⟨s0, s1, s2⟩, _⟩ := HBX.out wr HB.out
      have HUj := hid (fun w => HU.out (j + 1) w (by omega) (by omega))
      have hcast : ((j + 1 : Nat) : Int) = (j : Int) + 1 := by omega
      have hbs : w.heap.size + 1 ≤ wr.heap.size := by have := HB.out.size; rw [World.size_alloc] at this; exact this
      cases hu : undT o k n (j + 1) with
      | none =>
        rw [hu, hcast] at HUj
        simp only [undR] at HUj
        have HN := hid (seekU_no HS.out hu)
        clear hu hcast
        go_wp2_with fail
        refine (HUj.out _).mono ?_
        rintro e w2 ⟨rfl, hb2⟩
        have HB2 := hid ((HB.out.trans (hb2.mono hbs)).alloc (Nat.le_trans hbs hb2.size) (.cells #[.int .i64 0, .int .i64 0, .string ⟨#[]⟩] 26))
        clear hb2 s0 s1 s2
        go_wp2
        go_roundw
        case rel => exact ⟨j + 1, by omega, by go_num, HN, HB2⟩
        case measure => simp [intOf]; omega
      | some r =>
        obtain ⟨q, s⟩ := r
        have HN := hid (HHIT.out j HS.out (by rw [hu]; rfl) hlt)
        rw [hu, hcast] at HUj
        simp only [undR] at HUj
        rw [hcast] at HUj
        clear hu hcast
        go_wp2_with fail
        refine (HUj.out _).mono ?_
        rintro e w2 ⟨rfl, hb2⟩
        have HB2 := hid ((HB.out.trans (hb2.mono hbs)).alloc (Nat.le_trans hbs hb2.size) (.cells #[.int .i64 k, .int .i64 ((j : Int) + 1), .string s] 26))
        clear hb2 s0 s1 s2
        go_wp2
        go_ret
        exact ⟨ret_int (by rw [HN.out]; first | done | omega), (HBX.out _ HB2.out).2⟩
    · obtain rfl : j = 4 := by omega
      have HN := hid (HNO.out HS.out)
      go_wp2
      go_ret
      exact ⟨ret_int (by rw [HN.out]; rfl), (HBX.out _ HB.out).2⟩
set_option maxHeartbeats 4000000 in
set_option maxRecDepth 100000 in
theorem impl_LeastUndoing_yes (k n : Nat) (o : ByteArray) (w : World) (ho : o.size ≤ maxLen) (h : isCode k n o = true) :
    Calls Tryd.prog 20 #[.agg #[.int .i64 k, .int .i64 n, .string o]] w fun e w' => e = .returned (.int .i64 (leastU o k n : Int)) ∧ Below w.heap.size w w' := by
  obtain ⟨kk, nn, hkk, hnn, _⟩ := code_facts h
  have HU := hid (fun (m : Nat) (w : World) (h1 : 1 ≤ m) (h4 : m ≤ 4) => impl_UndoingCode_yes k n m o w ho h h1 h4)
  have HHIT := hid (fun (j : Nat) (hs : seekU o k n j = none) (hu : (undT o k n (j + 1)).isSome = true) (hj : j < 4) => leastU_hit hs hu hj)
  have HNO := hid (fun (hs : seekU o k n 4 = none) => leastU_no hs)
  obtain ⟨V, hV⟩ : ∃ V, V = leastU o k n := ⟨_, rfl⟩
  rw [← hV] at HHIT HNO
  rw [← hV]
  clear h hkk hnn hV
  go_enter Tryd.func20, Tryd.ntmps20
  have HBX := hid (fun (V : World) (hV : Below (w.heap.size + 1) (w.alloc (.cells #[.int .i64 k, .int .i64 n, .string o] 26)) V) => show (V.cell? ⟨w.heap.size, 0, none⟩ = some (.int .i64 k) ∧ V.cell? ⟨w.heap.size, 1, none⟩ = some (.int .i64 n) ∧ V.cell? ⟨w.heap.size, 2, none⟩ = some (.string o)) ∧ Below w.heap.size w V from ⟨⟨(box_kept hV 0).1, (box_kept hV 1).1, (box_kept hV 2).1⟩, ((Below.refl _ _).alloc (Nat.le_refl _) _).trans (hV.mono (by omega))⟩)
  go_wp2
  go_loopw [3] (fun i wr => ∃ j : Nat, j ≤ 4 ∧ i = .int .i64 ((j : Int) + 1) ∧ Hid (seekU o k n j = none) ∧ Hid (Below (w.heap.size + 1) (w.alloc (.cells #[.int .i64 k, .int .i64 n, .string o] 26)) wr)) (fun i _ => 5 - (intOf i).toNat)
  case atStart => exact ⟨0, by omega, rfl, hid rfl, hid (by have := Below.refl (w.alloc (.cells #[.int .i64 k, .int .i64 n, .string o] 26)).heap.size (w.alloc (.cells #[.int .i64 k, .int .i64 n, .string o] 26)); rw [World.size_alloc] at this; exact this)⟩
  case round =>
    obtain ⟨j, hj, rfl, HS, HB⟩ := hrel
    by_cases hlt : j < 4
    · have hji : (j : Int) + 1 ≤ 4 := by omega
      obtain ⟨⟨s0, s1, s2⟩, _⟩ := HBX.out wr HB.out
      have HUj := hid (fun w => HU.out (j + 1) w (by omega) (by omega))
      have hcast : ((j + 1 : Nat) : Int) = (j : Int) + 1 := by omega
      have hbs : w.heap.size + 1 ≤ wr.heap.size := by have := HB.out.size; rw [World.size_alloc] at this; exact this
      cases hu : undT o k n (j + 1) with
      | none =>
        rw [hu, hcast] at HUj
        simp only [undR] at HUj
        have HN := hid (seekU_no HS.out hu)
        clear hu hcast
        go_wp2_with fail
        refine (HUj.out _).mono ?_
        rintro e w2 ⟨rfl, hb2⟩
        have HB2 := hid ((HB.out.trans (hb2.mono hbs)).alloc (Nat.le_trans hbs hb2.size) (.cells #[.int .i64 0, .int .i64 0, .string ⟨#[]⟩] 26))
        clear hb2 s0 s1 s2
        go_wp2
        go_roundw
        case rel => exact ⟨j + 1, by omega, by go_num, HN, HB2⟩
        case measure => simp [intOf]; omega
      | some r =>
        obtain ⟨q, s⟩ := r
        have HN := hid (HHIT.out j HS.out (by rw [hu]; rfl) hlt)
        rw [hu, hcast] at HUj
        simp only [undR] at HUj
        rw [hcast] at HUj
        clear hu hcast
        go_wp2_with fail
        refine (HUj.out _).mono ?_
        rintro e w2 ⟨rfl, hb2⟩
        have HB2 := hid ((HB.out.trans (hb2.mono hbs)).alloc (Nat.le_trans hbs hb2.size) (.cells #[.int .i64 k, .int .i64 ((j : Int) + 1), .string s] 26))
        clear hb2 s0 s1 s2
        go_wp2
        go_ret
        exact ⟨ret_int (by rw [HN.out]; first | done | omega), (HBX.out _ HB2.out).2⟩
    · obtain rfl : j = 4 := by omega
      have HN := hid (HNO.out HS.out)
      go_wp2
      go_ret
      exact ⟨ret_int (by rw [HN.out]; rfl), (HBX.out _ HB.out).2⟩
set_option maxHeartbeats 4000000 in
set_option maxRecDepth 100000 in
theorem spec_IsOnto_x (k n : Nat) (o : ByteArray) (w : World) (ho : o.size ≤ maxLen) (h : isCode k n o = true) :
    Calls Tryd.prog 9 #[.agg #[.int .i64 k, .int .i64 n, .string o]] w fun e w' => e = .returned (.bool (orpO o k n).isNone) ∧ Below w.heap.size w w' := by
  have hP := code_P h
  have hk := hP.k23
  have hn1 := hP.n1
  have hn4 := hP.n4
  obtain ⟨hS1, hS9, hSk⟩ := powN_facts hk hn1 hn4 hP.fits
  have HI := hid (fun w : World => spec_IsCode_c k n o w ho)
  rw [h] at HI
  have HO := hid (fun w : World => spec_l12Orphan_c k n o w hk hn1 hn4 _ rfl hS9 hS1 (by rw [hP.size, hSk]))
  obtain ⟨b, v, hv, hb⟩ : ∃ (b : Bool) (v : ByteArray), orphV o k (powN k (n - 1)) = .tuple #[.string v, .bool b] ∧ (orpO o k n).isNone = !b := by
    cases hs : orpO o k n with
    | some r => exact ⟨true, _, orphV_some hs, rfl⟩
    | none => exact ⟨false, _, orphV_none hs, rfl⟩
  rw [hv] at HO
  rw [hb]
  clear hb hv hS1 hS9 hSk hP h hk hn1 hn4
  go_enter Tryd.func9, Tryd.ntmps9
  go_wp2_with fail
  refine (HI.out _).mono ?_
  rintro e w1 ⟨rfl, hb⟩
  obtain ⟨⟨s0, s1, s2⟩, _, hz⟩ := box3 hb
  have hb2 : Below w.heap.size w w1 := ((Below.refl _ _).alloc (Nat.le_refl _) _).trans (hb.mono (by simp))
  clear hb HI
  go_wp2_with fail
  refine (HO.out _).mono ?_
  rintro e w2 ⟨rfl, hb3⟩
  have hb4 := bs hb2 hb3
  clear HO s0 s1 s2
  cases b
  all_goals
    go_wp2
    go_ret
    exact ⟨rfl, hb4⟩
set_option maxHeartbeats 4000000 in
set_option maxRecDepth 100000 in
theorem impl_IsOnto_x (k n : Nat) (o : ByteArray) (w : World) (ho : o.size ≤ maxLen) (h : isCode k n o = true) :
    Calls Tryd.prog 15 #[.agg #[.int .i64 k, .int .i64 n, .string o]] w fun e w' => e = .returned (.bool (orpO o k n).isNone) ∧ Below w.heap.size w w' := by
  have hP := code_P h
  have hk := hP.k23
  have hn1 := hP.n1
  have hn4 := hP.n4
  obtain ⟨hS1, hS9, hSk⟩ := powN_facts hk hn1 hn4 hP.fits
  have HI := hid (fun w : World => impl_IsCode_c k n o w ho)
  rw [h] at HI
  have HO := hid (fun w : World => impl_orphan_c k n o w hk hn1 hn4 _ rfl hS9 hS1 (by rw [hP.size, hSk]) hP.lw)
  obtain ⟨b, v, hv, hb⟩ : ∃ (b : Bool) (v : ByteArray), orphV o k (powN k (n - 1)) = .tuple #[.string v, .bool b] ∧ (orpO o k n).isNone = !b := by
    cases hs : orpO o k n with
    | some r => exact ⟨true, _, orphV_some hs, rfl⟩
    | none => exact ⟨false, _, orphV_none hs, rfl⟩
  rw [hv] at HO
  rw [hb]
  clear hb hv hS1 hS9 hSk hP h hk hn1 hn4
  go_enter Tryd.func15, Tryd.ntmps15
  go_wp2_with fail
  refine (HI.out _).mono ?_
  rintro e w1 ⟨rfl, hb⟩
  obtain ⟨⟨s0, s1, s2⟩, _, hz⟩ := box3 hb
  have hb2 : Below w.heap.size w w1 := ((Below.refl _ _).alloc (Nat.le_refl _) _).trans (hb.mono (by simp))
  clear hb HI
  go_wp2_with fail
  refine (HO.out _).mono ?_
  rintro e w2 ⟨rfl, hb3⟩
  have hb4 := bs hb2 hb3
  clear HO s0 s1 s2
  cases b
  all_goals
    go_wp2
    go_ret
    exact ⟨rfl, hb4⟩
set_option maxHeartbeats 4000000 in
set_option maxRecDepth 100000 in
theorem spec_FirstOrphan_x (k n : Nat) (o : ByteArray) (w : World) (ho : o.size ≤ maxLen) (h : isCode k n o = true) :
    Calls Tryd.prog 10 #[.agg #[.int .i64 k, .int .i64 n, .string o]] w fun e w' => e = .returned (firstV (orpO o k n)) ∧ Below w.heap.size w w' := by
  have hP := code_P h
  have hk := hP.k23
  have hn1 := hP.n1
  have hn4 := hP.n4
  obtain ⟨hS1, hS9, hSk⟩ := powN_facts hk hn1 hn4 hP.fits
  have HI := hid (fun w : World => spec_IsCode_c k n o w ho)
  rw [h] at HI
  have HO := hid (fun w : World => spec_l12Orphan_c k n o w hk hn1 hn4 _ rfl hS9 hS1 (by rw [hP.size, hSk]))
  cases hs : orpO o k n with
  | none =>
    have hv := orphV_none hs
    rw [hv] at HO
    have HF := hid (show firstV none = .tuple #[.string ⟨#[]⟩, .bool false] from rfl)
    clear hv hs hS1 hS9 hSk hP h hk hn1 hn4
    go_enter Tryd.func10, Tryd.ntmps10
    go_wp2_with fail
    refine (HI.out _).mono ?_
    rintro e w1 ⟨rfl, hb⟩
    obtain ⟨⟨s0, s1, s2⟩, _, hz⟩ := box3 hb
    have hb2 : Below w.heap.size w w1 := ((Below.refl _ _).alloc (Nat.le_refl _) _).trans (hb.mono (by simp))
    clear hb HI
    go_wp2_with fail
    refine (HO.out _).mono ?_
    rintro e w2 ⟨rfl, hb3⟩
    have hb4 := bs hb2 hb3
    clear HO s0 s1 s2
    go_wp2
    go_ret2
    exact ⟨by rw [HF.out]; rfl, hb4⟩
  | some r =>
    have hv := orphV_some hs
    rw [hv] at HO
    obtain ⟨x, hx⟩ : ∃ x, x = wordB r := ⟨_, rfl⟩
    have hxs : x.size = r.length := by rw [hx, wordB_size]
    rw [← hx] at HO
    by_cases h8 : r.length ≤ 8
    · have HF := hid (show firstV (some r) = .tuple #[.string x, .bool true] by rw [firstV, if_pos h8, hx])
      have hx8 : ¬ ((8 : Int) < (x.size : Int)) := by omega
      clear hv hs hS1 hS9 hSk hP h hk hn1 hn4 hx hxs h8
      go_enter Tryd.func10, Tryd.ntmps10
      go_wp2_with fail
      refine (HI.out _).mono ?_
      rintro e w1 ⟨rfl, hb⟩
      obtain ⟨⟨s0, s1, s2⟩, _, hz⟩ := box3 hb
      have hb2 : Below w.heap.size w w1 := ((Below.refl _ _).alloc (Nat.le_refl _) _).trans (hb.mono (by simp))
      clear hb HI
      go_wp2_with fail
      refine (HO.out _).mono ?_
      rintro e w2 ⟨rfl, hb3⟩
      have hb4 := bs hb2 hb3
      clear HO s0 s1 s2
      go_wp2
      go_ret2
      exact ⟨by rw [HF.out]; rfl, hb4⟩
    · have HF := hid (show firstV (some r) = .tuple #[.string ⟨#[]⟩, .bool false] by rw [firstV, if_neg h8])
      have hx8 : (8 : Int) < (x.size : Int) := by omega
      clear hv hs hS1 hS9 hSk hP h hk hn1 hn4 hx hxs h8
      go_enter Tryd.func10, Tryd.ntmps10
      go_wp2_with fail
      refine (HI.out _).mono ?_
      rintro e w1 ⟨rfl, hb⟩
      obtain ⟨⟨s0, s1, s2⟩, _, hz⟩ := box3 hb
      have hb2 : Below w.heap.size w w1 := ((Below.refl _ _).alloc (Nat.le_refl _) _).trans (hb.mono (by simp))
      clear hb HI
      go_wp2_with fail
      refine (HO.out _).mono ?_
      rintro e w2 ⟨rfl, hb3⟩
      have hb4 := bs hb2 hb3
      clear HO s0 s1 s2
      go_wp2
      go_ret2
      exact ⟨by rw [HF.out]; rfl, hb4⟩
set_option maxHeartbeats 4000000 in
set_option maxRecDepth 100000 in
theorem impl_FirstOrphan_x (k n : Nat) (o : ByteArray) (w : World) (ho : o.size ≤ maxLen) (h : isCode k n o = true) :
    Calls Tryd.prog 16 #[.agg #[.int .i64 k, .int .i64 n, .string o]] w fun e w' => e = .returned (firstV (orpO o k n)) ∧ Below w.heap.size w w' := by
  have hP := code_P h
  have hk := hP.k23
  have hn1 := hP.n1
  have hn4 := hP.n4
  obtain ⟨hS1, hS9, hSk⟩ := powN_facts hk hn1 hn4 hP.fits
  have HI := hid (fun w : World => impl_IsCode_c k n o w ho)
  rw [h] at HI
  have HO := hid (fun w : World => impl_orphan_c k n o w hk hn1 hn4 _ rfl hS9 hS1 (by rw [hP.size, hSk]) hP.lw)
  cases hs : orpO o k n with
  | none =>
    have hv := orphV_none hs
    rw [hv] at HO
    have HF := hid (show firstV none = .tuple #[.string ⟨#[]⟩, .bool false] from rfl)
    clear hv hs hS1 hS9 hSk hP h hk hn1 hn4
    go_enter Tryd.func16, Tryd.ntmps16
    go_wp2_with fail
    refine (HI.out _).mono ?_
    rintro e w1 ⟨rfl, hb⟩
    obtain ⟨⟨s0, s1, s2⟩, _, hz⟩ := box3 hb
    have hb2 : Below w.heap.size w w1 := ((Below.refl _ _).alloc (Nat.le_refl _) _).trans (hb.mono (by simp))
    clear hb HI
    go_wp2_with fail
    refine (HO.out _).mono ?_
    rintro e w2 ⟨rfl, hb3⟩
    have hb4 := bs hb2 hb3
    clear HO s0 s1 s2
    go_wp2
    go_ret2
    exact ⟨by rw [HF.out]; rfl, hb4⟩
  | some r =>
    have hv := orphV_some hs
    rw [hv] at HO
    obtain ⟨x, hx⟩ : ∃ x, x = wordB r := ⟨_, rfl⟩
    have hxs : x.size = r.length := by rw [hx, wordB_size]
    rw [← hx] at HO
    by_cases h8 : r.length ≤ 8
    · have HF := hid (show firstV (some r) = .tuple #[.string x, .bool true] by rw [firstV, if_pos h8, hx])
      have hx8 : ¬ ((8 : Int) < (x.size : Int)) := by omega
      clear hv hs hS1 hS9 hSk hP h hk hn1 hn4 hx hxs h8
      go_enter Tryd.func16, Tryd.ntmps16
      go_wp2_with fail
      refine (HI.out _).mono ?_
      rintro e w1 ⟨rfl, hb⟩
      obtain ⟨⟨s0, s1, s2⟩, _, hz⟩ := box3 hb
      have hb2 : Below w.heap.size w w1 := ((Below.refl _ _).alloc (Nat.le_refl _) _).trans (hb.mono (by simp))
      clear hb HI
      go_wp2_with fail
      refine (HO.out _).mono ?_
      rintro e w2 ⟨rfl, hb3⟩
      have hb4 := bs hb2 hb3
      clear HO s0 s1 s2
      go_wp2
      go_ret2
      exact ⟨by rw [HF.out]; rfl, hb4⟩
    · have HF := hid (show firstV (some r) = .tuple #[.string ⟨#[]⟩, .bool false] by rw [firstV, if_neg h8])
      have hx8 : (8 : Int) < (x.size : Int) := by omega
      clear hv hs hS1 hS9 hSk hP h hk hn1 hn4 hx hxs h8
      go_enter Tryd.func16, Tryd.ntmps16
      go_wp2_with fail
      refine (HI.out _).mono ?_
      rintro e w1 ⟨rfl, hb⟩
      obtain ⟨⟨s0, s1, s2⟩, _, hz⟩ := box3 hb
      have hb2 : Below w.heap.size w w1 := ((Below.refl _ _).alloc (Nat.le_refl _) _).trans (hb.mono (by simp))
      clear hb HI
      go_wp2_with fail
      refine (HO.out _).mono ?_
      rintro e w2 ⟨rfl, hb3⟩
      have hb4 := bs hb2 hb3
      clear HO s0 s1 s2
      go_wp2
      go_ret2
      exact ⟨by rw [HF.out]; rfl, hb4⟩
end Go.Proofs.YtcmmlldincflkaaDoor
