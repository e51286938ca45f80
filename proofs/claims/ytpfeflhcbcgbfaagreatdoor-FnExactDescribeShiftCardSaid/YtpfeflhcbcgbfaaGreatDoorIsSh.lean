/- Whether a shift is one: IsShift of both, for every shift. Conditions: its words lie in memory. -/
import Derived.Test.YtpfeflhcbcgbfaaGreatDoorExT
import Derived.Test.YtpfeflhcbcgbfaaGreatDoorNums
import Derived.Test.YtpfeflhcbcgbfaaGreatDoorRing
import Derived.Test.YtpfeflhcbcgbfaaGreatDoorAppN
namespace Go.Proofs.YtpfeflhcbcgbfaaGreatDoor
open Go.RowKit

/-- The greatest length of a text that is sought by machine instructions: some number. -/
def MaxW (w : World) : Prop := ∃ m : Int, w.cell? ⟨0, 0, none⟩ = some (.int .i64 m)
theorem max_below {B : Nat} {w w' : World} (h : MaxW w) (hb : Below B w w') (hB : w.heap.size ≤ B) : MaxW w' := by
  obtain ⟨m, hm⟩ := h
  exact ⟨m, (hb.cell (p := ⟨_, 0, none⟩) (Nat.lt_of_lt_of_le (World.block_lt_of_cell? w _ hm) hB)).trans hm⟩
structure LaidW (w : World) : Prop where
  tab : TabW w
  max : MaxW w
theorem laid_below {B : Nat} {w w' : World} (h : LaidW w) (hb : Below B w w') (hB : w.heap.size ≤ B) : LaidW w' := ⟨tab_below h.tab hb hB, max_below h.max hb hB⟩
theorem splitB_size (sep : ByteArray) (save : Nat) : ∀ (k : Nat) (s : ByteArray) {p : ByteArray}, p ∈ Lib.splitB sep save k s → p.size ≤ s.size
  | 0, s, p, h => by
    simp [Lib.splitB] at h
    rw [h]; exact Nat.le_refl _
  | k + 1, s, p, h => by
    unfold Lib.splitB at h
    split at h
    · simp at h
      rw [h]; exact Nat.le_refl _
    · rcases List.mem_cons.1 h with e | h
      · rw [e, ByteArray.size_extract]; omega
      · have := splitB_size sep save k _ h
        rw [ByteArray.size_extract] at this
        omega
theorem bytes_below (w : World) (e : TypeId) (s : ByteArray) : Below w.heap.size w (Lib.bytesWorld w e s) where
  os := rfl
  tape := rfl
  output := rfl
  size := by rw [Lib.bytesWorld_size]; omega
  block := fun k hk => Lib.bytesWorld_at_old w e s k hk
theorem infoIntP : (Tryz.prog.info? 3).map (fun i => (i.zero, i.size, i.bytes)) = some (some (.int .i64 0), 1, 8) := by kernel_rfl
theorem infoIntsP : (Tryz.prog.info? 39).map (fun i => (i.zero, i.size, i.bytes)) = some (some (.slice none 0 0), 1, 24) := by kernel_rfl
theorem impl_checked_ok (a : Option Addr) (n c : Nat) (M : List (List Int)) (w : World) (h : TabAt w a n M) (hm : isMat M = true) :
    Calls Tryz.prog 163 #[.slice a n c] w fun e w' => e = .returned (.tuple #[.slice a n c, .bool true]) ∧ w = w' := by
  have HI := hid (impl_IsMatrix_c a n c M w h)
  rw [hm] at HI
  clear h hm
  go_enter Tryz.func163, Tryz.ntmps163
  go_wp2_with fail
  refine HI.out.mono ?_
  rintro e w1 ⟨rfl, rfl⟩
  go_wp2
  go_ret2
  exact ⟨rfl, rfl⟩
def MatPost (M : List (List Int)) (w : World) (e : Ending) (w' : World) : Prop :=
  ∃ v, e = .returned (.tuple #[v, .bool true]) ∧ TGrid 39 3 w' w.heap.size v M ∧ Below w.heap.size w w'
end Go.Proofs.YtpfeflhcbcgbfaaGreatDoor
namespace Go.Proofs.YtpfeflhcbcgbfaaGreatDoor
open Go.RowKit

theorem own_setS {wr : World} {B e s n b : Nat} {v : Value} {xs : List Value} (h : wr.ownsRow B e s v n xs) (hb : b < B) (q : Nat) (y : Value) : (wr.setCell ⟨b, q, none⟩ y).ownsRow B e s v n xs :=
  h.kept (row := some b) ⟨rfl, rfl, rfl, by simp, fun p hq hr => Below.heap_setCell _ _ _ _ (fun e => hr (by rw [show p = b from e]))⟩ (by
    cases hv : v.ownBlock with
    | none => exact .inl rfl
    | some q =>
      refine .inr fun e => ?_
      injection e with e
      have := (h.lt q hv).1
      omega)
theorem boxS {w wr : World} {A : Array Value} {T : TypeId} (h : Below (w.alloc (.cells A T)).heap.size (w.alloc (.cells A T)) wr) :
    (∀ k, wr.cell? ⟨w.heap.size, k, none⟩ = A[k]?) ∧ (∀ k, wr.frozen? ⟨w.heap.size, k, none⟩ = false) ∧ w.heap.size < wr.heap.size ∧ Below w.heap.size w wr := by
  have hs := h.size
  simp at hs
  refine ⟨fun k => ?_, fun k => ?_, by omega, ((Below.refl _ _).alloc (Nat.le_refl _) _).trans (h.mono (by simp))⟩
  · exact (h.cell (p := ⟨w.heap.size, k, none⟩) (by simp)).trans (World.cell?_alloc_at _ _ _ _ rfl)
  · exact (h.frozen (p := ⟨w.heap.size, k, none⟩) (by simp)).trans (World.frozen?_alloc_at _ _ _ _ rfl)
/-- A shift's number of letters and its words. -/
def okShB (k : Nat) (ss : List ByteArray) : Bool :=
  decide (1 ≤ k ∧ k ≤ 3) && decide (ss.length ≤ 8) && (ss.all fun s => lets k s.data.toList && decide (1 ≤ s.size ∧ s.size ≤ 3)) && (List.range (ss.length - 1)).all fun i => Op.bytesLess (ss.getD i ByteArray.empty).data.toList (ss.getD (i + 1) ByteArray.empty).data.toList
theorem okSh_facts {k : Nat} {ss : List ByteArray} (h : okShB k ss = true) : (1 ≤ k ∧ k ≤ 3) ∧ ss.length ≤ 8 ∧ (∀ (i : Nat) (s : ByteArray), ss[i]? = some s → lets k s.data.toList = true ∧ 1 ≤ s.size ∧ s.size ≤ 3) ∧ ∀ (i : Nat) (s t : ByteArray), ss[i]? = some s → ss[i + 1]? = some t → Op.bytesLess s.toList t.toList = true := by
  unfold okShB at h
  simp only [Bool.and_eq_true, decide_eq_true_eq, List.all_eq_true] at h
  obtain ⟨⟨⟨h1, h2⟩, h3⟩, h4⟩ := h
  refine ⟨h1, h2, fun i s hs => ?_, fun i s t hs ht => ?_⟩
  · exact h3 s (List.mem_of_getElem? hs)
  · have hl := (List.getElem?_eq_some_iff.1 ht).1
    have := h4 i (List.mem_range.2 (by omega))
    rw [List.getD_eq_getElem?_getD, hs, List.getD_eq_getElem?_getD, ht] at this
    rw [Lib.toList_data, Lib.toList_data]
    exact this
set_option maxHeartbeats 2000000 in
theorem spec_IsShift_ok (k : Nat) (a : Option Addr) (n c : Nat) (ss : List ByteArray) (w : World) (hr : RowAt w a n (strVals ss)) (h : okShB k ss = true) :
    Calls Tryz.prog 16 #[.agg #[.int .i64 k, .slice a n c]] w fun e w' => e = .returned (.bool true) ∧ Below w.heap.size w w' := by
  obtain ⟨hk, hl8, hw, has⟩ := okSh_facts h
  have hB := (Below.refl w.heap.size w).alloc (Nat.le_refl _) (.cells #[.int .i64 k, .slice a n c] 27)
  have hln : ss.length = n := by simpa [strVals] using hr.len
  have HR := hid (hr.below hB (Nat.le_refl _))
  have HW := hid hw
  have HA := hid has
  have HLN := hid hln
  have hn8 : (n : Int) ≤ 8 := by omega
  have HK := hid (fun w => l1In_c (k : Int) 1 3 w)
  rw [inB_t (show (1 : Int) ≤ (k : Int) ∧ (k : Int) ≤ 3 by omega)] at HK
  have HB := hid hB
  clear hr h hw has hB hl8 hln
  go_enter Tryz.func16, Tryz.ntmps16
  go_wp2
  go_loop [3] (fun i => ∃ j : Nat, j ≤ n ∧ i = .int .i64 j) (fun i => n - (intOf i).toNat)
  case atStart => exact ⟨0, by omega, rfl⟩
  case round =>
    obtain ⟨j, hj, rfl⟩ := hrel
    by_cases hlt : j < n
    · obtain ⟨s, hs⟩ := get_some (l := ss) (n := j) (by rw [HLN.out]; exact hlt)
      obtain ⟨hs1, hs2, hs3⟩ := HW.out j s hs
      obtain ⟨b, off, rfl, hb, hc⟩ := HR.out.at_ (by omega)
      have hcell := hc j _ (strVals_get hs)
      have hji : (j : Int) < (n : Int) := by omega
      have HI := hid (fun w => spec_IsWord_c k s w hk (by unfold maxLen; omega))
      rw [hs1, decide_eq_true (show s.size ≤ 16 by omega)] at HI
      have HL := hid (fun w => l1In_c (s.size : Int) 1 3 w)
      rw [inB_t (show (1 : Int) ≤ (s.size : Int) ∧ (s.size : Int) ≤ 3 by omega)] at HL
      by_cases hj0 : j = 0
      · subst hj0
        simp only [Nat.add_zero] at hcell
        clear hs hs1 hc
        go_wp2_with (first | (go_at_call 57; refine (HI.out _).mono ?_; rintro e w' ⟨rfl, rfl⟩) | (go_at_call 58; refine (HL.out _).mono ?_; rintro e w' ⟨rfl, rfl⟩))
        go_round
        case rel => exact ⟨0 + 1, by omega, by go_num⟩
        case measure => simp [intOf] <;> omega
      · obtain ⟨i, rfl⟩ : ∃ i, j = i + 1 := ⟨j - 1, by omega⟩
        obtain ⟨t, ht⟩ := get_some (l := ss) (n := i) (by rw [HLN.out]; omega)
        have hcell2 := hc i _ (strVals_get ht)
        have hlss := HA.out i t s ht hs
        have hki : (i : Int) < (n : Int) := by omega
        have hi1 : (0 : Int) < (i : Int) + 1 := by omega
        clear hs ht hs1 hc
        go_wp2_with (first | (go_at_call 57; refine (HI.out _).mono ?_; rintro e w' ⟨rfl, rfl⟩) | (go_at_call 58; refine (HL.out _).mono ?_; rintro e w' ⟨rfl, rfl⟩))
        go_round
        case rel => exact ⟨i + 1 + 1, by omega, by go_num⟩
        case measure => simp [intOf] <;> omega
    · go_wp2_with (first | (go_at_call 58; refine (HK.out _).mono ?_; rintro e w' ⟨rfl, rfl⟩))
      go_ret
      exact ⟨rfl, HB.out⟩
set_option maxHeartbeats 2000000 in
theorem impl_IsShift_ok (k : Nat) (a : Option Addr) (n c : Nat) (ss : List ByteArray) (w : World) (hr : RowAt w a n (strVals ss)) (h : okShB k ss = true) :
    Calls Tryz.prog 25 #[.agg #[.int .i64 k, .slice a n c]] w fun e w' => e = .returned (.bool true) ∧ Below w.heap.size w w' := by
  obtain ⟨hk, hl8, hw, has⟩ := okSh_facts h
  have hk1 : (1 : Int) ≤ (k : Int) := by omega
  have hk3 : (k : Int) ≤ 3 := by omega
  have hB := (Below.refl w.heap.size w).alloc (Nat.le_refl _) (.cells #[.int .i64 k, .slice a n c] 27)
  have hln : ss.length = n := by simpa [strVals] using hr.len
  have HR := hid (hr.below hB (Nat.le_refl _))
  have HW := hid hw
  have HA := hid has
  have HLN := hid hln
  have hn8 : ¬ ((8 : Int) < (n : Int)) := by omega
  have HB := hid hB
  clear hr h hw has hB hl8 hln
  go_enter Tryz.func25, Tryz.ntmps25
  go_wp2_with go_in
  go_loop [18] (fun i => ∃ j : Nat, j ≤ n ∧ i = .int .i64 j) (fun i => n - (intOf i).toNat)
  case atStart => exact ⟨0, by omega, rfl⟩
  case round =>
    obtain ⟨j, hj, rfl⟩ := hrel
    by_cases hlt : j < n
    · obtain ⟨s, hs⟩ := get_some (l := ss) (n := j) (by rw [HLN.out]; exact hlt)
      obtain ⟨hs1, hs2, hs3⟩ := HW.out j s hs
      obtain ⟨b, off, rfl, hb, hc⟩ := HR.out.at_ (by omega)
      have hcell := hc j _ (strVals_get hs)
      have hji : (j : Int) < (n : Int) := by omega
      have HI := hid (fun w => areLetters_c k s w (by unfold maxLen; omega) (by omega))
      rw [hs1] at HI
      have hz1 : ¬ ((s.size : Int) < 1) := by omega
      have hz3 : ¬ ((3 : Int) < (s.size : Int)) := by omega
      by_cases hj0 : j = 0
      · subst hj0
        simp only [Nat.add_zero] at hcell
        clear hs hs1 hc
        go_wp2_with (first | (go_at_call 70; refine (HI.out _).mono ?_; rintro e w' ⟨rfl, rfl⟩))
        go_round
        case rel => exact ⟨0 + 1, by omega, by go_num⟩
        case measure => simp [intOf] <;> omega
      · obtain ⟨i, rfl⟩ : ∃ i, j = i + 1 := ⟨j - 1, by omega⟩
        obtain ⟨t, ht⟩ := get_some (l := ss) (n := i) (by rw [HLN.out]; omega)
        have hcell2 := hc i _ (strVals_get ht)
        have hlss := HA.out i t s ht hs
        have hki : (i : Int) < (n : Int) := by omega
        have hi1 : (0 : Int) < (i : Int) + 1 := by omega
        clear hs ht hs1 hc
        go_wp2_with (first | (go_at_call 70; refine (HI.out _).mono ?_; rintro e w' ⟨rfl, rfl⟩))
        go_round
        case rel => exact ⟨i + 1 + 1, by omega, by go_num⟩
        case measure => simp [intOf] <;> omega
    · go_wp2
      go_ret
      exact ⟨rfl, HB.out⟩
end Go.Proofs.YtpfeflhcbcgbfaaGreatDoor
namespace Go.Proofs.YtpfeflhcbcgbfaaGreatDoor
open Go.RowKit

/-- The word at a place is as it should be. -/
def gAt (L : Int) (ss : List ByteArray) (j : Nat) : Bool :=
  lets L (ss.getD j ByteArray.empty).data.toList && inB ((ss.getD j ByteArray.empty).size : Int) 1 3 && (decide (j = 0) || Op.bytesLess (ss.getD (j - 1) ByteArray.empty).toList (ss.getD j ByteArray.empty).toList)
def okShI (L : Int) (ss : List ByteArray) : Bool := inB L 1 3 && decide (ss.length ≤ 8) && (List.range ss.length).all (gAt L ss)
theorem gAt_zero {L : Int} {ss : List ByteArray} {s : ByteArray} (h : ss[0]? = some s) : gAt L ss 0 = (lets L s.data.toList && inB (s.size : Int) 1 3) := by
  unfold gAt
  rw [List.getD_eq_getElem?_getD, h]
  simp
theorem gAt_succ {L : Int} {ss : List ByteArray} {i : Nat} {s t : ByteArray} (h : ss[i]? = some t) (h2 : ss[i + 1]? = some s) : gAt L ss (i + 1) = (lets L s.data.toList && inB (s.size : Int) 1 3 && Op.bytesLess t.toList s.toList) := by
  unfold gAt
  rw [Nat.add_sub_cancel, List.getD_eq_getElem?_getD, List.getD_eq_getElem?_getD, h, h2]
  simp
theorem okShI_word {L : Int} {ss : List ByteArray} {j : Nat} (hj : j < ss.length) (h : gAt L ss j = false) : okShI L ss = false := by
  unfold okShI
  rw [show (List.range ss.length).all (gAt L ss) = false from by
    rw [Bool.eq_false_iff]
    intro hc
    rw [List.all_eq_true] at hc
    have := hc j (List.mem_range.2 hj)
    rw [h] at this
    cases this]
  simp
theorem okShI_lets {L : Int} {ss : List ByteArray} (h : inB L 1 3 = false) : okShI L ss = false := by
  unfold okShI
  rw [h]
  rfl
theorem okShI_end {L : Int} {ss : List ByteArray} (h : (List.range ss.length).all (gAt L ss) = true) : okShI L ss = (inB L 1 3 && decide (ss.length ≤ 8)) := by
  unfold okShI
  rw [h, Bool.and_true]
theorem gTo_step {L : Int} {ss : List ByteArray} {j : Nat} (h : gAt L ss j = true) (hz : (List.range j).all (gAt L ss) = true) : (List.range (j + 1)).all (gAt L ss) = true := by
  rw [List.range_succ, List.all_append, hz]
  simp [h]
/-- A shift that is one has a number of letters. -/
theorem okShI_ok {L : Int} {ss : List ByteArray} (h : okShI L ss = true) : ∃ k : Nat, L = (k : Int) ∧ okShB k ss = true := by
  unfold okShI at h
  rw [Bool.and_eq_true, Bool.and_eq_true, inB_iff, decide_eq_true_iff, List.all_eq_true] at h
  obtain ⟨⟨h1, h2⟩, h3⟩ := h
  refine ⟨L.toNat, by omega, ?_⟩
  have hL : ((L.toNat : Nat) : Int) = L := by omega
  unfold okShB
  rw [hL]
  simp only [Bool.and_eq_true, decide_eq_true_eq, List.all_eq_true]
  refine ⟨⟨⟨by omega, h2⟩, fun s hs => ?_⟩, fun i hi => ?_⟩
  · obtain ⟨j, hj⟩ := List.mem_iff_getElem?.1 hs
    have := h3 j (List.mem_range.2 (List.getElem?_eq_some_iff.1 hj).1)
    unfold gAt at this
    rw [List.getD_eq_getElem?_getD, hj, Bool.and_eq_true, Bool.and_eq_true, inB_iff] at this
    obtain ⟨⟨q1, q2⟩, _⟩ := this
    simp only [Option.getD_some] at q1 q2
    exact ⟨q1, by omega⟩
  · have hi2 := List.mem_range.1 hi
    obtain ⟨t, ht⟩ := get_some (l := ss) (n := i) (by omega)
    obtain ⟨s, hs⟩ := get_some (l := ss) (n := i + 1) (by omega)
    have := h3 (i + 1) (List.mem_range.2 (by omega))
    rw [gAt_succ ht hs, Bool.and_eq_true] at this
    rw [List.getD_eq_getElem?_getD, List.getD_eq_getElem?_getD, ht, hs]
    rw [Lib.toList_data, Lib.toList_data] at this
    exact this.2
set_option maxHeartbeats 1000000 in
theorem spec_IsWord_any (L : Int) (s : ByteArray) (w : World) (hs : s.size ≤ maxLen) :
    Calls Tryz.prog 57 #[.int .i64 L, .string s] w fun e w' => e = .returned (.bool (inB L 1 3 && decide (s.size ≤ 16) && lets L s.data.toList)) ∧ w = w' := by
  unfold maxLen at hs
  have HLI := hid (fun w => l1In_c L 1 3 w)
  obtain ⟨b, hb⟩ : ∃ b, b = inB L 1 3 := ⟨_, rfl⟩
  rw [← hb] at HLI
  rw [← hb]
  clear hb
  go_enter Tryz.func57, Tryz.ntmps57
  go_wp2
  go_loop [5] (fun i => ∃ n : Nat, n ≤ s.size ∧ i = .int .i64 n ∧ Hid (lets L (s.data.toList.take n) = true)) (fun i => s.size - (intOf i).toNat)
  case atStart => exact ⟨0, Nat.zero_le _, rfl, rfl⟩
  case round =>
    obtain ⟨n, hn, rfl, H⟩ := hrel
    by_cases hlt : n < s.size
    · have hb : s[n].toNat < 256 := s[n].toNat_lt
      by_cases h1 : s[n].toNat < 97
      · go_wp2
        go_ret
        exact ⟨ret_bool (by rw [show lets L s.data.toList = false from all_stop (byte_at s n hlt) (inB_f (by omega)), Bool.and_false]), rfl⟩
      · by_cases h2 : L ≤ (s[n].toNat : Int) - 97
        · go_wp2
          go_ret
          exact ⟨ret_bool (by rw [show lets L s.data.toList = false from all_stop (byte_at s n hlt) (inB_f (by omega)), Bool.and_false]), rfl⟩
        · go_wp2
          go_round
          case rel => exact ⟨n + 1, by omega, by go_num, all_step (byte_at s n hlt) H.out (inB_t (by omega))⟩
          case measure => simp [intOf]; omega
    · have HE := hid (show lets L s.data.toList = true from all_end H.out (by rw [size_list]; omega))
      cases b with
      | false =>
        go_wp2_with (go_at_call 58; refine (HLI.out _).mono ?_; rintro e w' ⟨rfl, rfl⟩)
        go_ret
        exact ⟨rfl, rfl⟩
      | true =>
        go_wp2_with (go_at_call 58; refine (HLI.out _).mono ?_; rintro e w' ⟨rfl, rfl⟩)
        go_ret
        exact ⟨ret_bool (by rw [HE.out, Bool.and_true, Bool.true_and]; congr 1; rw [eq_iff_iff]; omega), rfl⟩
set_option maxHeartbeats 2000000 in
theorem spec_IsShift_c (L : Int) (a : Option Addr) (n c : Nat) (ss : List ByteArray) (w : World) (hr : RowAt w a n (strVals ss)) (hz : ∀ s ∈ ss, s.size ≤ maxLen) :
    Calls Tryz.prog 16 #[.agg #[.int .i64 L, .slice a n c]] w fun e w' => e = .returned (.bool (okShI L ss)) ∧ Below w.heap.size w w' := by
  have hB := (Below.refl w.heap.size w).alloc (Nat.le_refl _) (.cells #[.int .i64 L, .slice a n c] 27)
  have hln : ss.length = n := by simpa [strVals] using hr.len
  have hlim := hr.lim
  have HR := hid (hr.below hB (Nat.le_refl _))
  have HLN := hid hln
  have HB := hid hB
  have HK := hid (fun w => l1In_c L 1 3 w)
  have HI := hid (fun (j : Nat) (s : ByteArray) (hs : ss[j]? = some s) (w : World) => spec_IsWord_any L s w (hz s (List.mem_of_getElem? hs)))
  have HBAD := hid (fun (j : Nat) (hj : j < n) (h : gAt L ss j = false) => okShI_word (by omega) h)
  have HNO := hid (fun h : inB L 1 3 = false => okShI_lets (ss := ss) h)
  have HEND := hid (fun h : (List.range n).all (gAt L ss) = true => okShI_end (L := L) (ss := ss) (by rw [hln]; exact h))
  have H0 := hid (fun (s : ByteArray) (hs : ss[0]? = some s) => gAt_zero (L := L) hs)
  have H1 := hid (fun (i : Nat) (t s : ByteArray) (ht : ss[i]? = some t) (hs : ss[i + 1]? = some s) => gAt_succ (L := L) ht hs)
  have HST := hid (fun (j : Nat) (h : gAt L ss j = true) (hz : (List.range j).all (gAt L ss) = true) => gTo_step h hz)
  rw [hln] at HEND
  obtain ⟨R, hR⟩ : ∃ R, R = okShI L ss := ⟨_, rfl⟩
  rw [← hR] at HBAD HNO HEND
  rw [← hR]
  obtain ⟨G, hG⟩ : ∃ G, G = gAt L ss := ⟨_, rfl⟩
  rw [← hG] at HBAD HEND H0 H1 HST
  obtain ⟨IL, hIL⟩ : ∃ IL, IL = inB L 1 3 := ⟨_, rfl⟩
  rw [← hIL] at HK HI HNO HEND
  clear hr hz hB hln hR hG hIL
  go_enter Tryz.func16, Tryz.ntmps16
  go_wp2
  go_loop [3] (fun i => ∃ j : Nat, j ≤ n ∧ i = .int .i64 j ∧ Hid ((List.range j).all G = true)) (fun i => n - (intOf i).toNat)
  case atStart => exact ⟨0, by omega, rfl, hid rfl⟩
  case round =>
    obtain ⟨j, hj, rfl, HZ⟩ := hrel
    by_cases hlt : j < n
    · obtain ⟨s, hs⟩ := get_some (l := ss) (n := j) (by rw [HLN.out]; exact hlt)
      obtain ⟨b, off, rfl, hb, hc⟩ := HR.out.at_ (by omega)
      have hcell := hc j _ (strVals_get hs)
      have hji : (j : Int) < (n : Int) := by omega
      have HIJ := hid (HI.out j s hs)
      have HBJ := hid (HBAD.out j hlt)
      have HSJ := hid (fun h => HST.out j h HZ.out)
      have HLJ := hid (fun w => l1In_c (s.size : Int) 1 3 w)
      obtain ⟨l, hl⟩ : ∃ l, l = lets L s.data.toList := ⟨_, rfl⟩
      obtain ⟨z, hz⟩ : ∃ z, z = inB (s.size : Int) 1 3 := ⟨_, rfl⟩
      have HW16 := hid (fun h : z = true => show decide (s.size ≤ 16) = true from decide_eq_true (by rw [hz, inB_iff] at h; omega))
      obtain ⟨z16, hz16⟩ : ∃ z16, z16 = decide (s.size ≤ 16) := ⟨_, rfl⟩
      rw [← hl, ← hz16] at HIJ
      rw [← hz] at HLJ
      rw [← hz16] at HW16
      by_cases hj0 : j = 0
      · subst hj0
        have HG := hid (H0.out s hs)
        rw [← hl, ← hz] at HG
        simp only [Nat.add_zero] at hcell
        clear hs hc hl hz hz16 HI HBAD H0 H1 HST HEND
        cases IL with
        | false =>
          have HRF := hid (HNO.out rfl)
          go_wp2_with fail
          refine (HIJ.out _).mono ?_
          rintro e w' ⟨rfl, rfl⟩
          go_wp2
          go_ret
          exact ⟨ret_bool HRF.out.symm, HB.out⟩
        | true =>
          cases l with
          | false =>
            have HRF := hid (HBJ.out HG.out)
            go_wp2_with fail
            refine (HIJ.out _).mono ?_
            rintro e w' ⟨rfl, rfl⟩
            rw [Bool.and_false]
            go_wp2
            go_ret
            exact ⟨ret_bool HRF.out.symm, HB.out⟩
          | true =>
            cases z16 with
            | false =>
              have HRF := hid (HBJ.out (HG.out.trans (by cases z with | false => rfl | true => exact absurd (HW16.out rfl) (by decide))))
              go_wp2_with fail
              refine (HIJ.out _).mono ?_
              rintro e w' ⟨rfl, rfl⟩
              go_wp2
              go_ret
              exact ⟨ret_bool HRF.out.symm, HB.out⟩
            | true =>
              cases z with
              | false =>
                have HRF := hid (HBJ.out HG.out)
                go_wp2_with (first | (go_at_call 57; refine (HIJ.out _).mono ?_; rintro e w' ⟨rfl, rfl⟩) | (go_at_call 58; refine (HLJ.out _).mono ?_; rintro e w' ⟨rfl, rfl⟩))
                go_ret
                exact ⟨ret_bool HRF.out.symm, HB.out⟩
              | true =>
                have HN := hid (HSJ.out HG.out)
                go_wp2_with (first | (go_at_call 57; refine (HIJ.out _).mono ?_; rintro e w' ⟨rfl, rfl⟩) | (go_at_call 58; refine (HLJ.out _).mono ?_; rintro e w' ⟨rfl, rfl⟩))
                go_round
                case rel => exact ⟨0 + 1, by omega, by go_num, HN⟩
                case measure => simp [intOf] <;> omega
      · obtain ⟨i, rfl⟩ : ∃ i, j = i + 1 := ⟨j - 1, by omega⟩
        obtain ⟨t, ht⟩ := get_some (l := ss) (n := i) (by rw [HLN.out]; omega)
        have hcell2 := hc i _ (strVals_get ht)
        have HG := hid (H1.out i t s ht hs)
        rw [← hl, ← hz] at HG
        have hki : (i : Int) < (n : Int) := by omega
        have hi1 : (0 : Int) < (i : Int) + 1 := by omega
        clear hs ht hc hl hz hz16 HI HBAD H0 H1 HST HEND
        cases IL with
        | false =>
          have HRF := hid (HNO.out rfl)
          go_wp2_with fail
          refine (HIJ.out _).mono ?_
          rintro e w' ⟨rfl, rfl⟩
          go_wp2
          go_ret
          exact ⟨ret_bool HRF.out.symm, HB.out⟩
        | true =>
          cases l with
          | false =>
            have HRF := hid (HBJ.out HG.out)
            go_wp2_with fail
            refine (HIJ.out _).mono ?_
            rintro e w' ⟨rfl, rfl⟩
            rw [Bool.and_false]
            go_wp2
            go_ret
            exact ⟨ret_bool HRF.out.symm, HB.out⟩
          | true =>
            cases z16 with
            | false =>
              have HRF := hid (HBJ.out (HG.out.trans (by cases z with | false => rfl | true => exact absurd (HW16.out rfl) (by decide))))
              go_wp2_with fail
              refine (HIJ.out _).mono ?_
              rintro e w' ⟨rfl, rfl⟩
              go_wp2
              go_ret
              exact ⟨ret_bool HRF.out.symm, HB.out⟩
            | true =>
              cases z with
              | false =>
                have HRF := hid (HBJ.out HG.out)
                go_wp2_with (first | (go_at_call 57; refine (HIJ.out _).mono ?_; rintro e w' ⟨rfl, rfl⟩) | (go_at_call 58; refine (HLJ.out _).mono ?_; rintro e w' ⟨rfl, rfl⟩))
                go_ret
                exact ⟨ret_bool HRF.out.symm, HB.out⟩
              | true =>
                cases hlss : Op.bytesLess t.toList s.toList with
                | false =>
                  have HRF := hid (HBJ.out (HG.out.trans (by rw [hlss]; rfl)))
                  go_wp2_with (first | (go_at_call 57; refine (HIJ.out _).mono ?_; rintro e w' ⟨rfl, rfl⟩) | (go_at_call 58; refine (HLJ.out _).mono ?_; rintro e w' ⟨rfl, rfl⟩))
                  go_ret
                  exact ⟨ret_bool HRF.out.symm, HB.out⟩
                | true =>
                  have HN := hid (HSJ.out (HG.out.trans (by rw [hlss]; rfl)))
                  go_wp2_with (first | (go_at_call 57; refine (HIJ.out _).mono ?_; rintro e w' ⟨rfl, rfl⟩) | (go_at_call 58; refine (HLJ.out _).mono ?_; rintro e w' ⟨rfl, rfl⟩))
                  go_round
                  case rel => exact ⟨i + 1 + 1, by omega, by go_num, HN⟩
                  case measure => simp [intOf] <;> omega
    · obtain rfl : j = n := by omega
      have HRE := hid (HEND.out HZ.out)
      cases IL with
      | false =>
        go_wp2_with (first | (go_at_call 58; refine (HK.out _).mono ?_; rintro e w' ⟨rfl, rfl⟩))
        go_ret
        exact ⟨ret_bool (HRE.out.trans (by simp)).symm, HB.out⟩
      | true =>
        go_wp2_with (first | (go_at_call 58; refine (HK.out _).mono ?_; rintro e w' ⟨rfl, rfl⟩))
        go_ret
        exact ⟨ret_bool (by rw [HRE.out, Bool.true_and]; congr 1; rw [eq_iff_iff]; omega), HB.out⟩
set_option maxHeartbeats 4000000 in
theorem impl_IsShift_c (L : Int) (a : Option Addr) (n c : Nat) (ss : List ByteArray) (w : World) (hr : RowAt w a n (strVals ss)) (hz : ∀ s ∈ ss, s.size ≤ maxLen) :
    Calls Tryz.prog 25 #[.agg #[.int .i64 L, .slice a n c]] w fun e w' => e = .returned (.bool (okShI L ss)) ∧ Below w.heap.size w w' := by
  have hB := (Below.refl w.heap.size w).alloc (Nat.le_refl _) (.cells #[.int .i64 L, .slice a n c] 27)
  have hln : ss.length = n := by simpa [strVals] using hr.len
  have hlim := hr.lim
  have HR := hid (hr.below hB (Nat.le_refl _))
  have HLN := hid hln
  have HB := hid hB
  by_cases hL : 1 ≤ L ∧ L ≤ 3
  · obtain ⟨hL1, hL3⟩ := hL
    by_cases hn8 : n ≤ 8
    · have hn8i : ¬ ((8 : Int) < (n : Int)) := by omega
      have HI := hid (fun (j : Nat) (s : ByteArray) (hs : ss[j]? = some s) (w : World) => areLetters_c L s w (hz s (List.mem_of_getElem? hs)) (by omega))
      have HBAD := hid (fun (j : Nat) (hj : j < n) (h : gAt L ss j = false) => okShI_word (by omega) h)
      have HEND := hid (fun h : (List.range n).all (gAt L ss) = true => show okShI L ss = true from (okShI_end (L := L) (ss := ss) (by rw [hln]; exact h)).trans (by rw [inB_t ⟨hL1, hL3⟩, decide_eq_true (by omega)]; rfl))
      have H0 := hid (fun (s : ByteArray) (hs : ss[0]? = some s) => gAt_zero (L := L) hs)
      have H1 := hid (fun (i : Nat) (t s : ByteArray) (ht : ss[i]? = some t) (hs : ss[i + 1]? = some s) => gAt_succ (L := L) ht hs)
      have HST := hid (fun (j : Nat) (h : gAt L ss j = true) (hz : (List.range j).all (gAt L ss) = true) => gTo_step h hz)
      obtain ⟨R, hR⟩ : ∃ R, R = okShI L ss := ⟨_, rfl⟩
      rw [← hR] at HBAD HEND
      rw [← hR]
      obtain ⟨G, hG⟩ : ∃ G, G = gAt L ss := ⟨_, rfl⟩
      rw [← hG] at HBAD HEND H0 H1 HST
      clear hr hz hB hln hR hG
      go_enter Tryz.func25, Tryz.ntmps25
      go_wp2_with go_in
      go_loop [18] (fun i => ∃ j : Nat, j ≤ n ∧ i = .int .i64 j ∧ Hid ((List.range j).all G = true)) (fun i => n - (intOf i).toNat)
      case atStart => exact ⟨0, by omega, rfl, hid rfl⟩
      case round =>
        obtain ⟨j, hj, rfl, HZ⟩ := hrel
        by_cases hlt : j < n
        · obtain ⟨s, hs⟩ := get_some (l := ss) (n := j) (by rw [HLN.out]; exact hlt)
          obtain ⟨b, off, rfl, hb, hc⟩ := HR.out.at_ (by omega)
          have hcell := hc j _ (strVals_get hs)
          have hji : (j : Int) < (n : Int) := by omega
          have HIJ := hid (HI.out j s hs)
          have HBJ := hid (HBAD.out j hlt)
          have HSJ := hid (fun h => HST.out j h HZ.out)
          obtain ⟨l, hl⟩ : ∃ l, l = lets L s.data.toList := ⟨_, rfl⟩
          obtain ⟨z, hz⟩ : ∃ z, z = inB (s.size : Int) 1 3 := ⟨_, rfl⟩
          rw [← hl] at HIJ
          have HZ1 := hid (fun h : (s.size : Int) < 1 => show z = false by rw [hz]; exact inB_f (by omega))
          have HZ2 := hid (fun h : (3 : Int) < (s.size : Int) => show z = false by rw [hz]; exact inB_f (by omega))
          have HZ3 := hid (fun (h : ¬ ((s.size : Int) < 1)) (h3 : ¬ ((3 : Int) < (s.size : Int))) => show z = true by rw [hz]; exact inB_t (by omega))
          by_cases hj0 : j = 0
          · subst hj0
            have HG := hid (H0.out s hs)
            rw [← hl, ← hz] at HG
            simp only [Nat.add_zero] at hcell
            clear hs hc hl hz HI HBAD H0 H1 HST HEND
            cases l with
            | false =>
              have HRF := hid (HBJ.out HG.out)
              go_wp2_with fail
              refine (HIJ.out _).mono ?_
              rintro e w' ⟨rfl, rfl⟩
              go_wp2
              go_ret
              exact ⟨ret_bool HRF.out.symm, HB.out⟩
            | true =>
              by_cases hs1 : (s.size : Int) < 1
              · have HRF := hid (HBJ.out (HG.out.trans (by rw [HZ1.out hs1]; rfl)))
                go_wp2_with fail
                refine (HIJ.out _).mono ?_
                rintro e w' ⟨rfl, rfl⟩
                go_wp2
                go_ret
                exact ⟨ret_bool HRF.out.symm, HB.out⟩
              · by_cases hs3 : (3 : Int) < (s.size : Int)
                · have HRF := hid (HBJ.out (HG.out.trans (by rw [HZ2.out hs3]; rfl)))
                  go_wp2_with fail
                  refine (HIJ.out _).mono ?_
                  rintro e w' ⟨rfl, rfl⟩
                  go_wp2
                  go_ret
                  exact ⟨ret_bool HRF.out.symm, HB.out⟩
                · have HN := hid (HSJ.out (HG.out.trans (by rw [HZ3.out hs1 hs3]; rfl)))
                  go_wp2_with fail
                  refine (HIJ.out _).mono ?_
                  rintro e w' ⟨rfl, rfl⟩
                  go_wp2
                  go_round
                  case rel => exact ⟨0 + 1, by omega, by go_num, HN⟩
                  case measure => simp [intOf] <;> omega
          · obtain ⟨i, rfl⟩ : ∃ i, j = i + 1 := ⟨j - 1, by omega⟩
            obtain ⟨t, ht⟩ := get_some (l := ss) (n := i) (by rw [HLN.out]; omega)
            have hcell2 := hc i _ (strVals_get ht)
            have HG := hid (H1.out i t s ht hs)
            rw [← hl, ← hz] at HG
            have hki : (i : Int) < (n : Int) := by omega
            have hi1 : (0 : Int) < (i : Int) + 1 := by omega
            clear hs ht hc hl hz HI HBAD H0 H1 HST HEND
            cases l with
            | false =>
              have HRF := hid (HBJ.out HG.out)
              go_wp2_with fail
              refine (HIJ.out _).mono ?_
              rintro e w' ⟨rfl, rfl⟩
              go_wp2
              go_ret
              exact ⟨ret_bool HRF.out.symm, HB.out⟩
            | true =>
              by_cases hs1 : (s.size : Int) < 1
              · have HRF := hid (HBJ.out (HG.out.trans (by rw [HZ1.out hs1]; rfl)))
                go_wp2_with fail
                refine (HIJ.out _).mono ?_
                rintro e w' ⟨rfl, rfl⟩
                go_wp2
                go_ret
                exact ⟨ret_bool HRF.out.symm, HB.out⟩
              · by_cases hs3 : (3 : Int) < (s.size : Int)
                · have HRF := hid (HBJ.out (HG.out.trans (by rw [HZ2.out hs3]; rfl)))
                  go_wp2_with fail
                  refine (HIJ.out _).mono ?_
                  rintro e w' ⟨rfl, rfl⟩
                  go_wp2
                  go_ret
                  exact ⟨ret_bool HRF.out.symm, HB.out⟩
                · cases hlss : Op.bytesLess t.toList s.toList with
                  | false =>
                    have HRF := hid (HBJ.out (HG.out.trans (by rw [hlss]; simp)))
                    go_wp2_with fail
                    refine (HIJ.out _).mono ?_
                    rintro e w' ⟨rfl, rfl⟩
                    go_wp2
                    go_ret
                    exact ⟨ret_bool HRF.out.symm, HB.out⟩
                  | true =>
                    have HN := hid (HSJ.out (HG.out.trans (by rw [HZ3.out hs1 hs3, hlss]; rfl)))
                    go_wp2_with fail
                    refine (HIJ.out _).mono ?_
                    rintro e w' ⟨rfl, rfl⟩
                    go_wp2
                    go_round
                    case rel => exact ⟨i + 1 + 1, by omega, by go_num, HN⟩
                    case measure => simp [intOf] <;> omega
        · obtain rfl : j = n := by omega
          have HRE := hid (HEND.out HZ.out)
          go_wp2
          go_ret
          exact ⟨ret_bool HRE.out.symm, HB.out⟩
    · have hn8i : (8 : Int) < (n : Int) := by omega
      have HRF := hid (show okShI L ss = false by unfold okShI; rw [show decide (ss.length ≤ 8) = false from decide_eq_false (by omega), Bool.and_false, Bool.false_and])
      obtain ⟨R, hR⟩ : ∃ R, R = okShI L ss := ⟨_, rfl⟩
      rw [← hR] at HRF
      rw [← hR]
      clear hr hz hB hln hR
      go_enter Tryz.func25, Tryz.ntmps25
      go_wp2_with go_in
      go_ret
      exact ⟨ret_bool HRF.out.symm, HB.out⟩
  · have HRF := hid (okShI_lets (L := L) (ss := ss) (inB_f (by omega)))
    obtain ⟨R, hR⟩ : ∃ R, R = okShI L ss := ⟨_, rfl⟩
    rw [← hR] at HRF
    rw [← hR]
    clear hr hz hB hln hR
    by_cases h1 : 1 ≤ L
    · have h3 : ¬ (L ≤ 3) := by omega
      clear hL
      go_enter Tryz.func25, Tryz.ntmps25
      go_wp2_with go_in
      go_ret
      exact ⟨ret_bool HRF.out.symm, HB.out⟩
    · clear hL
      go_enter Tryz.func25, Tryz.ntmps25
      go_wp2_with go_in
      go_ret
      exact ⟨ret_bool HRF.out.symm, HB.out⟩
end Go.Proofs.YtpfeflhcbcgbfaaGreatDoor
