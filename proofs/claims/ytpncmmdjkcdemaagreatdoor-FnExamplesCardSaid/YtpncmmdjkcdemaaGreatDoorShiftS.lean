/- A shift that is one: IsShift of both says so. Conditions: the shift is one, its words lie in memory. -/
import Derived.Test.YtpncmmdjkcdemaaGreatDoorParseI
import Derived.Test.YtpncmmdjkcdemaaGreatDoorApply
import Derived.Test.YtpncmmdjkcdemaaGreatDoorAppN
namespace Go.Proofs.YtpncmmdjkcdemaaGreatDoor
open Go.RowKit

theorem own_setS {wr : World} {B e s n b : Nat} {v : Value} {xs : List Value} (h : wr.ownsRow B e s v n xs) (hb : b < B) (q : Nat) (y : Value) : (wr.setCell ⟨b, q, none⟩ y).ownsRow B e s v n xs :=
  h.kept (row := some b) ⟨rfl, rfl, rfl, by simp, fun p hq hr => Below.heap_setCell _ _ _ _ (fun e => hr (by rw [show p = b from e]))⟩ (by
    cases hv : v.ownBlock with
    | none => exact .inl rfl
    | some q =>
      refine .inr fun e => ?_
      injection e with e
      have := (h.lt q hv).1
      omega)
theorem boxS {w wr : World} {A : Array Value} {T : TypeId} (h : Below (w.alloc (.cells A T)).heap.size (w.alloc (.cells A T)) wr) :
    (∀ k, wr.cell? ⟨w.heap.size, k, none⟩ = A[k]?) ∧ (∀ k, wr.frozen? ⟨w.heap.size, k, none⟩ = false) ∧ w.heap.size < wr.heap.size ∧ Below w.heap.size w wr := by
  have hs := h.size
  simp at hs
  refine ⟨fun k => ?_, fun k => ?_, by omega, ((Below.refl _ _).alloc (Nat.le_refl _) _).trans (h.mono (by simp))⟩
  · exact (h.cell (p := ⟨w.heap.size, k, none⟩) (by simp)).trans (World.cell?_alloc_at _ _ _ _ rfl)
  · exact (h.frozen (p := ⟨w.heap.size, k, none⟩) (by simp)).trans (World.frozen?_alloc_at _ _ _ _ rfl)
/-- A shift's number of letters and its words. -/
def okShB (k : Nat) (ss : List ByteArray) : Bool :=
  decide (1 ≤ k ∧ k ≤ 3) && decide (ss.length ≤ 8) && (ss.all fun s => lets k s.data.toList && decide (1 ≤ s.size ∧ s.size ≤ 3)) && (List.range (ss.length - 1)).all fun i => Op.bytesLess (ss.getD i ByteArray.empty).data.toList (ss.getD (i + 1) ByteArray.empty).data.toList
theorem okSh_facts {k : Nat} {ss : List ByteArray} (h : okShB k ss = true) : (1 ≤ k ∧ k ≤ 3) ∧ ss.length ≤ 8 ∧ (∀ (i : Nat) (s : ByteArray), ss[i]? = some s → lets k s.data.toList = true ∧ 1 ≤ s.size ∧ s.size ≤ 3) ∧ ∀ (i : Nat) (s t : ByteArray), ss[i]? = some s → ss[i + 1]? = some t → Op.bytesLess s.toList t.toList = true := by
  unfold okShB at h
  simp only [Bool.and_eq_true, decide_eq_true_eq, List.all_eq_true] at h
  obtain ⟨⟨⟨h1, h2⟩, h3⟩, h4⟩ := h
  refine ⟨h1, h2, fun i s hs => ?_, fun i s t hs ht => ?_⟩
  · exact h3 s (List.mem_of_getElem? hs)
  · have hl := (List.getElem?_eq_some_iff.1 ht).1
    have := h4 i (List.mem_range.2 (by omega))
    rw [List.getD_eq_getElem?_getD, hs, List.getD_eq_getElem?_getD, ht] at this
    rw [Lib.toList_data, Lib.toList_data]
    exact this
set_option maxHeartbeats 2000000 in
theorem spec_IsShift_ok (k : Nat) (a : Option Addr) (n c : Nat) (ss : List ByteArray) (w : World) (hr : RowAt w a n (strVals ss)) (h : okShB k ss = true) :
    Calls Tryz.prog 22 #[.agg #[.int .i64 k, .slice a n c]] w fun e w' => e = .returned (.bool true) ∧ Below w.heap.size w w' := by
  obtain ⟨hk, hl8, hw, has⟩ := okSh_facts h
  have hB := (Below.refl w.heap.size w).alloc (Nat.le_refl _) (.cells #[.int .i64 k, .slice a n c] 30)
  have hln : ss.length = n := by simpa [strVals] using hr.len
  have HR := hid (hr.below hB (Nat.le_refl _))
  have HW := hid hw
  have HA := hid has
  have HLN := hid hln
  have hn8 : (n : Int) ≤ 8 := by omega
  have HK := hid (fun w => l1In_c (k : Int) 1 3 w)
  rw [inB_t (show (1 : Int) ≤ (k : Int) ∧ (k : Int) ≤ 3 by omega)] at HK
  have HB := hid hB
  clear hr h hw has hB hl8 hln
  go_enter Tryz.func22, Tryz.ntmps22
  go_wp2
  go_loop [3] (fun i => ∃ j : Nat, j ≤ n ∧ i = .int .i64 j) (fun i => n - (intOf i).toNat)
  case atStart => exact ⟨0, by omega, rfl⟩
  case round =>
    obtain ⟨j, hj, rfl⟩ := hrel
    by_cases hlt : j < n
    · obtain ⟨s, hs⟩ := get_some (l := ss) (n := j) (by rw [HLN.out]; exact hlt)
      obtain ⟨hs1, hs2, hs3⟩ := HW.out j s hs
      obtain ⟨b, off, rfl, hb, hc⟩ := HR.out.at_ (by omega)
      have hcell := hc j _ (strVals_get hs)
      have hji : (j : Int) < (n : Int) := by omega
      have HI := hid (fun w => spec_IsWord_c k s w hk (by unfold maxLen; omega))
      rw [hs1, decide_eq_true (show s.size ≤ 16 by omega)] at HI
      have HL := hid (fun w => l1In_c (s.size : Int) 1 3 w)
      rw [inB_t (show (1 : Int) ≤ (s.size : Int) ∧ (s.size : Int) ≤ 3 by omega)] at HL
      by_cases hj0 : j = 0
      · subst hj0
        simp only [Nat.add_zero] at hcell
        clear hs hs1 hc
        go_wp2_with (first | (go_at_call 35; refine (HI.out _).mono ?_; rintro e w' ⟨rfl, rfl⟩) | (go_at_call 34; refine (HL.out _).mono ?_; rintro e w' ⟨rfl, rfl⟩))
        go_round
        case rel => exact ⟨0 + 1, by omega, by go_num⟩
        case measure => simp [intOf] <;> omega
      · obtain ⟨i, rfl⟩ : ∃ i, j = i + 1 := ⟨j - 1, by omega⟩
        obtain ⟨t, ht⟩ := get_some (l := ss) (n := i) (by rw [HLN.out]; omega)
        have hcell2 := hc i _ (strVals_get ht)
        have hlss := HA.out i t s ht hs
        have hki : (i : Int) < (n : Int) := by omega
        have hi1 : (0 : Int) < (i : Int) + 1 := by omega
        clear hs ht hs1 hc
        go_wp2_with (first | (go_at_call 35; refine (HI.out _).mono ?_; rintro e w' ⟨rfl, rfl⟩) | (go_at_call 34; refine (HL.out _).mono ?_; rintro e w' ⟨rfl, rfl⟩))
        go_round
        case rel => exact ⟨i + 1 + 1, by omega, by go_num⟩
        case measure => simp [intOf] <;> omega
    · go_wp2_with (first | (go_at_call 34; refine (HK.out _).mono ?_; rintro e w' ⟨rfl, rfl⟩))
      go_ret
      exact ⟨rfl, HB.out⟩
set_option maxHeartbeats 2000000 in
theorem impl_IsShift_ok (k : Nat) (a : Option Addr) (n c : Nat) (ss : List ByteArray) (w : World) (hr : RowAt w a n (strVals ss)) (h : okShB k ss = true) :
    Calls Tryz.prog 46 #[.agg #[.int .i64 k, .slice a n c]] w fun e w' => e = .returned (.bool true) ∧ Below w.heap.size w w' := by
  obtain ⟨hk, hl8, hw, has⟩ := okSh_facts h
  have hk1 : (1 : Int) ≤ (k : Int) := by omega
  have hk3 : (k : Int) ≤ 3 := by omega
  have hB := (Below.refl w.heap.size w).alloc (Nat.le_refl _) (.cells #[.int .i64 k, .slice a n c] 30)
  have hln : ss.length = n := by simpa [strVals] using hr.len
  have HR := hid (hr.below hB (Nat.le_refl _))
  have HW := hid hw
  have HA := hid has
  have HLN := hid hln
  have hn8 : ¬ ((8 : Int) < (n : Int)) := by omega
  have HB := hid hB
  clear hr h hw has hB hl8 hln
  go_enter Tryz.func46, Tryz.ntmps46
  go_wp2_with go_in
  go_loop [18] (fun i => ∃ j : Nat, j ≤ n ∧ i = .int .i64 j) (fun i => n - (intOf i).toNat)
  case atStart => exact ⟨0, by omega, rfl⟩
  case round =>
    obtain ⟨j, hj, rfl⟩ := hrel
    by_cases hlt : j < n
    · obtain ⟨s, hs⟩ := get_some (l := ss) (n := j) (by rw [HLN.out]; exact hlt)
      obtain ⟨hs1, hs2, hs3⟩ := HW.out j s hs
      obtain ⟨b, off, rfl, hb, hc⟩ := HR.out.at_ (by omega)
      have hcell := hc j _ (strVals_get hs)
      have hji : (j : Int) < (n : Int) := by omega
      have HI := hid (fun w => areLetters_c k s w (by unfold maxLen; omega) (by omega))
      rw [hs1] at HI
      have hz1 : ¬ ((s.size : Int) < 1) := by omega
      have hz3 : ¬ ((3 : Int) < (s.size : Int)) := by omega
      by_cases hj0 : j = 0
      · subst hj0
        simp only [Nat.add_zero] at hcell
        clear hs hs1 hc
        go_wp2_with (first | (go_at_call 55; refine (HI.out _).mono ?_; rintro e w' ⟨rfl, rfl⟩))
        go_round
        case rel => exact ⟨0 + 1, by omega, by go_num⟩
        case measure => simp [intOf] <;> omega
      · obtain ⟨i, rfl⟩ : ∃ i, j = i + 1 := ⟨j - 1, by omega⟩
        obtain ⟨t, ht⟩ := get_some (l := ss) (n := i) (by rw [HLN.out]; omega)
        have hcell2 := hc i _ (strVals_get ht)
        have hlss := HA.out i t s ht hs
        have hki : (i : Int) < (n : Int) := by omega
        have hi1 : (0 : Int) < (i : Int) + 1 := by omega
        clear hs ht hs1 hc
        go_wp2_with (first | (go_at_call 55; refine (HI.out _).mono ?_; rintro e w' ⟨rfl, rfl⟩))
        go_round
        case rel => exact ⟨i + 1 + 1, by omega, by go_num⟩
        case measure => simp [intOf] <;> omega
    · go_wp2
      go_ret
      exact ⟨rfl, HB.out⟩
end Go.Proofs.YtpncmmdjkcdemaaGreatDoor
