/- Places of a part in a text. Conditions: sizes of at most 1048576 bytes. -/
import Derived.Test.YtcfjchaklgjmkaaLaw2
import Derived.Lib.IndexBytes
namespace Go.Proofs.Ytcfjchaklgjmkaa
open Go.RowKit

/-- Does p begin in s at the place j? -/
def occ (s p : List UInt8) (j : Nat) : Bool := p.isPrefixOf (s.drop j)
theorem prefix_beq (p l : List UInt8) : (l.take p.length == p) = p.isPrefixOf l := by
  rw [Bool.eq_iff_iff, beq_iff_eq, List.isPrefixOf_iff_prefix, List.prefix_iff_eq_take]
  exact ⟨fun h => h.symm, fun h => h.symm⟩
theorem occ_ext (s p : ByteArray) (j : Nat) : ((s.extract j (j + p.size)).toList == p.toList) = occ s.data.toList p.data.toList j := by
  rw [ByteArray.toList_eq, ByteArray.toList_eq, Lib.extract_data, Nat.add_sub_cancel_left, occ, ← size_list p, prefix_beq]
def hasPre (s p : ByteArray) : Bool := p.data.toList.isPrefixOf s.data.toList
theorem pre_ext (s p : ByteArray) : ((s.extract 0 p.size).toList == p.toList) = hasPre s p := by
  have := occ_ext s p 0
  rw [Nat.zero_add] at this
  rw [this, occ, List.drop_zero]; rfl
def pl (s p : List UInt8) (n : Nat) : List Int := ((List.range n).filter (occ s p)).map fun j : Nat => (j : Int)
theorem pl_hit {s p : List UInt8} {n : Nat} (h : occ s p n = true) : pl s p (n + 1) = pl s p n ++ [(n : Int)] := by simp [pl, List.range_succ, List.filter_append, h]
theorem pl_miss {s p : List UInt8} {n : Nat} (h : occ s p n = false) : pl s p (n + 1) = pl s p n := by simp [pl, List.range_succ, List.filter_append, h]
theorem pl_le (s p : List UInt8) (n : Nat) : (pl s p n).length ≤ n := by
  simp only [pl, List.length_map]
  exact Nat.le_trans (List.length_filter_le _ _) (by simp)
theorem pl_ext {s p : List UInt8} {n : Nat} (h : ∀ j, n ≤ j → occ s p j = false) : ∀ m, n ≤ m → pl s p m = pl s p n := by
  intro m hm
  induction m with
  | zero => obtain rfl : n = 0 := by omega
            rfl
  | succ m ih =>
    by_cases he : n = m + 1
    · rw [he]
    · rw [pl_miss (h m (by omega)), ih (by omega)]
theorem occ_len {s p : List UInt8} {j : Nat} (h : occ s p j = true) : p = [] ∨ j + p.length ≤ s.length := by
  have h2 := (List.isPrefixOf_iff_prefix.1 h).length_le
  rw [List.length_drop] at h2
  by_cases hp : p = []
  · exact .inl hp
  · have : 0 < p.length := List.length_pos_iff.2 hp
    exact .inr (by omega)
theorem occ_past {s p : List UInt8} {j : Nat} (hp : p ≠ []) (h : s.length < j + p.length) : occ s p j = false := by
  cases he : occ s p j with
  | false => rfl
  | true => rcases occ_len he with h1 | h1
            · exact absurd h1 hp
            · omega
/-- A part of a text has its letters. -/
theorem occ_lets {k : Int} {s p : List UInt8} {j : Nat} (h : occ s p j = true) (hl : lets k s = true) : lets k p = true := by
  have h2 := List.isPrefixOf_iff_prefix.1 h
  unfold lets at *
  rw [List.all_eq_true] at *
  exact fun x hx => hl x (List.mem_of_mem_drop (h2.subset hx))
/-- The places of a part in a long text. -/
def plOf (s p : List UInt8) : List Int := if p ≠ [] ∧ (lets 3 s && decide (s.length ≤ 300)) = true then pl s p s.length else []
theorem plOf_none {s p : List UInt8} (hp : p ≠ []) (h : (lets 3 p && decide (p.length ≤ 300)) = false) : plOf s p = [] := by
  unfold plOf
  split
  · rename_i hc
    have hs := hc.2
    simp only [Bool.and_eq_true, decide_eq_true_eq] at hs
    have : ∀ j, 0 ≤ j → occ s p j = false := fun j _ => by
      cases he : occ s p j with
      | false => rfl
      | true =>
        have h1 := occ_lets he hs.1
        rcases occ_len he with h2 | h2
        · exact absurd h2 hp
        · rw [h1] at h; simp at h; omega
    rw [pl_ext this _ (Nat.zero_le _)]; simp [pl]
  · rfl

theorem infoInt : (Try.prog.info? 3).map (fun i => (i.zero, i.size, i.bytes)) = some (some (.int .i64 0), 1, 8) := by kernel_rfl

set_option maxHeartbeats 1000000 in
theorem slHasPrefix_c (s p : ByteArray) (w : World) (hs : s.size ≤ maxLen) (hp : p.size ≤ maxLen) :
    Calls Try.prog 88 #[.string s, .string p] w fun e w' => e = .returned (.bool (hasPre s p)) ∧ w = w' := by
  unfold maxLen at hs hp
  by_cases h : p.size ≤ s.size
  · go_enter Try.func88, Try.ntmps88
    go_wp2
    go_ret
    exact ⟨ret_bool (pre_ext s p), rfl⟩
  · go_enter Try.func88, Try.ntmps88
    go_wp2
    go_ret
    refine ⟨ret_bool ?_, rfl⟩
    cases he : hasPre s p with
    | false => rfl
    | true => have := (List.isPrefixOf_iff_prefix.1 he).length_le; rw [size_list, size_list] at this; omega

set_option maxHeartbeats 1000000 in
theorem hasPrefix_c (s p : ByteArray) (w : World) (hs : s.size ≤ maxLen) (hp : p.size ≤ maxLen) :
    Calls Try.prog 73 #[.string s, .string p] w fun e w' => e = .returned (.bool (hasPre s p)) ∧ w = w' := by
  go_enter Try.func73, Try.ntmps73
  go_wp2_with fail
  refine (slHasPrefix_c s p _ hs hp).mono ?_
  rintro e w' ⟨rfl, rfl⟩
  go_wp2
  go_ret
  exact ⟨rfl, rfl⟩

/-- What both functions return: the places, in new memory. -/
def PlPost (s p : ByteArray) (w : World) (e : Ending) (w' : World) : Prop :=
  ∃ v, e = .returned v ∧ w'.ownsRow w.heap.size 3 1 v (plOf s.data.toList p.data.toList).length (intVals (plOf s.data.toList p.data.toList)) ∧ Below w.heap.size w w'
theorem intVals_snoc (xs : List Int) (x : Int) : intVals (xs ++ [x]) = intVals xs ++ [.int .i64 x] := by simp [intVals]
theorem plPost_mk {s p : ByteArray} {w w' : World} {v : Value} {xs : List Int} (hx : plOf s.data.toList p.data.toList = xs) (ho : w'.ownsRow w.heap.size 3 1 v xs.length (intVals xs)) (hb : Below w.heap.size w w') : PlPost s p w (.returned v) w' :=
  ⟨v, rfl, by rw [hx]; exact ho, hb⟩

set_option maxHeartbeats 1000000 in
theorem spec_PlacesIn_c (s p : ByteArray) (w : World) (hs : s.size ≤ 1048576) (hp : p.size ≤ 1048576) :
    Calls Try.prog 43 #[.string s, .string p] w (PlPost s p w) := by
  have hemp : World.ownsRow (w.alloc (.cells #[] 3)) w.heap.size 3 1 (.slice (some ⟨w.heap.size, 0, none⟩) 0 0) 0 [] :=
    World.ownsRow_made w #[] 0 (Nat.le_refl _) (Nat.zero_le _) rfl
  have hbe : Below w.heap.size w (w.alloc (.cells #[] 3)) := (Below.refl _ _).alloc (Nat.le_refl _) _
  have HE := hid hemp
  have HB := hid hbe
  clear hemp hbe
  by_cases hne : p.data.toList = []
  · have hz : p.size = 0 := by rw [← size_list, hne]; rfl
    have hn1 : p.toList.isEmpty = true := by rw [ByteArray.toList_eq, hne]; rfl
    have HP := hid hne
    clear hne
    go_enter Try.func43, Try.ntmps43
    go_wp2
    refine wp_loop_rounds 1 ?_
    rw [rounds_succ]
    go_wp2_with (first | (go_at_call 74; refine (l31Fits_c _ _ (by unfold maxLen; omega)).mono ?_; rintro e w' ⟨rfl, rfl⟩))
    all_goals
      go_ret
      exact plPost_mk (xs := []) (by simp [plOf, HP.out]) HE.out HB.out
  have hz : 0 < p.size := by rw [← size_list]; exact List.length_pos_iff.2 hne
  have hn1 : p.toList.isEmpty = false := by rw [ByteArray.toList_eq]; simpa using hne
  have HP := hid hne
  clear hne
  by_cases hf : (lets 3 s.data.toList && decide (s.size ≤ 300)) = true
  · go_enter Try.func43, Try.ntmps43
    go_wp2
    go_loopw [5, 6] (fun v i wr => ∃ j : Nat, j ≤ s.size + 1 ∧ i = .int .i64 j ∧ wr.ownsRow w.heap.size 3 1 v (pl s.data.toList p.data.toList j).length (intVals (pl s.data.toList p.data.toList j)) ∧ Below w.heap.size w wr) (fun _ i _ => s.size + 1 - (intOf i).toNat)
    case atStart => exact ⟨0, by omega, rfl, by rw [show pl s.data.toList p.data.toList 0 = [] from by simp [pl]]; exact HE.out, HB.out⟩
    case round =>
      obtain ⟨j, hj, rfl, hown, hbel⟩ := hrel
      have hple := pl_le s.data.toList p.data.toList j
      by_cases hlt : j + p.size ≤ s.size
      · have hext := occ_ext s p j
        cases ho : occ s.data.toList p.data.toList j
        · rw [ho] at hext
          have HO := hid ho
          clear ho
          go_wp2_with (first | (go_at_call 74; refine (l31Fits_c _ _ (by unfold maxLen; omega)).mono ?_; rintro e w' ⟨rfl, rfl⟩))
          go_roundw
          case rel => exact ⟨j + 1, by omega, by go_num, by rw [pl_miss HO.out]; exact hown, hbel⟩
          case measure => simp [intOf]; omega
        · rw [ho] at hext
          have HO := hid ho
          clear ho
          go_wp2_with (first | (go_at_call 74; refine (l31Fits_c _ _ (by unfold maxLen; omega)).mono ?_; rintro e w' ⟨rfl, rfl⟩) | (at_builtin; go_must (refine wpList_app1 rfl _ _ 44 rfl w.heap.size 3 (.int .i64 0) 8 Try.underlying44 infoInt rfl _ (pl s.data.toList p.data.toList j).length (intVals (pl s.data.toList p.data.toList j)) _ hown rfl rfl rfl (by omega) (by unfold maxLen; omega) hbel hbel.size ?_); intro v' w1 hown' hbel'))
          go_roundw
          case rel => exact ⟨j + 1, by omega, by go_num, by rw [pl_hit HO.out, intVals_snoc, List.length_append]; exact hown', hbel'⟩
          case measure => simp [intOf]; omega
      · go_wp2_with (first | (go_at_call 74; refine (l31Fits_c _ _ (by unfold maxLen; omega)).mono ?_; rintro e w' ⟨rfl, rfl⟩))
        go_ret
        have hx : plOf s.data.toList p.data.toList = pl s.data.toList p.data.toList j := by
          rw [plOf, if_pos ⟨HP.out, by rw [size_list]; exact hf⟩]
          by_cases hj2 : j ≤ s.size
          · exact pl_ext (fun i hi => occ_past HP.out (by rw [size_list, size_list]; omega)) _ (by rw [size_list]; omega)
          · exact (pl_ext (fun i hi => occ_past HP.out (by rw [size_list, size_list]; rw [size_list] at hi; omega)) _ (by rw [size_list]; omega)).symm
        exact plPost_mk hx hown hbel
  · have hf2 : (lets 3 s.data.toList && decide (s.size ≤ 300)) = false := by simpa using hf
    have hx : plOf s.data.toList p.data.toList = [] := by rw [plOf, if_neg]; rw [size_list]; exact fun h => hf h.2
    have HX := hid hx
    clear hf hx
    go_enter Try.func43, Try.ntmps43
    go_wp2
    refine wp_loop_rounds 1 ?_
    rw [rounds_succ]
    go_wp2_with (first | (go_at_call 74; refine (l31Fits_c _ _ (by unfold maxLen; omega)).mono ?_; rintro e w' ⟨rfl, rfl⟩))
    all_goals
      go_ret
      exact plPost_mk HX.out HE.out HB.out

set_option maxHeartbeats 1000000 in
theorem impl_PlacesIn_c (s p : ByteArray) (w : World) (hs : s.size ≤ 1048576) (hp : p.size ≤ 1048576) :
    Calls Try.prog 34 #[.string s, .string p] w (PlPost s p w) := by
  have hemp : World.ownsRow (w.alloc (.cells #[] 3)) w.heap.size 3 1 (.slice (some ⟨w.heap.size, 0, none⟩) 0 0) 0 [] :=
    World.ownsRow_made w #[] 0 (Nat.le_refl _) (Nat.zero_le _) rfl
  have hbe : Below w.heap.size w (w.alloc (.cells #[] 3)) := (Below.refl _ _).alloc (Nat.le_refl _) _
  have HE := hid hemp
  have HB := hid hbe
  clear hemp hbe
  by_cases hall : (lets 3 s.data.toList && decide (s.size ≤ 300)) = true ∧ (lets 3 p.data.toList && decide (p.size ≤ 300)) = true ∧ p.data.toList ≠ []
  · obtain ⟨hf, hg, hne⟩ := hall
    have hn1 : p.toList.isEmpty = false := by rw [ByteArray.toList_eq]; simpa using hne
    have HP := hid hne
    clear hne
    go_enter Try.func34, Try.ntmps34
    go_wp2_with (first | (go_at_call 55; refine (isLong_c _ _ _ (by unfold maxLen; omega) (by omega)).mono ?_; rintro e w' ⟨rfl, rfl⟩))
    go_loopw [5, 6, 22] (fun v _ i wr => ∃ j : Nat, j ≤ s.size ∧ i = .int .i64 j ∧ wr.ownsRow w.heap.size 3 1 v (pl s.data.toList p.data.toList j).length (intVals (pl s.data.toList p.data.toList j)) ∧ Below w.heap.size w wr) (fun _ _ i _ => s.size - (intOf i).toNat)
    case atStart => exact ⟨0, by omega, rfl, by rw [show pl s.data.toList p.data.toList 0 = [] from by simp [pl]]; exact HE.out, HB.out⟩
    case round =>
      obtain ⟨j, hj, rfl, hown, hbel⟩ := hrel
      have hple := pl_le s.data.toList p.data.toList j
      by_cases hlt : j < s.size
      · have hext : hasPre (s.extract j s.size) p = occ s.data.toList p.data.toList j := by rw [hasPre, Lib.extract_to_end]; rfl
        cases ho : occ s.data.toList p.data.toList j
        · rw [ho] at hext
          have HO := hid ho
          clear ho
          go_wp2_with (first | (go_at_call 73; refine (hasPrefix_c _ _ _ (by rw [ByteArray.size_extract]; unfold maxLen; omega) (by unfold maxLen; omega)).mono ?_; rintro e w' ⟨rfl, rfl⟩))
          go_roundw
          case rel => exact ⟨j + 1, by omega, by go_num, by rw [pl_miss HO.out]; exact hown, hbel⟩
          case measure => simp [intOf]; omega
        · rw [ho] at hext
          have HO := hid ho
          clear ho
          go_wp2_with (first | (go_at_call 73; refine (hasPrefix_c _ _ _ (by rw [ByteArray.size_extract]; unfold maxLen; omega) (by unfold maxLen; omega)).mono ?_; rintro e w' ⟨rfl, rfl⟩) | (at_builtin; go_must (refine wpList_app1 rfl _ _ 44 rfl w.heap.size 3 (.int .i64 0) 8 Try.underlying44 infoInt rfl _ (pl s.data.toList p.data.toList j).length (intVals (pl s.data.toList p.data.toList j)) _ hown rfl rfl rfl (by omega) (by unfold maxLen; omega) hbel hbel.size ?_); intro v' w1 hown' hbel'))
          go_roundw
          case rel => exact ⟨j + 1, by omega, by go_num, by rw [pl_hit HO.out, intVals_snoc, List.length_append]; exact hown', hbel'⟩
          case measure => simp [intOf]; omega
      · obtain rfl : j = s.size := by omega
        go_wp2
        go_ret
        exact plPost_mk (by rw [plOf, if_pos ⟨HP.out, by rw [size_list]; exact hf⟩, size_list]) hown hbel
  · have hx : plOf s.data.toList p.data.toList = [] := by
      by_cases h1 : p.data.toList = []
      · simp [plOf, h1]
      by_cases h2 : (lets 3 p.data.toList && decide (p.size ≤ 300)) = true
      · rw [plOf, if_neg]
        rw [size_list]
        exact fun h => hall ⟨h.2, h2, h1⟩
      · exact plOf_none h1 (by rw [size_list]; simpa using h2)
    have HX := hid hx
    clear hx
    have hor : (lets 3 s.data.toList && decide (s.size ≤ 300)) = false ∨ ((lets 3 s.data.toList && decide (s.size ≤ 300)) = true ∧ (lets 3 p.data.toList && decide (p.size ≤ 300)) = false) ∨ ((lets 3 s.data.toList && decide (s.size ≤ 300)) = true ∧ (lets 3 p.data.toList && decide (p.size ≤ 300)) = true ∧ p.toList.isEmpty = true) := by
      rw [ByteArray.toList_eq]
      by_cases h1 : (lets 3 s.data.toList && decide (s.size ≤ 300)) = true <;> by_cases h2 : (lets 3 p.data.toList && decide (p.size ≤ 300)) = true <;> by_cases h3 : p.data.toList = [] <;> simp_all
    clear hall
    rcases hor with h1 | ⟨h1, h2⟩ | ⟨h1, h2, h3⟩
    all_goals
      go_enter Try.func34, Try.ntmps34
      go_wp2_with (first | (go_at_call 55; refine (isLong_c _ _ _ (by unfold maxLen; omega) (by omega)).mono ?_; rintro e w' ⟨rfl, rfl⟩))
      go_ret
      exact plPost_mk HX.out (World.ownsRow_nil _ _ _ _) (Below.refl _ _)
end Go.Proofs.Ytcfjchaklgjmkaa
