/- How many different parts there are, of one length and of all lengths: both functions. No condition but the sizes. -/
import Derived.Test.YtcfjchaklgjmkaaParts
import Derived.Test.YtcfjchaklgjmkaaAddI
import Derived.Test.YtcfjchaklgjmkaaOpen
namespace Go.Proofs.Ytcfjchaklgjmkaa
open Go.RowKit

def fitW (s : ByteArray) : Bool := lets 3 s.data.toList && decide (s.size ≤ 300)
theorem fitW_size {s : ByteArray} (h : fitW s = true) : s.size ≤ 300 := by simp [fitW] at h; exact h.2
def cntOf (s : ByteArray) (n : Int) : Int := if (fitW s && inB n 0 20) = true then ((pts s n.toNat).length : Int) else -1
def rws (s : ByteArray) (j : Nat) : List Int := (List.range j).map fun k => ((pts s k).length : Int)
theorem rws_succ (s : ByteArray) (j : Nat) : rws s (j + 1) = rws s j ++ [((pts s j).length : Int)] := by simp [rws, List.range_succ]
theorem rws_len (s : ByteArray) (j : Nat) : (rws s j).length = j := by simp [rws]
def rowOf (s : ByteArray) (n : Int) : List Int := if (fitW s && inB n 0 20) = true then rws s (n.toNat + 1) else []
theorem rowOf_le (s : ByteArray) (n : Int) : (rowOf s n).length ≤ 21 := by
  unfold rowOf
  split
  · rename_i h
    rw [Bool.and_eq_true, inB_iff] at h
    rw [rws_len]; omega
  · simp
theorem intVals_snocC (xs : List Int) (x : Int) : intVals (xs ++ [x]) = intVals xs ++ [.int .i64 x] := by simp [intVals]
theorem fits_c (s : ByteArray) (w : World) (hs : s.size ≤ maxLen) :
    Calls Try.prog 74 #[.string s] w fun e w' => e = .returned (.bool (fitW s)) ∧ w = w' := l31Fits_c s w hs
set_option maxHeartbeats 1000000 in
theorem isCounted_c (s : ByteArray) (n : Int) (w : World) (hs : s.size ≤ maxLen) :
    Calls Try.prog 69 #[.string s, .int .i64 n] w fun e w' => e = .returned (.bool (fitW s && inB n 0 20)) ∧ w = w' := by
  have HL := hid (fun w => show Calls Try.prog 55 #[.int .i64 3, .string s] w fun e w' => e = .returned (.bool (fitW s)) ∧ w = w' from isLong_c 3 s w hs (by omega))
  obtain ⟨b, hb⟩ : ∃ b, b = fitW s := ⟨_, rfl⟩
  rw [← hb] at HL
  rw [← hb]
  clear hb
  by_cases h1 : 0 ≤ n <;> by_cases h2 : n ≤ 20 <;> cases b <;> first | (exfalso; omega) | {
    go_enter Try.func69, Try.ntmps69
    go_wp2_with (go_at_call 55; refine (HL.out _).mono ?_; rintro e w' ⟨rfl, rfl⟩)
    go_ret
    exact ⟨ret_bool (by simp [inB, h1, h2]), rfl⟩ }
set_option maxHeartbeats 1000000 in
theorem spec_PartCount_c (s : ByteArray) (n : Int) (w : World) (hs : s.size ≤ maxLen) :
    Calls Try.prog 41 #[.string s, .int .i64 n] w fun e w' => e = .returned (.int .i64 (cntOf s n)) ∧ Below w.heap.size w w' := by
  have HL := hid (fun w => fits_c s w hs)
  have HI := hid (fun w => l1In_c n 0 20 w)
  unfold cntOf
  have HS := hid (fun h => fitW_size (s := s) h)
  obtain ⟨b, hb⟩ : ∃ b, b = fitW s := ⟨_, rfl⟩
  rw [← hb] at HL HS
  rw [← hb]
  obtain ⟨d, hd⟩ : ∃ d, d = inB n 0 20 := ⟨_, rfl⟩
  rw [← hd] at HI
  rw [← hd]
  have HD := hid hd
  clear hb hd
  cases b
  · go_enter Try.func41, Try.ntmps41
    go_wp2_with (go_at_call 74; refine (HL.out _).mono ?_; rintro e w' ⟨rfl, rfl⟩)
    go_ret
    exact ⟨rfl, Below.refl _ _⟩
  · cases d
    · go_enter Try.func41, Try.ntmps41
      go_wp2_with (first | (go_at_call 74; refine (HL.out _).mono ?_; rintro e w' ⟨rfl, rfl⟩) | (go_at_call 57; refine (HI.out _).mono ?_; rintro e w' ⟨rfl, rfl⟩))
      go_ret
      exact ⟨rfl, Below.refl _ _⟩
    · have hn := inB_iff.1 HD.out.symm
      obtain ⟨m, rfl⟩ : ∃ m : Nat, n = m := ⟨n.toNat, by omega⟩
      have HP := hid (spec_l31Parts_c s m w (HS.out rfl) (by omega))
      rw [if_pos (show (true && true) = true from rfl), Int.toNat_natCast]
      unfold PartsPost at HP
      obtain ⟨l, hl⟩ : ∃ l, l = (pts s m).length := ⟨_, rfl⟩
      rw [← hl] at HP
      rw [← hl]
      clear hn hl
      go_enter Try.func41, Try.ntmps41
      go_wp2_with (first | (go_at_call 74; refine (HL.out _).mono ?_; rintro e w' ⟨rfl, rfl⟩) | (go_at_call 57; refine (HI.out _).mono ?_; rintro e w' ⟨rfl, rfl⟩))
      refine HP.out.mono ?_
      rintro e w1 ⟨g, c, rfl, ho, hb⟩
      clear ho
      go_wp2
      go_ret
      exact ⟨rfl, hb⟩
set_option maxHeartbeats 1000000 in
theorem impl_PartCount_c (s : ByteArray) (n : Int) (w : World) (hs : s.size ≤ maxLen) :
    Calls Try.prog 40 #[.string s, .int .i64 n] w fun e w' => e = .returned (.int .i64 (cntOf s n)) ∧ Below w.heap.size w w' := by
  have HI := hid (fun w => isCounted_c s n w hs)
  unfold cntOf
  obtain ⟨b, hb⟩ : ∃ b, b = (fitW s && inB n 0 20) := ⟨_, rfl⟩
  rw [← hb] at HI
  rw [← hb]
  have HB := hid hb
  clear hb
  cases b
  · go_enter Try.func40, Try.ntmps40
    go_wp2_with (go_at_call 69; refine (HI.out _).mono ?_; rintro e w' ⟨rfl, rfl⟩)
    go_ret
    exact ⟨rfl, Below.refl _ _⟩
  · have hb := HB.out.symm
    rw [Bool.and_eq_true, inB_iff] at hb
    obtain ⟨hs3, hn⟩ := hb
    obtain ⟨m, rfl⟩ : ∃ m : Nat, n = m := ⟨n.toNat, by omega⟩
    have HP := hid (impl_parts_c s m w (fitW_size hs3) (by omega))
    rw [if_pos rfl, Int.toNat_natCast]
    unfold PartsPost at HP
    obtain ⟨l, hl⟩ : ∃ l, l = (pts s m).length := ⟨_, rfl⟩
    rw [← hl] at HP
    rw [← hl]
    clear hn hl hs3
    go_enter Try.func40, Try.ntmps40
    go_wp2_with (go_at_call 69; refine (HI.out _).mono ?_; rintro e w' ⟨rfl, rfl⟩)
    refine HP.out.mono ?_
    rintro e w1 ⟨g, c, rfl, ho, hb⟩
    clear ho
    go_wp2
    go_ret
    exact ⟨rfl, hb⟩
def RowPost (s : ByteArray) (n : Int) (w : World) (e : Ending) (w' : World) : Prop := ∃ v, e = .returned v ∧ w'.ownsRow w.heap.size 3 1 v (rowOf s n).length (intVals (rowOf s n)) ∧ Below w.heap.size w w'
set_option maxHeartbeats 2000000 in
set_option maxRecDepth 100000 in
theorem spec_PartRow_c (s : ByteArray) (n : Int) (w : World) (hs : s.size ≤ maxLen) :
    Calls Try.prog 39 #[.string s, .int .i64 n] w (RowPost s n w) := by
  have HL := hid (fun w => fits_c s w hs)
  unfold RowPost rowOf
  have HS := hid (fun h => fitW_size (s := s) h)
  obtain ⟨b, hb⟩ : ∃ b, b = fitW s := ⟨_, rfl⟩
  rw [← hb] at HL HS
  rw [← hb]
  clear hb
  have hno := (Below.refl w.heap.size w).alloc (Nat.le_refl _) (.cells #[] 3)
  by_cases hn0 : 0 ≤ n
  · by_cases hn20 : n ≤ 20
    · rw [inB_t ⟨hn0, hn20⟩, Bool.and_true]
      cases b
      · go_enter Try.func39, Try.ntmps39
        go_wp2
        refine wp_loop_rounds 1 ?_
        rw [rounds_succ]
        go_wp2_with (go_at_call 74; refine (HL.out _).mono ?_; rintro e w' ⟨rfl, rfl⟩)
        go_ret
        exact ⟨_, rfl, owns_nil w _, hno⟩
      · obtain ⟨m, rfl⟩ : ∃ m : Nat, n = m := ⟨n.toNat, by omega⟩
        have HP := hid (fun j (hj : j ≤ 20) w => spec_l31Parts_c s j w (HS.out rfl) (by omega))
        unfold PartsPost at HP
        rw [if_pos rfl, Int.toNat_natCast]
        go_enter Try.func39, Try.ntmps39
        go_wp2
        go_loopw [5, 6] (fun v i wr => ∃ j g c : Nat, j ≤ m + 1 ∧ i = .int .i64 j ∧ v = .slice (some ⟨g, 0, none⟩) j c ∧ wr.ownsRow w.heap.size 3 1 (.slice (some ⟨g, 0, none⟩) j c) j (intVals (rws s j)) ∧ Below w.heap.size w wr) (fun _ i _ => m + 1 - (intOf i).toNat)
        case atStart => exact ⟨0, w.heap.size, 0, by omega, rfl, rfl, owns_nil w _, hno⟩
        case round =>
          obtain ⟨j, g, c, hj, rfl, rfl, hown, hbel⟩ := hrel
          have HG := hid (hown.lt g rfl)
          by_cases hlt : j ≤ m
          · have hlt2 : (j : Int) ≤ (m : Int) := by omega
            have HPj := hid (HP.out j (by omega))
            have HRS := hid (rws_succ s j)
            obtain ⟨l, hl⟩ : ∃ l, l = (pts s j).length := ⟨_, rfl⟩
            rw [← hl] at HPj HRS
            have HO := hid hown
            clear hl hown
            go_wp2_with (go_at_call 74; refine (HL.out _).mono ?_; rintro e w' ⟨rfl, rfl⟩)
            refine (HPj.out _).mono ?_
            rintro e w1 ⟨g1, c1, rfl, ho, hb⟩
            have hU := (owns_below HO.out hb).alloc (.cells #[.int .i64 l] 3)
            have hb1 := bs hbel hb
            clear ho
            go_wp2_with (first | (at_builtin; go_must (refine wpList_appN rfl _ _ 44 rfl w.heap.size 3 (.int .i64 0) 8 Try.underlying44 infoIntA rfl g c j (intVals (rws s j)) hU rfl w1.heap.size 0 1 1 [.int .i64 l] rfl rfl (by intro q u hq; match q, hq with | 0, hq => simp at hq; subst hq; simp) (by intro u hu; simp at hu; subst hu; rfl) (by omega) (by unfold maxLen; omega) (by have := hb1.size; simp; omega) ?_); intro g2 c2 w2 hown2 hgr2 hb2 hlt2'))
            have hb3 : Below w.heap.size w w2 := (hb1.alloc hb1.size _).grown hgr2 (by have := hb1.size; simp; omega) (by rintro k ⟨⟩; exact HG.out.1)
            go_roundw
            case rel => exact ⟨j + 1, g2, c2, by omega, by go_num, rfl, by rw [HRS.out, intVals_snocC]; exact hown2, hb3⟩
            case measure => simp [intOf]; omega
          · have hlt2 : ¬ ((j : Int) ≤ (m : Int)) := by omega
            obtain rfl : j = m + 1 := by omega
            have HO := hid hown
            clear hown
            go_wp2
            go_ret
            exact ⟨_, rfl, by rw [rws_len]; exact HO.out, hbel⟩
    · rw [inB_f (Or.inr (by omega)), Bool.and_false]
      go_enter Try.func39, Try.ntmps39
      go_wp2
      refine wp_loop_rounds 1 ?_
      rw [rounds_succ]
      go_wp2
      go_ret
      exact ⟨_, rfl, owns_nil w _, hno⟩
  · rw [inB_f (Or.inl (by omega)), Bool.and_false]
    go_enter Try.func39, Try.ntmps39
    go_wp2
    refine wp_loop_rounds 1 ?_
    rw [rounds_succ]
    go_wp2
    go_ret
    exact ⟨_, rfl, owns_nil w _, hno⟩
set_option maxHeartbeats 2000000 in
set_option maxRecDepth 100000 in
theorem impl_PartRow_c (s : ByteArray) (n : Int) (w : World) (hs : s.size ≤ maxLen) :
    Calls Try.prog 29 #[.string s, .int .i64 n] w (RowPost s n w) := by
  have HI := hid (fun w => isCounted_c s n w hs)
  unfold RowPost rowOf
  obtain ⟨b, hb⟩ : ∃ b, b = (fitW s && inB n 0 20) := ⟨_, rfl⟩
  rw [← hb] at HI
  rw [← hb]
  have HB := hid hb
  clear hb
  have hno := (Below.refl w.heap.size w).alloc (Nat.le_refl _) (.cells #[] 3)
  cases b
  · go_enter Try.func29, Try.ntmps29
    go_wp2_with (go_at_call 69; refine (HI.out _).mono ?_; rintro e w' ⟨rfl, rfl⟩)
    go_ret
    exact ⟨_, rfl, ⟨rfl, Or.inl ⟨rfl, rfl⟩⟩, Below.refl _ _⟩
  · have hb := HB.out.symm
    rw [Bool.and_eq_true, inB_iff] at hb
    obtain ⟨hs3, hn⟩ := hb
    obtain ⟨m, rfl⟩ : ∃ m : Nat, n = m := ⟨n.toNat, by omega⟩
    have hs300 := fitW_size hs3
    have HP := hid (fun j (hj : j ≤ 20) w => impl_parts_c s j w hs300 (by omega))
    unfold PartsPost at HP
    rw [if_pos rfl, Int.toNat_natCast]
    clear hs3
    go_enter Try.func29, Try.ntmps29
    go_wp2_with (go_at_call 69; refine (HI.out _).mono ?_; rintro e w' ⟨rfl, rfl⟩)
    go_loopw [5, 14] (fun v i wr => ∃ j g c : Nat, j ≤ m + 1 ∧ i = .int .i64 j ∧ v = .slice (some ⟨g, 0, none⟩) j c ∧ wr.ownsRow w.heap.size 3 1 (.slice (some ⟨g, 0, none⟩) j c) j (intVals (rws s j)) ∧ Below w.heap.size w wr) (fun _ i _ => m + 1 - (intOf i).toNat)
    case atStart => exact ⟨0, w.heap.size, 0, by omega, rfl, rfl, owns_nil w _, hno⟩
    case round =>
      obtain ⟨j, g, c, hj, rfl, rfl, hown, hbel⟩ := hrel
      have HG := hid (hown.lt g rfl)
      by_cases hlt : j < m + 1
      · have hlt2 : (j : Int) < (m : Int) + 1 := by omega
        have HPj := hid (HP.out j (by omega))
        have HRS := hid (rws_succ s j)
        obtain ⟨l, hl⟩ : ∃ l, l = (pts s j).length := ⟨_, rfl⟩
        rw [← hl] at HPj HRS
        have HO := hid hown
        clear hl hown
        go_wp2_with fail
        refine (HPj.out _).mono ?_
        rintro e w1 ⟨g1, c1, rfl, ho, hb⟩
        have hU := (owns_below HO.out hb).alloc (.cells #[.int .i64 l] 3)
        have hb1 := bs hbel hb
        clear ho
        go_wp2_with (first | (at_builtin; go_must (refine wpList_appN rfl _ _ 44 rfl w.heap.size 3 (.int .i64 0) 8 Try.underlying44 infoIntA rfl g c j (intVals (rws s j)) hU rfl w1.heap.size 0 1 1 [.int .i64 l] rfl rfl (by intro q u hq; match q, hq with | 0, hq => simp at hq; subst hq; simp) (by intro u hu; simp at hu; subst hu; rfl) (by omega) (by unfold maxLen; omega) (by have := hb1.size; simp; omega) ?_); intro g2 c2 w2 hown2 hgr2 hb2 hlt2'))
        have hb3 : Below w.heap.size w w2 := (hb1.alloc hb1.size _).grown hgr2 (by have := hb1.size; simp; omega) (by rintro k ⟨⟩; exact HG.out.1)
        go_roundw
        case rel => exact ⟨j + 1, g2, c2, by omega, by go_num, rfl, by rw [HRS.out, intVals_snocC]; exact hown2, hb3⟩
        case measure => simp [intOf]; omega
      · have hlt2 : ¬ ((j : Int) < (m : Int) + 1) := by omega
        obtain rfl : j = m + 1 := by omega
        have HO := hid hown
        clear hown
        go_wp2
        go_ret
        exact ⟨_, rfl, by rw [rws_len]; exact HO.out, hbel⟩
end Go.Proofs.Ytcfjchaklgjmkaa
