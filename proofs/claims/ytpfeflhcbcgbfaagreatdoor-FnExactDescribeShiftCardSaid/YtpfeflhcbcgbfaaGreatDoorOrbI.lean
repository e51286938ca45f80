/- Words that are points for ever, the program's way. Conditions: a shift that is one, in memory, short words. -/
import Derived.Sort.Walk0
import Derived.Test.YtpfeflhcbcgbfaaGreatDoorShfO
import Derived.Test.YtpfeflhcbcgbfaaGreatDoorIns
import Derived.Test.YtpfeflhcbcgbfaaGreatDoorAppN
import Derived.Test.YtpfeflhcbcgbfaaGreatDoorBoxC
import Derived.Test.YtpfeflhcbcgbfaaGreatDoorLangS
namespace Go.Proofs.YtpfeflhcbcgbfaaGreatDoor
open Go.RowKit
theorem turn_zero (s : ByteArray) : turnB s 0 = s := by
  unfold turnB
  simp
set_option maxHeartbeats 2000000 in
set_option maxRecDepth 100000 in
theorem spec_TurnWord_c (s : ByteArray) (w : World) (hl : lets (3 : Nat) s.data.toList = true) (h1 : 1 ≤ s.size) (h16 : s.size ≤ 16) :
    Calls Tryz.prog 112 #[.string s, .int .i64 0] w fun e w' => e = .returned (.string (turnB s 0)) ∧ ∃ q, w' = w.drewN q := by
  have HIW := hid (fun w : World => spec_IsWord_c 3 s w (by omega) (by unfold maxLen; omega))
  rw [hl, decide_eq_true h16] at HIW
  have hne := ba_not_empty (x := s) (by omega)
  have hd1 : Int.tmod (0 : Int) (s.size : Int) = 0 := Int.zero_tmod _
  have hQ0 : ((s.size : Int) == 0) = false := by rw [beq_eq_false_iff_ne]; omega
  have hQ1 : ¬ (s.size = 0) := by omega
  have hQ2 : ¬ ((s.size : Int) = 0) := by omega
  have hz1 : (s.extract 0 s.size).size = s.size := by rw [ByteArray.size_extract]; omega
  have hz2 : (s.extract 0 0).size = 0 := by rw [ByteArray.size_extract]; omega
  have huz : ¬ (9223372036854775807 < s.size) := by omega
  have huz2 : ¬ (9223372036854775807 < (s.extract 0 s.size).size + (s.extract 0 0).size) := by omega
  have HT := hid (turn_zero s)
  obtain ⟨T, hT⟩ : ∃ T, T = turnB s 0 := ⟨_, rfl⟩
  rw [← hT] at HT
  rw [← hT]
  clear hl hT
  go_enter Tryz.func112, Tryz.ntmps112
  go_wp2_with fail
  refine (HIW.out _).mono ?_
  rintro e w' ⟨rfl, rfl⟩
  go_wp2
  go_quiet (fail)
  go_wp2
  go_ret
  exact ⟨by rw [HT.out]; rfl, nq, rfl⟩
set_option maxHeartbeats 2000000 in
set_option maxRecDepth 100000 in
theorem impl_TurnWord_c (s : ByteArray) (q : Nat) (w : World) (hl : lets (3 : Nat) s.data.toList = true) (h1 : 1 ≤ s.size) (h16 : s.size ≤ 16) (hq : q < s.size) :
    Calls Tryz.prog 121 #[.string s, .int .i64 q] w fun e w' => e = .returned (.string (turnB s q)) ∧ Below w.heap.size w w' := by
  have HIW := hid (fun w : World => impl_IsWord_c 3 s w (by omega) (by unfold maxLen; omega))
  rw [hl, decide_eq_true h16] at HIW
  have hne := ba_not_empty (x := s) (by omega)
  have hd1 : Int.tmod (q : Int) (s.size : Int) = (q : Int) := (show Int.tmod (q : Int) (s.size : Int) = ((q % s.size : Nat) : Int) from rfl).trans (by rw [Nat.mod_eq_of_lt hq])
  have hd2 : Int.tmod ((q : Int) + (s.size : Int)) (s.size : Int) = (q : Int) := by
    have : Int.tmod ((q : Int) + (s.size : Int)) (s.size : Int) = (((q + s.size) % s.size : Nat) : Int) := rfl
    rw [Nat.add_mod_right, Nat.mod_eq_of_lt hq] at this
    exact this
  have hQ0 : ((s.size : Int) == 0) = false := by rw [beq_eq_false_iff_ne]; omega
  have hQ1 : ¬ (s.size = 0) := by omega
  have hQ2 : ¬ ((s.size : Int) = 0) := by omega
  have hwr : IntKind.i64.wrap (q : Int) = (q : Int) := IntWalk.i64_in _ (by omega)
  have hz1 : (s.extract q s.size).size = s.size - q := by rw [ByteArray.size_extract]; omega
  have hz2 : (s.extract 0 q).size = q := by rw [ByteArray.size_extract]; omega
  have huz2 : ¬ (9223372036854775807 < (s.extract q s.size).size + (s.extract 0 q).size) := by omega
  have huz3 : ¬ (9223372036854775807 < s.size - q + q) := by omega
  have hqs : q ≤ s.size := by omega
  have hqsi : (q : Int) ≤ (s.size : Int) := by omega
  have HT := hid (show turnB s q = s.extract q s.size ++ s.extract 0 q from rfl)
  obtain ⟨T, hT⟩ : ∃ T, T = turnB s q := ⟨_, rfl⟩
  rw [← hT] at HT
  rw [← hT]
  clear hl hT
  go_enter Tryz.func121, Tryz.ntmps121
  go_wp2_with fail
  refine (HIW.out _).mono ?_
  rintro e w' ⟨rfl, rfl⟩
  go_wp2
  go_quiet (fail)
  have hb := below_drewN (Below.refl w.heap.size w) nq
  go_wp2
  go_ret
  exact ⟨by rw [HT.out]; rfl, hb⟩
end Go.Proofs.YtpfeflhcbcgbfaaGreatDoor
namespace Go.Proofs.YtpfeflhcbcgbfaaGreatDoor
open Go.RowKit

theorem infoStrA : (Tryz.prog.info? 9).map (fun i => (i.zero, i.size, i.bytes)) = some (some (.string ByteArray.empty), 1, 16) := by kernel_rfl
theorem strVals_one (xs : List ByteArray) : ∀ u ∈ strVals xs, u.oneCell' = true := by
  intro u hu
  obtain ⟨x, _, rfl⟩ := List.mem_map.1 hu
  rfl
theorem owns_nilS (w : World) (e : Nat) : (w.alloc (.cells #[] e)).ownsRow w.heap.size e 1 (.slice (some ⟨w.heap.size, 0, none⟩) 0 0) 0 [] :=
  ⟨rfl, Or.inr ⟨w.heap.size, 0, #[], rfl, Nat.le_refl _, by show (w.heap.push _)[w.heap.size]? = _; simp, Nat.le_refl _, by unfold maxLen; omega, rfl, rfl⟩⟩
def ltB (a b : ByteArray) : Bool := Op.bytesLess a.toList b.toList
theorem ltB_eq (a b : ByteArray) : ltB a b = ltL a.data.toList b.data.toList := by unfold ltB ltL; rw [Go.Proofs.bytesLess_eq, Lib.toList_data, Lib.toList_data]
theorem bytes_eq {a b : ByteArray} (h : a.data.toList = b.data.toList) : a = b := by
  cases a; cases b; simp at h; rw [h]
theorem ordB : Ord ltB := ⟨fun a => by rw [ltB_eq]; exact ordL.irr _, fun a b c h1 h2 => by rw [ltB_eq] at *; exact ordL.tr _ _ _ h1 h2, fun a b h1 h2 => by rw [ltB_eq] at *; exact bytes_eq (ordL.tot _ _ h1 h2)⟩
def PutPost (B g : Nat) (xs : List ByteArray) (x : ByteArray) (w : World) (e : Ending) (w' : World) : Prop :=
  ∃ g' c', e = .returned (.slice (some ⟨g', 0, none⟩) (ins ltB xs x).length c') ∧ w'.ownsRow B 9 1 (.slice (some ⟨g', 0, none⟩) (ins ltB xs x).length c') (ins ltB xs x).length (strVals (ins ltB xs x)) ∧ w.grownBy w' (some g) ∧ (g' = g ∨ w.heap.size ≤ g')
end Go.Proofs.YtpfeflhcbcgbfaaGreatDoor
namespace Go.Proofs.YtpfeflhcbcgbfaaGreatDoor
open Go.RowKit
set_option maxHeartbeats 2000000 in
set_option maxRecDepth 100000 in
theorem spec_LeastTurn_c (s : ByteArray) (w : World) (hl : lets (3 : Nat) s.data.toList = true) (h1 : 1 ≤ s.size) (h16 : s.size ≤ 16) :
    Calls Tryz.prog 64 #[.string s] w fun e w' => e = .returned (.string (minT s (s.size - 1))) ∧ ∃ q, w' = w.drewN q := by
  have HTW := hid (fun w : World => spec_TurnWord_c s w hl h1 h16)
  have HMS := hid (fun (q : Nat) (hq : q < s.size) => minT_size hq)
  have HM := hid (fun q : Nat => show minT s (q + 1) = (if Op.bytesLess (turnB s (q + 1)).toList (minT s q).toList = true then turnB s (q + 1) else minT s q) from rfl)
  have HTB := hid (fun q : Nat => show turnB s q = s.extract q s.size ++ s.extract 0 q from rfl)
  clear hl
  go_enter Tryz.func64, Tryz.ntmps64
  go_wp2_with fail
  refine (HTW.out _).mono ?_
  rintro e w1 ⟨rfl, q1, rfl⟩
  have HZ := hid (show turnB s 0 = minT s 0 from rfl)
  rw [HZ.out]
  go_wp2
  go_loopw [3, 4] (fun v i wr => ∃ q : Nat, q + 1 ≤ s.size ∧ i = .int .i64 ((q + 1 : Nat) : Int) ∧ v = .string (minT s q) ∧ ∃ z, wr = w.drewN z) (fun _ i _ => s.size - (intOf i).toNat)
  case atStart => exact ⟨0, by omega, rfl, rfl, q1, rfl⟩
  case round =>
    obtain ⟨q, hq, rfl, rfl, z, rfl⟩ := hrel
    have hms := HMS.out q (by omega)
    obtain ⟨Q, hQ⟩ : ∃ Q, Q = q + 1 := ⟨_, rfl⟩
    have HMQ := hid (HM.out q)
    have HTQ := hid (HTB.out Q)
    rw [← hQ] at HMQ
    have HQ := hid hQ
    rw [← hQ]
    have hQs : Q ≤ s.size := by omega
    have hQsi : (Q : Int) ≤ (s.size : Int) := by omega
    obtain ⟨B, hB⟩ : ∃ B, B = minT s q := ⟨_, rfl⟩
    rw [← hB] at hms HMQ
    rw [← hB]
    have hmsi : (B.size : Int) = (s.size : Int) := by omega
    have HBQ := hid hB
    by_cases hlt : Q < s.size
    · have hlti : (Q : Int) < (s.size : Int) := by omega
      have HQI := hid (show (Q : Int) + 1 = ((q + 1 + 1 : Nat) : Int) by rw [hQ]; rfl)
      have hz1 : (s.extract Q s.size).size = s.size - Q := by rw [ByteArray.size_extract]; omega
      have hz2 : (s.extract 0 Q).size = Q := by rw [ByteArray.size_extract]; omega
      have huz2 : ¬ (9223372036854775807 < (s.extract Q s.size).size + (s.extract 0 Q).size) := by omega
      have huz3 : ¬ (9223372036854775807 < s.size - Q + Q) := by omega
      cases hless : Op.bytesLess (turnB s Q).toList B.toList with
      | true =>
        have HR := hid (show minT s Q = s.extract Q s.size ++ s.extract 0 Q by rw [HMQ.out, if_pos hless, HTQ.out])
        rw [HTQ.out] at hless
        clear hQ hB
        go_wp2
        go_quiet (fail)
        obtain ⟨n1, hn1⟩ : ∃ n1, n1 = nq := ⟨_, rfl⟩
        try rw [← hn1]
        clear hn1
        try rw [World.drewN_drewN]
        go_wp2
        go_quiet (fail)
        go_wp2
        go_roundw
        case rel => exact ⟨q + 1, by have := HQ.out; omega, congrArg (Value.int .i64) HQI.out, by rw [← HQ.out, HR.out], _, by first | rfl | rw [World.drewN_drewN]⟩
        case measure => have := HQ.out; simp [intOf]; omega
      | false =>
        have HR := hid (show minT s Q = B by rw [HMQ.out, if_neg (by rw [hless]; decide)])
        rw [HTQ.out] at hless
        clear hQ hB
        go_wp2
        go_quiet (fail)
        go_wp2
        go_roundw
        case rel => exact ⟨q + 1, by have := HQ.out; omega, congrArg (Value.int .i64) HQI.out, by rw [← HQ.out, HR.out], _, by first | rfl | rw [World.drewN_drewN]⟩
        case measure => have := HQ.out; simp [intOf]; omega
    · have hlti : ¬ ((Q : Int) < (s.size : Int)) := by omega
      have HR := hid (show B = minT s (s.size - 1) by rw [hB]; congr 1; omega)
      clear hQ hB
      go_wp2
      go_ret
      exact ⟨by rw [← HR.out]; rfl, z, rfl⟩
theorem min_round (s : ByteArray) : ∀ q : Nat, minT s q = if Op.bytesLess (turnB s q).toList (minT s (q - 1)).toList = true then turnB s q else minT s (q - 1)
  | 0 => by
    show turnB s 0 = if Op.bytesLess (turnB s 0).toList (turnB s 0).toList = true then turnB s 0 else turnB s 0
    split <;> rfl
  | q + 1 => rfl
theorem leq_less (a b : ByteArray) : (Op.bytesLess a.toList b.toList || a.toList == b.toList) = !Op.bytesLess b.toList a.toList := by
  have h1 := ordB.irr a
  have h2 := ordB.tr a b a
  have h3 := ordB.tot a b
  unfold ltB at h1 h2 h3
  rw [ba_list_eq]
  cases ha : Op.bytesLess a.toList b.toList <;> cases hb : Op.bytesLess b.toList a.toList
  · rw [decide_eq_true (h3 ha hb)]; rfl
  · rw [decide_eq_false (fun e => by subst e; rw [h1] at hb; cases hb)]; rfl
  · rfl
  · have := h2 ha hb
    rw [h1] at this
    cases this
/-- The lesser of two texts. -/
theorem run_minS {P : Program} (w : World) (u v : ByteArray) (ats : Array TypeId) (ty : TypeId) : (Builtin.min_ ats ty #[.string u, .string v]).run P w = .ok (.string (if Op.bytesLess v.toList u.toList = true then v else u)) w := by
  have hl := leq_less u v
  cases hb : Op.bytesLess v.toList u.toList <;> (rw [hb] at hl; simp [Builtin.min_, Builtin.min2, go_sem, hl, Op.stringOp, Result.andThen])
set_option maxHeartbeats 2000000 in
set_option maxRecDepth 100000 in
theorem impl_LeastTurn_c (s : ByteArray) (w : World) (hl : lets (3 : Nat) s.data.toList = true) (h1 : 1 ≤ s.size) (h16 : s.size ≤ 16) :
    Calls Tryz.prog 77 #[.string s] w fun e w' => e = .returned (.string (minT s (s.size - 1))) ∧ Below w.heap.size w w' := by
  have HTW := hid (fun (q : Nat) (hq : q < s.size) (w : World) => impl_TurnWord_c s q w hl h1 h16 hq)
  have HMS := hid (fun (q : Nat) (hq : q < s.size) => minT_size hq)
  have HM := hid (fun q : Nat => show minT s (q + 1) = (if Op.bytesLess (turnB s (q + 1)).toList (minT s q).toList = true then turnB s (q + 1) else minT s q) from rfl)
  have HT0 := hid (HTW.out 0 (by omega))
  have hts := turnB_size (s := s) (q := 0) (by omega)
  clear hl
  go_enter Tryz.func77, Tryz.ntmps77
  go_wp2_with fail
  refine (HT0.out _).mono ?_
  rintro e w1 ⟨rfl, hb1⟩
  have HB1 := hid hb1
  have HZ := hid (show turnB s 0 = minT s 0 from rfl)
  rw [HZ.out] at hts
  rw [HZ.out]
  clear hb1
  go_wp2
  try rw [hts]
  go_loopw [3, 9] (fun v i wr => ∃ q : Nat, q ≤ s.size ∧ i = .int .i64 (q : Int) ∧ v = .string (minT s (q - 1)) ∧ Below w.heap.size w wr) (fun _ i _ => s.size - (intOf i).toNat)
  case atStart => exact ⟨0, by omega, rfl, rfl, HB1.out⟩
  case round =>
    obtain ⟨q, hq, rfl, rfl, hbel⟩ := hrel
    by_cases hlt : q < s.size
    · have hlti : (q : Int) < (s.size : Int) := by omega
      have HTQ := hid (HTW.out q hlt)
      obtain ⟨B, hB⟩ : ∃ B, B = minT s (q - 1) := ⟨_, rfl⟩
      obtain ⟨T, hT⟩ : ∃ T, T = turnB s q := ⟨_, rfl⟩
      rw [← hT] at HTQ
      have HR := hid (show minT s q = (if Op.bytesLess T.toList B.toList = true then T else B) from by
        rw [hB, hT]
        exact min_round s q)
      rw [← hB]
      clear hB hT
      have hmin := fun (w : World) => run_minS (P := Tryz.prog) w B T #[9, 9] 9
      rw [← HR.out] at hmin
      obtain ⟨m, hm⟩ : ∃ m, m = minT s q := ⟨_, rfl⟩
      rw [← hm] at hmin
      have HMM := hid hm
      clear hm HR
      · go_wp2_with fail
        refine (HTQ.out _).mono ?_
        rintro e w3 ⟨rfl, hb3⟩
        have hb4 := hbel.trans (hb3.mono hbel.size)
        have hm3 := hmin w3
        clear hmin
        go_wp2
        go_roundw
        case rel => exact ⟨q + 1, by omega, by go_num, by rw [Nat.add_sub_cancel, ← HMM.out], hb4⟩
        case measure => simp [intOf]; omega
    · obtain rfl : q = s.size := by omega
      go_wp2
      go_ret
      exact ⟨rfl, hbel⟩
end Go.Proofs.YtpfeflhcbcgbfaaGreatDoor
namespace Go.Proofs.YtpfeflhcbcgbfaaGreatDoor
open Go.RowKit
set_option maxHeartbeats 2000000 in
set_option maxRecDepth 100000 in
theorem impl_RootOf_c (s : ByteArray) (w : World) (hl : lets (3 : Nat) s.data.toList = true) (h1 : 1 ≤ s.size) (h16 : s.size ≤ 16) :
    Calls Tryz.prog 76 #[.string s] w (RootPost s w) := by
  have HIW := hid (fun w : World => impl_IsWord_c 3 s w (by omega) (by unfold maxLen; omega))
  rw [hl, decide_eq_true h16] at HIW
  have hne := ba_not_empty (x := s) (by omega)
  have HT := hid (fun (q : Nat) (hq : 1 ≤ q) (hqs : q ≤ s.size) (w : World) => show Calls Tryz.prog 120 #[.string (s.extract 0 q), .int .i64 ((s.size / q : Nat) : Int)] w fun e w' => e = .returned (.string ⟨(Lib.repeatL (s.extract 0 q).data.toList (s.size / q)).toArray⟩) ∧ Below w.heap.size w w' from Tryz.strings_Repeat (s.extract 0 q) (s.size / q) w (by have := Nat.div_le_self s.size q; omega) (by
    have h1 : (s.extract 0 q).size ≤ 16 := by rw [ByteArray.size_extract]; omega
    have h2 : s.size / q ≤ 16 := by have := Nat.div_le_self s.size q; omega
    have := Nat.mul_le_mul h1 h2
    omega))
  have HEX := hid (fun q : Nat => show (s.extract 0 q).data.toList = s.data.toList.take q from by rw [extract_take]; rfl)
  have HRT := hid (fun q : Nat => show rootAt s q = (decide (s.size % q = 0) && decide (Lib.repeatL (s.data.toList.take q) (s.size / q) = s.data.toList)) from rfl)
  have HSELF := hid (rootAt_self (s := s) h1)
  have HSTEP := hid (fun (q : Nat) (h : primTo s q = true) (hr : rootAt s (q + 1) = false) => primTo_step h hr)
  have HEND := hid (fun (q : Nat) (hp : primTo s q = true) (hq : q + 1 ≤ s.size) (hr : rootAt s (q + 1) = true) => prim_end hp hq hr)
  have HP0 := hid (show primTo s 0 = true from rfl)
  unfold RootPost
  obtain ⟨PB, hPB⟩ : ∃ PB, PB = primB s := ⟨_, rfl⟩
  rw [← hPB] at HEND
  rw [← hPB]
  obtain ⟨PT, hPT⟩ : ∃ PT, PT = primTo s := ⟨_, rfl⟩
  rw [← hPT] at HSTEP HEND HP0
  clear hPT hPB hl
  go_enter Tryz.func76, Tryz.ntmps76
  go_wp2_with fail
  refine (HIW.out _).mono ?_
  rintro e w' ⟨rfl, rfl⟩
  go_wp2
  go_loopw [4] (fun i wr => ∃ q : Nat, q + 1 ≤ s.size ∧ i = .int .i64 ((q + 1 : Nat) : Int) ∧ Hid (PT q = true) ∧ Below w.heap.size w wr) (fun i _ => s.size - (intOf i).toNat)
  case atStart => exact ⟨0, by omega, rfl, HP0, Below.refl _ _⟩
  case round =>
    obtain ⟨q, hq, rfl, HP, hbel⟩ := hrel
    obtain ⟨Q, hQ⟩ : ∃ Q, Q = q + 1 := ⟨_, rfl⟩
    have HQ := hid hQ
    have HQI := hid (show (Q : Int) + 1 = ((q + 1 + 1 : Nat) : Int) by rw [hQ]; rfl)
    have HQM := hid (show s.size - (Q + 1) < s.size - Q ∨ ¬ Q < s.size by omega)
    have HRQ := hid (HRT.out Q)
    have hd1 : Int.tmod (s.size : Int) (Q : Int) = ((s.size % Q : Nat) : Int) := Int.ofNat_tmod s.size Q
    have hd2 : Int.tdiv (s.size : Int) (Q : Int) = ((s.size / Q : Nat) : Int) := Int.ofNat_tdiv s.size Q
    have hQ0 : ((Q : Int) == 0) = false := by simp; omega
    have hQs : Q ≤ s.size := by omega
    have hQn1 : ¬ (Q = 0) := by omega
    have hQn2 : ¬ ((Q : Int) = 0) := by omega
    have hw0 : IntKind.i64.wrap (0 : Int) = 0 := IntWalk.i64_in _ (by omega)
    have hQsi : (Q : Int) ≤ (s.size : Int) := by omega
    have hQpos : 1 ≤ Q := by omega
    rw [← hQ]
    by_cases hm : s.size % Q = 0
    · have hd1' : Int.tmod (s.size : Int) (Q : Int) = 0 := by rw [hd1, hm]; rfl
      obtain ⟨D, hD⟩ : ∃ D, D = s.size / Q := ⟨_, rfl⟩
      have hD16 : D ≤ 16 := by rw [hD]; have := Nat.div_le_self s.size Q; omega
      have hwD : IntKind.i64.wrap (D : Int) = (D : Int) := IntWalk.i64_in _ (by omega)
      rw [← hD] at hd2
      have HTQ := hid (fun w => HT.out Q hQpos hQs w)
      obtain ⟨X, hX⟩ : ∃ X : ByteArray, X = ⟨(Lib.repeatL (s.extract 0 Q).data.toList D).toArray⟩ := ⟨_, rfl⟩
      rw [← hD, ← hX] at HTQ
      have hXs : (X.toList == s.toList) = rootAt s Q := by
        rw [HRQ.out, decide_eq_true hm, Bool.true_and, ← hD, ← HEX.out Q, Bool.eq_iff_iff, beq_iff_eq, decide_eq_true_iff, Lib.toList_data, Lib.toList_data, hX]
      have hex := (HEX.out Q)
      clear hX hD hd1 hm HT
      cases hro : rootAt s Q with
      | true =>
        rw [hro] at hXs
        have HFIN := hid (HEND.out q HP.out hq (by rw [← HQ.out]; exact hro))
        rw [← hQ] at HFIN
        clear hro HQ hQ
        go_wp2
        have hbZ : Below wr.heap.size wr wr.drew := (Below.refl _ _).drew
        have hszR := hbel.size
        go_region_held3 (fun V => Below wr.heap.size wr V)
          (first | with_reducible exact hbZ)
          (first | (go_at_call 120; refine (HTQ.out _).mono ?_; rintro e w3 ⟨rfl, hb3⟩; have hbZ := hbZ.trans (hb3.mono hbZ.size)))
        have hb1 := hbel.trans (hbZ.mono hszR)
        clear hbZ hb3
        go_wp2
        go_quiet (fail)
        have hb2 := below_drewN hb1 nq
        go_wp2
        go_ret2
        exact ⟨_, _, rfl, HFIN.out, hb2⟩
      | false =>
        rw [hro] at hXs
        have HN := hid (HSTEP.out q HP.out (by rw [← HQ.out]; exact hro))
        have hQlt : Q < s.size := by
          rcases Nat.lt_or_ge Q s.size with h | h
          · exact h
          · have : Q = s.size := by omega
            rw [this, HSELF.out] at hro
            cases hro
        clear hro hQ
        go_wp2
        have hbZ : Below wr.heap.size wr wr.drew := (Below.refl _ _).drew
        have hszR := hbel.size
        go_region_held3 (fun V => Below wr.heap.size wr V)
          (first | with_reducible exact hbZ)
          (first | (go_at_call 120; refine (HTQ.out _).mono ?_; rintro e w3 ⟨rfl, hb3⟩; have hbZ := hbZ.trans (hb3.mono hbZ.size)))
        have hb1 := hbel.trans (hbZ.mono hszR)
        go_wp2
        go_roundw
        case rel => exact ⟨q + 1, by have := HQ.out; omega, congrArg (Value.int .i64) HQI.out, HN, hb1⟩
        case measure => have := HQ.out; simp [intOf]; omega
    · have hro : rootAt s Q = false := by rw [HRQ.out, decide_eq_false hm]; rfl
      obtain ⟨rm, hrm⟩ : ∃ rm, rm = s.size % Q := ⟨_, rfl⟩
      have hrm16 : rm ≤ 16 := by have := Nat.mod_lt s.size (show 0 < Q by omega); omega
      rw [← hrm] at hd1
      have hrm0 : ((rm : Int) == 0) = false := by simp; omega
      have hrm1 : ¬ (rm = 0) := by omega
      have hrm2 : ¬ ((rm : Int) = 0) := by omega
      have hwr : IntKind.i64.wrap (rm : Int) = (rm : Int) := IntWalk.i64_in _ (by omega)
      have hQ1 : ¬ (Q = 0) := by omega
      have hQ2 : ¬ ((Q : Int) = 0) := by omega
      have HN := hid (HSTEP.out q HP.out (by rw [← HQ.out]; exact hro))
      have hQlt : Q < s.size := by
        rcases Nat.lt_or_ge Q s.size with h | h
        · exact h
        · have : Q = s.size := by omega
          rw [this, HSELF.out] at hro
          cases hro
      clear hro hd2 hQ hrm hm
      go_wp2
      go_quiet (fail)
      have hb1 := below_drewN hbel nq
      go_wp2
      go_roundw
      case rel => exact ⟨q + 1, by have := HQ.out; omega, congrArg (Value.int .i64) HQI.out, HN, hb1⟩
      case measure => have := HQ.out; simp [intOf]; omega
end Go.Proofs.YtpfeflhcbcgbfaaGreatDoor
namespace Go.Proofs.YtpfeflhcbcgbfaaGreatDoor
open Go.RowKit
theorem lets_wd {k n i : Nat} (hk : 1 ≤ k ∧ k ≤ 3) : lets (3 : Nat) (wdB k n i).data.toList = true := by
  rw [wdB_list]
  exact lets_mono hk.2 (wAt_lets hk n i)
/-- Four times. -/
theorem four_times (x : ByteArray) : (x ++ x ++ x ++ x).data.toList = Lib.repeatL x.data.toList 4 := by
  simp [ByteArray.data_append, Array.toList_append, Lib.repeatL]
set_option maxHeartbeats 2000000 in
set_option maxRecDepth 100000 in
theorem orb_see (k n c b1 nn i : Nat) (a : Option Addr) (ss : List ByteArray) (V : World) (hk : 1 ≤ k ∧ k ≤ 3) (hr : RowAt V a n (strVals ss)) (hn : n ≤ 1048576) (hnn : 1 ≤ nn ∧ nn ≤ 6) (hm : MaxW V)
    (h0 : V.cell? ⟨b1, 0, none⟩ = some (.int .i64 k)) (h1 : V.cell? ⟨b1, 1, none⟩ = some (.slice a n c)) (hb1 : b1 < V.heap.size) :
    Calls Tryz.prog 75 #[.string (wdB k nn i), .pointer (some ⟨b1, 0, none⟩)] V fun e w' => e = .returned (.bool (oV ss k nn i)) ∧ Below V.heap.size V w' := by
  have hsz := wdB_size k nn i
  have hlt := lets_wd (n := nn) (i := i) hk
  have HRO := hid (impl_RootOf_c (wdB k nn i) V hlt (by omega) (by omega))
  have HLE := hid (fun W => impl_LeastTurn_c (wdB k nn i) W hlt (by omega) (by omega))
  have HAV := hid (fun (W : World) (hW : Below V.heap.size V W) => avoids_c (k : Int) a n c ss (wdB k nn i ++ wdB k nn i ++ wdB k nn i ++ wdB k nn i) W (hr.below hW (Nat.le_refl _)) (by rw [ByteArray.size_append, ByteArray.size_append, ByteArray.size_append]; omega) hn (max_below hm hW (Nat.le_refl _)))
  have HCE := hid (fun (W : World) (hW : Below V.heap.size V W) => show W.cell? ⟨b1, 0, none⟩ = some (.int .i64 k) ∧ W.cell? ⟨b1, 1, none⟩ = some (.slice a n c) from ⟨(hW.cell hb1).trans h0, (hW.cell hb1).trans h1⟩)
  have HO := hid (show oV ss k nn i = (leastB (wdB k nn i) && primB (wdB k nn i) && avB ss (wdB k nn i ++ wdB k nn i ++ wdB k nn i ++ wdB k nn i).data.toList) from by rw [four_times, wdB_list]; rfl)
  have HLB := hid (show leastB (wdB k nn i) = decide (minT (wdB k nn i) ((wdB k nn i).size - 1) = wdB k nn i) from rfl)
  unfold RootPost at HRO
  obtain ⟨x, hx⟩ : ∃ x, x = wdB k nn i := ⟨_, rfl⟩
  rw [← hx] at HRO HLE HAV HO hsz HLB
  rw [← hx]
  have hz2 : ¬ (9223372036854775807 < x.size + x.size) := by omega
  have hz2b := (by rw [ByteArray.size_append]; omega : ¬ (9223372036854775807 < (x ++ x).size + x.size))
  have hz3b := (by rw [ByteArray.size_append, ByteArray.size_append]; omega : ¬ (9223372036854775807 < (x ++ x ++ x).size + x.size))
  have hz4 : ¬ (9223372036854775807 < x.size + x.size + x.size) := by omega
  have hz5 : ¬ (9223372036854775807 < x.size + x.size + x.size + x.size) := by omega
  obtain ⟨A, hA⟩ : ∃ A, A = avB ss (x ++ x ++ x ++ x).data.toList := ⟨_, rfl⟩
  rw [← hA] at HAV HO
  obtain ⟨PB, hPB⟩ : ∃ PB, PB = primB x := ⟨_, rfl⟩
  rw [← hPB] at HRO HO
  obtain ⟨R, hR⟩ : ∃ R, R = oV ss k nn i := ⟨_, rfl⟩
  rw [← hR] at HO
  rw [← hR]
  obtain ⟨LB, hLB⟩ : ∃ LB, LB = leastB x := ⟨_, rfl⟩
  rw [← hLB] at HO HLB
  obtain ⟨m, hm⟩ : ∃ m, m = minT x (x.size - 1) := ⟨_, rfl⟩
  rw [← hm] at HLE HLB
  clear hA hPB hR hLB hx hm hr hlt hsz
  go_enter Tryz.func75, Tryz.ntmps75
  go_wp2_with fail
  refine HRO.out.mono ?_
  rintro e w1 ⟨r, mm, rfl, hrp, hb1⟩
  have hrx : (r.toList == x.toList) = PB := by rw [ba_list_eq, hrp]
  have hmx : (m.toList == x.toList) = LB := by rw [ba_list_eq, HLB.out]
  have HBZ1 := hid hb1
  clear hrp hb1
  cases PB with
  | false =>
    have HRF := hid (show R = false by rw [HO.out]; simp)
    go_wp2
    go_ret
    exact ⟨ret_bool HRF.out.symm, HBZ1.out⟩
  | true =>
    go_wp2_with fail
    refine (HLE.out _).mono ?_
    rintro e w2 ⟨rfl, hb2⟩
    have HBZ2 := hid (HBZ1.out.trans (hb2.mono HBZ1.out.size))
    obtain ⟨c0, c1⟩ := HCE.out _ HBZ2.out
    clear hb2
    cases LB with
    | false =>
      have HRF := hid (show R = false by rw [HO.out]; rfl)
      go_wp2
      go_ret
      exact ⟨ret_bool HRF.out.symm, HBZ2.out⟩
    | true =>
      have HRF := hid (show R = A by rw [HO.out]; rfl)
      go_wp2_with fail
      refine (HAV.out _ HBZ2.out).mono ?_
      rintro e w3 ⟨rfl, hb3⟩
      have HBZ3 := hid (HBZ2.out.trans (hb3.mono HBZ2.out.size))
      go_wp2
      go_ret
      exact ⟨ret_bool HRF.out.symm, HBZ3.out⟩
set_option maxHeartbeats 4000000 in
set_option maxRecDepth 100000 in
theorem impl_OrbitWords_c (k nn : Nat) (a : Option Addr) (n c : Nat) (ss : List ByteArray) (w : World) (hr : RowAt w a n (strVals ss)) (hok : okShB k ss = true) (hm : MaxW w) (hnn : 1 ≤ nn ∧ nn ≤ 6) :
    Calls Tryz.prog 30 #[.agg #[.int .i64 k, .slice a n c], .int .i64 nn] w (KeptPost (oV ss k nn) k nn w) := by
  obtain ⟨hk, hl8, hsw, _⟩ := okSh_facts hok
  have hln : ss.length = n := by simpa [strVals] using hr.len
  obtain ⟨W2, hW2⟩ : ∃ W2, W2 = w.alloc (.cells #[.int .i64 k, .slice a n c] 27) := ⟨_, rfl⟩
  have hB : Below w.heap.size w W2 := by rw [hW2]; exact (Below.refl _ _).alloc (Nat.le_refl _) _
  have hsz : W2.heap.size = w.heap.size + 1 := by rw [hW2]; simp
  have hbx : BoxC W2 w.heap.size #[.int .i64 k, .slice a n c] := by rw [hW2]; exact BoxC.new _ _ _
  have q0 := hbx.cell 0
  have q1 := hbx.cell 1
  have hr2 := hr.below hB (Nat.le_refl _)
  have hm2 := max_below hm hB (Nat.le_refl _)
  have HIS := hid (impl_IsShift_ok k a n c ss W2 hr2 hok)
  have HFI := hid (fun (W : World) (hW : Below W2.heap.size W2 W) =>
    filtered_c k nn 75 (.pointer (some ⟨w.heap.size, 0, none⟩)) (oV ss k nn) W hk (by omega)
      (fun i V _ hV => orb_see k n c w.heap.size nn i a ss V hk (hr2.below (hW.trans (hV.mono hW.size)) (Nat.le_refl _)) (by omega) hnn (max_below hm2 (hW.trans (hV.mono hW.size)) (Nat.le_refl _))
        ((hbx.below (hW.trans (hV.mono hW.size))).cell 0) ((hbx.below (hW.trans (hV.mono hW.size))).cell 1) (by have := hW.size; have := hV.size; omega))
      (fun x w => Tryz.call75 _ w))
  unfold KeptPost at HFI
  unfold KeptPost
  obtain ⟨d, hd⟩ : ∃ d, d = ((List.range (k ^ nn)).filter (oV ss k nn)).length := ⟨_, rfl⟩
  obtain ⟨KV, hKV⟩ : ∃ KV, KV = strVals (kp (oV ss k nn) k nn (k ^ nn)) := ⟨_, rfl⟩
  rw [← hd, ← hKV] at HFI
  rw [← hd, ← hKV]
  have HB := hid hB
  have hn0 : ¬ ((nn : Int) < 1) := by omega
  have hn6 : ¬ ((6 : Int) < (nn : Int)) := by omega
  clear hB hr hm hbx hd hKV hk hnn hok hsw hln hl8 hr2 hm2
  go_enter Tryz.func30, Tryz.ntmps30
  go_wp2_with (rw [← hW2])
  first | rw [← hW2] | skip
  clear hW2
  refine HIS.out.mono ?_
  rintro e w1 ⟨rfl, hb1⟩
  have q0b := (hb1.cell (p := ⟨w.heap.size, 0, none⟩) (by show w.heap.size < _; omega)).trans q0
  have q1b := (hb1.cell (p := ⟨w.heap.size, 1, none⟩) (by show w.heap.size < _; omega)).trans q1
  have HB1 := hid (HB.out.trans (hb1.mono HB.out.size))
  have HF1 := hid (HFI.out _ hb1)
  clear q0 q1 HFI HIS HB hb1
  go_wp2_with fail
  refine HF1.out.mono ?_
  rintro e w6 ⟨v6, rfl, hown6, hb6⟩
  have HO6 := hid (owns_base (base' := w.heap.size) hown6 HB1.out.size)
  have HB6 := hid (HB1.out.trans (hb6.mono HB1.out.size))
  clear hown6 hb6
  go_wp2
  go_ret
  exact ⟨_, rfl, HO6.out, HB6.out⟩
end Go.Proofs.YtpfeflhcbcgbfaaGreatDoor
