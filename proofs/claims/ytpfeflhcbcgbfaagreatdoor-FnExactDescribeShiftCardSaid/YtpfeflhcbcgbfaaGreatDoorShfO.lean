/- Shifts: whether a word is in the language, the program's way. Conditions: a shift, its words and the states in memory. -/
import Derived.Deep.AppendLies
import Derived.Test.YtpfeflhcbcgbfaaGreatDoorShfQ
import Derived.Test.YtpfeflhcbcgbfaaGreatDoorRing
import Derived.Test.YtpfeflhcbcgbfaaGreatDoorPlaces
namespace Go.Proofs.YtpfeflhcbcgbfaaGreatDoor
open Go.RowKit
/-- The reference's way: S are the states' bytes. -/
def inLB (ss : List ByteArray) (S : List (List UInt8)) (w : List UInt8) : Bool :=
  if S.length = 0 ∨ avB ss w = false then false
  else if 2 ≤ w.length then S.any (fun u => decide (u = w.take 2)) && S.any (fun u => decide (u = w.drop (w.length - 2)))
  else S.any fun u => occB w u
/-- The program's way. -/
def hasLB (ss : List ByteArray) (S : List (List UInt8)) (w : List UInt8) : Bool :=
  if w.length < 2 then S.any fun u => occB w u
  else if avB ss w = false then false
  else S.any (fun u => decide (u = w.take 2)) && S.any (fun u => decide (u = w.drop (w.length - 2)))
theorem has_in {ss : List ByteArray} {S : List (List UInt8)} {w : List UInt8} (h : ∀ u ∈ S, avB ss u = true) : hasLB ss S w = inLB ss S w := by
  unfold hasLB inLB
  by_cases hw : 2 ≤ w.length
  · rw [if_neg (by omega)]
    by_cases h0 : S.length = 0
    · rw [if_pos (Or.inl h0)]
      have : S = [] := List.length_eq_zero_iff.1 h0
      subst this
      split <;> rfl
    · by_cases ha : avB ss w = false
      · rw [if_pos ha, if_pos (Or.inr ha)]
      · rw [if_neg ha, if_neg (by rintro (h1 | h1); exact h0 h1; exact ha h1), if_pos hw]
  · rw [if_pos (by omega)]
    by_cases h0 : S.length = 0 ∨ avB ss w = false
    · rw [if_pos h0]
      rw [Bool.eq_false_iff]
      intro hc
      obtain ⟨u, hu, ho⟩ := List.any_eq_true.1 hc
      rcases h0 with h0 | h0
      · have : S = [] := List.length_eq_zero_iff.1 h0
        subst this
        cases hu
      · have := avB_part (h u hu) (occB_iff.1 ho)
        rw [h0] at this
        cases this
    · rw [if_neg h0, if_neg hw]
theorem stL_av {ss : List ByteArray} {k : Nat} : ∀ u ∈ (stL ss k).map (fun i => wAt k 2 i), avB ss u = true := by
  intro u hu
  obtain ⟨i, hi, rfl⟩ := List.mem_map.1 hu
  exact (livP_ok (livB_iff.1 (List.mem_filter.1 hi).2)).2
end Go.Proofs.YtpfeflhcbcgbfaaGreatDoor
namespace Go.Proofs.YtpfeflhcbcgbfaaGreatDoor
open Go.RowKit
/-- A word is a shorter one, repeated. -/
def rootAt (s : ByteArray) (q : Nat) : Bool := decide (s.size % q = 0) && decide (Lib.repeatL (s.data.toList.take q) (s.size / q) = s.data.toList)
def primTo (s : ByteArray) (q : Nat) : Bool := (List.range' 1 q).all fun t => !rootAt s t
def primB (s : ByteArray) : Bool := primTo s (s.size - 1)
theorem rootAt_self {s : ByteArray} (h : 0 < s.size) : rootAt s s.size = true := by
  unfold rootAt
  rw [Nat.mod_self, Nat.div_self h, Lib.repeatL_one, List.take_of_length_le (by rw [size_list]; omega)]
  simp
theorem primTo_step {s : ByteArray} {q : Nat} (h : primTo s q = true) (hr : rootAt s (q + 1) = false) : primTo s (q + 1) = true := by
  unfold primTo at *
  rw [List.range'_1_concat, List.all_append, h]
  simp [Nat.add_comm 1 q, hr]
theorem prim_stop {s : ByteArray} {q : Nat} (hq : q + 1 < s.size) (hr : rootAt s (q + 1) = true) : primB s = false := by
  unfold primB primTo
  rw [Bool.eq_false_iff]
  intro hc
  rw [List.all_eq_true] at hc
  have := hc (q + 1) (by rw [List.mem_range'_1]; omega)
  rw [hr] at this
  cases this
/-- What a search for the root that ended at a place tells. -/
theorem prim_end {s : ByteArray} {q : Nat} (hp : primTo s q = true) (hq : q + 1 ≤ s.size) (hr : rootAt s (q + 1) = true) : decide (s.extract 0 (q + 1) = s) = primB s := by
  by_cases h : q + 1 = s.size
  · have he : s.extract 0 (q + 1) = s := by
      apply ByteArray.ext
      apply Array.toList_inj.1
      have hz : s.data.toList.length = s.size := size_list s
      rw [ByteArray.data_extract, Array.toList_extract, List.extract_eq_take_drop, List.drop_zero, List.take_of_length_le (by omega)]
    rw [decide_eq_true he]
    have : s.size - 1 = q := by omega
    unfold primB
    rw [this, hp]
  · rw [prim_stop (by omega) hr]
    refine decide_eq_false fun e => ?_
    have := congrArg ByteArray.size e
    rw [ByteArray.size_extract] at this
    omega
/-! Turns. -/
def turnB (s : ByteArray) (q : Nat) : ByteArray := s.extract q s.size ++ s.extract 0 q
theorem turnB_size {s : ByteArray} {q : Nat} (h : q ≤ s.size) : (turnB s q).size = s.size := by
  unfold turnB
  rw [ByteArray.size_append, ByteArray.size_extract, ByteArray.size_extract]
  omega
def minT (s : ByteArray) : Nat → ByteArray | 0 => turnB s 0 | q + 1 => if Op.bytesLess (turnB s (q + 1)).toList (minT s q).toList = true then turnB s (q + 1) else minT s q
theorem minT_size {s : ByteArray} : ∀ {q : Nat}, q < s.size → (minT s q).size = s.size
  | 0, h => turnB_size (by omega)
  | q + 1, h => by
    unfold minT
    split
    · exact turnB_size (by omega)
    · exact minT_size (by omega)
def leastB (s : ByteArray) : Bool := decide (minT s (s.size - 1) = s)
/-! Words repeated four times and five times avoid the same. -/
theorem rep_five {l f : List UInt8} (hl : 1 ≤ l.length) (hf : f.length ≤ 3) : Occ f (Lib.repeatL l 5) ↔ Occ f (Lib.repeatL l 4) := by
  have h4 : (Lib.repeatL l 4).length = 4 * l.length := Lib.repeatL_length l 4
  have e1 : Lib.repeatL l 5 = l ++ Lib.repeatL l 4 := rfl
  have e2 : Lib.repeatL l 5 = Lib.repeatL l 4 ++ l := by
    have := Lib.repeatL_add l 4 1
    rw [Lib.repeatL_one] at this
    exact this
  constructor
  · rintro ⟨a, b, h⟩
    by_cases ha : l.length ≤ a.length
    · rw [e1, List.append_assoc, List.append_eq_append_iff] at h
      rcases h with ⟨c, h1, h2⟩ | ⟨c, h1, h2⟩
      · exact ⟨c, b, by rw [h2, List.append_assoc]⟩
      · have hc : c = [] := by
          have := congrArg List.length h1
          rw [List.length_append] at this
          exact List.length_eq_zero_iff.1 (by omega)
        subst hc
        exact ⟨[], b, by simpa using h2.symm⟩
    · rw [e2, List.append_eq_append_iff] at h
      rcases h with ⟨c, h1, h2⟩ | ⟨c, h1, h2⟩
      · have hc : c = [] := by
          have := congrArg List.length h1
          rw [List.length_append, List.length_append, h4] at this
          exact List.length_eq_zero_iff.1 (by omega)
        subst hc
        exact ⟨a, [], by simpa using h1.symm⟩
      · exact ⟨a, c, h1⟩
  · intro h
    rw [e1]
    exact h.trans (Occ.right _ _)
theorem av_five {ss : List ByteArray} {l : List UInt8} (hl : 1 ≤ l.length) (hs : ∀ s ∈ ss, s.size ≤ 3) : avB ss (Lib.repeatL l 5) = avB ss (Lib.repeatL l 4) := by
  rw [Bool.eq_iff_iff, avB_iff, avB_iff]
  exact forall_congr' fun f => forall_congr' fun hf => not_congr (rep_five hl (by rw [size_list]; exact hs f hf))
def oV (ss : List ByteArray) (k n i : Nat) : Bool := leastB (wdB k n i) && primB (wdB k n i) && avB ss (Lib.repeatL (wAt k n i) 4)
end Go.Proofs.YtpfeflhcbcgbfaaGreatDoor
namespace Go.Proofs.YtpfeflhcbcgbfaaGreatDoor
open Go.RowKit
def RootPost (s : ByteArray) (w : World) (e : Ending) (w' : World) : Prop := ∃ (r : ByteArray) (m : Int), e = .returned (.tuple #[.string r, .int .i64 m]) ∧ decide (r = s) = primB s ∧ Below w.heap.size w w'
theorem lets_mono {k : Nat} (hk : k ≤ 3) {l : List UInt8} (h : lets k l = true) : lets (3 : Nat) l = true := by
  unfold lets at *
  rw [List.all_eq_true] at *
  intro c hc
  have := h c hc
  rw [inB_iff] at *
  omega
theorem ba_not_empty {x : ByteArray} (h : 0 < x.size) : x.toList.isEmpty = false := by
  rw [Lib.toList_data]
  cases hl : x.data.toList with
  | nil =>
    have := congrArg List.length hl
    rw [size_list] at this
    have h2 : ([] : List UInt8).length = 0 := rfl
    omega
  | cons a l => rfl
theorem ba_list_eq {a b : ByteArray} : (a.toList == b.toList) = decide (a = b) := by
  rw [Bool.eq_iff_iff, beq_iff_eq, decide_eq_true_iff, Lib.toList_data, Lib.toList_data]
  exact ⟨fun h => bytes_eqA h, fun h => by rw [h]⟩
set_option maxHeartbeats 1000000 in
theorem l2Times_e (s : ByteArray) (m : Nat) (w : World) (hs : s.size ≤ 1000) (hm : m ≤ 1000) :
    Calls Tryz.prog 66 #[.string s, .int .i64 m] w fun e w' => e = .returned (.string ⟨(Lib.repeatL s.data.toList m).toArray⟩) ∧ w = w' := by
  go_enter Tryz.func66, Tryz.ntmps66
  go_wp2
  go_loop [5, 6] (fun v i => ∃ (j : Nat) (o : ByteArray), j ≤ m ∧ i = .int .i64 j ∧ v = .string o ∧ Hid (o.data.toList = Lib.repeatL s.data.toList j) ∧ o.size = j * s.size) (fun _ i => m - (intOf i).toNat)
  case atStart => exact ⟨0, ⟨#[]⟩, by omega, rfl, rfl, hid rfl, by show 0 = _; omega⟩
  case round =>
    obtain ⟨j, o, hj, rfl, rfl, HO, hz⟩ := hrel
    by_cases hlt : j < m
    · have hji : (j : Int) < (m : Int) := by omega
      have hjs : j * s.size ≤ 1000 * 1000 := Nat.mul_le_mul (by omega) hs
      have huz : ¬ (9223372036854775807 < o.size + s.size) := by omega
      have HO2 := hid (show (o ++ s).data.toList = Lib.repeatL s.data.toList (j + 1) from by
        rw [ByteArray.data_append, Array.toList_append, HO.out, Lib.repeatL_add, Lib.repeatL_one])
      have HZ2 := hid (show (o ++ s).size = (j + 1) * s.size from by rw [ByteArray.size_append, hz, Nat.succ_mul])
      go_wp2
      go_round
      case rel => exact ⟨j + 1, o ++ s, by omega, by go_num, rfl, HO2, HZ2.out⟩
      case measure => simp [intOf]; omega
    · obtain rfl : j = m := by omega
      have HR := hid (show o = ⟨(Lib.repeatL s.data.toList j).toArray⟩ from bytes_eqA HO.out)
      go_wp2
      go_ret
      exact ⟨by rw [← HR.out]; rfl, rfl⟩
set_option maxHeartbeats 2000000 in
set_option maxRecDepth 100000 in
theorem spec_RootOf_c (s : ByteArray) (w : World) (hl : lets (3 : Nat) s.data.toList = true) (h1 : 1 ≤ s.size) (h16 : s.size ≤ 16) :
    Calls Tryz.prog 63 #[.string s] w (RootPost s w) := by
  have HIW := hid (fun w : World => spec_IsWord_c 3 s w (by omega) (by unfold maxLen; omega))
  rw [hl, decide_eq_true h16] at HIW
  have hne := ba_not_empty (x := s) (by omega)
  have HT := hid (fun (q : Nat) (hq : 1 ≤ q) (hqs : q ≤ s.size) (w : World) => l2Times_e (s.extract 0 q) (s.size / q) w (by rw [ByteArray.size_extract]; omega) (by have := Nat.div_le_self s.size q; omega))
  have HEX := hid (fun q : Nat => show (s.extract 0 q).data.toList = s.data.toList.take q from by rw [extract_take]; rfl)
  have HRT := hid (fun q : Nat => show rootAt s q = (decide (s.size % q = 0) && decide (Lib.repeatL (s.data.toList.take q) (s.size / q) = s.data.toList)) from rfl)
  have HSELF := hid (rootAt_self (s := s) h1)
  have HSTEP := hid (fun (q : Nat) (h : primTo s q = true) (hr : rootAt s (q + 1) = false) => primTo_step h hr)
  have HEND := hid (fun (q : Nat) (hp : primTo s q = true) (hq : q + 1 ≤ s.size) (hr : rootAt s (q + 1) = true) => prim_end hp hq hr)
  have HP0 := hid (show primTo s 0 = true from rfl)
  unfold RootPost
  obtain ⟨PB, hPB⟩ : ∃ PB, PB = primB s := ⟨_, rfl⟩
  rw [← hPB] at HEND
  rw [← hPB]
  obtain ⟨PT, hPT⟩ : ∃ PT, PT = primTo s := ⟨_, rfl⟩
  rw [← hPT] at HSTEP HEND HP0
  clear hPT hPB hl
  go_enter Tryz.func63, Tryz.ntmps63
  go_wp2_with fail
  refine (HIW.out _).mono ?_
  rintro e w' ⟨rfl, rfl⟩
  go_wp2
  go_loopw [4] (fun i wr => ∃ q : Nat, q + 1 ≤ s.size ∧ i = .int .i64 ((q + 1 : Nat) : Int) ∧ Hid (PT q = true) ∧ Below w.heap.size w wr) (fun i _ => s.size - (intOf i).toNat)
  case atStart => exact ⟨0, by omega, rfl, HP0, Below.refl _ _⟩
  case round =>
    obtain ⟨q, hq, rfl, HP, hbel⟩ := hrel
    obtain ⟨Q, hQ⟩ : ∃ Q, Q = q + 1 := ⟨_, rfl⟩
    have HQ := hid hQ
    have HQI := hid (show (Q : Int) + 1 = ((q + 1 + 1 : Nat) : Int) by rw [hQ]; rfl)
    have HQM := hid (show s.size - (Q + 1) < s.size - Q ∨ ¬ Q < s.size by omega)
    have HRQ := hid (HRT.out Q)
    have hd1 : Int.tmod (s.size : Int) (Q : Int) = ((s.size % Q : Nat) : Int) := Int.ofNat_tmod s.size Q
    have hd2 : Int.tdiv (s.size : Int) (Q : Int) = ((s.size / Q : Nat) : Int) := Int.ofNat_tdiv s.size Q
    have hQ0 : ((Q : Int) == 0) = false := by simp; omega
    have hQs : Q ≤ s.size := by omega
    have hQsi : (Q : Int) ≤ (s.size : Int) := by omega
    have hQpos : 1 ≤ Q := by omega
    rw [← hQ]
    by_cases hm : s.size % Q = 0
    · have hd1' : Int.tmod (s.size : Int) (Q : Int) = 0 := by rw [hd1, hm]; rfl
      obtain ⟨D, hD⟩ : ∃ D, D = s.size / Q := ⟨_, rfl⟩
      have hD16 : D ≤ 16 := by rw [hD]; have := Nat.div_le_self s.size Q; omega
      rw [← hD] at hd2
      have HTQ := hid (fun w => HT.out Q hQpos hQs w)
      obtain ⟨X, hX⟩ : ∃ X : ByteArray, X = ⟨(Lib.repeatL (s.extract 0 Q).data.toList D).toArray⟩ := ⟨_, rfl⟩
      rw [← hD, ← hX] at HTQ
      have hXs : (X.toList == s.toList) = rootAt s Q := by
        rw [HRQ.out, decide_eq_true hm, Bool.true_and, ← hD, ← HEX.out Q, Bool.eq_iff_iff, beq_iff_eq, decide_eq_true_iff, Lib.toList_data, Lib.toList_data, hX]
      have hex := (HEX.out Q)
      clear hX hD hd1 hm HT
      cases hro : rootAt s Q with
      | true =>
        rw [hro] at hXs
        have HFIN := hid (HEND.out q HP.out hq (by rw [← HQ.out]; exact hro))
        rw [← hQ] at HFIN
        clear hro HQ hQ
        go_wp2
        go_quiet ((go_at_call 66; exact Calls.quiet_of_same ((HTQ.out _).mono (fun e w' h => ⟨h.1, h.2.symm⟩))))
        have hb1 := below_drewN hbel nq
        obtain ⟨wq, hwq⟩ : ∃ wq, wq = wr.drewN nq := ⟨_, rfl⟩
        rw [← hwq] at hb1
        rw [← hwq]
        clear hwq
        go_wp2
        go_quiet (fail)
        have hb2 := below_drewN hb1 nq
        go_wp2
        go_ret2
        exact ⟨_, _, rfl, HFIN.out, hb2⟩
      | false =>
        rw [hro] at hXs
        have HN := hid (HSTEP.out q HP.out (by rw [← HQ.out]; exact hro))
        have hQlt : Q < s.size := by
          rcases Nat.lt_or_ge Q s.size with h | h
          · exact h
          · have : Q = s.size := by omega
            rw [this, HSELF.out] at hro
            cases hro
        clear hro hQ
        go_wp2
        go_quiet ((go_at_call 66; exact Calls.quiet_of_same ((HTQ.out _).mono (fun e w' h => ⟨h.1, h.2.symm⟩))))
        have hb1 := below_drewN hbel nq
        go_wp2
        go_roundw
        case rel => exact ⟨q + 1, by have := HQ.out; omega, congrArg (Value.int .i64) HQI.out, HN, hb1⟩
        case measure => have := HQ.out; simp [intOf]; omega
    · have hro : rootAt s Q = false := by rw [HRQ.out, decide_eq_false hm]; rfl
      obtain ⟨rm, hrm⟩ : ∃ rm, rm = s.size % Q := ⟨_, rfl⟩
      have hrm16 : rm ≤ 16 := by have := Nat.mod_lt s.size (show 0 < Q by omega); omega
      rw [← hrm] at hd1
      have hrm0 : ((rm : Int) == 0) = false := by simp; omega
      have hrm1 : ¬ (rm = 0) := by omega
      have hrm2 : ¬ ((rm : Int) = 0) := by omega
      have hwr : IntKind.i64.wrap (rm : Int) = (rm : Int) := IntWalk.i64_in _ (by omega)
      have hQ1 : ¬ (Q = 0) := by omega
      have hQ2 : ¬ ((Q : Int) = 0) := by omega
      have HN := hid (HSTEP.out q HP.out (by rw [← HQ.out]; exact hro))
      have hQlt : Q < s.size := by
        rcases Nat.lt_or_ge Q s.size with h | h
        · exact h
        · have : Q = s.size := by omega
          rw [this, HSELF.out] at hro
          cases hro
      clear hro hd2 hQ hrm hm
      go_wp2
      go_quiet (fail)
      have hb1 := below_drewN hbel nq
      go_wp2
      go_roundw
      case rel => exact ⟨q + 1, by have := HQ.out; omega, congrArg (Value.int .i64) HQI.out, HN, hb1⟩
      case measure => have := HQ.out; simp [intOf]; omega
end Go.Proofs.YtpfeflhcbcgbfaaGreatDoor
namespace Go.Proofs.YtpfeflhcbcgbfaaGreatDoor
open Go.RowKit

/-- As wpList_app1, and where the slice lies behind it: where it lay, or in a new block. -/
theorem wpList_app2 {P : Program} {wr : World} {ops : Array Oper} {rest : List Oper} {o : Oper} {a : Act} {Q : Exit → Act → World → Prop}
    (hg : o.guard = none) (s x : Operand) (t : TypeId) (hop : o.op = Op.call { callee := Callee.builtin Builtin.append, args := #[s, x], argTypes := #[t, t] })
    (B : Nat) (e : TypeId) (z : Value) (bytes : Nat) (h1 : P.underlying t = some (.slice e)) (hinfo : (P.info? e).map (fun i => (i.zero, i.size, i.bytes)) = some (some z, 1, bytes)) (hzs : z.cells.size = 1)
    (v : Value) (m : Nat) (xs : List Value) (u : Value) (hown : wr.ownsRow B e 1 v m xs) (hs : a.eval s = v) (hx : a.eval x = .slice (some ⟨wr.heap.size, 0, none⟩) 1 1)
    (hu : u.oneCell' = true) (hlim : (m + 1) * bytes ≤ 140737488355328) (hlim2 : m + 1 ≤ maxLen) (hB : B ≤ wr.heap.size)
    (hK : ∀ v' w1, w1.ownsRow B e 1 v' (m + 1) (xs ++ [u]) → (wr.alloc (.cells #[u] e)).grownBy w1 v.ownBlock → (v'.ownBlock = v.ownBlock ∨ v'.ownBlock = some (wr.heap.size + 1)) → wpList P ops Q rest (a.put o.dst v') w1) :
    wpList P ops Q (o :: rest) a (wr.alloc (.cells #[u] e)) := by
  obtain ⟨i, hi, hz, hz1, hz2⟩ := info_parts hinfo
  refine wpList_append_lies _ hg s x t hop B e i z 1 bytes h1 hi hz hz1 hz2 hzs (by decide) v m xs hs (hown.alloc _) ⟨wr.heap.size, 0, none⟩ 1 1 [u] hx rfl ?_ ?_ (by decide) hlim2 hlim (by simp; omega) (wr.heap.size + 1) (by simp) ?_
  · intro j y hj
    match j, hj with
    | 0, hj => simp at hj; subst hj; simp [Addr.add]
  · intro y hy; simp at hy; subst hy; exact hu
  · intro g cap w1 hown' hgrow hat _
    refine hK _ w1 hown' hgrow ?_
    rcases hat with h | h
    · exact .inl h.symm
    · exact .inr (by rw [h]; rfl)

/-- Is the text among those of a list? -/
def hasB (ss : List ByteArray) (x : ByteArray) : Bool := ss.any fun y => y.toList == x.toList
def hasNo (ss : List ByteArray) (x : ByteArray) : Bool := ss.all fun y => !(y.toList == x.toList)
theorem hasB_eq (ss : List ByteArray) (x : ByteArray) : hasB ss x = !hasNo ss x := by
  unfold hasB hasNo; induction ss with
  | nil => rfl
  | cons a l ih => simp [ih, Bool.not_and]

theorem owns_from {w : World} {base e : Nat} {a : Option Addr} {n cap : Nat} {xs : List Value} (h : w.ownsRow base e 1 (.slice a n cap) n xs) (hn : 0 < n) :
    ∃ b, a = some ⟨b, 0, none⟩ ∧ base ≤ b ∧ b < w.heap.size ∧ ∀ k x, xs[k]? = some x → w.cell? ⟨b, 0 + k, none⟩ = some x := by
  rcases h.2 with ⟨h1, h2⟩ | ⟨g, cap', cur, hv, hb, hg, hnc, hcm, hcs, htake⟩
  · omega
  · simp only [Value.slice.injEq] at hv
    obtain ⟨rfl, _, rfl⟩ := hv
    refine ⟨g, rfl, hb, (Array.getElem?_eq_some_iff.1 hg).1, fun k x hx => ?_⟩
    rw [cell_of_row w g (0 + k) cur e (0, 0) hg]
    rw [← htake, List.getElem?_take] at hx
    split at hx
    · simpa using hx
    · cases hx

set_option maxHeartbeats 1000000 in
theorem l2HasText_c (a : Option Addr) (n cap : Nat) (ss : List ByteArray) (x : ByteArray) (w : World) (hr : RowAt w a n (strVals ss)) :
    Calls Tryz.prog 148 #[.slice a n cap, .string x] w fun e w' => e = .returned (.bool (hasB ss x)) ∧ w = w' := by
  obtain ⟨hl, hlim, hat⟩ := hr
  have hlen := hid (show ss.length = n by simpa [strVals] using hl)
  have HAT := hid hat
  clear hl hat
  go_enter Tryz.func148, Tryz.ntmps148
  go_wp2
  go_loop [5] (fun i => ∃ k : Nat, k ≤ n ∧ i = .int .i64 k ∧ Hid (hasNo (ss.take k) x = true)) (fun i => n - (intOf i).toNat)
  case atStart => exact ⟨0, by omega, rfl, rfl⟩
  case round =>
    obtain ⟨k, hk, rfl, H⟩ := hrel
    by_cases hlt : k < n
    · obtain ⟨b, off, rfl, hb, hc⟩ := HAT.out (by omega)
      clear HAT
      obtain ⟨s, hsk⟩ := get_some (l := ss) (n := k) (by rw [hlen.out]; exact hlt)
      have hcell := hc k _ (strVals_get hsk)
      have HS := hid hsk
      clear hsk hc
      cases hq : s.toList == x.toList
      · have HQ := hid hq
        go_wp2
        go_round
        case rel => exact ⟨k + 1, by omega, by go_num, all_step HS.out H.out (by rw [HQ.out]; rfl)⟩
        case measure => simp [intOf]; omega
      · have HQ := hid hq
        go_wp2
        go_ret
        exact ⟨ret_bool (by rw [hasB_eq, show hasNo ss x = false from all_stop HS.out (by rw [HQ.out]; rfl)]; rfl), rfl⟩
    · go_wp2
      go_ret
      exact ⟨ret_bool (by rw [hasB_eq, show hasNo ss x = true from all_end H.out (by rw [hlen.out]; omega)]; rfl), rfl⟩

/-- What Index returns: a number that is not negative exactly if the text is there. -/
def IdxPost (ss : List ByteArray) (x : ByteArray) (w : World) (e : Ending) (w' : World) : Prop := w = w' ∧ ∃ r : Int, e = .returned (.int .i64 r) ∧ decide (0 ≤ r) = hasB ss x
/-- The parts between places, each once, up to place k. -/
def addB (acc : List ByteArray) (x : ByteArray) : List ByteArray := if hasB acc x = true then acc else acc ++ [x]
def rtN (s : ByteArray) (ps : List Int) : Nat → List ByteArray | 0 => [] | k + 1 => addB (rtN s ps k) (s.extract (ps.getD k 0).toNat (ps.getD (k + 1) 0).toNat)
theorem addB_len (acc : List ByteArray) (x : ByteArray) : (addB acc x).length ≤ acc.length + 1 := by unfold addB; split <;> simp
theorem rtN_len (s : ByteArray) (ps : List Int) (k : Nat) : (rtN s ps k).length ≤ k := by
  induction k with
  | zero => simp [rtN]
  | succ k ih => have := addB_len (rtN s ps k) (s.extract (ps.getD k 0).toNat (ps.getD (k + 1) 0).toNat); simp only [rtN]; omega
def rtOf (s p : ByteArray) : List ByteArray := rtN s (plOf s.data.toList p.data.toList) ((plOf s.data.toList p.data.toList).length - 1)
theorem pl_sorted (s p : List UInt8) (n : Nat) : (pl s p n).Pairwise (· < ·) := by
  unfold pl
  rw [List.pairwise_map]
  exact (List.pairwise_lt_range.filter _).imp (fun h => by omega)
theorem pl_mem {s p : List UInt8} {n : Nat} {x : Int} (h : x ∈ pl s p n) : 0 ≤ x ∧ x < n := by
  unfold pl at h
  obtain ⟨j, hj, rfl⟩ := List.mem_map.1 h
  have := (List.mem_filter.1 hj).1
  rw [List.mem_range] at this
  omega
/-- Two places in a row. -/
theorem plOf_two {s p : List UInt8} {k : Nat} (h : k + 1 < (plOf s p).length) : ∃ q1 q2 : Nat, (plOf s p)[k]? = some (q1 : Int) ∧ (plOf s p)[k + 1]? = some (q2 : Int) ∧ q1 ≤ q2 ∧ q2 ≤ s.length := by
  unfold plOf at *
  split at h
  · rename_i hc
    rw [if_pos hc]
    have hp := List.pairwise_iff_getElem.1 (pl_sorted s p s.length) k (k + 1) (by omega) h (by omega)
    have m1 := pl_mem (List.getElem_mem (show k < (pl s p s.length).length by omega))
    have m2 := pl_mem (List.getElem_mem h)
    refine ⟨((pl s p s.length)[k]'(by omega)).toNat, ((pl s p s.length)[k + 1]).toNat, ?_, ?_, by omega, by omega⟩
    · rw [List.getElem?_eq_getElem (by omega)]; congr 1; omega
    · rw [List.getElem?_eq_getElem h]; congr 1; omega
  · simp at h

/-- What both functions return: the parts, in new memory. -/
def RtPost (s p : ByteArray) (w : World) (e : Ending) (w' : World) : Prop :=
  ∃ v, e = .returned v ∧ w'.ownsRow w.heap.size 9 1 v (rtOf s p).length (strVals (rtOf s p)) ∧ Below w.heap.size w w'
theorem infoStr2 : (Tryz.prog.info? 9).map (fun i => (i.zero, i.size, i.bytes)) = some (some (.string ByteArray.empty), 1, 16) := by kernel_rfl

end Go.Proofs.YtpfeflhcbcgbfaaGreatDoor
namespace Go.Proofs.YtpfeflhcbcgbfaaGreatDoor
open Go.RowKit
/-- What the reference answers, in bytes. -/
def inLV (ss ps : List ByteArray) (wd : ByteArray) : Bool :=
  if ps.length = 0 then false else if avB ss wd.data.toList = false then false
  else if 2 ≤ wd.size then hasB ps (wd.extract 0 2) && hasB ps (wd.extract (wd.size - 2) wd.size)
  else ps.any fun u => occB wd.data.toList u.data.toList
theorem anyB_stop {L : List ByteArray} {f : ByteArray → Bool} {t : Nat} {q : ByteArray} (hq : L[t]? = some q) (h : f q = true) : L.any f = true := List.any_eq_true.2 ⟨q, List.mem_of_getElem? hq, h⟩
theorem anyB_step {L : List ByteArray} {f : ByteArray → Bool} {t : Nat} {q : ByteArray} (hq : L[t]? = some q) (h : f q = false) (hz : (L.take t).any f = false) : (L.take (t + 1)).any f = false := by
  rw [List.take_add_one, hq, List.any_append, hz]
  simp [h]
set_option maxHeartbeats 4000000 in
set_option maxRecDepth 100000 in
theorem l3In_c (k M : Nat) (a : Option Addr) (n c : Nat) (ss ps : List ByteArray) (gw : Option Addr) (cw : Nat) (wd : ByteArray) (w : World) (hr : RowAt w a n (strVals ss)) (hs : ∀ t ∈ ss, t.size ≤ 1048576) (hn : n ≤ 1048576) (hps : ∀ t ∈ ps, t.size ≤ 1048576) (hM : M ≤ 1048576) (hw : RowAt w gw M (strVals ps)) (hwd : wd.size ≤ 1048576) :
    Calls Tryz.prog 111 #[.agg #[.int .i64 k, .slice a n c], .slice gw M cw, .string wd] w fun e w' => e = .returned (.bool (inLV ss ps wd)) ∧ Below w.heap.size w w' := by
  have hML : ps.length = M := by simpa [strVals] using hw.len
  have HML := hid hML
  obtain ⟨W2, hW2⟩ : ∃ W2, W2 = w.alloc (.cells #[.int .i64 k, .slice a n c] 27) := ⟨_, rfl⟩
  have hB : Below w.heap.size w W2 := by rw [hW2]; exact (Below.refl _ _).alloc (Nat.le_refl _) _
  have hsz : W2.heap.size = w.heap.size + 1 := by rw [hW2]; simp
  have hbx : BoxC W2 w.heap.size #[.int .i64 k, .slice a n c] := by rw [hW2]; exact BoxC.new _ _ _
  have q0 := hbx.cell 0
  have q1 := hbx.cell 1
  have HB := hid hB
  have hw2 := hw.below hB (Nat.le_refl _)
  have HAV := hid (l3Avoids_c a n c ss wd W2 (hr.below hB (Nat.le_refl _)) hs hwd hn)
  have HHT := hid (fun x : ByteArray => l2HasText_c gw M cw ps x W2 hw2)
  have HOC := hid (fun (t : Nat) (u : ByteArray) (hu : ps[t]? = some u) => OccursIn_c u wd W2 (hps u (List.mem_of_getElem? hu)) hwd)
  have HRA := hid hw2
  obtain ⟨A, hA⟩ : ∃ A, A = avB ss wd.data.toList := ⟨_, rfl⟩
  have HA := hid hA
  rw [← hA] at HAV
  obtain ⟨f, hf⟩ : ∃ f : ByteArray → Bool, f = (fun u => occB wd.data.toList u.data.toList) := ⟨_, rfl⟩
  have HF := hid hf
  have HIN := hid (show inLV ss ps wd = (if M = 0 then false else if A = false then false else if 2 ≤ wd.size then hasB ps (wd.extract 0 2) && hasB ps (wd.extract (wd.size - 2) wd.size) else ps.any f) from by unfold inLV; rw [hML, hA, hf])
  obtain ⟨R, hR⟩ : ∃ R, R = inLV ss ps wd := ⟨_, rfl⟩
  rw [← hR] at HIN
  rw [← hR]
  have HE := hid (show ps.any f = (ps.take M).any f by rw [List.take_of_length_le (by omega)])
  clear hr hs hw hB hbx hA hf hML hps hw2 hR
  go_enter Tryz.func111, Tryz.ntmps111
  by_cases hM0 : M = 0
  · have HR := hid (show R = false by rw [HIN.out, if_pos hM0])
    subst hM0
    go_wp2_with (rw [← hW2])
    first | rw [← hW2] | skip
    clear hW2
    go_ret
    exact ⟨ret_bool HR.out.symm, HB.out⟩
  · have hMi : ((M : Int) == 0) = false := by simp; omega
    go_wp2_with (rw [← hW2])
    first | rw [← hW2] | skip
    clear hW2
    refine HAV.out.mono ?_
    rintro e w3 ⟨rfl, rfl⟩
    cases A with
    | false =>
      have HR := hid (show R = false by rw [HIN.out, if_neg hM0, if_pos rfl])
      go_wp2
      go_ret
      exact ⟨ret_bool HR.out.symm, HB.out⟩
    | true =>
      by_cases h2 : 2 ≤ wd.size
      · have HR := hid (show R = (hasB ps (wd.extract 0 2) && hasB ps (wd.extract (wd.size - 2) wd.size)) by rw [HIN.out, if_neg hM0, if_neg (by decide), if_pos h2])
        have h2i : (2 : Int) ≤ (wd.size : Int) := by omega
        have hsub : ((wd.size : Int) - 2) = ((wd.size - 2 : Nat) : Int) := by omega
        obtain ⟨E1, hE1⟩ : ∃ E1, E1 = hasB ps (wd.extract 0 2) := ⟨_, rfl⟩
        obtain ⟨E2, hE2⟩ : ∃ E2, E2 = hasB ps (wd.extract (wd.size - 2) wd.size) := ⟨_, rfl⟩
        have H1 := hid (HHT.out (wd.extract 0 2))
        have H2 := hid (HHT.out (wd.extract (wd.size - 2) wd.size))
        rw [← hE1] at H1 HR
        rw [← hE2] at H2 HR
        clear hE1 hE2
        go_wp2_with fail
        refine H1.out.mono ?_
        rintro e w3 ⟨rfl, rfl⟩
        cases E1 with
        | false =>
          go_wp2
          go_ret
          exact ⟨ret_bool HR.out.symm, HB.out⟩
        | true =>
          go_wp2_with fail
          refine H2.out.mono ?_
          rintro e w3 ⟨rfl, rfl⟩
          go_wp2
          go_ret
          exact ⟨ret_bool HR.out.symm, HB.out⟩
      · have HR := hid (show R = ps.any f by rw [HIN.out, if_neg hM0, if_neg (by decide), if_neg h2])
        have h2i : (wd.size : Int) < 2 := by omega
        go_wp2
        go_loop [7] (fun i => ∃ t : Nat, t ≤ M ∧ i = .int .i64 t ∧ Hid ((ps.take t).any f = false)) (fun i => M - (intOf i).toNat)
        case atStart => exact ⟨0, by omega, rfl, hid rfl⟩
        case round =>
          obtain ⟨t, ht, rfl, HZ⟩ := hrel
          by_cases hlt : t < M
          · obtain ⟨u, hu⟩ := get_some (l := ps) (n := t) (by rw [HML.out]; exact hlt)
            obtain ⟨b, off, rfl, hb, hc⟩ := HRA.out.at_ (by omega)
            have hcell := hc t _ (strVals_get hu)
            have hti : (t : Int) < (M : Int) := by omega
            have HOK := hid (HOC.out t u hu)
            have HS1 := hid (fun h : f u = true => anyB_stop (f := f) hu h)
            have HS2 := hid (fun h : f u = false => anyB_step (f := f) hu h HZ.out)
            obtain ⟨o, ho⟩ : ∃ o, o = occB wd.data.toList u.data.toList := ⟨_, rfl⟩
            have hfo : f u = o := by rw [HF.out, ho]
            rw [← ho] at HOK
            rw [hfo] at HS1 HS2
            clear hu hc ho hfo
            go_wp2_with fail
            refine HOK.out.mono ?_
            rintro e w3 ⟨rfl, rfl⟩
            cases o with
            | true =>
              have HQ := hid (HS1.out rfl)
              go_wp2
              go_ret
              exact ⟨ret_bool (HR.out.trans HQ.out).symm, HB.out⟩
            | false =>
              have HN := hid (HS2.out rfl)
              go_wp2
              go_round
              case rel => exact ⟨t + 1, by omega, by go_num, HN⟩
              case measure => simp [intOf]; omega
          · obtain rfl : t = M := by omega
            go_wp2
            go_ret
            exact ⟨ret_bool (HR.out.trans (HE.out.trans HZ.out)).symm, HB.out⟩
end Go.Proofs.YtpfeflhcbcgbfaaGreatDoor
namespace Go.Proofs.YtpfeflhcbcgbfaaGreatDoor
open Go.RowKit
/-- What the program answers, in bytes. -/
def hasV (ss ps : List ByteArray) (wd : ByteArray) : Bool :=
  if wd.size < 2 then ps.any fun u => occB wd.data.toList u.data.toList
  else if avB ss wd.data.toList = false then false
  else hasB ps (wd.extract 0 2) && hasB ps (wd.extract (wd.size - 2) wd.size)
theorem hasV_in {ss ps : List ByteArray} {wd : ByteArray} (h : ∀ u ∈ ps, avB ss u.data.toList = true) : hasV ss ps wd = inLV ss ps wd := by
  unfold hasV inLV
  by_cases hw : 2 ≤ wd.size
  · rw [if_neg (by omega)]
    by_cases h0 : ps.length = 0
    · rw [if_pos h0]
      have : ps = [] := List.length_eq_zero_iff.1 h0
      subst this
      split <;> rfl
    · rw [if_neg h0, if_pos hw]
  · rw [if_pos (by omega)]
    by_cases h0 : ps.length = 0
    · rw [if_pos h0]
      have : ps = [] := List.length_eq_zero_iff.1 h0
      subst this
      rfl
    · rw [if_neg h0, if_neg hw]
      by_cases ha : avB ss wd.data.toList = false
      · rw [if_pos ha, Bool.eq_false_iff]
        intro hc
        obtain ⟨u, hu, ho⟩ := List.any_eq_true.1 hc
        have := avB_part (h u hu) (occB_iff.1 ho)
        rw [ha] at this
        cases this
      · rw [if_neg ha]
theorem stW_av {ss : List ByteArray} {k : Nat} : ∀ u ∈ (stL ss k).map (wdB k 2), avB ss u.data.toList = true := by
  intro u hu
  obtain ⟨i, hi, rfl⟩ := List.mem_map.1 hu
  rw [wdB_list]
  exact (livP_ok (livB_iff.1 (List.mem_filter.1 hi).2)).2
/-- Once seen, seen. -/
theorem seen_step {ps : List ByteArray} {x q : ByteArray} {t : Nat} (hq : ps[t]? = some q) : hasB (ps.take (t + 1)) x = (hasB (ps.take t) x || (q.toList == x.toList)) := by
  unfold hasB
  rw [List.take_add_one, hq, List.any_append]
  simp
/-- The states are the words of two letters in the language. -/
theorem hasB_st {ss : List ByteArray} {k i : Nat} (hk : 1 ≤ k ∧ k ≤ 3) (hi : i < k ^ 2) : hasB ((stL ss k).map (wdB k 2)) (wdB k 2 i) = livB ss k i := by
  rw [Bool.eq_iff_iff]
  unfold hasB
  rw [List.any_eq_true]
  constructor
  · rintro ⟨u, hu, he⟩
    obtain ⟨j, hj, rfl⟩ := List.mem_map.1 hu
    have hj2 := List.mem_filter.1 hj
    have he2 : (wdB k 2 j).data.toList = (wdB k 2 i).data.toList := by
      rw [← Lib.toList_data, ← Lib.toList_data]
      exact beq_iff_eq.1 he
    rw [wdB_list, wdB_list, pair_bytes hk (List.mem_range.1 hj2.1), pair_bytes hk hi] at he2
    have h1 : i / k < k := by
      rw [Nat.pow_two] at hi
      exact Nat.div_lt_of_lt_mul hi
    have h2 : j / k < k := by
      have := List.mem_range.1 hj2.1
      rw [Nat.pow_two] at this
      exact Nat.div_lt_of_lt_mul this
    have h3 : i % k < k := Nat.mod_lt _ (by omega)
    have h4 : j % k < k := Nat.mod_lt _ (by omega)
    simp only [List.cons.injEq, and_true] at he2
    have e1 : j / k = i / k := by
      have a := letB_nat (x := j / k) (by omega)
      have b := letB_nat (x := i / k) (by omega)
      rw [he2.1] at a
      omega
    have e2 : j % k = i % k := by
      have a := letB_nat (x := j % k) (by omega)
      have b := letB_nat (x := i % k) (by omega)
      rw [he2.2] at a
      omega
    have h5 := Nat.div_add_mod i k
    have h6 := Nat.div_add_mod j k
    rw [e1, e2] at h6
    have : j = i := by omega
    subst this
    exact hj2.2
  · intro h
    exact ⟨wdB k 2 i, List.mem_map.2 ⟨i, List.mem_filter.2 ⟨List.mem_range.2 hi, h⟩, rfl⟩, by simp⟩
set_option maxHeartbeats 4000000 in
set_option maxRecDepth 100000 in
theorem has_c (k M : Nat) (a : Option Addr) (n c : Nat) (ss ps : List ByteArray) (gw : Option Addr) (cw : Nat) (wd : ByteArray) (w : World) (hr : RowAt w a n (strVals ss)) (hn : n ≤ 1048576) (hps : ∀ t ∈ ps, t.size ≤ 1048576) (hM : M ≤ 1048576) (hw : RowAt w gw M (strVals ps)) (hwd : wd.size ≤ 1048576) (hm : MaxW w) :
    Calls Tryz.prog 116 #[.agg #[.int .i64 k, .slice a n c], .slice gw M cw, .string wd] w fun e w' => e = .returned (.bool (hasV ss ps wd)) ∧ Below w.heap.size w w' := by
  have hML : ps.length = M := by simpa [strVals] using hw.len
  have HML := hid hML
  obtain ⟨W2, hW2⟩ : ∃ W2, W2 = w.alloc (.cells #[.int .i64 k, .slice a n c] 27) := ⟨_, rfl⟩
  have hB : Below w.heap.size w W2 := by rw [hW2]; exact (Below.refl _ _).alloc (Nat.le_refl _) _
  have hsz : W2.heap.size = w.heap.size + 1 := by rw [hW2]; simp
  have hbx : BoxC W2 w.heap.size #[.int .i64 k, .slice a n c] := by rw [hW2]; exact BoxC.new _ _ _
  have q0 := hbx.cell 0
  have q1 := hbx.cell 1
  have HB := hid hB
  have hw2 := hw.below hB (Nat.le_refl _)
  have hm2 := max_below hm hB (Nat.le_refl _)
  have HAV := hid (avoids_c (k : Int) a n c ss wd W2 (hr.below hB (Nat.le_refl _)) hwd hn hm2)
  obtain ⟨mx, hmx⟩ := hm2
  have HOC := hid (fun (f : ByteArray) (hf : f.size ≤ 1) (h : f = wd) (t : Nat) (u : ByteArray) (hu : ps[t]? = some u) => show Calls Tryz.prog 122 #[.string u, .string f] W2 fun e w' => e = .returned (.bool (occB f.data.toList u.data.toList)) ∧ w' = W2 from by
    rw [← contains_occ]
    exact Tryz.strings_Contains u f mx W2 (by have := hps u (List.mem_of_getElem? hu); omega) hmx)
  have HRA := hid hw2
  have HRB := hid (fun (V : World) (hV : Below W2.heap.size W2 V) => show RowAt V gw M (strVals ps) ∧ Below w.heap.size w V from ⟨hw2.below hV (Nat.le_refl _), hB.trans (hV.mono (by omega))⟩)
  obtain ⟨A, hA⟩ : ∃ A, A = avB ss wd.data.toList := ⟨_, rfl⟩
  rw [← hA] at HAV
  obtain ⟨f, hf⟩ : ∃ f : ByteArray → Bool, f = (fun u => occB wd.data.toList u.data.toList) := ⟨_, rfl⟩
  have HF := hid hf
  have HIN := hid (show hasV ss ps wd = (if wd.size < 2 then ps.any f else if A = false then false else hasB ps (wd.extract 0 2) && hasB ps (wd.extract (wd.size - 2) wd.size)) from by unfold hasV; rw [hA, hf])
  obtain ⟨R, hR⟩ : ∃ R, R = hasV ss ps wd := ⟨_, rfl⟩
  rw [← hR] at HIN
  rw [← hR]
  have HE := hid (show ps.any f = (ps.take M).any f by rw [List.take_of_length_le (by omega)])
  have HE2 := hid (fun x : ByteArray => show hasB ps x = hasB (ps.take M) x by rw [List.take_of_length_le (by omega)])
  clear hr hw hB hbx hA hf hML hw2 hR hmx hm hps
  go_enter Tryz.func116, Tryz.ntmps116
  by_cases h2 : wd.size < 2
  · have HR := hid (show R = ps.any f by rw [HIN.out, if_pos h2])
    have h2i : (wd.size : Int) < 2 := by omega
    have HOW := hid (HOC.out wd (by omega) rfl)
    clear HOC HIN
    go_wp2_with (rw [← hW2])
    first | rw [← hW2] | skip
    clear hW2
    go_loop [18] (fun i => ∃ t : Nat, t ≤ M ∧ i = .int .i64 t ∧ Hid ((ps.take t).any f = false)) (fun i => M - (intOf i).toNat)
    case atStart => exact ⟨0, by omega, rfl, hid rfl⟩
    case round =>
      obtain ⟨t, ht, rfl, HZ⟩ := hrel
      by_cases hlt : t < M
      · obtain ⟨u, hu⟩ := get_some (l := ps) (n := t) (by rw [HML.out]; exact hlt)
        obtain ⟨b, off, rfl, hb, hc⟩ := HRA.out.at_ (by omega)
        have hcell := hc t _ (strVals_get hu)
        have hti : (t : Int) < (M : Int) := by omega
        have HOK := hid (HOW.out t u hu)
        have HS1 := hid (fun h : f u = true => anyB_stop (f := f) hu h)
        have HS2 := hid (fun h : f u = false => anyB_step (f := f) hu h HZ.out)
        obtain ⟨o, ho⟩ : ∃ o, o = occB wd.data.toList u.data.toList := ⟨_, rfl⟩
        have hfo : f u = o := by rw [HF.out, ho]
        rw [← ho] at HOK
        rw [hfo] at HS1 HS2
        clear hu hc ho hfo
        go_wp2_with fail
        refine HOK.out.mono ?_
        rintro e w3 ⟨rfl, hw3⟩
        obtain rfl : w3 = W2 := hw3
        cases o with
        | true =>
          have HQ := hid (HS1.out rfl)
          go_wp2
          go_ret
          exact ⟨ret_bool (HR.out.trans HQ.out).symm, HB.out⟩
        | false =>
          have HN := hid (HS2.out rfl)
          go_wp2
          go_round
          case rel => exact ⟨t + 1, by omega, by go_num, HN⟩
          case measure => simp [intOf]; omega
      · obtain rfl : t = M := by omega
        go_wp2
        go_ret
        exact ⟨ret_bool (HR.out.trans (HE.out.trans HZ.out)).symm, HB.out⟩
  · have h2i : ¬ ((wd.size : Int) < 2) := by omega
    clear HOC
    go_wp2_with (rw [← hW2])
    first | rw [← hW2] | skip
    clear hW2
    refine HAV.out.mono ?_
    rintro e w3 ⟨rfl, hb3⟩
    obtain ⟨hrow, hbel⟩ := HRB.out w3 hb3
    have HROW := hid hrow
    have HBEL := hid hbel
    clear hrow hbel hb3
    cases A with
    | false =>
      have HR := hid (show R = false by rw [HIN.out, if_neg h2, if_pos rfl])
      go_wp2
      go_ret
      exact ⟨ret_bool HR.out.symm, HBEL.out⟩
    | true =>
      have HR := hid (show R = (hasB ps (wd.extract 0 2) && hasB ps (wd.extract (wd.size - 2) wd.size)) by rw [HIN.out, if_neg h2, if_neg (by decide)])
      have hsub : ((wd.size : Int) - 2) = ((wd.size - 2 : Nat) : Int) := by omega
      have h2j : (2 : Int) ≤ (wd.size : Int) := by omega
      have HSEEN := hid (fun (t : Nat) (q x : ByteArray) (hq : ps[t]? = some q) => seen_step (x := x) hq)
      clear HIN HE HF
      go_wp2
      go_loop [9, 10, 32] (fun x y i => ∃ t : Nat, t ≤ M ∧ i = .int .i64 t ∧ x = .bool (hasB (ps.take t) (wd.extract 0 2)) ∧ y = .bool (hasB (ps.take t) (wd.extract (wd.size - 2) wd.size))) (fun _ _ i => M - (intOf i).toNat)
      case atStart => exact ⟨0, by omega, rfl, rfl, rfl⟩
      case round =>
        obtain ⟨t, ht, rfl, rfl, rfl⟩ := hrel
        by_cases hlt : t < M
        · obtain ⟨u, hu⟩ := get_some (l := ps) (n := t) (by rw [HML.out]; exact hlt)
          obtain ⟨b, off, rfl, hb, hc⟩ := HROW.out.at_ (by omega)
          have hcell := hc t _ (strVals_get hu)
          have hti : (t : Int) < (M : Int) := by omega
          have HS1 := hid (HSEEN.out t u (wd.extract 0 2) hu)
          have HS2 := hid (HSEEN.out t u (wd.extract (wd.size - 2) wd.size) hu)
          obtain ⟨x1, hx1⟩ : ∃ x1, x1 = hasB (ps.take t) (wd.extract 0 2) := ⟨_, rfl⟩
          obtain ⟨x2, hx2⟩ : ∃ x2, x2 = hasB (ps.take t) (wd.extract (wd.size - 2) wd.size) := ⟨_, rfl⟩
          rw [← hx1] at HS1
          rw [← hx2] at HS2
          rw [← hx1, ← hx2]
          clear hu hc hx1 hx2 HSEEN
          cases x1 <;> cases x2 <;> {
            go_wp2
            go_round
            case rel => exact ⟨t + 1, by omega, by go_num, by rw [HS1.out]; rfl, by rw [HS2.out]; rfl⟩
            case measure => simp [intOf]; omega }
        · obtain rfl : t = M := by omega
          have HS1 := hid (HE2.out (wd.extract 0 2))
          have HS2 := hid (HE2.out (wd.extract (wd.size - 2) wd.size))
          obtain ⟨x1, hx1⟩ : ∃ x1, x1 = hasB (ps.take t) (wd.extract 0 2) := ⟨_, rfl⟩
          obtain ⟨x2, hx2⟩ : ∃ x2, x2 = hasB (ps.take t) (wd.extract (wd.size - 2) wd.size) := ⟨_, rfl⟩
          rw [← hx1] at HS1
          rw [← hx2] at HS2
          rw [← hx1, ← hx2]
          clear hx1 hx2 HSEEN
          cases x1 <;> {
            go_wp2
            go_ret
            exact ⟨ret_bool (by rw [HR.out, HS1.out, HS2.out]; rfl), HBEL.out⟩ }
end Go.Proofs.YtpfeflhcbcgbfaaGreatDoor
