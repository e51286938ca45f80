/- What FnRules' functions answer, on both sides. Conditions: sizes within the reach. -/
import Derived.Test.YtcmmlldincflkaaHasInt
import Derived.Test.YtcmmlldincflkaaOrpS
import Derived.Test.YtcmmlldincflkaaClassW
import Derived.Test.YtcmmlldincflkaaNumber2
import Derived.Test.YtcmmlldincflkaaNumber3
import Derived.Test.YtcmmlldincflkaaDraw10
namespace Go.Proofs.Ytcmmlldincflkaa
open Go.RowKit

def sBad (n a b : Nat) : Bool := (bits BinOp.and IntKind.i64 ((n : Int) / 2 ^ (a ^^^ b)) 1 !=
      bits BinOp.xor IntKind.i64 (bits BinOp.and IntKind.i64 ((n : Int) / 2 ^ a) 1)
        (bits BinOp.and IntKind.i64 ((n : Int) / 2 ^ b) 1))
def iBad (n a b : Nat) : Bool := (bits BinOp.and IntKind.i64
      (bits BinOp.xor IntKind.i64 (bits BinOp.xor IntKind.i64 ((n : Int) / 2 ^ a) ((n : Int) / 2 ^ b)) ((n : Int) / 2 ^ (a ^^^ b))) 1 !=
    0)
theorem bad_eq : ∀ n : Nat, n < 256 → ∀ a : Nat, a < 8 → ∀ b : Nat, b < 8 → sBad n a b = iBad n a b := by decide +kernel
theorem xor8 : ∀ a : Nat, a < 8 → ∀ b : Nat, b < 8 → bits BinOp.xor IntKind.i64 (a : Int) (b : Int) = ((a ^^^ b : Nat) : Int) ∧ a ^^^ b < 8 := by decide +kernel
def rowOkL (f : Nat → Nat → Bool) (a : Nat) : Nat → Bool | 0 => true | b + 1 => rowOkL f a b && !f a b
def allOk (f : Nat → Nat → Bool) : Nat → Bool | 0 => true | a + 1 => allOk f a && rowOkL f a 8
theorem rowOk_le {f : Nat → Nat → Bool} {a b : Nat} : ∀ {c : Nat}, b < c → f a b = true → rowOkL f a c = false
  | c + 1, h, e => by
    by_cases hb : b = c
    · subst hb; simp [rowOkL, e]
    · simp [rowOkL, rowOk_le (show b < c by omega) e]
theorem allOk_le {f : Nat → Nat → Bool} {a : Nat} : ∀ {c : Nat}, a < c → rowOkL f a 8 = false → allOk f c = false
  | c + 1, h, e => by
    by_cases hb : a = c
    · subst hb; simp [allOk, e]
    · simp [allOk, allOk_le (show a < c by omega) e]

set_option maxHeartbeats 400000 in
theorem spec_IsLinearRule_out (n : Int) (hn : n < 0 ∨ 255 < n) (w : World) :
    Calls Try.prog 21 #[.int .i64 n] w fun e w' => e = .returned (.bool false) ∧ w = w' := by
  have hin := inB_f (x := n) (lo := 0) (hi := 255) hn
  clear hn
  go_enter Try.func21, Try.ntmps21
  go_wp2_with (go_at_call 29; refine (l1In_c _ _ _ _).mono ?_; rintro e w' ⟨rfl, rfl⟩)
  go_ret
  exact ⟨rfl, rfl⟩

set_option maxHeartbeats 400000 in
theorem spec_IsLinearRule_c (n : Nat) (hn : n < 256) (w : World) :
    Calls Try.prog 21 #[.int .i64 n] w fun e w' => e = .returned (.bool (allOk (sBad n) 8)) ∧ w = w' := by
  have hin := inB_t (x := (n : Int)) (lo := 0) (hi := 255) (by omega)
  have h1 : (0 : Int) ≤ n := by omega
  have h2 : (n : Int) ≤ 255 := by omega
  go_enter Try.func21, Try.ntmps21
  go_wp2_with (go_at_call 29; refine (l1In_c _ _ _ _).mono ?_; rintro e w' ⟨rfl, rfl⟩)
  go_loop [3] (fun i => ∃ a : Nat, a ≤ 8 ∧ i = .int .i64 a ∧ Hid (allOk (sBad n) a = true)) (fun i => 8 - (intOf i).toNat)
  case atStart => exact ⟨0, by omega, rfl, rfl⟩
  case round =>
    obtain ⟨a, ha, rfl, hs⟩ := hrel
    by_cases hlt : a < 8
    · go_wp2
      go_loop [4] (fun i => ∃ b : Nat, b ≤ 8 ∧ i = .int .i64 b ∧ Hid (rowOkL (sBad n) a b = true)) (fun i => 8 - (intOf i).toNat)
      case atStart => exact ⟨0, by omega, rfl, rfl⟩
      case round =>
        obtain ⟨b, hb, rfl, hr⟩ := hrel
        by_cases hlt2 : b < 8
        · obtain ⟨hx, hx8⟩ := xor8 a hlt b hlt2
          go_wp2
          · go_ret
            have hbad : sBad n a b = true := by assumption
            exact ⟨ret_bool (by rw [allOk_le hlt (rowOk_le hlt2 hbad)]), rfl⟩
          · go_round
            have hbad : sBad n a b = false := by assumption
            case rel => exact ⟨b + 1, by omega, by go_num, by show rowOkL (sBad n) a (b + 1) = true; simp [rowOkL, hbad, hr.out]⟩
            case measure => simp [intOf]; omega
        · obtain rfl : b = 8 := by omega
          go_wp2
          go_round
          case rel => exact ⟨a + 1, by omega, by go_num, by show allOk (sBad n) (a + 1) = true; simp [allOk, hs.out, hr.out]⟩
          case measure => simp [intOf]; omega
    · obtain rfl : a = 8 := by omega
      go_wp2
      go_ret
      exact ⟨ret_bool hs.out.symm, rfl⟩

set_option maxHeartbeats 400000 in
theorem impl_IsLinearRule_out (n : Int) (hn : n < 0 ∨ 255 < n) (w : World) :
    Calls Try.prog 20 #[.int .i64 n] w fun e w' => e = .returned (.bool false) ∧ w = w' := by
  rcases hn with hn | hn
  all_goals
    go_enter Try.func20, Try.ntmps20
    go_wp2
    go_ret
    exact ⟨rfl, rfl⟩

set_option maxHeartbeats 400000 in
theorem impl_IsLinearRule_c (n : Nat) (hn : n < 256) (w : World) :
    Calls Try.prog 20 #[.int .i64 n] w fun e w' => e = .returned (.bool (allOk (sBad n) 8)) ∧ Below w.heap.size w w' := by
  have h1 : (0 : Int) ≤ n := by omega
  have h2 : (n : Int) ≤ 255 := by omega
  go_enter Try.func20, Try.ntmps20
  go_wp2
  go_loopw [3, 11] (fun _ i wr => ∃ a : Nat, a ≤ 8 ∧ i = .int .i64 a ∧ Below w.heap.size w wr ∧ Hid (allOk (sBad n) a = true)) (fun _ i _ => 8 - (intOf i).toNat)
  case atStart => exact ⟨0, by omega, rfl, Below.refl _ _, rfl⟩
  case round =>
    obtain ⟨a, ha, rfl, hbel, hs⟩ := hrel
    by_cases hlt : a < 8
    · go_wp2
      obtain ⟨wo, rfl⟩ : ∃ wo : World, wo = wr := ⟨_, rfl⟩
      go_loopw [4, 14] (fun _ i wr => ∃ b : Nat, b ≤ 8 ∧ i = .int .i64 b ∧ Below w.heap.size w wr ∧ Hid (rowOkL (sBad n) a b = true)) (fun _ i _ => 8 - (intOf i).toNat)
      case atStart => exact ⟨0, by omega, rfl, hbel, rfl⟩
      case round =>
        obtain ⟨b, hb, rfl, hbel2, hr⟩ := hrel
        by_cases hlt2 : b < 8
        · obtain ⟨hx, hx8⟩ := xor8 a hlt b hlt2
          go_wp2
          go_quiet (fail)
          go_wp2
          · go_ret
            have hbad : iBad n a b = true := by assumption
            rw [← bad_eq n hn a hlt b hlt2] at hbad
            exact ⟨ret_bool (by rw [allOk_le hlt (rowOk_le hlt2 hbad)]), below_drewN hbel2 _⟩
          · go_roundw
            have hbad : iBad n a b = false := by assumption
            rw [← bad_eq n hn a hlt b hlt2] at hbad
            case rel => exact ⟨b + 1, by omega, by go_num, below_drewN hbel2 _, by show rowOkL (sBad n) a (b + 1) = true; simp [rowOkL, hbad, hr.out]⟩
            case measure => simp [intOf]; omega
        · obtain rfl : b = 8 := by omega
          go_wp2
          go_roundw
          case rel => exact ⟨a + 1, by omega, by go_num, hbel2, by show allOk (sBad n) (a + 1) = true; simp [allOk, hs.out, hr.out]⟩
          case measure => simp [intOf]; omega
    · obtain rfl : a = 8 := by omega
      go_wp2
      go_ret
      exact ⟨ret_bool hs.out.symm, hbel⟩
end Go.Proofs.Ytcmmlldincflkaa
namespace Go.Proofs.Ytcmmlldincflkaa
open Go.RowKit

theorem onto_iff {o : ByteArray} {k e : Nat} (hk : k = 2 ∨ k = 3) (h9 : k ^ e ≤ 9) : srchAll (fun s a => stepS o k (k ^ e) s a) k (2 ^ k ^ e - 1) = none ↔ OntoP o k e := by
  have hk3 : k ≤ 3 := by omega
  have hk0 : 0 < k := by omega
  have hS1 : 1 ≤ k ^ e := Nat.pow_pos hk0
  have h2 : 2 ≤ 2 ^ k ^ e := by have := Nat.pow_le_pow_right (n := 2) (show 0 < 2 by omega) hS1; simpa using this
  have h512 : 2 ^ k ^ e ≤ 512 := Nat.le_trans (Nat.pow_le_pow_right (n := 2) (by omega) h9) (show (2 : Nat) ^ 9 ≤ 512 by decide)
  have hf : 2 ^ k ^ e - 1 ≠ 0 := by omega
  have hall : srchAll (fun s a => stepS o k (k ^ e) s a) k (2 ^ k ^ e - 1) = (srchTo (fun s a => stepS o k (k ^ e) s a) k (2 ^ k ^ e - 1) 600).1 := rfl
  obtain ⟨q, hq⟩ : ∃ q, q = 600 := ⟨_, rfl⟩
  rw [← hq] at hall
  rw [hall]
  clear hall
  cases hs : srchTo (fun s a => stepS o k (k ^ e) s a) k (2 ^ k ^ e - 1) q with
  | mk f ys =>
    cases f with
    | some r =>
      obtain ⟨h1, hl⟩ := srch_some hk3 hf hs
      constructor
      · intro h; cases h
      · intro hO
        exact absurd h1 ((reach_zero hk0 hk3 hl).2 (hO r hl))
    | none =>
      have h0 := srchTo_ok (st := fun s a => stepS o k (k ^ e) s a) hk3 hf q
      rw [hs] at h0
      have hl := srchOk_len h0.1 (N := 2 ^ k ^ e) (by omega) (fun s a => stepS_lt (by omega))
      constructor
      · intro _ w hw
        exact (reach_zero hk0 hk3 hw).1 (srch_none hk3 hf hs (by omega) w hw)
      · intro _; rfl
set_option maxHeartbeats 4000000 in
set_option maxRecDepth 100000 in
theorem spec_IsOnto_no (k n : Int) (o : ByteArray) (w : World) (ho : o.size ≤ maxLen) (h : isCode k n o = false) :
    Calls Try.prog 24 #[.agg #[.int .i64 k, .int .i64 n, .string o]] w fun e w' => e = .returned (.bool false) ∧ Below w.heap.size w w' := by
  have HI := hid (fun w : World => spec_IsCode_c k n o w ho)
  rw [h] at HI
  clear h
  go_enter Try.func24, Try.ntmps24
  go_wp2_with fail
  refine (HI.out _).mono ?_
  rintro e w1 ⟨rfl, hb⟩
  have hb2 : Below w.heap.size w w1 := ((Below.refl _ _).alloc (Nat.le_refl _) _).trans (hb.mono (by simp))
  clear hb HI
  go_wp2
  go_ret
  exact ⟨rfl, hb2⟩
set_option maxHeartbeats 4000000 in
set_option maxRecDepth 100000 in
theorem spec_IsOnto_yes (k n : Nat) (o : ByteArray) (w : World) (ho : o.size ≤ maxLen) (h : isCode k n o = true) :
    Calls Try.prog 24 #[.agg #[.int .i64 k, .int .i64 n, .string o]] w (OnePost (OntoP o k (n - 1)) w) := by
  have hP := code_P h
  have hk := hP.k23
  have hn1 := hP.n1
  have hn4 := hP.n4
  obtain ⟨hS1, hS9, hSk⟩ := powN_facts hk hn1 hn4 hP.fits
  have HI := hid (fun w : World => spec_IsCode_c k n o w ho)
  rw [h] at HI
  have HO := hid (fun w : World => spec_l12Orphan_c k n o w hk hn1 hn4 _ rfl hS9 hS1 (by rw [hP.size, hSk]))
  have HF := hid (onto_iff (o := o) (e := n - 1) hk (by rw [← powN_pow]; exact hS9))
  rw [← powN_pow] at HF
  obtain ⟨b, v, hv, hb⟩ : ∃ (b : Bool) (v : ByteArray), orphV o k (powN k (n - 1)) = .tuple #[.string v, .bool b] ∧ (b = false ↔ OntoP o k (n - 1)) := by
    cases hs : srchAll (fun s a => stepS o k (powN k (n - 1)) s a) k (2 ^ powN k (n - 1) - 1) with
    | some r => exact ⟨true, _, orphV_some hs, ⟨(fun h => nomatch h), (fun h => by have := HF.out.2 h; rw [hs] at this; cases this)⟩⟩
    | none => exact ⟨false, _, orphV_none hs, ⟨fun _ => HF.out.1 hs, fun _ => rfl⟩⟩
  rw [hv] at HO
  have HB := hid hb
  clear hb hv HF hS1 hS9 hSk hP h hk hn1 hn4
  unfold OnePost
  go_enter Try.func24, Try.ntmps24
  go_wp2_with fail
  refine (HI.out _).mono ?_
  rintro e w1 ⟨rfl, hb⟩
  obtain ⟨⟨s0, s1, s2⟩, _, hz⟩ := box3 hb
  have hb2 : Below w.heap.size w w1 := ((Below.refl _ _).alloc (Nat.le_refl _) _).trans (hb.mono (by simp))
  clear hb HI
  go_wp2_with fail
  refine (HO.out _).mono ?_
  rintro e w2 ⟨rfl, hb3⟩
  have hb4 := bs hb2 hb3
  clear HO s0 s1 s2
  cases b
  all_goals
    go_wp2
    go_ret
    refine ⟨_, rfl, ?_, hb4⟩
  · simp only [true_iff]; exact (by simpa using HB.out)
  · simp only [Bool.false_eq_true, false_iff]; exact (by simpa using HB.out)
end Go.Proofs.Ytcmmlldincflkaa
namespace Go.Proofs.Ytcmmlldincflkaa
open Go.RowKit

theorem nums_all : ∀ n : Nat, n < 256 → ((nums n).all fun m => decide (0 ≤ m) && decide (m < 256) && (nums m.toNat).all (fun x => (nums n).contains x) && (nums n).all (fun x => (nums m.toNat).contains x)) = true := by decide +kernel
theorem class_same {a b : Nat} (h : ∀ x, x ∈ nums a ↔ x ∈ nums b) : classOf a = classOf b := by
  unfold classOf
  rw [← insAll_distinctI (nums a) (nums a) fun _ => Iff.rfl]
  exact insAll_distinctI _ _ h
theorem class_mem {n : Nat} (hn : n < 256) {m : Int} (hm : m ∈ classOf n) : ∃ j : Nat, m = (j : Int) ∧ j < 256 ∧ classOf j = classOf n := by
  have h := List.all_eq_true.1 (nums_all n hn) m (((distinctI_facts (nums n)).2 m).1 hm)
  simp only [Bool.and_eq_true, decide_eq_true_eq, List.all_eq_true, List.contains_iff_mem] at h
  exact ⟨m.toNat, by omega, by omega, class_same fun x => ⟨fun hx => h.1.2 x hx, fun hx => h.2 x hx⟩⟩
theorem class_self (n : Nat) : (n : Int) ∈ classOf n := ((distinctI_facts (nums n)).2 _).2 (by simp [nums])
end Go.Proofs.Ytcmmlldincflkaa
namespace Go.Proofs.Ytcmmlldincflkaa
open Go.RowKit

theorem one_ex {F : FuncId} {args : Array Value} {P : Prop} (h : ∀ w, Calls Try.prog F args w (OnePost P w)) : ∃ b : Bool, (b = true ↔ P) ∧ ∀ w, Calls Try.prog F args w fun e w' => e = .returned (.bool b) ∧ Below w.heap.size w w' := by
  by_cases hP : P
  · refine ⟨true, by simp [hP], fun w => (h w).mono ?_⟩
    rintro e w' ⟨b, rfl, hb, hbel⟩
    have : b = true := hb.2 hP
    subst this
    exact ⟨rfl, hbel⟩
  · refine ⟨false, by simp [hP], fun w => (h w).mono ?_⟩
    rintro e w' ⟨b, rfl, hb, hbel⟩
    have : b = false := by
      cases b
      · rfl
      · exact absurd (hb.1 rfl) hP
    subst this
    exact ⟨rfl, hbel⟩
def codeT (k n : Int) (o : ByteArray) (b : Bool) : Value := .tuple #[.agg #[.int .i64 k, .int .i64 n, .string o], .bool b]
def Ret (v : Value) (w : World) (e : Ending) (w' : World) : Prop := e = .returned v ∧ Below w.heap.size w w'
theorem num_i (k n : Int) (o : ByteArray) (w : World) (ho : o.size ≤ maxLen) : Calls Try.prog 22 #[.agg #[.int .i64 k, .int .i64 n, .string o]] w (Ret (.int .i64 (numB k n o)) w) := by
  by_cases h : isCode k n o = true ∧ k = 2 ∧ n = 3
  · obtain ⟨h1, rfl, rfl⟩ := h
    exact impl_RuleNumber_yes o w ho h1
  · exact impl_RuleNumber_no k n o w ho h
theorem num_s (k n : Int) (o : ByteArray) (w : World) (ho : o.size ≤ maxLen) : Calls Try.prog 23 #[.agg #[.int .i64 k, .int .i64 n, .string o]] w (Ret (.int .i64 (numB k n o)) w) := by
  by_cases h : isCode k n o = true ∧ k = 2 ∧ n = 3
  · obtain ⟨h1, rfl, rfl⟩ := h
    exact spec_RuleNumber_yes o w ho h1
  · exact spec_RuleNumber_no k n o w ho h
theorem lin_ex (n : Int) : ∃ b : Bool, (∀ w, Calls Try.prog 20 #[.int .i64 n] w (Ret (.bool b) w)) ∧ ∀ w, Calls Try.prog 21 #[.int .i64 n] w (Ret (.bool b) w) := by
  by_cases h : n < 0 ∨ 255 < n
  · refine ⟨false, fun w => (impl_IsLinearRule_out n h w).mono ?_, fun w => (spec_IsLinearRule_out n h w).mono ?_⟩
    all_goals
      rintro e w' ⟨rfl, rfl⟩
      exact ⟨rfl, Below.refl _ _⟩
  · obtain ⟨m, rfl⟩ : ∃ m : Nat, n = m := ⟨n.toNat, by omega⟩
    refine ⟨allOk (sBad m) 8, fun w => impl_IsLinearRule_c m (by omega) w, fun w => (spec_IsLinearRule_c m (by omega) w).mono ?_⟩
    rintro e w' ⟨rfl, rfl⟩
    exact ⟨rfl, Below.refl _ _⟩
theorem rule_ex (n : Int) : ∃ (k m : Int) (o : ByteArray) (b : Bool), (∀ w, Calls Try.prog 6 #[.int .i64 n] w (Ret (codeT k m o b) w)) ∧ (∀ w, Calls Try.prog 7 #[.int .i64 n] w (Ret (codeT k m o b) w)) ∧ (b = true → ∀ w, Calls Try.prog 22 #[.agg #[.int .i64 k, .int .i64 m, .string o]] w (Ret (.int .i64 n) w)) := by
  by_cases h : n < 0 ∨ 255 < n
  · exact ⟨0, 0, ⟨#[]⟩, false, fun w => impl_RuleCode_no n h w, fun w => spec_RuleCode_no n h w, fun h => nomatch h⟩
  · obtain ⟨m, rfl⟩ : ∃ m : Nat, n = m := ⟨n.toNat, by omega⟩
    have hm : m < 256 := by omega
    have hc := codes_ok hm
    refine ⟨2, 3, o0 m, true, fun w => impl_RuleCode_c m hm w, fun w => spec_RuleCode_c m hm w, fun _ w => ?_⟩
    have h1 := num_i 2 3 (o0 m) w (code_size hc.1)
    rw [numB_yes hc.1, hc.2.2.2.2] at h1
    exact h1
/-- What the law asks of a code and its mirrored one. -/
theorem mir_ex (k n : Int) (o : ByteArray) (ho : o.size ≤ maxLen) : ∃ (k2 n2 : Int) (o2 : ByteArray) (b : Bool), (∀ w, Calls Try.prog 9 #[.agg #[.int .i64 k, .int .i64 n, .string o]] w (Ret (codeT k2 n2 o2 b) w)) ∧ (∀ w, Calls Try.prog 10 #[.agg #[.int .i64 k, .int .i64 n, .string o]] w (Ret (codeT k2 n2 o2 b) w)) ∧
    (b = true → (∀ w, Calls Try.prog 9 #[.agg #[.int .i64 k2, .int .i64 n2, .string o2]] w (Ret (codeT k n o true) w)) ∧
      (∃ c : Bool, (∀ w, Calls Try.prog 24 #[.agg #[.int .i64 k2, .int .i64 n2, .string o2]] w (Ret (.bool c) w)) ∧ ∀ w, Calls Try.prog 24 #[.agg #[.int .i64 k, .int .i64 n, .string o]] w (Ret (.bool c) w)) ∧
      ∃ c : Bool, (∀ w, Calls Try.prog 25 #[.agg #[.int .i64 k2, .int .i64 n2, .string o2]] w (Ret (.bool c) w)) ∧ ∀ w, Calls Try.prog 25 #[.agg #[.int .i64 k, .int .i64 n, .string o]] w (Ret (.bool c) w)) := by
  cases hc : isCode k n o
  · refine ⟨0, 0, ⟨#[]⟩, false, fun w => (impl_MirrorCode_c k n o w ho).mono ?_, fun w => (spec_MirrorCode_c k n o w ho).mono ?_, fun h => nomatch h⟩
    all_goals
      rintro e w' ⟨rfl, hb⟩
      exact ⟨by unfold mirC; rw [hc]; rfl, hb⟩
  · obtain ⟨kk, nn, rfl, rfl, _⟩ := code_facts hc
    have hP := code_P hc
    have hM := hP.mir
    have hs : ∀ {q : ByteArray}, CodeP q kk nn → q.size ≤ maxLen := fun h => by rw [h.size]; have := h.fits; unfold maxLen; omega
    have hval : ∀ {q : ByteArray}, CodeP q kk nn → mirC kk nn q = codeT kk nn (mirOut q kk nn) true := fun h => by unfold mirC; rw [h.code]; rfl
    refine ⟨kk, nn, mirOut o kk nn, true, fun w => (impl_MirrorCode_c kk nn o w ho).mono ?_, fun w => (spec_MirrorCode_c kk nn o w ho).mono ?_, fun _ => ⟨fun w => (impl_MirrorCode_c kk nn _ w (hs hM)).mono ?_, ?_, ?_⟩⟩
    · rintro e w' ⟨rfl, hb⟩
      exact ⟨by rw [hval hP], hb⟩
    · rintro e w' ⟨rfl, hb⟩
      exact ⟨by rw [hval hP], hb⟩
    · rintro e w' ⟨rfl, hb⟩
      exact ⟨by rw [hval hM, hP.mir_mir], hb⟩
    · obtain ⟨b1, h1, c1⟩ := one_ex fun w => spec_IsOnto_yes kk nn (mirOut o kk nn) w (hs hM) hM.code
      obtain ⟨b2, h2, c2⟩ := one_ex fun w => spec_IsOnto_yes kk nn o w ho hc
      have : b1 = b2 := by rw [Bool.eq_iff_iff, h1, h2]; exact mir_onto hP
      subst this
      exact ⟨b1, c1, c2⟩
    · obtain ⟨b1, h1, c1⟩ := one_ex fun w => spec_IsOneToOne_yes kk nn (mirOut o kk nn) w (hs hM) hM.code
      obtain ⟨b2, h2, c2⟩ := one_ex fun w => spec_IsOneToOne_yes kk nn o w ho hc
      have : b1 = b2 := by rw [Bool.eq_iff_iff, h1, h2]; exact mir_one hP
      subst this
      exact ⟨b1, c1, c2⟩
theorem exch_ex (k n : Int) (o : ByteArray) (ho : o.size ≤ maxLen) : ∃ (k2 n2 : Int) (o2 : ByteArray) (b : Bool), (∀ w, Calls Try.prog 12 #[.agg #[.int .i64 k, .int .i64 n, .string o]] w (Ret (codeT k2 n2 o2 b) w)) ∧ (∀ w, Calls Try.prog 13 #[.agg #[.int .i64 k, .int .i64 n, .string o]] w (Ret (codeT k2 n2 o2 b) w)) ∧
    (b = true → (∀ w, Calls Try.prog 12 #[.agg #[.int .i64 k2, .int .i64 n2, .string o2]] w (Ret (codeT k n o true) w)) ∧
      (∃ c : Bool, (∀ w, Calls Try.prog 24 #[.agg #[.int .i64 k2, .int .i64 n2, .string o2]] w (Ret (.bool c) w)) ∧ ∀ w, Calls Try.prog 24 #[.agg #[.int .i64 k, .int .i64 n, .string o]] w (Ret (.bool c) w))) := by
  cases hc : isCode2 k n o
  · refine ⟨0, 0, ⟨#[]⟩, false, fun w => (impl_ExchangeCode_c k n o w ho).mono ?_, fun w => (spec_ExchangeCode_c k n o w ho).mono ?_, fun h => nomatch h⟩
    all_goals
      rintro e w' ⟨rfl, hb⟩
      exact ⟨by unfold exC; rw [hc]; rfl, hb⟩
  · obtain ⟨nn, rfl, rfl, _, _, _, _, hic⟩ := code2_facts hc
    have hP := code_P hic
    have hM := hP.ex
    have hs : ∀ {q : ByteArray}, CodeP q 2 nn → q.size ≤ maxLen := fun h => by rw [h.size]; have := h.fits; unfold maxLen; omega
    have hval : ∀ {q : ByteArray}, CodeP q 2 nn → exC 2 nn q = codeT 2 nn (exOut q nn) true := fun {q} h => by
      have h2 : isCode2 2 nn q = true := by unfold isCode2; rw [show isCode 2 nn q = true from h.code]; rfl
      unfold exC; rw [h2]; rfl
    refine ⟨2, nn, exOut o nn, true, fun w => (impl_ExchangeCode_c 2 nn o w ho).mono ?_, fun w => (spec_ExchangeCode_c 2 nn o w ho).mono ?_, fun _ => ⟨fun w => (impl_ExchangeCode_c 2 nn _ w (hs hM)).mono ?_, ?_⟩⟩
    · rintro e w' ⟨rfl, hb⟩
      exact ⟨by rw [hval hP], hb⟩
    · rintro e w' ⟨rfl, hb⟩
      exact ⟨by rw [hval hP], hb⟩
    · rintro e w' ⟨rfl, hb⟩
      exact ⟨by rw [hval hM, hP.ex_ex], hb⟩
    · obtain ⟨b1, h1, c1⟩ := one_ex fun w => spec_IsOnto_yes 2 nn (exOut o nn) w (hs hM) hM.code
      obtain ⟨b2, h2, c2⟩ := one_ex fun w => spec_IsOnto_yes 2 nn o w ho hic
      have : b1 = b2 := by rw [Bool.eq_iff_iff, h1, h2]; exact ex_onto hP
      subst this
      exact ⟨b1, c1, c2⟩
/-- A list of ints that a function hands back. -/
def RetL (cs : List Int) (w : World) (e : Ending) (w' : World) : Prop := ∃ v, e = .returned v ∧ w'.ownsRow w.heap.size 3 1 v cs.length (intVals cs) ∧ Below w.heap.size w w'
theorem class_ex (k : Int) : ∃ cs : List Int, (∀ w, Calls Try.prog 15 #[.int .i64 k] w (RetL cs w)) ∧ (∀ w, Calls Try.prog 19 #[.int .i64 k] w (RetL cs w)) ∧ cs.length ≤ 4 ∧ ((cs = [] ∧ (k < 0 ∨ 255 < k)) ∨ (0 < cs.length ∧ 0 ≤ k ∧ k ≤ 255 ∧ k ∈ cs)) ∧ ∀ x ∈ cs, ∀ w, Calls Try.prog 15 #[.int .i64 x] w (RetL cs w) := by
  by_cases h : k < 0 ∨ 255 < k
  · refine ⟨[], fun w => (impl_RuleClass_no k h w).mono ?_, fun w => (spec_RuleClass_no k h w).mono ?_, by simp, .inl ⟨rfl, h⟩, fun x hx => by cases hx⟩
    all_goals
      rintro e w' ⟨v, rfl, ho, hb⟩
      exact ⟨v, rfl, ho, hb⟩
  · obtain ⟨m, rfl⟩ : ∃ m : Nat, k = m := ⟨k.toNat, by omega⟩
    have hm : m < 256 := by omega
    refine ⟨classOf m, fun w => (impl_RuleClass_yes m hm w).mono ?_, fun w => (spec_RuleClass_yes m hm w).mono ?_, (class_len m).2, .inr ⟨by have := (class_len m).1; omega, by omega, by omega, class_self m⟩, fun x hx w => ?_⟩
    · rintro e w' ⟨g, c, rfl, ho, hb⟩
      exact ⟨_, rfl, ho, hb⟩
    · rintro e w' ⟨g, c, rfl, ho, hb⟩
      exact ⟨_, rfl, ho, hb⟩
    · obtain ⟨j, rfl, hj, he⟩ := class_mem hm hx
      refine (impl_RuleClass_yes j hj w).mono ?_
      rintro e w' ⟨g, c, rfl, ho, hb⟩
      rw [he] at ho
      exact ⟨_, by rw [he], ho, hb⟩
theorem DrawRuleCode_c (a : Option Addr) (n c : Nat) (bs : List UInt8) (w : World) (hr : RowAt w a n (byteVals bs)) :
    Calls Try.prog 5 #[.slice a n c] w fun e w' => ∃ x : Int, e = .returned (.int .i64 x) ∧ -1 ≤ x ∧ x ≤ 256 ∧ Below w.heap.size w w' := by
  go_enter Try.func5, Try.ntmps5
  go_wp2_with fail
  refine (l32Number_c a n c bs _ hr).mono ?_
  rintro e w1 ⟨x, rfl, h1, h2, hb⟩
  go_wp2
  go_ret
  exact ⟨x, rfl, h1, h2, hb⟩
theorem DrawRuleClass_c (a : Option Addr) (n c : Nat) (bs : List UInt8) (w : World) (hr : RowAt w a n (byteVals bs)) :
    Calls Try.prog 14 #[.slice a n c] w fun e w' => ∃ x : Int, e = .returned (.int .i64 x) ∧ -1 ≤ x ∧ x ≤ 256 ∧ Below w.heap.size w w' := by
  go_enter Try.func14, Try.ntmps14
  go_wp2_with fail
  refine (l32Number_c a n c bs _ hr).mono ?_
  rintro e w1 ⟨x, rfl, h1, h2, hb⟩
  go_wp2
  go_ret
  exact ⟨x, rfl, h1, h2, hb⟩
theorem DrawIsLinearRule_c (a : Option Addr) (n c : Nat) (bs : List UInt8) (w : World) (hr : RowAt w a n (byteVals bs)) :
    Calls Try.prog 16 #[.slice a n c] w fun e w' => ∃ x : Int, e = .returned (.int .i64 x) ∧ -1 ≤ x ∧ x ≤ 256 ∧ Below w.heap.size w w' := by
  go_enter Try.func16, Try.ntmps16
  go_wp2_with fail
  refine (l32Number_c a n c bs _ hr).mono ?_
  rintro e w1 ⟨x, rfl, h1, h2, hb⟩
  go_wp2
  go_ret
  exact ⟨x, rfl, h1, h2, hb⟩
theorem DrawRuleNumber_c (a : Option Addr) (n c : Nat) (bs : List UInt8) (w : World) (hr : RowAt w a n (byteVals bs)) : Calls Try.prog 17 #[.slice a n c] w (CodeOut w) := by
  unfold CodeOut
  have hb0 : Below w.heap.size w (w.alloc (.cells #[.int .i64 0, .int .i64 0, .string ⟨#[]⟩] 26)) := (Below.refl _ _).alloc (Nat.le_refl _) _
  have HB0 := hid (BoxC.new w #[.int .i64 0, .int .i64 0, .string ⟨#[]⟩] 26)
  have HX := hid (l32Code_c a n c bs _ (hr.below hb0 (Nat.le_refl _)))
  unfold CodeOut at HX
  have HL0 := hid hb0
  clear hr hb0
  go_enter Try.func17, Try.ntmps17
  go_wp2_with fail
  refine HX.out.mono ?_
  rintro e w1 ⟨k, m, o, rfl, ho', hb⟩
  have HB1 := hid (HB0.out.below hb)
  obtain ⟨⟨r0, r1, r2⟩, u0, u1, u2⟩ := HB1.out.c3
  have hzs := HB1.out.lt
  have hb01 : Below w.heap.size w w1 := HL0.out.trans (hb.mono HL0.out.size)
  have HBE := hid (below_set3 hb01 (Nat.le_refl _) (.int .i64 k) (.int .i64 m) (.string o))
  clear hb HX HB0 HL0 HB1 hb01
  go_wp2
  refine bodyPost_ret (v := .agg #[.int .i64 k, .int .i64 m, .string o]) ?_ rfl ⟨_, _, _, rfl, ho', HBE.out⟩
  simp [results, Try.results17, go_sem, r0, r1, r2, hzs]
theorem DrawMirrorCode_c (a : Option Addr) (n c : Nat) (bs : List UInt8) (w : World) (hr : RowAt w a n (byteVals bs)) : Calls Try.prog 8 #[.slice a n c] w (CodeOut w) := by
  unfold CodeOut
  have hb0 : Below w.heap.size w (w.alloc (.cells #[.int .i64 0, .int .i64 0, .string ⟨#[]⟩] 26)) := (Below.refl _ _).alloc (Nat.le_refl _) _
  have HB0 := hid (BoxC.new w #[.int .i64 0, .int .i64 0, .string ⟨#[]⟩] 26)
  have HX := hid (l32Code_c a n c bs _ (hr.below hb0 (Nat.le_refl _)))
  unfold CodeOut at HX
  have HL0 := hid hb0
  clear hr hb0
  go_enter Try.func8, Try.ntmps8
  go_wp2_with fail
  refine HX.out.mono ?_
  rintro e w1 ⟨k, m, o, rfl, ho', hb⟩
  have HB1 := hid (HB0.out.below hb)
  obtain ⟨⟨r0, r1, r2⟩, u0, u1, u2⟩ := HB1.out.c3
  have hzs := HB1.out.lt
  have hb01 : Below w.heap.size w w1 := HL0.out.trans (hb.mono HL0.out.size)
  have HBE := hid (below_set3 hb01 (Nat.le_refl _) (.int .i64 k) (.int .i64 m) (.string o))
  clear hb HX HB0 HL0 HB1 hb01
  go_wp2
  refine bodyPost_ret (v := .agg #[.int .i64 k, .int .i64 m, .string o]) ?_ rfl ⟨_, _, _, rfl, ho', HBE.out⟩
  simp [results, Try.results8, go_sem, r0, r1, r2, hzs]
theorem DrawExchangeCode_c (a : Option Addr) (n c : Nat) (bs : List UInt8) (w : World) (hr : RowAt w a n (byteVals bs)) : Calls Try.prog 11 #[.slice a n c] w (CodeOut w) := by
  unfold CodeOut
  have hb0 : Below w.heap.size w (w.alloc (.cells #[.int .i64 0, .int .i64 0, .string ⟨#[]⟩] 26)) := (Below.refl _ _).alloc (Nat.le_refl _) _
  have HB0 := hid (BoxC.new w #[.int .i64 0, .int .i64 0, .string ⟨#[]⟩] 26)
  have HX := hid (l32Code_c a n c bs _ (hr.below hb0 (Nat.le_refl _)))
  unfold CodeOut at HX
  have HL0 := hid hb0
  clear hr hb0
  go_enter Try.func11, Try.ntmps11
  go_wp2_with fail
  refine HX.out.mono ?_
  rintro e w1 ⟨k, m, o, rfl, ho', hb⟩
  have HB1 := hid (HB0.out.below hb)
  obtain ⟨⟨r0, r1, r2⟩, u0, u1, u2⟩ := HB1.out.c3
  have hzs := HB1.out.lt
  have hb01 : Below w.heap.size w w1 := HL0.out.trans (hb.mono HL0.out.size)
  have HBE := hid (below_set3 hb01 (Nat.le_refl _) (.int .i64 k) (.int .i64 m) (.string o))
  clear hb HX HB0 HL0 HB1 hb01
  go_wp2
  refine bodyPost_ret (v := .agg #[.int .i64 k, .int .i64 m, .string o]) ?_ rfl ⟨_, _, _, rfl, ho', HBE.out⟩
  simp [results, Try.results11, go_sem, r0, r1, r2, hzs]
end Go.Proofs.Ytcmmlldincflkaa
