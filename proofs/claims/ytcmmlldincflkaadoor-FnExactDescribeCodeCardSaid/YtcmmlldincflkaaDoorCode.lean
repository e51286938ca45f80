/- Codes: powers, what a code is, and its number. Conditions: sizes within the reach. -/
import Derived.Test.YtcmmlldincflkaaDoorBox
namespace Go.Proofs.YtcmmlldincflkaaDoor
open Go.RowKit

def codeV (k n : Int) (o : ByteArray) : Value := .agg #[.int .i64 k, .int .i64 n, .string o]
theorem box3 {w wr : World} {a b c : Value} {T : TypeId} (h : Below (w.alloc (.cells #[a, b, c] T)).heap.size (w.alloc (.cells #[a, b, c] T)) wr) :
    (wr.cell? ⟨w.heap.size, 0, none⟩ = some a ∧ wr.cell? ⟨w.heap.size, 1, none⟩ = some b ∧ wr.cell? ⟨w.heap.size, 2, none⟩ = some c) ∧
    (wr.frozen? ⟨w.heap.size, 0, none⟩ = false ∧ wr.frozen? ⟨w.heap.size, 1, none⟩ = false ∧ wr.frozen? ⟨w.heap.size, 2, none⟩ = false) ∧ w.heap.size < wr.heap.size := by
  have h' : Below (w.heap.size + 1) (w.alloc (.cells #[a, b, c] T)) wr := by simpa using h
  have hb := box_kept h'
  have hs := h'.size
  simp at hs
  exact ⟨⟨(hb 0).1, (hb 1).1, (hb 2).1⟩, ⟨(hb 0).2, (hb 1).2, (hb 2).2⟩, by omega⟩

/-- The letter of bit i. -/
def bitB (n i : Nat) : UInt8 := if n / 2 ^ i % 2 = 1 then 98 else 97
def ruleOut (n : Nat) (i : Nat) : List UInt8 := (List.range i).map (bitB n)
theorem bit_and : ∀ n : Nat, n < 256 → ∀ i : Nat, i < 8 → bits BinOp.and IntKind.i64 ((n : Int) / 2 ^ i) 1 = ((n / 2 ^ i % 2 : Nat) : Int) := by decide +kernel

theorem infoU8 : (Tryd.prog.info? 5).map (fun i => (i.zero, i.size, i.bytes)) = some (some (.int .u8 0), 1, 1) := by kernel_rfl

theorem ruleOut_succ (n j : Nat) : byteVals (ruleOut n (j + 1)) = byteVals (ruleOut n j) ++ [Value.int .u8 (97 + (n : Int) / 2 ^ j % 2)] := by
  simp only [ruleOut, List.range_succ, List.map_append, byteVals, List.map_cons, List.map_nil]
  congr 3
  unfold bitB
  have h2 : ((n / 2 ^ j % 2 : Nat) : Int) = (n : Int) / 2 ^ j % 2 := by simp
  rw [← h2]
  rcases Nat.mod_two_eq_zero_or_one (n / 2 ^ j) with h | h <;> rw [h] <;> rfl

end Go.Proofs.YtcmmlldincflkaaDoor
namespace Go.Proofs.YtcmmlldincflkaaDoor
open Go.RowKit

def powN (k n : Nat) : Nat := k ^ n
theorem powN_succ (k n : Nat) : powN k (n + 1) = powN k n * k := rfl
theorem powN_le : ∀ k : Nat, k ≤ 3 → ∀ j : Nat, j ≤ 4 → powN k j ≤ 81 := by decide

set_option maxHeartbeats 1000000 in
theorem spec_l11Power_c (k n : Nat) (hk : k ≤ 3) (hn : n ≤ 4) (w : World) :
    Calls Tryd.prog 22 #[.int .i64 k, .int .i64 n] w fun e w' => e = .returned (.int .i64 (powN k n : Int)) ∧ w = w' := by
  go_enter Tryd.func22, Tryd.ntmps22
  go_wp2
  go_loop [5, 6] (fun o i => ∃ j q : Nat, j ≤ n ∧ i = .int .i64 j ∧ o = .int .i64 q ∧ Hid (q = powN k j)) (fun _ i => n - (intOf i).toNat)
  case atStart => exact ⟨0, 1, by omega, rfl, rfl, rfl⟩
  case round =>
    obtain ⟨j, q, hj, rfl, rfl, H⟩ := hrel
    by_cases hlt : j < n
    · have hq1 := powN_le k hk j (by omega)
      have hq2 := powN_le k hk (j + 1) (by omega)
      rw [powN_succ, ← H.out] at hq2
      rw [← H.out] at hq1
      have hmul : (0 : Int) ≤ (q : Int) * k ∧ (q : Int) * k ≤ 81 := by
        have : ((q * k : Nat) : Int) ≤ 81 := by omega
        rw [Int.natCast_mul] at this
        exact ⟨by rw [← Int.natCast_mul]; omega, this⟩
      go_wp2
      go_round
      case rel => exact ⟨j + 1, q * k, by omega, by go_num, by go_num, by show _ = _; rw [H.out, powN_succ]⟩
      case measure => simp [intOf]; omega
    · obtain rfl : j = n := by omega
      go_wp2
      go_ret
      exact ⟨ret_int (by rw [H.out]), rfl⟩

set_option maxHeartbeats 1000000 in
theorem impl_power_c (k n : Nat) (hk : k ≤ 3) (hn : n ≤ 4) (w : World) :
    Calls Tryd.prog 27 #[.int .i64 k, .int .i64 n] w fun e w' => e = .returned (.int .i64 (powN k n : Int)) ∧ w = w' := by
  go_enter Tryd.func27, Tryd.ntmps27
  go_wp2
  go_loop [5, 7] (fun o i => ∃ j q : Nat, j ≤ n ∧ i = .int .i64 j ∧ o = .int .i64 q ∧ Hid (q = powN k j)) (fun _ i => n - (intOf i).toNat)
  case atStart => exact ⟨0, 1, by omega, rfl, rfl, rfl⟩
  case round =>
    obtain ⟨j, q, hj, rfl, rfl, H⟩ := hrel
    by_cases hlt : j < n
    · have hq1 := powN_le k hk j (by omega)
      have hq2 := powN_le k hk (j + 1) (by omega)
      rw [powN_succ, ← H.out] at hq2
      rw [← H.out] at hq1
      have hmul : (0 : Int) ≤ (q : Int) * k ∧ (q : Int) * k ≤ 81 := by
        have : ((q * k : Nat) : Int) ≤ 81 := by omega
        rw [Int.natCast_mul] at this
        exact ⟨by rw [← Int.natCast_mul]; omega, this⟩
      go_wp2
      go_round
      case rel => exact ⟨j + 1, q * k, by omega, by go_num, by go_num, by show _ = _; rw [H.out, powN_succ]⟩
      case measure => simp [intOf]; omega
    · obtain rfl : j = n := by omega
      go_wp2
      go_ret
      exact ⟨ret_int (by rw [H.out]), rfl⟩

/-- What a code is. -/
def isCode (k n : Int) (o : ByteArray) : Bool :=
  decide ((k = 2 ∨ k = 3) ∧ (1 ≤ n ∧ n ≤ 4) ∧ powN k.toNat n.toNat ≤ 27 ∧ o.size = powN k.toNat n.toNat) && lets k o.data.toList

set_option maxHeartbeats 2000000 in
theorem impl_IsCode_c (k n : Int) (o : ByteArray) (w : World) (ho : o.size ≤ maxLen) :
    Calls Tryd.prog 14 #[.agg #[.int .i64 k, .int .i64 n, .string o]] w fun e w' => e = .returned (.bool (isCode k n o)) ∧ Below w.heap.size w w' := by
  by_cases hk : k = 2 ∨ k = 3
  · have hd : (k == 2) = true ∨ (k == 2) = false ∧ (k == 3) = true := by rcases hk with rfl | rfl <;> simp
    by_cases hn1 : 1 ≤ n
    · by_cases hn4 : n ≤ 4
      · obtain ⟨kk, rfl⟩ : ∃ kk : Nat, k = kk := ⟨k.toNat, by omega⟩
        obtain ⟨nn, rfl⟩ : ∃ nn : Nat, n = nn := ⟨n.toNat, by omega⟩
        have hkk : kk ≤ 3 := by omega
        have hnn : nn ≤ 4 := by omega
        have hic : isCode kk nn o = (decide (powN kk nn ≤ 27 ∧ o.size = powN kk nn) && lets kk o.data.toList) := by
          rw [isCode, Int.toNat_natCast, Int.toNat_natCast]
          congr 1
          simp only [decide_eq_decide]
          exact ⟨fun h => h.2.2, fun h => ⟨hk, ⟨hn1, hn4⟩, h⟩⟩
        clear hk
        by_cases hp : powN kk nn ≤ 27
        · have hp2 : decide ((powN kk nn : Int) ≤ 27) = true := by simp; omega
          by_cases hsz : o.size = powN kk nn
          · have he : ((o.size : Int) == (powN kk nn : Int)) = true := by simp; omega
            have H := hid (show isCode kk nn o = lets kk o.data.toList by rw [hic]; simp [hp, hsz])
            clear hic hsz hp
            rcases hd with h2 | ⟨h2, h3⟩
            all_goals
              go_enter Tryd.func14, Tryd.ntmps14
              go_wp2_with fail
              go_quiet ((first | (go_at_call 27; exact Calls.quiet_of_same ((impl_power_c _ _ hkk hnn _).mono (fun e w' h => ⟨h.1, h.2.symm⟩))) | (go_at_call 28; exact Calls.quiet_of_same ((areLetters_c _ _ _ ho (by omega)).mono (fun e w' h => ⟨h.1, h.2.symm⟩)))))
              go_wp2
              go_ret
              exact ⟨ret_bool H.out.symm, below_drewN ((Below.refl _ _).alloc (Nat.le_refl _) _) _⟩
          · have he : ((o.size : Int) == (powN kk nn : Int)) = false := by simp; omega
            have H := hid (show isCode kk nn o = false by rw [hic]; simp [hsz])
            clear hic hsz hp
            rcases hd with h2 | ⟨h2, h3⟩
            all_goals
              go_enter Tryd.func14, Tryd.ntmps14
              go_wp2_with fail
              go_quiet ((first | (go_at_call 27; exact Calls.quiet_of_same ((impl_power_c _ _ hkk hnn _).mono (fun e w' h => ⟨h.1, h.2.symm⟩))) | (go_at_call 28; exact Calls.quiet_of_same ((areLetters_c _ _ _ ho (by omega)).mono (fun e w' h => ⟨h.1, h.2.symm⟩)))))
              go_wp2
              go_ret
              exact ⟨ret_bool H.out.symm, below_drewN ((Below.refl _ _).alloc (Nat.le_refl _) _) _⟩
        · have hp2 : decide ((powN kk nn : Int) ≤ 27) = false := by simp; omega
          have H := hid (show isCode kk nn o = false by rw [hic]; simp [hp])
          clear hic hp
          rcases hd with h2 | ⟨h2, h3⟩
          all_goals
            go_enter Tryd.func14, Tryd.ntmps14
            go_wp2_with fail
            go_quiet ((first | (go_at_call 27; exact Calls.quiet_of_same ((impl_power_c _ _ hkk hnn _).mono (fun e w' h => ⟨h.1, h.2.symm⟩))) | (go_at_call 28; exact Calls.quiet_of_same ((areLetters_c _ _ _ ho (by omega)).mono (fun e w' h => ⟨h.1, h.2.symm⟩)))))
            go_wp2
            go_ret
            exact ⟨ret_bool H.out.symm, below_drewN ((Below.refl _ _).alloc (Nat.le_refl _) _) _⟩
      · have hd4 : decide (n ≤ 4) = false := by simp; omega
        have H := hid (show isCode k n o = false by rw [isCode]; simp [hn4])
        clear hn4 hk
        rcases hd with h2 | ⟨h2, h3⟩
        all_goals
          go_enter Tryd.func14, Tryd.ntmps14
          go_wp2_with fail
          go_quiet ((first | (go_at_call 27; exact Calls.quiet_of_same ((impl_power_c _ _ hkk hnn _).mono (fun e w' h => ⟨h.1, h.2.symm⟩))) | (go_at_call 28; exact Calls.quiet_of_same ((areLetters_c _ _ _ ho (by omega)).mono (fun e w' h => ⟨h.1, h.2.symm⟩)))))
          go_wp2
          go_ret
          exact ⟨ret_bool H.out.symm, below_drewN ((Below.refl _ _).alloc (Nat.le_refl _) _) _⟩
    · have hd4 : decide (1 ≤ n) = false := by simp; omega
      have H := hid (show isCode k n o = false by rw [isCode]; simp [hn1])
      clear hn1 hk
      rcases hd with h2 | ⟨h2, h3⟩
      all_goals
        go_enter Tryd.func14, Tryd.ntmps14
        go_wp2_with fail
        go_quiet ((first | (go_at_call 27; exact Calls.quiet_of_same ((impl_power_c _ _ hkk hnn _).mono (fun e w' h => ⟨h.1, h.2.symm⟩))) | (go_at_call 28; exact Calls.quiet_of_same ((areLetters_c _ _ _ ho (by omega)).mono (fun e w' h => ⟨h.1, h.2.symm⟩)))))
        go_wp2
        go_ret
        exact ⟨ret_bool H.out.symm, below_drewN ((Below.refl _ _).alloc (Nat.le_refl _) _) _⟩
  · have h2 : (k == 2) = false := by simp; omega
    have h3 : (k == 3) = false := by simp; omega
    have H := hid (show isCode k n o = false by rw [isCode]; simp [hk])
    clear hk
    go_enter Tryd.func14, Tryd.ntmps14
    go_wp2_with fail
    go_quiet ((first | (go_at_call 27; exact Calls.quiet_of_same ((impl_power_c _ _ hkk hnn _).mono (fun e w' h => ⟨h.1, h.2.symm⟩))) | (go_at_call 28; exact Calls.quiet_of_same ((areLetters_c _ _ _ ho (by omega)).mono (fun e w' h => ⟨h.1, h.2.symm⟩)))))
    go_wp2
    go_ret
    exact ⟨ret_bool H.out.symm, below_drewN ((Below.refl _ _).alloc (Nat.le_refl _) _) _⟩
end Go.Proofs.YtcmmlldincflkaaDoor
