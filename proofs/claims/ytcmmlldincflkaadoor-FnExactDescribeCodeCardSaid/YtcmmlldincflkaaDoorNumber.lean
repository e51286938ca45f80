/- The number of a code: both functions. Conditions: sizes within the reach. -/
import Derived.Test.YtcmmlldincflkaaDoorBase
import Derived.Test.YtcmmlldincflkaaDoorCode
namespace Go.Proofs.YtcmmlldincflkaaDoor
open Go.RowKit

end Go.Proofs.YtcmmlldincflkaaDoor
namespace Go.Proofs.YtcmmlldincflkaaDoor
open Go.RowKit

set_option maxHeartbeats 2000000 in
theorem spec_IsCode_c (k n : Int) (o : ByteArray) (w : World) (ho : o.size ≤ maxLen) :
    Calls Tryd.prog 8 #[.agg #[.int .i64 k, .int .i64 n, .string o]] w fun e w' => e = .returned (.bool (isCode k n o)) ∧ Below w.heap.size w w' := by
  by_cases hk : k = 2 ∨ k = 3
  · have hik := inB_t (x := k) (lo := 2) (hi := 3) (by omega)
    by_cases hn : 1 ≤ n ∧ n ≤ 4
    · have hin := inB_t (x := n) (lo := 1) (hi := 4) hn
      obtain ⟨kk, rfl⟩ : ∃ kk : Nat, k = kk := ⟨k.toNat, by omega⟩
      obtain ⟨nn, rfl⟩ : ∃ nn : Nat, n = nn := ⟨n.toNat, by omega⟩
      have hkk : kk ≤ 3 := by omega
      have hnn : nn ≤ 4 := by omega
      have hkk0 : 2 ≤ kk := by omega
      have hic : isCode kk nn o = (decide (powN kk nn ≤ 27 ∧ o.size = powN kk nn) && lets kk o.data.toList) := by
        rw [isCode, Int.toNat_natCast, Int.toNat_natCast]
        congr 1
        simp only [decide_eq_decide]
        exact ⟨fun h => h.2.2, fun h => ⟨hk, hn, h⟩⟩
      clear hk hn
      by_cases hp : powN kk nn ≤ 27
      · have hp2 : decide ((27 : Int) < (powN kk nn : Int)) = false := by simp; omega
        by_cases hsz : o.size = powN kk nn
        · have he : ((o.size : Int) != (powN kk nn : Int)) = false := by simp; omega
          have H := hid (show isCode kk nn o = lets kk o.data.toList by rw [hic]; simp [hp, hsz])
          have hos : o.size ≤ 27 := by omega
          clear hic hsz hp
          go_enter Tryd.func8, Tryd.ntmps8
          go_wp2_with fail
          go_quiet ((first | (go_at_call 21; exact Calls.quiet_of_same ((l1In_c _ _ _ _).mono (fun e w' h => ⟨h.1, h.2.symm⟩))) | (go_at_call 22; exact Calls.quiet_of_same ((spec_l11Power_c _ _ hkk hnn _).mono (fun e w' h => ⟨h.1, h.2.symm⟩)))))
          go_wp2_with fail
          go_loopw [3] (fun i wr => ∃ j : Nat, j ≤ o.size ∧ i = .int .i64 j ∧ Below (w.heap.size + 1) (w.alloc (.cells #[.int .i64 kk, .int .i64 nn, .string o] 26)) wr ∧ Hid (lets kk (o.data.toList.take j) = true)) (fun i _ => o.size - (intOf i).toNat)
          case atStart => exact ⟨0, by omega, rfl, below_drewN (Below.refl _ _) _, rfl⟩
          case round =>
            obtain ⟨j, hj, rfl, hbel, HL⟩ := hrel
            have hbox := box_kept hbel
            have hc0 : wr.cell? ⟨w.heap.size, 0, none⟩ = some (.int .i64 kk) := (hbox 0).1
            have hc2 : wr.cell? ⟨w.heap.size, 2, none⟩ = some (.string o) := (hbox 2).1
            clear hbox
            by_cases hlt : j < o.size
            · have hb : o[j].toNat < 256 := o[j].toNat_lt
              have hji : (j : Int) < (o.size : Int) := by omega
              go_wp2_with fail
              go_quiet ((go_at_call 21; exact Calls.quiet_of_same ((l1In_c _ _ _ _).mono (fun e w' h => ⟨h.1, h.2.symm⟩))))
              go_wp2
              · go_ret
                have hc : inB ((o[j].toNat : Int) - 97) 0 ((kk : Int) - 1) = false := by simp_all
                exact ⟨ret_bool (by rw [H.out, show lets kk o.data.toList = false from all_stop (byte_at o j hlt) hc]), below_drewN (((Below.refl _ _).alloc (Nat.le_refl _) _).trans (hbel.mono (by omega))) _⟩
              · have hc : inB ((o[j].toNat : Int) - 97) 0 ((kk : Int) - 1) = true := by simp_all
                go_roundw
                case rel => exact ⟨j + 1, by omega, by go_num, below_drewN hbel _, all_step (byte_at o j hlt) HL.out hc⟩
                case measure => simp [intOf]; omega
            · go_wp2
              go_ret
              exact ⟨ret_bool (by rw [H.out, show lets kk o.data.toList = true from all_end HL.out (by rw [size_list]; omega)]), ((Below.refl _ _).alloc (Nat.le_refl _) _).trans (hbel.mono (by omega))⟩
        · have he : ((o.size : Int) != (powN kk nn : Int)) = true := by simp; omega
          have H := hid (show isCode kk nn o = false by rw [hic]; simp [hsz])
          clear hic hsz hp
          go_enter Tryd.func8, Tryd.ntmps8
          go_wp2_with fail
          go_quiet ((first | (go_at_call 21; exact Calls.quiet_of_same ((l1In_c _ _ _ _).mono (fun e w' h => ⟨h.1, h.2.symm⟩))) | (go_at_call 22; exact Calls.quiet_of_same ((spec_l11Power_c _ _ hkk hnn _).mono (fun e w' h => ⟨h.1, h.2.symm⟩)))))
          go_wp2
          go_ret
          exact ⟨ret_bool H.out.symm, below_drewN ((Below.refl _ _).alloc (Nat.le_refl _) _) _⟩
      · have hp2 : decide ((27 : Int) < (powN kk nn : Int)) = true := by simp; omega
        have H := hid (show isCode kk nn o = false by rw [hic]; simp [hp])
        clear hic hp
        go_enter Tryd.func8, Tryd.ntmps8
        go_wp2_with fail
        go_quiet ((first | (go_at_call 21; exact Calls.quiet_of_same ((l1In_c _ _ _ _).mono (fun e w' h => ⟨h.1, h.2.symm⟩))) | (go_at_call 22; exact Calls.quiet_of_same ((spec_l11Power_c _ _ hkk hnn _).mono (fun e w' h => ⟨h.1, h.2.symm⟩)))))
        go_wp2
        go_ret
        exact ⟨ret_bool H.out.symm, below_drewN ((Below.refl _ _).alloc (Nat.le_refl _) _) _⟩
    · have hin := inB_f (x := n) (lo := 1) (hi := 4) (by omega)
      have H := hid (show isCode k n o = false by rw [isCode]; simp; intro _ h1 h2; omega)
      clear hn hk
      go_enter Tryd.func8, Tryd.ntmps8
      go_wp2_with fail
      go_quiet ((first | (go_at_call 21; exact Calls.quiet_of_same ((l1In_c _ _ _ _).mono (fun e w' h => ⟨h.1, h.2.symm⟩))) | (go_at_call 22; exact Calls.quiet_of_same ((spec_l11Power_c _ _ hkk hnn _).mono (fun e w' h => ⟨h.1, h.2.symm⟩)))))
      go_wp2
      go_ret
      exact ⟨ret_bool H.out.symm, below_drewN ((Below.refl _ _).alloc (Nat.le_refl _) _) _⟩
  · have hik := inB_f (x := k) (lo := 2) (hi := 3) (by omega)
    have H := hid (show isCode k n o = false by rw [isCode]; simp; intro h1; omega)
    clear hk
    go_enter Tryd.func8, Tryd.ntmps8
    go_wp2_with fail
    go_quiet ((first | (go_at_call 21; exact Calls.quiet_of_same ((l1In_c _ _ _ _).mono (fun e w' h => ⟨h.1, h.2.symm⟩))) | (go_at_call 22; exact Calls.quiet_of_same ((spec_l11Power_c _ _ hkk hnn _).mono (fun e w' h => ⟨h.1, h.2.symm⟩)))))
    go_wp2
    go_ret
    exact ⟨ret_bool H.out.symm, below_drewN ((Below.refl _ _).alloc (Nat.le_refl _) _) _⟩

/-- The number of a code, of its first i letters. -/
def numOf (o : List UInt8) (i : Nat) : Nat := ((List.range i).map fun j => if o.getD j 0 = 98 then 2 ^ j else 0).sum
theorem numOf_succ (o : List UInt8) (i : Nat) : numOf o (i + 1) = numOf o i + (if o.getD i 0 = 98 then 2 ^ i else 0) := by simp [numOf, List.range_succ]
theorem numOf_lt (o : List UInt8) (i : Nat) : numOf o i < 2 ^ i := by
  induction i with
  | zero => simp [numOf]
  | succ i ih => rw [numOf_succ, Nat.pow_succ]; split <;> omega

theorem or_bit : ∀ j : Nat, j < 8 → ∀ m : Nat, m < 128 → m < 2 ^ j →
    bits BinOp.or IntKind.i64 (m : Int) (wrap64 (((98 : Int) - 97) % 256 * 2 ^ j)) = ((m + 2 ^ j : Nat) : Int) ∧ bits BinOp.or IntKind.i64 (m : Int) (wrap64 (((97 : Int) - 97) % 256 * 2 ^ j)) = (m : Int) := by decide +kernel
theorem lets2 {o : ByteArray} (hl : lets 2 o.data.toList = true) {j : Nat} (h : j < o.size) : o[j].toNat = 97 ∨ o[j].toNat = 98 := by
  have := List.all_eq_true.1 hl _ (List.mem_of_getElem? (byte_at o j h))
  rw [inB_iff] at this
  omega
theorem num_step {o : ByteArray} (hl : lets 2 o.data.toList = true) {j m : Nat} (h : j < o.size) (h8 : j < 8) (hm : m = numOf o.data.toList j) :
    bits BinOp.or IntKind.i64 (m : Int) (wrap64 (((o[j].toNat : Int) - 97) % 256 * 2 ^ j)) = ((numOf o.data.toList (j + 1) : Nat) : Int) := by
  have h2 := numOf_lt o.data.toList j
  rw [← hm] at h2
  have h3 : (2 : Nat) ^ j ≤ 2 ^ 7 := Nat.pow_le_pow_right (by omega) (by omega)
  have hb := or_bit j h8 m (by omega) h2
  have hg : o.data.toList.getD j 0 = o[j] := by rw [List.getD_eq_getElem?_getD, byte_at o j h]; rfl
  rw [numOf_succ, ← hm, hg]
  rcases lets2 hl h with h4 | h4
  · have h5 : ¬ o[j] = 98 := fun h => by rw [h] at h4; simp at h4
    rw [h4, if_neg h5]; exact hb.2
  · have h5 : o[j] = 98 := UInt8.toNat_inj.1 h4
    rw [h4, if_pos h5]; exact hb.1
/-- The number of a code of two letters and the width 3; -1 of another one. -/
def numB (k n : Int) (o : ByteArray) : Int := if isCode k n o = true ∧ k = 2 ∧ n = 3 then (numOf o.data.toList 8 : Int) else -1
theorem numB_no {k n : Int} {o : ByteArray} (h : ¬ (isCode k n o = true ∧ k = 2 ∧ n = 3)) : numB k n o = -1 := if_neg h
theorem numB_yes {o : ByteArray} (h : isCode 2 3 o = true) : numB 2 3 o = (numOf o.data.toList 8 : Int) := if_pos ⟨h, rfl, rfl⟩
theorem code8 {o : ByteArray} (h : isCode 2 3 o = true) : o.size = 8 ∧ lets 2 o.data.toList = true := by
  simp only [isCode, Bool.and_eq_true, decide_eq_true_eq] at h
  exact ⟨h.1.2.2.2, h.2⟩
end Go.Proofs.YtcmmlldincflkaaDoor
