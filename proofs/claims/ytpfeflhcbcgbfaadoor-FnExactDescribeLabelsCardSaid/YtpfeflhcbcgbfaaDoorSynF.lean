/- Labelled graphs: the function that ends the search for the shortest word to one state. Conditions: a small set, its word in memory. -/
import Derived.Test.YtpfeflhcbcgbfaaDoorLabZ
import Derived.Test.YtpfeflhcbcgbfaaDoorSrc
import Derived.Test.YtpfeflhcbcgbfaaDoorLabQ
namespace Go.Proofs.YtpfeflhcbcgbfaaDoor
open Go.RowKit

theorem pow_less12a : ∀ S : Nat, S < 13 → wrap64 (wrap64 (2 ^ S) - 1) = ((2 ^ S - 1 : Nat) : Int) := by decide +kernel
theorem impl_all_c (L : Int) (S : Nat) (v : Value) (w : World) (hS : S ≤ 12) :
    Calls Tryd.prog 52 #[.agg #[.int .i64 L, .int .i64 S, v]] w fun e w' => e = .returned (.int .i64 ((2 ^ S - 1 : Nat) : Int)) ∧ Below w.heap.size w w' := by
  have hp := pow_less12a S (by omega)
  have hq := pow_shift12a S (by omega)
  obtain ⟨P, hP⟩ : ∃ P : Nat, P = 2 ^ S := ⟨_, rfl⟩
  rw [← hP] at hp hq ⊢
  have hP1 : 1 ≤ P := by rw [hP]; exact Nat.two_pow_pos S
  have hP2 : P ≤ 4096 := by rw [hP]; exact two_pow12 hS
  have hPi : (P : Int) - 1 = ((P - 1 : Nat) : Int) := by omega
  clear hP
  go_enter Tryd.func52, Tryd.ntmps52
  go_wp2
  go_ret
  exact ⟨ret_int (by first | rfl | (rw [hp]) | (rw [hq, hPi])), (Below.refl _ _).alloc (Nat.le_refl _) _⟩
set_option maxHeartbeats 4000000 in
set_option maxRecDepth 100000 in
theorem l14Read_c (L S : Nat) (a : Option Addr) (n c : Nat) (G : List (Nat × Nat × Nat)) (set : Nat) (wd : ByteArray) (w : World) (hr : RowAt w a (n * 3) (arcVals (arcN G))) (hG : LabG L S G) (hset : set < 2 ^ S) (hw : LW L wd.data.toList) (hws : wd.size ≤ 1000) (hn : n ≤ 1048576) :
    Calls Tryd.prog 66 #[.agg #[.int .i64 L, .int .i64 S, .slice a n c], .int .i64 set, .string wd] w fun e w' => e = .returned (.int .i64 (rdTo G set wd.data.toList wd.size : Nat)) ∧ Below w.heap.size w w' := by
  have hlen := hid (fun (W : World) (hW : Below w.heap.size w W) => hr.below hW (Nat.le_refl _))
  have HST := hid (fun (W : World) (set x : Nat) (hW : Below w.heap.size w W) (h1 : set < 4096) (h2 : x < 1000) => l14Step_c L S a n c G set x W (hlen.out W hW) hG h1 h2 hn)
  have HBX := hid (fun (V : World) (hV : Below (w.heap.size + 1) (w.alloc (.cells #[.int .i64 L, .int .i64 S, .slice a n c] 29)) V) => lab_box hV)
  obtain ⟨W2, hW2⟩ : ∃ W2, W2 = w.alloc (.cells #[.int .i64 L, .int .i64 S, .slice a n c] 29) := ⟨_, rfl⟩
  have hB : Below w.heap.size w W2 := by rw [hW2]; exact (Below.refl _ _).alloc (Nat.le_refl _) _
  have hsz : W2.heap.size = w.heap.size + 1 := by rw [hW2]; simp
  rw [← hW2, ← hsz] at HBX
  have HB := hid hB
  have hzB : w.heap.size ≤ W2.heap.size := hB.size
  have h4096 := two_pow12 hG.s12
  have HLT := hid (fun k => show rdTo G set wd.data.toList k < 4096 from Nat.lt_of_lt_of_le (rdTo_lt hG hset wd.data.toList k) h4096)
  have HWD := hid hw
  have hL3 := hG.k3
  have HSU := hid (fun k => show rdTo G set wd.data.toList (k + 1) = stp G (rdTo G set wd.data.toList k) ((wd.data.toList.getD k 0).toNat - 97) from rfl)
  obtain ⟨Z, hZ⟩ : ∃ Z : Nat → Nat, Z = rdTo G set wd.data.toList := ⟨_, rfl⟩
  have HZ0 := hid (show Z 0 = set by rw [hZ]; rfl)
  rw [← hZ] at HLT HSU
  rw [← hZ]
  clear hr hB hZ hset hw hG
  go_enter Tryd.func66, Tryd.ntmps66
  go_wp2
  rw [← hW2]
  clear hW2
  go_loopw [1, 7] (fun o i wr => ∃ k : Nat, k ≤ wd.size ∧ i = .int .i64 k ∧ o = .int .i64 (Z k : Nat) ∧ Below W2.heap.size W2 wr) (fun _ i _ => wd.size - (intOf i).toNat)
  case atStart => exact ⟨0, by omega, rfl, by rw [HZ0.out], Below.refl _ _⟩
  case round =>
    obtain ⟨k, hk, rfl, rfl, hbel⟩ := hrel
    obtain ⟨⟨p0, p1, p2⟩, hz, hbw⟩ := HBX.out wr hbel
    by_cases hlt : k < wd.size
    · obtain ⟨y, hy, hoy⟩ : ∃ y, y < L ∧ wd[k].toNat = 97 + y := by
        obtain ⟨y, hy, e⟩ := HWD.out _ (List.mem_of_getElem? (byte_at wd k hlt))
        have := letB_nat (show y < 100 by omega)
        exact ⟨y, hy, by rw [e]; omega⟩
      have hki : (k : Int) < (wd.size : Int) := by omega
      have hk0 : (0 : Int) ≤ (k : Int) := by omega
      have HS := hid (HST.out wr.drew (Z k) y hbw.drew (HLT.out k) (by omega))
      have HE := hid (show stp G (Z k) y = Z (k + 1) by
        rw [HSU.out, List.getD_eq_getElem?_getD, byte_at wd k hlt]
        show _ = stp G (Z k) (wd[k].toNat - 97)
        rw [hoy, Nat.add_sub_cancel_left])
      rw [HE.out] at HS
      have hsub : ((wd[k].toNat : Int) - 97) % 256 = (y : Int) := by rw [hoy]; omega
      have hsub2 : ((wd[k].toNat : Int) - 97) = (y : Int) := by rw [hoy]; omega
      have hy100 : y < 100 := by omega
      have hwy : IntKind.i64.wrap (y : Int) = (y : Int) := IntWalk.i64_in _ (by omega)
      have hwu2 : IntKind.u8.wrap (y : Int) = (y : Int) := by show (y : Int) % 256 = y; omega
      have hwc : IntKind.i64.wrap (wd[k].toNat : Int) = (wd[k].toNat : Int) := IntWalk.i64_in _ (by omega)
      have hwu : IntKind.u8.wrap ((wd[k].toNat : Int) - 97) = (y : Int) := by rw [hsub2]; exact (by show (y : Int) % 256 = y; omega)
      obtain ⟨z, hzz⟩ : ∃ z, z = Z k := ⟨_, rfl⟩
      rw [← hzz] at HS
      rw [← hzz]
      have hbZ : Below W2.heap.size W2 wr.drew := hbel.drew
      have HK := hid (fun (V : World) (hV : Below W2.heap.size W2 V) => show V.cell? ⟨w.heap.size, 0, none⟩ = some (.int .i64 L) ∧ V.cell? ⟨w.heap.size, 1, none⟩ = some (.int .i64 S) ∧ V.cell? ⟨w.heap.size, 2, none⟩ = some (.slice a n c) ∧ Below W2.heap.size W2 V from by
        obtain ⟨⟨q0, q1, q2⟩, _⟩ := HBX.out V hV
        exact ⟨q0, q1, q2, hV⟩)
      clear hoy hzz HSU HE
      go_wp2
      go_region_held3 (fun V => V.cell? ⟨w.heap.size, 0, none⟩ = some (.int .i64 L) ∧ V.cell? ⟨w.heap.size, 1, none⟩ = some (.int .i64 S) ∧ V.cell? ⟨w.heap.size, 2, none⟩ = some (.slice a n c) ∧ Below W2.heap.size W2 V)
        (first | with_reducible exact HK.out _ hbZ)
        (first | (go_at_call 36; refine HS.out.mono ?_; rintro e w3 ⟨rfl, hb3⟩; have hbZ := hbZ.trans (hb3.mono hbZ.size)))
      all_goals
        go_wp2
        go_roundw
        case rel => exact ⟨k + 1, by omega, by go_num, rfl, hbZ⟩
        case measure => simp [intOf] <;> omega
    · obtain rfl : k = wd.size := by omega
      go_wp2
      go_ret
      exact ⟨rfl, hbw⟩
set_option maxHeartbeats 4000000 in
set_option maxRecDepth 100000 in
theorem impl_read_c (L S : Nat) (a : Option Addr) (n c : Nat) (G : List (Nat × Nat × Nat)) (set : Nat) (wd : ByteArray) (w : World) (hr : RowAt w a (n * 3) (arcVals (arcN G))) (hG : LabG L S G) (hset : set < 2 ^ S) (hw : LW L wd.data.toList) (hws : wd.size ≤ 1000) (hn : n ≤ 1048576) :
    Calls Tryd.prog 59 #[.agg #[.int .i64 L, .int .i64 S, .slice a n c], .int .i64 set, .string wd] w fun e w' => e = .returned (.int .i64 (rdTo G set wd.data.toList wd.size : Nat)) ∧ Below w.heap.size w w' := by
  have hlen := hid (fun (W : World) (hW : Below w.heap.size w W) => hr.below hW (Nat.le_refl _))
  have HST := hid (fun (W : World) (set x : Nat) (hW : Below w.heap.size w W) (h1 : set < 4096) (h2 : x < 1000) => impl_step_c L S a n c G set x W (hlen.out W hW) hG h1 h2 hn)
  have HBX := hid (fun (V : World) (hV : Below (w.heap.size + 1) (w.alloc (.cells #[.int .i64 L, .int .i64 S, .slice a n c] 29)) V) => lab_box hV)
  obtain ⟨W2, hW2⟩ : ∃ W2, W2 = w.alloc (.cells #[.int .i64 L, .int .i64 S, .slice a n c] 29) := ⟨_, rfl⟩
  have hB : Below w.heap.size w W2 := by rw [hW2]; exact (Below.refl _ _).alloc (Nat.le_refl _) _
  have hsz : W2.heap.size = w.heap.size + 1 := by rw [hW2]; simp
  rw [← hW2, ← hsz] at HBX
  have HB := hid hB
  have hzB : w.heap.size ≤ W2.heap.size := hB.size
  have h4096 := two_pow12 hG.s12
  have HLT := hid (fun k => show rdTo G set wd.data.toList k < 4096 from Nat.lt_of_lt_of_le (rdTo_lt hG hset wd.data.toList k) h4096)
  have HWD := hid hw
  have hL3 := hG.k3
  have HSU := hid (fun k => show rdTo G set wd.data.toList (k + 1) = stp G (rdTo G set wd.data.toList k) ((wd.data.toList.getD k 0).toNat - 97) from rfl)
  obtain ⟨Z, hZ⟩ : ∃ Z : Nat → Nat, Z = rdTo G set wd.data.toList := ⟨_, rfl⟩
  have HZ0 := hid (show Z 0 = set by rw [hZ]; rfl)
  rw [← hZ] at HLT HSU
  rw [← hZ]
  clear hr hB hZ hset hw hG
  go_enter Tryd.func59, Tryd.ntmps59
  go_wp2
  rw [← hW2]
  clear hW2
  go_loopw [1, 10] (fun o i wr => ∃ k : Nat, k ≤ wd.size ∧ i = .int .i64 k ∧ o = .int .i64 (Z k : Nat) ∧ Below W2.heap.size W2 wr) (fun _ i _ => wd.size - (intOf i).toNat)
  case atStart => exact ⟨0, by omega, rfl, by rw [HZ0.out], Below.refl _ _⟩
  case round =>
    obtain ⟨k, hk, rfl, rfl, hbel⟩ := hrel
    obtain ⟨⟨p0, p1, p2⟩, hz, hbw⟩ := HBX.out wr hbel
    by_cases hlt : k < wd.size
    · obtain ⟨y, hy, hoy⟩ : ∃ y, y < L ∧ wd[k].toNat = 97 + y := by
        obtain ⟨y, hy, e⟩ := HWD.out _ (List.mem_of_getElem? (byte_at wd k hlt))
        have := letB_nat (show y < 100 by omega)
        exact ⟨y, hy, by rw [e]; omega⟩
      have hki : (k : Int) < (wd.size : Int) := by omega
      have hk0 : (0 : Int) ≤ (k : Int) := by omega
      have HS := hid (HST.out wr.drew (Z k) y hbw.drew (HLT.out k) (by omega))
      have HE := hid (show stp G (Z k) y = Z (k + 1) by
        rw [HSU.out, List.getD_eq_getElem?_getD, byte_at wd k hlt]
        show _ = stp G (Z k) (wd[k].toNat - 97)
        rw [hoy, Nat.add_sub_cancel_left])
      rw [HE.out] at HS
      have hsub : ((wd[k].toNat : Int) - 97) % 256 = (y : Int) := by rw [hoy]; omega
      have hsub2 : ((wd[k].toNat : Int) - 97) = (y : Int) := by rw [hoy]; omega
      have hy100 : y < 100 := by omega
      have hwy : IntKind.i64.wrap (y : Int) = (y : Int) := IntWalk.i64_in _ (by omega)
      have hwu2 : IntKind.u8.wrap (y : Int) = (y : Int) := by show (y : Int) % 256 = y; omega
      have hwc : IntKind.i64.wrap (wd[k].toNat : Int) = (wd[k].toNat : Int) := IntWalk.i64_in _ (by omega)
      have hwu : IntKind.u8.wrap ((wd[k].toNat : Int) - 97) = (y : Int) := by rw [hsub2]; exact (by show (y : Int) % 256 = y; omega)
      obtain ⟨z, hzz⟩ : ∃ z, z = Z k := ⟨_, rfl⟩
      rw [← hzz] at HS
      rw [← hzz]
      have hbZ : Below W2.heap.size W2 wr.drew := hbel.drew
      have HK := hid (fun (V : World) (hV : Below W2.heap.size W2 V) => show V.cell? ⟨w.heap.size, 0, none⟩ = some (.int .i64 L) ∧ V.cell? ⟨w.heap.size, 1, none⟩ = some (.int .i64 S) ∧ V.cell? ⟨w.heap.size, 2, none⟩ = some (.slice a n c) ∧ Below W2.heap.size W2 V from by
        obtain ⟨⟨q0, q1, q2⟩, _⟩ := HBX.out V hV
        exact ⟨q0, q1, q2, hV⟩)
      clear hoy hzz HSU HE
      go_wp2
      go_region_held3 (fun V => V.cell? ⟨w.heap.size, 0, none⟩ = some (.int .i64 L) ∧ V.cell? ⟨w.heap.size, 1, none⟩ = some (.int .i64 S) ∧ V.cell? ⟨w.heap.size, 2, none⟩ = some (.slice a n c) ∧ Below W2.heap.size W2 V)
        (first | with_reducible exact HK.out _ hbZ)
        (first | (go_at_call 53; refine HS.out.mono ?_; rintro e w3 ⟨rfl, hb3⟩; have hbZ := hbZ.trans (hb3.mono hbZ.size)))
      all_goals
        go_wp2
        go_roundw
        case rel => exact ⟨k + 1, by omega, by go_num, rfl, hbZ⟩
        case measure => simp [intOf] <;> omega
    · obtain rfl : k = wd.size := by omega
      go_wp2
      go_ret
      exact ⟨rfl, hbw⟩
end Go.Proofs.YtpfeflhcbcgbfaaDoor
namespace Go.Proofs.YtpfeflhcbcgbfaaDoor
open Go.RowKit

def onlyTo (s k : Nat) : Bool := (List.range k).any fun p => decide (s = 2 ^ p)
theorem onlyTo_succ (s k : Nat) : onlyTo s (k + 1) = (onlyTo s k || decide (s = 2 ^ k)) := by simp [onlyTo, List.range_succ]
theorem onlyB_hit {s k : Nat} (hk : k < 12) (h : s = 2 ^ k) : onlyB s = true := by
  unfold onlyB
  rw [List.any_eq_true]
  exact ⟨k, List.mem_range.2 hk, decide_eq_true h⟩
set_option maxHeartbeats 1000000 in
set_option maxRecDepth 100000 in
theorem l16Only_c (s : Nat) (w : World) (hs : s < 1000000) :
    Calls Tryd.prog 35 #[.int .i64 s] w fun e w' => (∃ r : Int, e = .returned (.int .i64 r) ∧ onlyB s = decide (0 ≤ r)) ∧ w' = w := by
  have HH := hid (fun (k : Nat) (hk : k < 12) (h : s = 2 ^ k) => onlyB_hit hk h)
  have HS := hid (onlyTo_succ s)
  have HE := hid (show onlyB s = onlyTo s 12 from rfl)
  obtain ⟨Z, hZ⟩ : ∃ Z, Z = onlyTo s := ⟨_, rfl⟩
  rw [← hZ] at HS HE
  have HZ0 := hid (show Z 0 = false by rw [hZ]; rfl)
  obtain ⟨R, hR⟩ : ∃ R, R = onlyB s := ⟨_, rfl⟩
  rw [← hR] at HE
  have HH2 := hid (fun (k : Nat) (hk : k < 12) (h : s = 2 ^ k) => show R = true from by rw [hR]; exact HH.out k hk h)
  rw [← hR]
  clear hZ hR HH
  go_enter Tryd.func35, Tryd.ntmps35
  go_wp2
  go_loop [3] (fun i => ∃ k : Nat, k ≤ 12 ∧ i = .int .i64 k ∧ Hid (Z k = false)) (fun i => 12 - (intOf i).toNat)
  case atStart => exact ⟨0, by omega, rfl, HZ0⟩
  case round =>
    obtain ⟨k, hk, rfl, HZK⟩ := hrel
    by_cases hlt : k < 12
    · have hki : (k : Int) < 12 := by omega
      have hp := pow_shift12a k (by omega)
      have hwk : IntKind.u64.wrap (k : Int) = (k : Int) := IntWalk.u64_in _ (by omega)
      have hm : min k 64 = k := by omega
      have HK := hid (HS.out k)
      have HR := hid (HH2.out k hlt)
      obtain ⟨P, hP⟩ : ∃ P : Nat, P = 2 ^ k := ⟨_, rfl⟩
      rw [← hP] at hp HK HR
      have HP := hid hP
      clear hP
      by_cases e : s = P
      · have ge : ((s : Int) == (P : Int)) = true := by simp [e]
        have HR := hid (HR.out e)
        clear e
        go_wp2
        go_ret
        exact ⟨⟨_, rfl, by rw [HR.out]; exact (decide_eq_true (by omega)).symm⟩, rfl⟩
      · have ge : ((s : Int) == (P : Int)) = false := by simp; omega
        have HN := hid (show Z (k + 1) = false by rw [HK.out, HZK.out, decide_eq_false e]; rfl)
        clear e
        go_wp2
        go_round
        case rel => exact ⟨k + 1, by omega, by go_num, HN⟩
        case measure => simp [intOf]; omega
    · obtain rfl : k = 12 := by omega
      go_wp2
      go_ret
      exact ⟨⟨_, rfl, by rw [HE.out, HZK.out]; rfl⟩, rfl⟩
end Go.Proofs.YtpfeflhcbcgbfaaDoor
namespace Go.Proofs.YtpfeflhcbcgbfaaDoor
open Go.RowKit

def popN (s : Nat) : Nat := ((List.range 12).filter fun p => decide (s / 2 ^ p % 2 = 1)).length
theorem popN_onlya : ∀ n : Nat, n < 64 → ∀ m : Nat, m < 64 → (popN (64 * n + m) == 1) = onlyB (64 * n + m) := by decide +kernel
theorem popN_only {s : Nat} (hs : s < 4096) : (popN s == 1) = onlyB s := by
  have := popN_onlya (s / 64) (by omega) (s % 64) (by omega)
  rwa [Nat.div_add_mod] at this
set_option maxHeartbeats 1000000 in
set_option maxRecDepth 100000 in
theorem ones_nm (n m : Nat) (w : World) (hn : n < 64) (hm : m < 64) :
    Calls Tryd.prog 50 #[.int .u64 ((64 * n + m : Nat) : Int)] w fun e w' => e = .returned (.int .i64 (popN (64 * n + m) : Nat)) ∧ w' = w := by
  have hwu : IntKind.u64.wrap (64 * (n : Int) + (m : Int)) = 64 * (n : Int) + (m : Int) := IntWalk.u64_in _ (by omega)
  go_enter Tryd.func50, Tryd.ntmps50
  go_wp2
  go_ret
  refine ⟨ret_int ?_, rfl⟩
  clear hwu
  revert hm
  revert m
  revert hn
  revert n
  decide +kernel
theorem ones_c (s : Nat) (w : World) (hs : s < 4096) :
    Calls Tryd.prog 50 #[.int .u64 (s : Int)] w fun e w' => e = .returned (.int .i64 (popN s : Nat)) ∧ w' = w := by
  have := ones_nm (s / 64) (s % 64) w (by omega) (by omega)
  rwa [Nat.div_add_mod] at this
end Go.Proofs.YtpfeflhcbcgbfaaDoor
namespace Go.Proofs.YtpfeflhcbcgbfaaDoor
open Go.RowKit

theorem pop_int {s : Nat} (hs : s < 4096) {b : Bool} (h : onlyB s = b) : (((popN s : Nat) : Int) == 1) = b := by
  rw [← h, ← popN_only hs, Bool.eq_iff_iff]
  simp
  omega
set_option maxHeartbeats 1000000 in
theorem syn_see_no (s : Nat) (v : Value) (bw bf : Nat) (V : World) (hs : s < 4096) (h : onlyB s = false) (hf : V.cell? ⟨bf, 0, none⟩ = some (.bool false)) :
    Calls Tryd.prog 49 #[.int .i64 s, v, .pointer (some ⟨bw, 0, none⟩), .pointer (some ⟨bf, 0, none⟩)] V fun e w' => e = .returned (.bool false) ∧ Below V.heap.size V w' := by
  have hwu : IntKind.u64.wrap (s : Int) = (s : Int) := IntWalk.u64_in _ (by omega)
  have HO := hid (fun W => ones_c s W hs)
  have hp := pop_int hs h
  obtain ⟨q, hq⟩ : ∃ q, q = popN s := ⟨_, rfl⟩
  rw [← hq] at HO hp
  clear hq h
  go_enter Tryd.func49, Tryd.ntmps49
  go_wp2_with fail
  refine (HO.out _).mono ?_
  rintro e w1 ⟨rfl, rfl⟩
  go_wp2
  go_ret
  exact ⟨rfl, Below.refl _ _⟩
set_option maxHeartbeats 1000000 in
theorem syn_see_yes (s : Nat) (a : Option Addr) (n c : Nat) (u : List UInt8) (bw bf : Nat) (x y : Value) (V : World) (hs : s < 4096) (h : onlyB s = true) (hr : RowAt V a n (byteVals u)) (hw : V.cell? ⟨bw, 0, none⟩ = some x) (hwf : V.frozen? ⟨bw, 0, none⟩ = false) (hf : V.cell? ⟨bf, 0, none⟩ = some y) (hff : V.frozen? ⟨bf, 0, none⟩ = false) (hne : ¬ (bw = bf)) :
    Calls Tryd.prog 49 #[.int .i64 s, .slice a n c, .pointer (some ⟨bw, 0, none⟩), .pointer (some ⟨bf, 0, none⟩)] V fun e w' => e = .returned (.bool true) ∧ w' = (V.setCell ⟨bw, 0, none⟩ (.string ⟨u.toArray⟩)).setCell ⟨bf, 0, none⟩ (.bool true) := by
  have hwu : IntKind.u64.wrap (s : Int) = (s : Int) := IntWalk.u64_in _ (by omega)
  have HO := hid (fun W => ones_c s W hs)
  have hp := pop_int hs h
  have hne2 : ¬ (bf = bw) := fun e => hne e.symm
  obtain ⟨q, hq⟩ : ∃ q, q = popN s := ⟨_, rfl⟩
  rw [← hq] at HO hp
  clear hq h
  go_enter Tryd.func49, Tryd.ntmps49
  go_wp2_with fail
  refine (HO.out _).mono ?_
  rintro e w1 ⟨rfl, rfl⟩
  go_wp2_with (with_reducible refine wpList_convs rfl _ 56 9 5 rfl Tryd.underlying56 Tryd.underlying5 Tryd.underlying9 _ n _ u rfl hr ?_)
  go_ret
  exact ⟨rfl, rfl⟩
end Go.Proofs.YtpfeflhcbcgbfaaDoor
