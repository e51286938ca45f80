/- The set of ends reached with a letter: the reference's function. Conditions: a code; a set of its ends. -/
import Derived.Test.YtcmmlldincflkaaDoorSrch
import Derived.Test.YtcmmlldincflkaaDoorSrc
import Derived.IntWalk
namespace Go.Proofs.YtcmmlldincflkaaDoor
open Go.RowKit

theorem bit_and9 : ∀ i : Nat, i < 9 → ∀ n : Nat, n < 512 → bits BinOp.and IntKind.i64 ((n : Int) / 2 ^ i) 1 = ((n / 2 ^ i % 2 : Nat) : Int) := by decide +kernel
theorem bit_or9 : ∀ i : Nat, i < 9 → ∀ n : Nat, n < 512 → bits BinOp.or IntKind.i64 (n : Int) (wrap64 (2 ^ i)) = ((n ||| 2 ^ i : Nat) : Int) := by decide +kernel
theorem letB_backS {c : UInt8} {a : Nat} (h : c.toNat = 97 + a) : c = letB a := by
  apply UInt8.toNat_inj.1
  have := UInt8.toNat_lt c
  unfold letB
  rw [UInt8.toNat_ofNat']
  omega
theorem bit_two (s v : Nat) : s / 2 ^ v % 2 = 0 ∨ s / 2 ^ v % 2 = 1 := by omega
theorem stX_off {o : ByteArray} {L n a s v acc : Nat} (h : s / 2 ^ v % 2 = 0) : ∀ x, stX o L n a s v x acc = acc
  | 0 => rfl
  | x + 1 => by
    unfold stX
    rw [if_neg (by unfold bitOn; rw [h]; simp), stX_off h x]
theorem stX_succ {o : ByteArray} {L n a s v acc x : Nat} (h : s / 2 ^ v % 2 = 1) : stX o L n a s v (x + 1) acc = if giveB o (v * L + x) = letB a then stX o L n a s v x acc ||| 2 ^ ((v * L + x) % n) else stX o L n a s v x acc := by
  have e : bitOn s v = true := by unfold bitOn; rw [h]; rfl
  rw [stX, e, Bool.true_and]
  by_cases hg : giveB o (v * L + x) = letB a
  · rw [if_pos hg, if_pos (decide_eq_true hg)]
  · rw [if_neg hg, if_neg (by rw [decide_eq_false hg]; simp)]
theorem idx_bnd {k v x P S : Nat} (hP : P = S * k) (hv : v < S) (hx : x < k) : v * k + x < P := by
  have := Nat.mul_le_mul_right k (show v + 1 ≤ S by omega)
  rw [Nat.succ_mul] at this
  omega
set_option maxHeartbeats 2000000 in
set_option maxRecDepth 100000 in
theorem spec_l12Step_c (k n : Nat) (o : ByteArray) (s a : Nat) (w : World) (hk : k = 2 ∨ k = 3) (hn1 : 1 ≤ n) (hn4 : n ≤ 4) (S : Nat) (hS : S = powN k (n - 1)) (hS9 : S ≤ 9) (hS1 : 1 ≤ S) (hos : o.size = S * k) (hs : s < 512) (ha : a < 3) :
    Calls Tryd.prog 34 #[.agg #[.int .i64 k, .int .i64 n, .string o], .int .i64 s, .int .u8 (97 + a)] w fun e w' => e = .returned (.int .i64 (stepS o k S s a)) ∧ Below w.heap.size w w' := by
  have hk3 : k ≤ 3 := by omega
  have HPW := hid (fun w => spec_l11Power_c k (n - 1) hk3 (by omega) w)
  rw [← hS] at HPW
  have hn1' : ((n : Int) - 1) = ((n - 1 : Nat) : Int) := by omega
  obtain ⟨n1, hn1e⟩ : ∃ m, m = n - 1 := ⟨_, rfl⟩
  rw [← hn1e] at HPW hn1'
  have hn13 : n1 ≤ 3 := by omega
  have HST := hid (show stepS o k S s a = stV o k S a s S from rfl)
  have HOS := hid hos
  have HSL := hid (fun (v x : Nat) => show stX o k S a s v x (stV o k S a s v) < 2 ^ S from stX_lt (by omega) (stV_lt (by omega) v) x)
  have HP9 := hid (Nat.le_trans (Nat.pow_le_pow_right (n := 2) (by omega) hS9) (show (2 : Nat) ^ 9 ≤ 512 by decide))
  have hk0 : 0 < k := by omega
  have hos27 : o.size ≤ 27 := by
    have : S * k ≤ 9 * 3 := Nat.mul_le_mul hS9 hk3
    omega
  clear hS hn1e hos hn1 hn4 hk
  go_enter Tryd.func34, Tryd.ntmps34
  go_wp2_with fail
  refine (HPW.out _).mono ?_
  rintro e w1 ⟨rfl, rfl⟩
  go_wp2
  go_loop [8, 9] (fun q i => ∃ v : Nat, v ≤ S ∧ i = .int .i64 v ∧ q = .int .i64 (stV o k S a s v)) (fun _ i => S - (intOf i).toNat)
  case atStart => exact ⟨0, by omega, rfl, rfl⟩
  case round =>
    obtain ⟨v, hv, rfl, rfl⟩ := hrel
    by_cases hlt : v < S
    · have hvi : (v : Int) < (S : Int) := by omega
      have hb9 := bit_and9 v (by omega) s hs
      go_wp2
      go_loop [8, 10] (fun q i => ∃ x : Nat, x ≤ k ∧ i = .int .i64 x ∧ q = .int .i64 (stX o k S a s v x (stV o k S a s v))) (fun _ i => k - (intOf i).toNat)
      case atStart => exact ⟨0, by omega, rfl, rfl⟩
      case round =>
        obtain ⟨x, hx, rfl, rfl⟩ := hrel
        by_cases hltx : x < k
        · have hxi : (x : Int) < (k : Int) := by omega
          rcases bit_two s v with h0 | h1
          · rw [h0] at hb9
            have HEND := hid (show stX o k S a s v x (stV o k S a s v) = stV o k S a s (v + 1) by rw [stX_off h0, stV, stX_off h0])
            clear h0
            go_wp2
            go_round
            case rel => exact ⟨v + 1, by omega, by go_num, by rw [HEND.out]⟩
            case measure => simp [intOf]; omega
          · rw [h1] at hb9
            have HSU := hid (stX_succ (o := o) (L := k) (n := S) (a := a) (acc := stV o k S a s v) (x := x) h1)
            clear h1
            have HQL := hid (Nat.lt_of_lt_of_le (HSL.out v x) HP9.out)
            obtain ⟨q, hq⟩ : ∃ q, q = stX o k S a s v x (stV o k S a s v) := ⟨_, rfl⟩
            rw [← hq] at HSU HQL
            rw [← hq]
            obtain ⟨U, hU⟩ : ∃ U, U = v * k := ⟨_, rfl⟩
            have hAb := idx_bnd HOS.out hlt hltx
            rw [← hU] at hAb HSU
            have hUi : (v : Int) * (k : Int) = (U : Int) := by rw [hU]; simp
            obtain ⟨A, hA⟩ : ∃ A, A = U + x := ⟨_, rfl⟩
            rw [← hA] at hAb HSU
            have hAi : (U : Int) + (x : Int) = (A : Int) := by omega
            have hAo' : (A : Int) < (o.size : Int) := by omega
            have hA0' : (0 : Int) ≤ (A : Int) := by omega
            have HGE := hid (show giveB o A = letB a ↔ o[A].toNat = 97 + a by
              rw [giveB_at hAb]
              constructor
              · intro e; have := letB_nat (show a < 100 by omega); rw [e]; omega
              · intro e; exact letB_backS e)
            obtain ⟨R, hR⟩ : ∃ R, R = A % S := ⟨_, rfl⟩
            have hr1 : Int.tmod (A : Int) (S : Int) = (R : Int) := by rw [hR]; exact Int.ofNat_tmod A S
            have hRlt : R < S := by rw [hR]; exact Nat.mod_lt _ (by omega)
            rw [← hR] at HSU
            have hm0 : ¬ ((S : Int) = 0) := by omega
            have hm1 : ¬ (S = 0) := by omega
            have hm2 : ((S : Int) == 0) = false := by simpa using hm1
            have hwU : IntKind.i64.wrap (U : Int) = (U : Int) := IntWalk.i64_in _ (by omega)
            have hwA : IntKind.i64.wrap (A : Int) = (A : Int) := IntWalk.i64_in _ (by omega)
            have hwR : IntKind.i64.wrap (R : Int) = (R : Int) := IntWalk.i64_in _ (by omega)
            have hor := bit_or9 R (by omega) q HQL.out
            clear hU hA hR hq
            by_cases hge : o[A].toNat = 97 + a
            · have hge' : ((o[A].toNat : Int) == 97 + (a : Int)) = true := by simp [hge]
              have HS2 := hid (HSU.out.trans (if_pos (HGE.out.2 hge)))
              clear HSU HGE
              go_wp2
              go_round
              case rel => exact ⟨x + 1, by omega, by go_num, by rw [HS2.out]⟩
              case measure => simp [intOf]; omega
            · have hge' : ((o[A].toNat : Int) == 97 + (a : Int)) = false := by simp; omega
              have HS2 := hid (HSU.out.trans (if_neg fun h => hge (HGE.out.1 h)))
              clear HSU HGE
              go_wp2
              go_round
              case rel => exact ⟨x + 1, by omega, by go_num, by rw [HS2.out]⟩
              case measure => simp [intOf]; omega
        · obtain rfl : x = k := by omega
          go_wp2
          go_round
          case rel => exact ⟨v + 1, by omega, by go_num, rfl⟩
          case measure => simp [intOf]; omega
    · obtain rfl : v = S := by omega
      go_wp2
      go_ret
      exact ⟨ret_int (by rw [HST.out]), (Below.refl _ _).alloc (Nat.le_refl _) _⟩
end Go.Proofs.YtcmmlldincflkaaDoor
