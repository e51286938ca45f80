/- Words that a method of a value keeps. Conditions: none but the sizes. -/
import Derived.Test.YtpfeflhcbcgbfaaGreatDoorKept
namespace Go.Proofs.YtpfeflhcbcgbfaaGreatDoor
open Go.RowKit

/-- A method's value that keeps words. -/
def KeepsM (F : FuncId) (cap : Value) (k n : Nat) (p : Nat → Bool) (W : World) : Prop :=
  ∀ i w, i < k ^ n → Below W.heap.size W w → Calls Tryz.prog F #[cap, .string (wdB k n i)] w fun e w' => e = .returned (.bool (p i)) ∧ Below w.heap.size w w'
set_option maxHeartbeats 2000000 in
set_option maxRecDepth 100000 in
theorem filteredM_c (k n : Nat) (F : FuncId) (cap : Value) (p : Nat → Bool) (w : World) (hk : 1 ≤ k ∧ k ≤ 3) (hn : n ≤ 8) (hF : KeepsM F cap k n p w) (hE : ∀ x w, (callFunc F #[cap, x]).run Tryz.prog w = .ok (.enter F #[cap, x]) w) :
    Calls Tryz.prog 74 #[.int .i64 k, .int .i64 n, .func (.func F) #[cap] #[]] w (KeptPost p k n w) := by
  have hps := pow_small hk.2 hn
  have HWO := hid (fun w : World => impl_wordsOf_c k n w hk hn)
  obtain ⟨m, hm⟩ : ∃ m, m = k ^ n := ⟨_, rfl⟩
  have HF := hid hF
  unfold KeepsM at HF
  unfold WordsPost at HWO
  unfold KeptPost
  rw [← hm] at HWO HF hps
  rw [← hm]
  have hm1 : 1 ≤ m := by rw [hm]; exact Nat.one_le_pow _ _ (by omega)
  clear hF hm hk
  go_enter Tryz.func74, Tryz.ntmps74
  go_wp2_with fail
  refine (HWO.out _).mono ?_
  rintro e w1 ⟨v, rfl, hown, hb1⟩
  have hown2 := owns_base (base' := w.heap.size) hown (by simp)
  obtain ⟨g5, c5, rfl, hg5, hlt5⟩ := hown2.form (by omega)
  have hg6 : w.heap.size + 1 ≤ g5 := by
    obtain ⟨g7, c7, he7, hg7, _⟩ := hown.form (by omega)
    simp at he7 hg7
    omega
  have HW2 := hid hown2
  have hbelB : Below w.heap.size w w1 := ((Below.refl _ _).alloc (Nat.le_refl _) _).trans (hb1.mono (by simp))
  have hown8 : w1.ownsRow w.heap.size 9 1 (.slice (some ⟨w.heap.size, 0, none⟩) 0 0) 0 (strVals (kp p k n 0)) := owns_below (show (w.alloc (.cells #[] 9)).ownsRow w.heap.size 9 1 (.slice (some ⟨w.heap.size, 0, none⟩) 0 0) 0 (strVals (kp p k n 0)) from owns_lit3 #[] _ rfl (Nat.le_refl _) (by unfold maxLen; simp)) hb1
  clear hown hown2
  go_wp2
  go_loopw [7, 15] (fun v i wr => ∃ j : Nat, j ≤ m ∧ i = .int .i64 j ∧ wr.ownsRow w.heap.size 9 1 v ((List.range j).filter p).length (strVals (kp p k n j)) ∧ v.ownBlock ≠ some g5 ∧ wr.ownsRow w.heap.size 9 1 (.slice (some ⟨g5, 0, none⟩) m c5) m (strVals (wds k n m)) ∧ Below w.heap.size w wr) (fun _ i _ => m - (intOf i).toNat)
  case atStart => exact ⟨0, by omega, rfl, hown8, by simp [Value.ownBlock]; omega, HW2.out, hbelB⟩
  case round =>
    obtain ⟨j, hj, rfl, hown, hne, hwords, hbel⟩ := hrel
    have hcnt := kp_le p j
    by_cases hlt : j < m
    · obtain ⟨a6, c6, he6, hr6⟩ := owns_rowAt hwords (by omega)
      simp only [Value.slice.injEq, true_and] at he6
      obtain ⟨rfl, rfl⟩ := he6
      obtain ⟨b5, o5, he5, hb5, hcl5⟩ := hr6.at_ (by omega)
      simp only [Option.some.injEq, Addr.mk.injEq, and_true] at he5
      obtain ⟨rfl, rfl⟩ := he5
      have hcell := hcl5 j _ (strVals_get (wds_get hlt))
      rw [Nat.zero_add] at hcell
      have HO := hid hown
      have HWD := hid hwords
      have HFj := hid (HF.out j wr hlt hbel)
      clear hr6 hcl5 hown hwords
      obtain ⟨c, hc⟩ : ∃ c, c = ((List.range j).filter p).length := ⟨_, rfl⟩
      have HC := hid hc
      rw [← hc] at HO hcnt
      clear hc
      cases hpj : p j
      · rw [hpj] at HFj
        have HPJ := hid hpj
        clear hpj
        go_wp2_with fail
        refine HFj.out.mono ?_
        rintro e w2 ⟨rfl, hb2⟩
        have hown2 := owns_below HO.out hb2
        have hw2 := owns_below HWD.out hb2
        have hbel2 := hbel.trans (hb2.mono hbel.size)
        go_wp2
        go_roundw
        case rel => exact ⟨j + 1, by omega, by go_num, by rw [kp_no HPJ.out, cn_no HPJ.out, ← HC.out]; exact hown2, hne, hw2, hbel2⟩
        case measure => simp [intOf]; omega
      · rw [hpj] at HFj
        have HPJ := hid hpj
        clear hpj
        go_wp2_with fail
        refine HFj.out.mono ?_
        rintro e w2 ⟨rfl, hb2⟩
        have hown2 := owns_below HO.out hb2
        have hw2 := owns_below HWD.out hb2
        have hbel2 := hbel.trans (hb2.mono hbel.size)
        have hb52 := Nat.lt_of_lt_of_le hb5 hb2.size
        go_wp2_with (first | (at_builtin; go_must (refine wpList_app3 rfl _ _ 22 rfl w.heap.size 9 (.string ByteArray.empty) 16 Tryz.underlying22 infoStr3 rfl _ c (strVals (kp p k n j)) _ hown2 rfl rfl rfl (by omega) (by unfold maxLen; omega) hbel2.size g5 hne hb52 ?_); intro v' w3 hown3 hgr3 hne3))
        go_roundw
        case rel => exact ⟨j + 1, by omega, by go_num, by rw [kp_yes HPJ.out, cn_yes HPJ.out, ← HC.out]; exact hown3, hne3, hw2.kept hgr3 (Or.inr fun e => hne (by rw [← e]; rfl)), hbel2.grown hgr3 hbel2.size (fun k hk => (hown2.lt k hk).1)⟩
        case measure => simp [intOf]; omega
    · obtain rfl : j = m := by omega
      clear hwords
      go_wp2
      go_ret
      exact ⟨_, rfl, hown, hbel⟩
end Go.Proofs.YtpfeflhcbcgbfaaGreatDoor
