/- Tables compared, equal or not. Conditions: the tables lie in memory. -/
import Derived.Test.YtomeinlaiidmpaaEqs
namespace Go.Proofs.Ytomeinlaiidmpaa
open Go.RowKit

set_option maxHeartbeats 1000000 in
theorem spec_EqualMatrix_c (a b : Option Addr) (c d : Nat) (R S : List (List Int)) (r : Bool) (w : World) (ha : TabAt w a R.length R) (hb : TabAt w b S.length S) (hr : decide (R = S) = r) :
    Calls Try.prog 61 #[.slice a R.length c, .slice b S.length d] w fun e w' => e = .returned (.bool r) ∧ ∃ m, w' = w.drewN m := by
  by_cases hll : R.length = S.length
  · obtain ⟨n, hn⟩ : ∃ n, n = R.length := ⟨_, rfl⟩
    rw [← hll] at hb ⊢
    rw [← hn] at ha hb ⊢
    have hlim := (tab_len ha).2
    have HA := hid ha
    have HB := hid hb
    have hlen := hid (show R.length = n ∧ S.length = n from ⟨hn.symm, by omega⟩)
    have HR := hid hr
    clear hn hll ha hb hr
    go_enter Try.func61, Try.ntmps61
    go_wp2
    go_loopw [5] (fun i wr => ∃ k : Nat, k ≤ n ∧ i = .int .i64 k ∧ R.take k = S.take k ∧ ∃ m, wr = w.drewN m) (fun i _ => n - (intOf i).toNat)
    case atStart => exact ⟨0, by omega, rfl, rfl, 0, rfl⟩
    case round =>
      obtain ⟨k, hk, rfl, htk, m, hm⟩ := hrel
      have HTK := hid htk
      clear htk
      by_cases hlt : k < n
      ·
        obtain ⟨x, hx⟩ := get_some (l := R) (n := k) (by rw [hlen.out.1]; exact hlt)
        obtain ⟨y, hy⟩ := get_some (l := S) (n := k) (by rw [hlen.out.2]; exact hlt)
        obtain ⟨b1, off1, a1, c1, rfl, hb1, hcell1, hr1⟩ := tab_row HA.out hlt hx
        obtain ⟨b2, off2, a2, c2, rfl, hb2, hcell2, hr2⟩ := tab_row HB.out hlt hy
        have hcell1 := (show wr.cell? ⟨b1, off1 + k, none⟩ = w.cell? ⟨b1, off1 + k, none⟩ by rw [hm]; rfl).trans hcell1
        have hcell2 := (show wr.cell? ⟨b2, off2 + k, none⟩ = w.cell? ⟨b2, off2 + k, none⟩ by rw [hm]; rfl).trans hcell2
        have R1 : Hid (RowAt wr a1 x.length (intVals x)) := hid (by rw [hm]; exact hr1.drewN m)
        have R2 : Hid (RowAt wr a2 y.length (intVals y)) := hid (by rw [hm]; exact hr2.drewN m)
        have HM := hid hm
        have H1 := hid hx
        have H2 := hid hy
        clear hx hy hm hr1 hr2
        by_cases hst : x = y
        · have HQ := hid (decide_eq_true hst)
          have HE := hid hst
          clear hst
          go_wp2
          go_quiet ((go_at_call 76; refine Calls.quiet_of (spec_sameRow_c a1 a2 c1 c2 x y true _ (R1.out.drewN _) (R2.out.drewN _) HQ.out)))
          go_wp2
          go_roundw
          case rel => exact ⟨k + 1, by omega, by go_num, rows_take H1.out (HE.out ▸ H2.out) HTK.out, m + nq, by rw [HM.out, World.drewN_drewN]⟩
          case measure => simp [intOf]; omega
        · have HNE := hid (rows_part H1.out H2.out hst)
          have HQ := hid (decide_eq_false hst)
          clear hst
          go_wp2
          go_quiet ((go_at_call 76; refine Calls.quiet_of (spec_sameRow_c a1 a2 c1 c2 x y false _ (R1.out.drewN _) (R2.out.drewN _) HQ.out)))
          go_wp2
          go_ret
          exact ⟨by rw [show r = false by rw [← HR.out, decide_eq_false HNE.out]]; rfl, m + nq, by rw [HM.out, World.drewN_drewN]⟩
      · obtain rfl : k = n := by omega
        have HM := hid hm
        clear hm
        go_wp2
        go_ret
        exact ⟨by rw [show r = true by rw [← HR.out, decide_eq_true (rows_all hlen.out.1 hlen.out.2 HTK.out)]]; rfl, m, HM.out⟩
  · have HR := hid hr
    have HNE := hid (show R ≠ S from fun e => hll (by rw [e]))
    have hl1 := (tab_len ha).2
    have hl2 := (tab_len hb).2
    have hl3 : ¬ ((R.length : Int) = (S.length : Int)) := by omega
    obtain ⟨n, hn⟩ : ∃ n, n = R.length := ⟨_, rfl⟩
    obtain ⟨n', hn'⟩ : ∃ n', n' = S.length := ⟨_, rfl⟩
    rw [← hn] at hl1 hl3 ⊢
    rw [← hn'] at hl2 hl3 ⊢
    clear ha hb hr hll hn hn'
    go_enter Try.func61, Try.ntmps61
    go_wp2
    go_ret
    exact ⟨by rw [show r = false by rw [← HR.out, decide_eq_false HNE.out]]; rfl, 0, rfl⟩
set_option maxHeartbeats 1000000 in
theorem equalFunc_c (a b : Option Addr) (c d : Nat) (R S : List (List Int)) (r : Bool) (w : World) (ha : TabAt w a R.length R) (hb : TabAt w b S.length S) (hr : decide (R = S) = r) :
    Calls Try.prog 78 #[.slice a R.length c, .slice b S.length d, .func (.func 79) #[] #[]] w fun e w' => e = .returned (.bool r) ∧ ∃ m, w' = w.drewN m := by
  by_cases hll : R.length = S.length
  · obtain ⟨n, hn⟩ : ∃ n, n = R.length := ⟨_, rfl⟩
    rw [← hll] at hb ⊢
    rw [← hn] at ha hb ⊢
    have hlim := (tab_len ha).2
    have HA := hid ha
    have HB := hid hb
    have hlen := hid (show R.length = n ∧ S.length = n from ⟨hn.symm, by omega⟩)
    have HR := hid hr
    clear hn hll ha hb hr
    go_enter Try.func78, Try.ntmps78
    go_wp2
    go_loopw [17] (fun i wr => ∃ k : Nat, k ≤ n ∧ i = .int .i64 k ∧ R.take k = S.take k ∧ ∃ m, wr = w.drewN m) (fun i _ => n - (intOf i).toNat)
    case atStart => exact ⟨0, by omega, rfl, rfl, 0, rfl⟩
    case round =>
      obtain ⟨k, hk, rfl, htk, m, hm⟩ := hrel
      have HTK := hid htk
      clear htk
      by_cases hlt : k < n
      ·
        obtain ⟨x, hx⟩ := get_some (l := R) (n := k) (by rw [hlen.out.1]; exact hlt)
        obtain ⟨y, hy⟩ := get_some (l := S) (n := k) (by rw [hlen.out.2]; exact hlt)
        obtain ⟨b1, off1, a1, c1, rfl, hb1, hcell1, hr1⟩ := tab_row HA.out hlt hx
        obtain ⟨b2, off2, a2, c2, rfl, hb2, hcell2, hr2⟩ := tab_row HB.out hlt hy
        have hcell1 := (show wr.cell? ⟨b1, off1 + k, none⟩ = w.cell? ⟨b1, off1 + k, none⟩ by rw [hm]; rfl).trans hcell1
        have hcell2 := (show wr.cell? ⟨b2, off2 + k, none⟩ = w.cell? ⟨b2, off2 + k, none⟩ by rw [hm]; rfl).trans hcell2
        have R1 : Hid (RowAt wr a1 x.length (intVals x)) := hid (by rw [hm]; exact hr1.drewN m)
        have R2 : Hid (RowAt wr a2 y.length (intVals y)) := hid (by rw [hm]; exact hr2.drewN m)
        have HM := hid hm
        have H1 := hid hx
        have H2 := hid hy
        clear hx hy hm hr1 hr2
        by_cases hst : x = y
        · have HQ := hid (slicesEqualI_c a1 a2 c1 c2 x y true wr R1.out R2.out (decide_eq_true hst))
          have HE := hid hst
          clear hst
          go_wp2_with (go_at_call 79; refine HQ.out.mono ?_; rintro e w2 ⟨rfl, nq, HW⟩; have HN := hid HW; clear HW)
          go_roundw
          case rel => exact ⟨k + 1, by omega, by go_num, rows_take H1.out (HE.out ▸ H2.out) HTK.out, m + nq, by rw [HN.out, HM.out, World.drewN_drewN]⟩
          case measure => simp [intOf]; omega
        · have HNE := hid (rows_part H1.out H2.out hst)
          have HQ := hid (slicesEqualI_c a1 a2 c1 c2 x y false wr R1.out R2.out (decide_eq_false hst))
          clear hst
          go_wp2_with (go_at_call 79; refine HQ.out.mono ?_; rintro e w2 ⟨rfl, nq, HW⟩; have HN := hid HW; clear HW)
          go_ret
          exact ⟨by rw [show r = false by rw [← HR.out, decide_eq_false HNE.out]]; rfl, m + nq, by rw [HN.out, HM.out, World.drewN_drewN]⟩
      · obtain rfl : k = n := by omega
        have HM := hid hm
        clear hm
        go_wp2
        go_ret
        exact ⟨by rw [show r = true by rw [← HR.out, decide_eq_true (rows_all hlen.out.1 hlen.out.2 HTK.out)]]; rfl, m, HM.out⟩
  · have HR := hid hr
    have HNE := hid (show R ≠ S from fun e => hll (by rw [e]))
    have hl1 := (tab_len ha).2
    have hl2 := (tab_len hb).2
    have hl3 : ¬ ((R.length : Int) = (S.length : Int)) := by omega
    obtain ⟨n, hn⟩ : ∃ n, n = R.length := ⟨_, rfl⟩
    obtain ⟨n', hn'⟩ : ∃ n', n' = S.length := ⟨_, rfl⟩
    rw [← hn] at hl1 hl3 ⊢
    rw [← hn'] at hl2 hl3 ⊢
    clear ha hb hr hll hn hn'
    go_enter Try.func78, Try.ntmps78
    go_wp2
    go_ret
    exact ⟨by rw [show r = false by rw [← HR.out, decide_eq_false HNE.out]]; rfl, 0, rfl⟩
set_option maxHeartbeats 1000000 in
theorem impl_EqualMatrix_c (a b : Option Addr) (c d : Nat) (R S : List (List Int)) (r : Bool) (w : World) (ha : TabAt w a R.length R) (hb : TabAt w b S.length S) (hr : decide (R = S) = r) :
    Calls Try.prog 65 #[.slice a R.length c, .slice b S.length d] w fun e w' => e = .returned (.bool r) ∧ ∃ m, w' = w.drewN m := by
  have HE := hid (equalFunc_c a b c d R S r w ha hb hr)
  obtain ⟨n, hn⟩ : ∃ n, n = R.length := ⟨_, rfl⟩
  obtain ⟨m, hm⟩ : ∃ m, m = S.length := ⟨_, rfl⟩
  rw [← hn, ← hm] at HE ⊢
  clear ha hb hr hn hm
  go_enter Try.func65, Try.ntmps65
  go_wp2_with fail
  refine HE.out.mono ?_
  rintro e w1 ⟨rfl, z, hz⟩
  have HZ := hid hz
  clear hz
  go_wp2
  go_ret
  exact ⟨rfl, z, HZ.out⟩
end Go.Proofs.Ytomeinlaiidmpaa
