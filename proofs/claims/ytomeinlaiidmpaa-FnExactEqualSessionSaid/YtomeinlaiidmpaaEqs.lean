/- Rows compared, equal or not. Conditions: the rows lie in memory. -/
import Derived.Test.YtomeinlaiidmpaaSessE
namespace Go.Proofs.Ytomeinlaiidmpaa
open Go.RowKit

/-- Two rows that agree up to k and not at k. -/
theorem rows_part {α : Type} {xs ys : List α} {k : Nat} {x y : α} (hx : xs[k]? = some x) (hy : ys[k]? = some y) (h : x ≠ y) : xs ≠ ys := fun e => by
  subst e; rw [hx] at hy; exact h (by injection hy)
theorem rows_take {α : Type} {xs ys : List α} {k : Nat} {x : α} (hx : xs[k]? = some x) (hy : ys[k]? = some x) (h : xs.take k = ys.take k) : xs.take (k + 1) = ys.take (k + 1) := by
  rw [List.take_add_one, List.take_add_one, h, hx, hy]
theorem rows_all {α : Type} {xs ys : List α} {n : Nat} (hx : xs.length = n) (hy : ys.length = n) (h : xs.take n = ys.take n) : xs = ys := by
  rwa [List.take_of_length_le (by omega), List.take_of_length_le (by omega)] at h
theorem str_ne2 {s t : ByteArray} (h : s ≠ t) : (s.toList == t.toList) = false := by
  have h1 : s.toList ≠ t.toList := fun e => h (by
    rw [ByteArray.toList_eq, ByteArray.toList_eq] at e
    cases s; cases t
    simpa using e)
  simpa using h1
set_option maxHeartbeats 1000000 in
theorem spec_sameRow_c (a b : Option Addr) (c d : Nat) (xs ys : List Int) (r : Bool) (w : World) (ha : RowAt w a xs.length (intVals xs)) (hb : RowAt w b ys.length (intVals ys)) (hr : decide (xs = ys) = r) :
    Calls Try.prog 76 #[.slice a xs.length c, .slice b ys.length d] w fun e w' => e = .returned (.bool r) ∧ ∃ m, w' = w.drewN m := by
  by_cases hll : xs.length = ys.length
  · obtain ⟨n, hn⟩ : ∃ n, n = xs.length := ⟨_, rfl⟩
    rw [← hll] at hb ⊢
    rw [← hn] at ha hb ⊢
    have hlim := ha.lim
    have hat := hid ha.at_
    have hbt := hid hb.at_
    have hlen := hid (show xs.length = n ∧ ys.length = n from ⟨hn.symm, by omega⟩)
    have HR := hid hr
    clear hn hll ha hb hr
    go_enter Try.func76, Try.ntmps76
    go_wp2
    go_loopw [5] (fun i wr => ∃ k : Nat, k ≤ n ∧ i = .int .i64 k ∧ xs.take k = ys.take k ∧ ∃ m, wr = w.drewN m) (fun i _ => n - (intOf i).toNat)
    case atStart => exact ⟨0, by omega, rfl, rfl, 0, rfl⟩
    case round =>
      obtain ⟨k, hk, rfl, htk, m, hm⟩ := hrel
      have HTK := hid htk
      clear htk
      by_cases hlt : k < n
      · obtain ⟨s, hsk⟩ := get_some (l := xs) (n := k) (by rw [hlen.out.1]; exact hlt)
        obtain ⟨t, htk⟩ := get_some (l := ys) (n := k) (by rw [hlen.out.2]; exact hlt)
        obtain ⟨b1, off1, rfl, hb1, hc1⟩ := hat.out (by omega)
        obtain ⟨b2, off2, rfl, hb2, hc2⟩ := hbt.out (by omega)
        have hcell1 := (show wr.cell? ⟨b1, off1 + k, none⟩ = w.cell? ⟨b1, off1 + k, none⟩ by rw [hm]; rfl).trans (hc1 k _ (intVals_get hsk))
        have hcell2 := (show wr.cell? ⟨b2, off2 + k, none⟩ = w.cell? ⟨b2, off2 + k, none⟩ by rw [hm]; rfl).trans (hc2 k _ (intVals_get htk))
        have HM := hid hm
        have H1 := hid hsk
        have H2 := hid htk
        clear hsk htk hc1 hc2 hm
        by_cases hst : s = t
        · subst hst
          go_wp2
          go_quiet (fail)
          go_wp2
          go_roundw
          case rel => exact ⟨k + 1, by omega, by go_num, rows_take H1.out H2.out HTK.out, m + nq, by rw [HM.out, World.drewN_drewN]⟩
          case measure => simp [intOf]; omega
        · have HNE := hid (rows_part H1.out H2.out hst)
          skip
          go_wp2
          go_quiet (fail)
          go_wp2
          go_ret
          exact ⟨by rw [show r = false by rw [← HR.out, decide_eq_false HNE.out]]; rfl, m + nq, by rw [HM.out, World.drewN_drewN]⟩
      · obtain rfl : k = n := by omega
        have HM := hid hm
        clear hm
        go_wp2
        go_ret
        exact ⟨by rw [show r = true by rw [← HR.out, decide_eq_true (rows_all hlen.out.1 hlen.out.2 HTK.out)]]; rfl, m, HM.out⟩
  · have HR := hid hr
    have HNE := hid (show xs ≠ ys from fun e => hll (by rw [e]))
    have hl1 := ha.lim
    have hl2 := hb.lim
    have hl3 : ¬ ((xs.length : Int) = (ys.length : Int)) := by omega
    obtain ⟨n, hn⟩ : ∃ n, n = xs.length := ⟨_, rfl⟩
    obtain ⟨n', hn'⟩ : ∃ n', n' = ys.length := ⟨_, rfl⟩
    rw [← hn] at hl1 hl3 ⊢
    rw [← hn'] at hl2 hl3 ⊢
    clear ha hb hr hll hn hn'
    go_enter Try.func76, Try.ntmps76
    go_wp2
    go_ret
    exact ⟨by rw [show r = false by rw [← HR.out, decide_eq_false HNE.out]]; rfl, 0, rfl⟩
set_option maxHeartbeats 1000000 in
theorem slicesEqualI_c (a b : Option Addr) (c d : Nat) (xs ys : List Int) (r : Bool) (w : World) (ha : RowAt w a xs.length (intVals xs)) (hb : RowAt w b ys.length (intVals ys)) (hr : decide (xs = ys) = r) :
    Calls Try.prog 79 #[.slice a xs.length c, .slice b ys.length d] w fun e w' => e = .returned (.bool r) ∧ ∃ m, w' = w.drewN m := by
  by_cases hll : xs.length = ys.length
  · obtain ⟨n, hn⟩ : ∃ n, n = xs.length := ⟨_, rfl⟩
    rw [← hll] at hb ⊢
    rw [← hn] at ha hb ⊢
    have hlim := ha.lim
    have hat := hid ha.at_
    have hbt := hid hb.at_
    have hlen := hid (show xs.length = n ∧ ys.length = n from ⟨hn.symm, by omega⟩)
    have HR := hid hr
    clear hn hll ha hb hr
    go_enter Try.func79, Try.ntmps79
    go_wp2
    go_loopw [13] (fun i wr => ∃ k : Nat, k ≤ n ∧ i = .int .i64 k ∧ xs.take k = ys.take k ∧ ∃ m, wr = w.drewN m) (fun i _ => n - (intOf i).toNat)
    case atStart => exact ⟨0, by omega, rfl, rfl, 0, rfl⟩
    case round =>
      obtain ⟨k, hk, rfl, htk, m, hm⟩ := hrel
      have HTK := hid htk
      clear htk
      by_cases hlt : k < n
      · obtain ⟨s, hsk⟩ := get_some (l := xs) (n := k) (by rw [hlen.out.1]; exact hlt)
        obtain ⟨t, htk⟩ := get_some (l := ys) (n := k) (by rw [hlen.out.2]; exact hlt)
        obtain ⟨b1, off1, rfl, hb1, hc1⟩ := hat.out (by omega)
        obtain ⟨b2, off2, rfl, hb2, hc2⟩ := hbt.out (by omega)
        have hcell1 := (show wr.cell? ⟨b1, off1 + k, none⟩ = w.cell? ⟨b1, off1 + k, none⟩ by rw [hm]; rfl).trans (hc1 k _ (intVals_get hsk))
        have hcell2 := (show wr.cell? ⟨b2, off2 + k, none⟩ = w.cell? ⟨b2, off2 + k, none⟩ by rw [hm]; rfl).trans (hc2 k _ (intVals_get htk))
        have HM := hid hm
        have H1 := hid hsk
        have H2 := hid htk
        clear hsk htk hc1 hc2 hm
        by_cases hst : s = t
        · subst hst
          go_wp2
          go_quiet (fail)
          go_wp2
          go_roundw
          case rel => exact ⟨k + 1, by omega, by go_num, rows_take H1.out H2.out HTK.out, m + nq, by rw [HM.out, World.drewN_drewN]⟩
          case measure => simp [intOf]; omega
        · have HNE := hid (rows_part H1.out H2.out hst)
          skip
          go_wp2
          go_quiet (fail)
          go_wp2
          go_ret
          exact ⟨by rw [show r = false by rw [← HR.out, decide_eq_false HNE.out]]; rfl, m + nq, by rw [HM.out, World.drewN_drewN]⟩
      · obtain rfl : k = n := by omega
        have HM := hid hm
        clear hm
        go_wp2
        go_ret
        exact ⟨by rw [show r = true by rw [← HR.out, decide_eq_true (rows_all hlen.out.1 hlen.out.2 HTK.out)]]; rfl, m, HM.out⟩
  · have HR := hid hr
    have HNE := hid (show xs ≠ ys from fun e => hll (by rw [e]))
    have hl1 := ha.lim
    have hl2 := hb.lim
    have hl3 : ¬ ((xs.length : Int) = (ys.length : Int)) := by omega
    obtain ⟨n, hn⟩ : ∃ n, n = xs.length := ⟨_, rfl⟩
    obtain ⟨n', hn'⟩ : ∃ n', n' = ys.length := ⟨_, rfl⟩
    rw [← hn] at hl1 hl3 ⊢
    rw [← hn'] at hl2 hl3 ⊢
    clear ha hb hr hll hn hn'
    go_enter Try.func79, Try.ntmps79
    go_wp2
    go_ret
    exact ⟨by rw [show r = false by rw [← HR.out, decide_eq_false HNE.out]]; rfl, 0, rfl⟩
set_option maxHeartbeats 1000000 in
theorem slicesEqualS_c (a b : Option Addr) (c d : Nat) (xs ys : List ByteArray) (r : Bool) (w : World) (ha : RowAt w a xs.length (strVals xs)) (hb : RowAt w b ys.length (strVals ys)) (hr : decide (xs = ys) = r) :
    Calls Try.prog 66 #[.slice a xs.length c, .slice b ys.length d] w fun e w' => e = .returned (.bool r) ∧ ∃ m, w' = w.drewN m := by
  by_cases hll : xs.length = ys.length
  · obtain ⟨n, hn⟩ : ∃ n, n = xs.length := ⟨_, rfl⟩
    rw [← hll] at hb ⊢
    rw [← hn] at ha hb ⊢
    have hlim := ha.lim
    have hat := hid ha.at_
    have hbt := hid hb.at_
    have hlen := hid (show xs.length = n ∧ ys.length = n from ⟨hn.symm, by omega⟩)
    have HR := hid hr
    clear hn hll ha hb hr
    go_enter Try.func66, Try.ntmps66
    go_wp2
    go_loopw [13] (fun i wr => ∃ k : Nat, k ≤ n ∧ i = .int .i64 k ∧ xs.take k = ys.take k ∧ ∃ m, wr = w.drewN m) (fun i _ => n - (intOf i).toNat)
    case atStart => exact ⟨0, by omega, rfl, rfl, 0, rfl⟩
    case round =>
      obtain ⟨k, hk, rfl, htk, m, hm⟩ := hrel
      have HTK := hid htk
      clear htk
      by_cases hlt : k < n
      · obtain ⟨s, hsk⟩ := get_some (l := xs) (n := k) (by rw [hlen.out.1]; exact hlt)
        obtain ⟨t, htk⟩ := get_some (l := ys) (n := k) (by rw [hlen.out.2]; exact hlt)
        obtain ⟨b1, off1, rfl, hb1, hc1⟩ := hat.out (by omega)
        obtain ⟨b2, off2, rfl, hb2, hc2⟩ := hbt.out (by omega)
        have hcell1 := (show wr.cell? ⟨b1, off1 + k, none⟩ = w.cell? ⟨b1, off1 + k, none⟩ by rw [hm]; rfl).trans (hc1 k _ (strVals_get hsk))
        have hcell2 := (show wr.cell? ⟨b2, off2 + k, none⟩ = w.cell? ⟨b2, off2 + k, none⟩ by rw [hm]; rfl).trans (hc2 k _ (strVals_get htk))
        have HM := hid hm
        have H1 := hid hsk
        have H2 := hid htk
        clear hsk htk hc1 hc2 hm
        by_cases hst : s = t
        · subst hst
          go_wp2
          go_quiet (fail)
          go_wp2
          go_roundw
          case rel => exact ⟨k + 1, by omega, by go_num, rows_take H1.out H2.out HTK.out, m + nq, by rw [HM.out, World.drewN_drewN]⟩
          case measure => simp [intOf]; omega
        · have HNE := hid (rows_part H1.out H2.out hst)
          rcases str_ne2 hst with hst2
          go_wp2
          go_quiet (fail)
          go_wp2
          go_ret
          exact ⟨by rw [show r = false by rw [← HR.out, decide_eq_false HNE.out]]; rfl, m + nq, by rw [HM.out, World.drewN_drewN]⟩
      · obtain rfl : k = n := by omega
        have HM := hid hm
        clear hm
        go_wp2
        go_ret
        exact ⟨by rw [show r = true by rw [← HR.out, decide_eq_true (rows_all hlen.out.1 hlen.out.2 HTK.out)]]; rfl, m, HM.out⟩
  · have HR := hid hr
    have HNE := hid (show xs ≠ ys from fun e => hll (by rw [e]))
    have hl1 := ha.lim
    have hl2 := hb.lim
    have hl3 : ¬ ((xs.length : Int) = (ys.length : Int)) := by omega
    obtain ⟨n, hn⟩ : ∃ n, n = xs.length := ⟨_, rfl⟩
    obtain ⟨n', hn'⟩ : ∃ n', n' = ys.length := ⟨_, rfl⟩
    rw [← hn] at hl1 hl3 ⊢
    rw [← hn'] at hl2 hl3 ⊢
    clear ha hb hr hll hn hn'
    go_enter Try.func66, Try.ntmps66
    go_wp2
    go_ret
    exact ⟨by rw [show r = false by rw [← HR.out, decide_eq_false HNE.out]]; rfl, 0, rfl⟩
end Go.Proofs.Ytomeinlaiidmpaa
