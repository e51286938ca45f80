/- The table of a substitution. Conditions: sizes within the reach. -/
import Derived.Test.YtcfjchaklgjmkaaZero
import Derived.Test.YtcfjchaklgjmkaaCounts
import Derived.Test.YtcfjchaklgjmkaaRepl
namespace Go.Proofs.Ytcfjchaklgjmkaa
open Go.RowKit

def wl (ss : List ByteArray) (c : Nat) : List UInt8 := (ss.getD c ByteArray.empty).data.toList
def ctCell (ss : List ByteArray) (j k i c : Nat) : Int := if c < j then cnt (wl ss c) (UInt8.ofNat (97 + i)) else if c = j then cnt ((wl ss c).take k) (UInt8.ofNat (97 + i)) else 0
def ctRow (n : Nat) (ss : List ByteArray) (j k i : Nat) : List Int := (List.range n).map (ctCell ss j k i)
def ctAt (n : Nat) (ss : List ByteArray) (j k : Nat) : List (List Int) := (List.range n).map (ctRow n ss j k)
def ctOf (ss : List ByteArray) : List (List Int) := if isSubst ss = true then ctAt ss.length ss ss.length 0 else []
theorem cnt_nil (c : UInt8) : cnt [] c = 0 := rfl
theorem ct_zero (n : Nat) (ss : List ByteArray) : ctAt n ss 0 0 = zeroTab n n := by
  unfold ctAt zeroTab
  have : ∀ i, ctRow n ss 0 0 i = List.replicate n 0 := by
    intro i
    unfold ctRow
    refine List.ext_getElem (by simp) fun c h1 h2 => ?_
    simp [ctCell]
    intro _; rfl
  rw [List.map_congr_left (fun i _ => this i)]
  refine List.ext_getElem (by simp) fun c h1 h2 => by simp
theorem ct_next (n : Nat) (ss : List ByteArray) (j : Nat) : ctAt n ss j (wl ss j).length = ctAt n ss (j + 1) 0 := by
  unfold ctAt
  refine List.map_congr_left fun i _ => ?_
  unfold ctRow
  refine List.map_congr_left fun c _ => ?_
  unfold ctCell
  by_cases h1 : c < j
  · rw [if_pos h1, if_pos (by omega)]
  · rw [if_neg h1]
    by_cases h2 : c = j
    · subst h2
      rw [if_pos rfl, if_pos (by omega), List.take_length]
    · rw [if_neg h2, if_neg (by omega)]
      by_cases h3 : c = j + 1
      · rw [if_pos h3, List.take_zero, cnt_nil]
      · rw [if_neg h3]
theorem ct_len (n : Nat) (ss : List ByteArray) (j k : Nat) : (ctAt n ss j k).length = n := by simp [ctAt]
theorem ctRow_len (n : Nat) (ss : List ByteArray) (j k i : Nat) : (ctRow n ss j k i).length = n := by simp [ctRow]
theorem ct_row {n : Nat} {ss : List ByteArray} {j k i : Nat} (h : i < n) : (ctAt n ss j k)[i]? = some (ctRow n ss j k i) := by simp [ctAt, h]
theorem ct_cell {n : Nat} {ss : List ByteArray} {j k i c : Nat} (h : c < n) : (ctRow n ss j k i)[c]? = some (ctCell ss j k i c) := by simp [ctRow, h]
theorem ct_step {n : Nat} (hn : n ≤ 3) {ss : List ByteArray} {j k i : Nat} {ch : UInt8} (hch : (wl ss j)[k]? = some ch) (hi : ch.toNat = 97 + i) (hin : i < n) :
    (ctAt n ss j k).set i ((ctRow n ss j k i).set j (ctCell ss j k i j + 1)) = ctAt n ss j (k + 1) := by
  have htk : (wl ss j).take (k + 1) = (wl ss j).take k ++ [ch] := by rw [List.take_add_one, hch]; rfl
  have hother : ∀ p c, (c ≠ j ∨ p ≠ i) → p < 100 → ctCell ss j (k + 1) p c = ctCell ss j k p c := by
    intro p c hpc hp
    unfold ctCell
    by_cases h1 : c < j
    · rw [if_pos h1, if_pos h1]
    · rw [if_neg h1, if_neg h1]
      by_cases h2 : c = j
      · subst h2
        rw [if_pos rfl, if_pos rfl, htk, cnt_snoc, if_neg, Int.add_zero]
        intro e
        have := congrArg UInt8.toNat e
        rw [hi, UInt8.toNat_ofNat'] at this
        have hpi : p ≠ i := by rcases hpc with h | h; exact absurd rfl h; exact h
        have := ch.toNat_lt
        omega
      · rw [if_neg h2, if_neg h2]
  refine List.ext_getElem (by simp [ct_len]) fun p h1 h2 => ?_
  rw [ct_len] at h2
  have e2 : (ctAt n ss j (k + 1))[p] = ctRow n ss j (k + 1) p := by simp [ctAt]
  rw [List.getElem_set, e2]
  by_cases hp : i = p
  · subst hp
    rw [if_pos rfl]
    refine List.ext_getElem (by simp [ctRow_len]) fun c h3 h4 => ?_
    rw [ctRow_len] at h4
    have e4 : (ctRow n ss j (k + 1) i)[c] = ctCell ss j (k + 1) i c := by simp [ctRow]
    rw [List.getElem_set, e4]
    by_cases hc : j = c
    · subst hc
      rw [if_pos rfl]
      unfold ctCell
      have hce : ch = UInt8.ofNat (97 + i) := by rw [← hi]; simp
      rw [if_neg (Nat.lt_irrefl _), if_pos rfl, if_neg (Nat.lt_irrefl _), if_pos rfl, htk, cnt_snoc, if_pos hce]
    · rw [if_neg hc, hother i c (Or.inl (Ne.symm hc)) (by omega)]
      simp [ctRow]
  · rw [if_neg hp]
    have e5 : (ctAt n ss j k)[p]'(by rw [ct_len]; exact h2) = ctRow n ss j k p := by simp [ctAt]
    rw [e5]
    unfold ctRow
    exact List.map_congr_left fun c _ => (hother p c (Or.inr (Ne.symm hp)) (by omega)).symm
theorem ct_bd {n : Nat} {ss : List ByteArray} {j k i : Nat} : 0 ≤ ctCell ss j k i j ∧ ctCell ss j k i j ≤ (wl ss j).length := by
  unfold ctCell
  rw [if_neg (Nat.lt_irrefl _), if_pos rfl]
  have h := cnt_bd ((wl ss j).take k) (UInt8.ofNat (97 + i))
  have h2 : ((wl ss j).take k).length ≤ (wl ss j).length := by rw [List.length_take]; omega
  omega

theorem own_form {w : World} {base e n : Nat} {v : Value} {xs : List Value} (h : w.ownsRow base e 1 v n xs) (hn : 0 < n) : ∃ g cap, v = .slice (some ⟨g, 0, none⟩) n cap ∧ base ≤ g ∧ g < w.heap.size := by
  rcases h.2 with ⟨rfl, h0⟩ | ⟨g, cap, cur, rfl, hb, hg, _⟩
  · omega
  · exact ⟨g, cap, rfl, hb, (Array.getElem?_eq_some_iff.1 hg).1⟩

set_option maxHeartbeats 1000000 in
theorem impl_CountTable_c (a : Option Addr) (n cap : Nat) (ss : List ByteArray) (w : World) (hr : RowAt w a n (strVals ss)) (hs : ∀ t ∈ ss, t.size ≤ maxLen) :
    Calls Try.prog 16 #[.slice a n cap] w (GridPost (ctOf ss) w) := by
  have hl0 := hr.len
  have hlen := hid (show ss.length = n by simpa [strVals] using hl0)
  clear hl0
  by_cases hsub : isSubst ss = true
  · have HX := hid (show ctOf ss = ctAt n ss n 0 by rw [ctOf, if_pos hsub, hlen.out])
    have h23 := subst_len hsub
    have hn2 : 2 ≤ n := by have := hlen.out; omega
    have hn3 : n ≤ 3 := by have := hlen.out; omega
    clear h23
    obtain ⟨b, off, rfl, hb, hc⟩ := hr.at_ (by omega)
    have HC := hid hc
    clear hc
    go_enter Try.func16, Try.ntmps16
    go_wp2_with (first | (go_at_call 24; refine (impl_IsSubst_c _ _ _ ss _ hr hs).mono ?_; rintro e w' ⟨rfl, rfl⟩) | (go_at_call 59; refine (impl_zeros_c n _ (by omega)).mono ?_; rintro e w1 ⟨v, rfl, hgrid, hbel0⟩))
    rw [← ct_zero n ss] at hgrid
    have HG := hid hgrid
    clear hgrid
    go_loopw [15] (fun i wr => ∃ j : Nat, j ≤ n ∧ i = .int .i64 j ∧ TGrid 44 3 wr w.heap.size v (ctAt n ss j 0) ∧ Below w.heap.size w wr) (fun i _ => n - (intOf i).toNat)
    case atStart => exact ⟨0, by omega, rfl, HG.out, hbel0⟩
    case round =>
      obtain ⟨j, hj, rfl, hgr, hbel⟩ := hrel
      by_cases hlt : j < n
      · obtain ⟨s, hsj⟩ := get_some (l := ss) (n := j) (by rw [hlen.out]; exact hlt)
        have hcell0 := (hbel.cell (p := ⟨b, off + j, none⟩) hb).trans (HC.out j _ (strVals_get hsj))
        have hsw := subst_word hsub (List.mem_of_getElem? hsj)
        have hsz4 := hsw.2.1
        have hWL := hid (show wl ss j = s.data.toList by rw [wl, List.getD_eq_getElem?_getD, hsj]; rfl)
        have HLT := hid hsw.2.2
        have HGR := hid hgr
        clear hsw hsj hgr
        go_wp2
        go_loopw [22] (fun i wq => ∃ k : Nat, k ≤ s.size ∧ i = .int .i64 k ∧ TGrid 44 3 wq w.heap.size v (ctAt n ss j k) ∧ Below w.heap.size w wq) (fun i _ => s.size - (intOf i).toNat)
        case atStart => exact ⟨0, by omega, rfl, HGR.out, hbel⟩
        case round =>
          obtain ⟨k, hk, rfl, hgr, hbel⟩ := hrel
          by_cases hlt2 : k < s.size
          · obtain ⟨q, s2, hq, hqn, hs2, hw2, h4⟩ := subst_get hsub HLT.out (byte_at s k hlt2)
            rw [hlen.out] at hqn
            have hqi : (q : Int) < (n : Int) := by omega
            clear hs2 hw2 h4
            have hki : (k : Int) < (s.size : Int) := by omega
            obtain ⟨vs, ho, hrs⟩ := hgr
            rw [ct_len] at ho
            obtain ⟨x, hx⟩ := get_some (l := vs) (n := q) (by rw [ho.1]; omega)
            have hrow := hrs.own q x _ hx (ct_row hqn)
            rw [ctRow_len] at hrow
            obtain ⟨g, c2, rfl, hbg, hgl⟩ := own_form hrow (by omega)
            obtain ⟨gv, cv, rfl, hbv, hvl⟩ := own_form ho (by omega)
            have hcell1 := (ho.cellAt q (by omega)).trans hx
            have hcell2 := (hrow.cellAt j (by omega)).trans (intVals_get (ct_cell hlt))
            have hfr := hrow.frozenAt j
            have hcb := ct_bd (n := n) (ss := ss) (j := j) (k := k) (i := q)
            rw [hWL.out, size_list] at hcb
            have HST := hid (ct_step hn3 (by rw [hWL.out]; exact byte_at s k hlt2) hq hqn)
            have HRS := hid (hrs.stored (ct_row hqn) (by rw [ctRow_len]; exact hx) j (ctCell ss j k q j + 1))
            have HO := hid ho
            have HROW := hid hrow
            obtain ⟨u, hu⟩ : ∃ u, u = ctCell ss j k q j := ⟨_, rfl⟩
            rw [← hu] at hcell2 hcb
            have HU := hid hu
            clear hu hx hrs ho hrow hqn
            go_wp2
            go_roundw
            case rel =>
              have h1 := HRS.out
              rw [HST.out, ← HU.out] at h1
              exact ⟨k + 1, by omega, by go_num, ⟨vs, by rw [ct_len]; exact HO.out.kept h1.2 (owns_ne HO.out HROW.out (by decide)), h1.1⟩, hbel.grown h1.2 hbel.size (fun k hk => by cases hk; exact hbg)⟩
            case measure => simp [intOf]; omega
          · obtain rfl : k = s.size := by omega
            have HGQ := hid hgr
            clear hgr
            go_wp2
            go_roundw
            case rel => exact ⟨j + 1, by omega, by go_num, by rw [← ct_next, hWL.out, size_list]; exact HGQ.out, hbel⟩
            case measure => simp [intOf]; omega
      · obtain rfl : j = n := by omega
        go_wp2
        go_ret
        exact ⟨_, rfl, by rw [HX.out]; exact hgr, hbel⟩
  · have HX := hid (show ctOf ss = [] by rw [ctOf, if_neg hsub])
    have hsub2 : isSubst ss = false := by simpa using hsub
    clear hsub
    go_enter Try.func16, Try.ntmps16
    go_wp2_with (first | (go_at_call 24; refine (impl_IsSubst_c _ _ _ ss _ hr hs).mono ?_; rintro e w' ⟨rfl, rfl⟩))
    go_ret
    exact ⟨_, rfl, by rw [HX.out]; exact ⟨[], World.ownsRow_nil _ _ _ _, TRows.nil _ _ _⟩, Below.refl _ _⟩
set_option maxHeartbeats 1000000 in
theorem spec_CountTable_c (a : Option Addr) (n cap : Nat) (ss : List ByteArray) (w : World) (hr : RowAt w a n (strVals ss)) (hs : ∀ t ∈ ss, t.size ≤ maxLen) :
    Calls Try.prog 20 #[.slice a n cap] w (GridPost (ctOf ss) w) := by
  have hl0 := hr.len
  have hlen := hid (show ss.length = n by simpa [strVals] using hl0)
  clear hl0
  by_cases hsub : isSubst ss = true
  · have HX := hid (show ctOf ss = ctAt n ss n 0 by rw [ctOf, if_pos hsub, hlen.out])
    have h23 := subst_len hsub
    have hn2 : 2 ≤ n := by have := hlen.out; omega
    have hn3 : n ≤ 3 := by have := hlen.out; omega
    clear h23
    obtain ⟨b, off, rfl, hb, hc⟩ := hr.at_ (by omega)
    have HC := hid hc
    clear hc
    go_enter Try.func20, Try.ntmps20
    go_wp2_with (first | (go_at_call 25; refine (spec_IsSubst_c _ _ _ ss _ hr hs).mono ?_; rintro e w' ⟨rfl, rfl⟩) | (go_at_call 62; refine (spec_l4Zero_c n n _ (by omega) (by omega)).mono ?_; rintro e w1 ⟨v, rfl, hgrid, hbel0⟩))
    rw [← ct_zero n ss] at hgrid
    have HG := hid hgrid
    clear hgrid
    go_loopw [4] (fun i wr => ∃ j : Nat, j ≤ n ∧ i = .int .i64 j ∧ TGrid 44 3 wr w.heap.size v (ctAt n ss j 0) ∧ Below w.heap.size w wr) (fun i _ => n - (intOf i).toNat)
    case atStart => exact ⟨0, by omega, rfl, HG.out, hbel0⟩
    case round =>
      obtain ⟨j, hj, rfl, hgr, hbel⟩ := hrel
      by_cases hlt : j < n
      · obtain ⟨s, hsj⟩ := get_some (l := ss) (n := j) (by rw [hlen.out]; exact hlt)
        have hcell0 := (hbel.cell (p := ⟨b, off + j, none⟩) hb).trans (HC.out j _ (strVals_get hsj))
        have hsw := subst_word hsub (List.mem_of_getElem? hsj)
        have hsz4 := hsw.2.1
        have hWL := hid (show wl ss j = s.data.toList by rw [wl, List.getD_eq_getElem?_getD, hsj]; rfl)
        have HLT := hid hsw.2.2
        have HGR := hid hgr
        have HC0 := hid (HC.out j _ (strVals_get hsj))
        clear hsw hsj hgr
        go_wp2
        go_loopw [5] (fun i wq => ∃ k : Nat, k ≤ s.size ∧ i = .int .i64 k ∧ TGrid 44 3 wq w.heap.size v (ctAt n ss j k) ∧ Below w.heap.size w wq) (fun i _ => s.size - (intOf i).toNat)
        case atStart => exact ⟨0, by omega, rfl, HGR.out, hbel⟩
        case round =>
          obtain ⟨k, hk, rfl, hgr, hbel⟩ := hrel
          have hcell0 := (hbel.cell (p := ⟨b, off + j, none⟩) hb).trans HC0.out
          by_cases hlt2 : k < s.size
          · obtain ⟨q, s2, hq, hqn, hs2, hw2, h4⟩ := subst_get hsub HLT.out (byte_at s k hlt2)
            rw [hlen.out] at hqn
            have hqi : (q : Int) < (n : Int) := by omega
            clear hs2 hw2 h4
            have hki : (k : Int) < (s.size : Int) := by omega
            obtain ⟨vs, ho, hrs⟩ := hgr
            rw [ct_len] at ho
            obtain ⟨x, hx⟩ := get_some (l := vs) (n := q) (by rw [ho.1]; omega)
            have hrow := hrs.own q x _ hx (ct_row hqn)
            rw [ctRow_len] at hrow
            obtain ⟨g, c2, rfl, hbg, hgl⟩ := own_form hrow (by omega)
            obtain ⟨gv, cv, rfl, hbv, hvl⟩ := own_form ho (by omega)
            have hcell1 := (ho.cellAt q (by omega)).trans hx
            have hcell2 := (hrow.cellAt j (by omega)).trans (intVals_get (ct_cell hlt))
            have hfr := hrow.frozenAt j
            have hcb := ct_bd (n := n) (ss := ss) (j := j) (k := k) (i := q)
            rw [hWL.out, size_list] at hcb
            have HST := hid (ct_step hn3 (by rw [hWL.out]; exact byte_at s k hlt2) hq hqn)
            have HRS := hid (hrs.stored (ct_row hqn) (by rw [ctRow_len]; exact hx) j (ctCell ss j k q j + 1))
            have HO := hid ho
            have HROW := hid hrow
            obtain ⟨u, hu⟩ : ∃ u, u = ctCell ss j k q j := ⟨_, rfl⟩
            rw [← hu] at hcell2 hcb
            have HU := hid hu
            clear hu hx hrs ho hrow hqn
            go_wp2
            go_region
            all_goals
              go_wp2
            go_roundw
            case rel =>
              have h1 := HRS.out
              rw [HST.out, ← HU.out] at h1
              have hgd : TGrid 44 3 (wr.setCell ⟨g, j, none⟩ (.int .i64 (u + 1))) w.heap.size (.slice (some ⟨gv, 0, none⟩) n cv) (ctAt n ss j (k + 1)) := ⟨vs, by rw [ct_len]; exact HO.out.kept h1.2 (owns_ne HO.out HROW.out (by decide)), h1.1⟩
              have hb1 : Below w.heap.size w (wr.setCell ⟨g, j, none⟩ (.int .i64 (u + 1))) := hbel.grown h1.2 hbel.size (fun k hk => by cases hk; exact hbg)
              exact ⟨k + 1, by omega, by go_num, hgd.below (Below.refl _ _).drew, hb1.drew⟩
            case measure => simp [intOf]; omega
          · obtain rfl : k = s.size := by omega
            have HGQ := hid hgr
            clear hgr
            go_wp2
            go_roundw
            case rel => exact ⟨j + 1, by omega, by go_num, by rw [← ct_next, hWL.out, size_list]; exact HGQ.out, hbel⟩
            case measure => simp [intOf]; omega
      · obtain rfl : j = n := by omega
        go_wp2
        go_ret
        exact ⟨_, rfl, by rw [HX.out]; exact hgr, hbel⟩
  · have HX := hid (show ctOf ss = [] by rw [ctOf, if_neg hsub])
    have hsub2 : isSubst ss = false := by simpa using hsub
    clear hsub
    go_enter Try.func20, Try.ntmps20
    go_wp2_with (first | (go_at_call 25; refine (spec_IsSubst_c _ _ _ ss _ hr hs).mono ?_; rintro e w' ⟨rfl, rfl⟩))
    go_ret
    exact ⟨_, rfl, by rw [HX.out]; exact ⟨[], owns_lit3 #[] _ rfl (Nat.le_refl _) (by unfold maxLen; simp), TRows.nil _ _ _⟩, (Below.refl _ _).alloc (Nat.le_refl _) _⟩
end Go.Proofs.Ytcfjchaklgjmkaa
