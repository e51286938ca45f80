/- LengthAfter of the program. Conditions: sizes within the reach. -/
import Derived.Test.YtcfjchaklgjmkaaLen
import Derived.Test.YtcfjchaklgjmkaaOpen
import Derived.Test.YtcfjchaklgjmkaaTab
namespace Go.Proofs.Ytcfjchaklgjmkaa
open Go.RowKit

def partRow (f : Nat → Int) (n j : Nat) : List Int := (List.range n).map fun i => if i < j then f i else 0
theorem partRow_len (f : Nat → Int) (n j : Nat) : (partRow f n j).length = n := by simp [partRow]
theorem partRow_zero (f : Nat → Int) (n : Nat) : partRow f n 0 = List.replicate n 0 := by
  refine List.ext_getElem (by simp [partRow]) fun i h1 h2 => by simp [partRow]
theorem partRow_step (f : Nat → Int) {n j : Nat} (h : j < n) : (intVals (partRow f n j)).set j (.int .i64 (f j)) = intVals (partRow f n (j + 1)) := by
  have : (intVals (partRow f n j)).set j (.int .i64 (f j)) = intVals ((partRow f n j).set j (f j)) := by simp [intVals, List.map_set]
  rw [this]
  congr 1
  refine List.ext_getElem (by simp [partRow]) fun i h1 h2 => ?_
  rw [List.getElem_set]
  by_cases hi : j = i
  · subst hi; simp [partRow]
  · rw [if_neg hi]
    simp only [partRow, List.getElem_map, List.getElem_range]
    by_cases h3 : i < j
    · rw [if_pos h3, if_pos (by omega)]
    · rw [if_neg h3, if_neg (by omega)]
def vecRow (f : Nat → Int) (n : Nat) : List Int := (List.range n).map f
theorem vecRow_len (f : Nat → Int) (n : Nat) : (vecRow f n).length = n := by simp [vecRow]
theorem partRow_all (f : Nat → Int) (n : Nat) : partRow f n n = vecRow f n := List.map_congr_left fun i hi => by rw [if_pos (List.mem_range.1 hi)]
theorem vecRow_at (f : Nat → Int) {n i : Nat} (h : i < n) : at0 (vecRow f n) i = f i := at0_get (by simp [vecRow, h])
theorem unit_row {n x : Nat} (h : x < n) : (intVals (List.replicate n 0)).set x (.int .i64 1) = intVals (vecRow (fun i => if i = x then 1 else 0) n) := by
  have : (intVals (List.replicate n 0)).set x (.int .i64 1) = intVals ((List.replicate n 0).set x 1) := by simp [intVals, List.map_set]
  rw [this]
  congr 1
  refine List.ext_getElem (by simp [vecRow]) fun i h1 h2 => ?_
  rw [List.getElem_set]
  simp only [vecRow, List.getElem_map, List.getElem_range, List.getElem_replicate]
  by_cases hi : x = i
  · rw [if_pos hi, if_pos hi.symm]
  · rw [if_neg hi, if_neg (Ne.symm hi)]
theorem unit_sum {n x : Nat} : sumTo (fun i => if i = x then (1 : Int) else 0) n ≤ 1 ∧ (n ≤ x → sumTo (fun i => if i = x then (1 : Int) else 0) n = 0) := by
  induction n with
  | zero => exact ⟨by show (0 : Int) ≤ 1; decide, fun _ => rfl⟩
  | succ n ih =>
    simp only [sumTo]
    by_cases h : n = x
    · rw [if_pos h, ih.2 (by omega)]
      exact ⟨by decide, fun h2 => by omega⟩
    · rw [if_neg h]
      exact ⟨by have := ih.1; omega, fun h2 => by rw [ih.2 (by omega)]; rfl⟩

theorem ct_rows {ss : List ByteArray} (h : isSubst ss = true) {r : List Int} (hr : r ∈ ctOf ss) : r.length = ss.length := by
  rw [ctOf, if_pos h] at hr
  simp only [ctAt, List.mem_map, List.mem_range] at hr
  obtain ⟨i, _, rfl⟩ := hr
  exact ctRow_len ..

set_option maxHeartbeats 1000000 in
theorem impl_CountTable_nil (a : Option Addr) (n cap : Nat) (ss : List ByteArray) (w : World) (hr : RowAt w a n (strVals ss)) (hs : ∀ t ∈ ss, t.size ≤ maxLen) (hsub2 : isSubst ss = false) :
    Calls Try.prog 16 #[.slice a n cap] w fun e w' => e = .returned (.slice none 0 0) ∧ w = w' := by
  go_enter Try.func16, Try.ntmps16
  go_wp2_with (first | (go_at_call 24; refine (impl_IsSubst_c _ _ _ ss _ hr hs).mono ?_; rintro e w' ⟨rfl, rfl⟩))
  go_ret
  exact ⟨rfl, rfl⟩

set_option maxHeartbeats 2000000 in
set_option maxRecDepth 100000 in
theorem impl_LengthAfter_c (a : Option Addr) (n cap : Nat) (ss : List ByteArray) (x m : Int) (w : World) (hr : RowAt w a n (strVals ss)) (hs : ∀ t ∈ ss, t.size ≤ maxLen) :
    Calls Try.prog 18 #[.slice a n cap, .int .i64 x, .int .i64 m] w fun e w' => e = .returned (.int .i64 (lenOf ss x m)) ∧ Below w.heap.size w w' := by
  have hlen := hid (show ss.length = n by simpa [strVals] using hr.len)
  have hlim := hr.lim
  by_cases hsub : isSubst ss = true
  · have h23 := subst_len hsub
    have hn2 : 2 ≤ n := by have := hlen.out; omega
    have hn3 : n ≤ 3 := by have := hlen.out; omega
    have HRL := hid (show (ctOf ss).length = n by rw [ctOf, if_pos hsub, ct_len, hlen.out])
    have HF := hid (ct_facts hsub)
    clear h23
    by_cases hx : 0 ≤ x ∧ x < n
    · obtain ⟨hx0, hxn⟩ := hx
      obtain ⟨xx, rfl⟩ : ∃ xx : Nat, x = xx := ⟨x.toNat, by omega⟩
      by_cases hm : 0 ≤ m ∧ m ≤ 20
      · obtain ⟨hm0, hm20⟩ := hm
        obtain ⟨mm, rfl⟩ : ∃ mm : Nat, m = mm := ⟨m.toNat, by omega⟩
        obtain ⟨ti, hi, hz, hz1, hz2⟩ := info_parts infoIntZ
        go_enter Try.func18, Try.ntmps18
        go_wp2_with fail
        refine (impl_CountTable_c a n cap ss _ hr hs).mono ?_
        rintro e w1 ⟨v1, rfl, hg1, hb1⟩
        obtain ⟨vs, hog, hrsg⟩ := id hg1
        rw [HRL.out] at hog
        obtain ⟨gv, cv, rfl, hbv, hvl⟩ := own_form hog (by omega)
        have HG1 := hid hg1
        clear hog hrsg hg1
        have hnil := fun w : World => Lib.run_eql_slice_nil (P := Try.prog) w 36 44 (some ⟨gv, 0, none⟩) n cv 0 0 Try.underlying36
        have hxi : ¬ ((xx : Int) < 0) := by omega
        have hxn2 : ¬ ((n : Int) ≤ (xx : Int)) := by omega
        go_wp2_with (first | (at_make; refine wpList_make_full _ rfl _ _ 44 rfl w.heap.size 3 ti (.int .i64 0) 1 Try.underlying44 hi hz hz1 .i64 .i64 _ _ n rfl rfl rfl rfl (by rw [hz2]; omega) (by unfold maxLen; omega) hb1.size ?_; intro w2 hown2 hgr2; rw [made_zeros] at hown2; have hfr2 := hown2.frozenAt xx; have hcl2 := (hown2.cellAt xx (by omega)).trans (intVals_get (s := 0) (by rw [List.getElem?_replicate, if_pos (by omega)]))))
        have hst2 := hown2.stored xx (.int .i64 1)
        rw [unit_row (by omega)] at hst2
        have HST2 := hid hst2
        have hb2 : Below w.heap.size w w2 := hb1.grown hgr2 hb1.size (by intro k h; cases h)
        have HG2 := hid (HG1.out.grown hgr2 (by intro k h; cases h))
        clear hst2 hown2
        go_wp2
        have HF0 := hid HF.out
        rw [hlen.out] at HF0
        obtain ⟨vv, hvv⟩ : ∃ vv : Nat → Nat → Int, vv = upon (at2 (ctOf ss)) n (fun i => if i = xx then 1 else 0) := ⟨_, rfl⟩
        have HVV := hid hvv
        have HBD := hid (upon_bd (c := 4) (fun i j hi hj => (HF0.out.1 i j hi hj).1) HF0.out.2 (v := fun i => if i = xx then 1 else 0) (fun i _ => by split <;> decide) unit_sum.1)
        rw [← hvv] at HBD
        clear hvv
        go_loopw [8, 41] (fun q k wr => ∃ (kk : Nat) (v8 : Value), kk ≤ mm ∧ k = .int .i64 kk ∧ q = v8 ∧ wr.ownsRow w.heap.size 3 1 v8 n (intVals (vecRow (vv kk) n)) ∧ TGrid 44 3 wr w.heap.size (.slice (some ⟨gv, 0, none⟩) n cv) (ctOf ss) ∧ Below w.heap.size w wr) (fun _ k _ => mm - (intOf k).toNat)
        case atStart =>
          refine ⟨0, _, by omega, rfl, rfl, by rw [HVV.out]; exact HST2.out.1, ?_, hb2.grown HST2.out.2 hb2.size (by intro k h; cases h; exact hb1.size)⟩
          have hb12 : Below w1.heap.size w1 w2 := (Below.refl _ _).grown hgr2 (Nat.le_refl _) (by intro k h; cases h)
          exact HG1.out.below (hb12.grown HST2.out.2 hb12.size (by intro k h; cases h; exact Nat.le_refl _))
        case round =>
          obtain ⟨kk, v8, hk, rfl, rfl, hown, hgr, hbel⟩ := hrel
          obtain ⟨g8, c8, rfl, hb8, hl8⟩ := own_form hown (by omega)
          by_cases hlt : kk < mm
          · have HGR := hid hgr
            have HOWN := hid hown
            have HROWS := hid (fun r (hr : r ∈ ctOf ss) => (ct_rows hsub hr).trans hlen.out)
            have HB1 := hid (HBD.out kk)
            obtain ⟨ta, tc, hta, htab⟩ := grid_tabAt hgr (by rw [HRL.out]; omega) (fun r hr => by rw [HROWS.out r hr]; omega)
            rw [HRL.out] at hta htab
            simp only [Value.slice.injEq, true_and] at hta
            obtain ⟨rfl, rfl⟩ := hta
            have HTAB := hid htab
            obtain ⟨va, vc, hva, hvec⟩ := owns_rowAt hown hlim
            simp only [Value.slice.injEq, true_and] at hva
            obtain ⟨rfl, rfl⟩ := hva
            have HVEC := hid hvec
            have HSTEP := hid (show ∀ i, vv (kk + 1) i = sumTo (fun j => at2 (ctOf ss) i j * vv kk j) n from fun i => by rw [HVV.out]; rfl)
            have HB8 := hid (show ∀ k, k < n → 0 ≤ at0 (vecRow (vv kk) n) k ∧ at0 (vecRow (vv kk) n) k ≤ 1099511627776 from fun k hk => by
              obtain ⟨i1, i2⟩ := HB1.out
              have hp4 : ((4 ^ kk : Nat) : Int) ≤ 1099511627776 := by
                have := Nat.pow_le_pow_right (n := 4) (by decide) (show kk ≤ 20 by omega)
                have e : 4 ^ 20 = 1099511627776 := by decide
                omega
              rw [vecRow_at _ hk]
              exact ⟨i1 k hk, Int.le_trans (sumTo_one i1 hk) (Int.le_trans i2 hp4)⟩)
            clear hgr hown htab hvec
            obtain ⟨wo, rfl⟩ : ∃ wo : World, wo = wr := ⟨_, rfl⟩
            go_wp2_with (first | (at_make; refine wpList_make_full _ rfl _ _ 44 rfl wo.heap.size 3 ti (.int .i64 0) 1 Try.underlying44 hi hz hz1 .i64 .i64 _ _ n rfl rfl rfl rfl (by rw [hz2]; omega) (by unfold maxLen; omega) (Nat.le_refl _) ?_; intro w3 hown3 hgr3; rw [made_zeros] at hown3))
            have hb3 : Below wo.heap.size wo w3 := (Below.refl _ _).grown hgr3 (Nat.le_refl _) (by intro k h; cases h)
            have HOWN3 := hid hown3
            clear hown3 hgr3
            go_loopw [48] (fun i wq => ∃ j : Nat, j ≤ n ∧ i = .int .i64 j ∧ wq.ownsRow wo.heap.size 3 1 (.slice (some ⟨wo.heap.size, 0, none⟩) n n) n (intVals (partRow (vv (kk + 1)) n j)) ∧ Below wo.heap.size wo wq) (fun i _ => n - (intOf i).toNat)
            case atStart => exact ⟨0, by omega, rfl, by rw [partRow_zero]; exact HOWN3.out, hb3⟩
            case round =>
              obtain ⟨j, hj, rfl, hownj, hbelj⟩ := hrel
              by_cases hltj : j < n
              · obtain ⟨r, hr⟩ := get_some (l := ctOf ss) (n := j) (by rw [HRL.out]; exact hltj)
                obtain ⟨b1, off1, a1, c1, he1, hb1', hcell1, hrow1⟩ := tab_row HTAB.out hltj hr
                simp only [Option.some.injEq, Addr.mk.injEq, and_true] at he1
                obtain ⟨rfl, rfl⟩ := he1
                rw [Nat.zero_add] at hcell1
                have hcell := (hbelj.cell (p := ⟨gv, j, none⟩) hb1').trans hcell1
                rw [HROWS.out r (List.mem_of_getElem? hr)] at hcell hrow1
                have HR1 := hid (hrow1.below hbelj (Nat.le_refl _))
                have HV1 := hid (HVEC.out.below hbelj (Nat.le_refl _))
                have HX1 := hid (show ∀ k, k < n → 0 ≤ at0 r k ∧ at0 r k ≤ 4 from fun k hk => by
                  have := HF.out.1 j k (by rw [hlen.out]; exact hltj) (by rw [hlen.out]; exact hk)
                  rwa [at2_row hr] at this)
                have HE := hid (show sumTo (fun k => at0 r k * at0 (vecRow (vv kk) n) k) n = vv (kk + 1) j by
                  rw [HSTEP.out]
                  exact sumTo_congr fun k hk => by rw [vecRow_at _ hk, at2_row hr])
                obtain ⟨u, hu⟩ := get_some (l := intVals (partRow (vv (kk + 1)) n j)) (n := j) (by rw [hownj.1]; omega)
                have hcellu : wr.cell? ⟨wo.heap.size, j, none⟩ = some u := (hownj.cellAt j (by omega)).trans hu
                have hfru := hownj.frozenAt j
                have HJ := hid hownj
                clear hr hrow1 hu hownj hcell1
                go_wp2_with fail
                refine (impl_weighed_c a1 (some ⟨g8, 0, none⟩) n n c1 c8 r (vecRow (vv kk) n) 4 1099511627776 _ HR1.out HV1.out (Nat.le_refl _) HX1.out HB8.out (by omega)).mono ?_
                rintro e w' ⟨rfl, rfl⟩
                rw [HE.out]
                go_wp2
                go_roundw
                case rel =>
                  have hst := HJ.out.stored j (.int .i64 (vv (kk + 1) j))
                  rw [partRow_step _ hltj] at hst
                  exact ⟨j + 1, by omega, by go_num, hst.1, hbelj.grown hst.2 hbelj.size (by rintro k ⟨⟩; exact Nat.le_refl _)⟩
                case measure => simp [intOf]; omega
              · obtain rfl : j = n := by omega
                have HJ := hid hownj
                clear hownj
                go_wp2
                go_roundw
                case rel =>
                  have ho := HJ.out
                  rw [partRow_all] at ho
                  exact ⟨kk + 1, _, by omega, by go_num, rfl, owns_base ho hbel.size, HGR.out.below hbelj, hbel.trans (hbelj.mono hbel.size)⟩
                case measure => simp [intOf]; omega
          · obtain rfl : kk = mm := by omega
            obtain ⟨a8, q8, hv8, hr8⟩ := owns_rowAt hown hlim
            simp only [Value.slice.injEq, true_and] at hv8
            obtain ⟨rfl, rfl⟩ := hv8
            obtain ⟨i1, i2⟩ := HBD.out kk
            have hp4 : ((4 ^ kk : Nat) : Int) ≤ 1099511627776 := by
              have := Nat.pow_le_pow_right (n := 4) (by decide) (show kk ≤ 20 by omega)
              have e : 4 ^ 20 = 1099511627776 := by decide
              omega
            have HB8 := hid (show ∀ k, k < n → 0 ≤ at0 (vecRow (vv kk) n) k ∧ at0 (vecRow (vv kk) n) k ≤ 1099511627776 from fun k hk => by
              rw [vecRow_at _ hk]
              exact ⟨i1 k hk, Int.le_trans (sumTo_one i1 hk) (Int.le_trans i2 hp4)⟩)
            have HT := hid (show sumTo (at0 (vecRow (vv kk) n)) n = rowsOf (at2 (ctOf ss)) n kk xx by
              rw [sumTo_congr (fun i hi => vecRow_at (vv kk) hi), HVV.out]
              exact upon_unit _ (by omega) kk)
            have hnn := sumTo_nonneg i1
            have HY := hid (show lenOf ss xx kk = (if rowsOf (at2 (ctOf ss)) n kk xx ≤ 1000000 then rowsOf (at2 (ctOf ss)) n kk xx else -1) by
              rw [lenOf, if_pos ⟨hsub, by rw [hlen.out]; omega, by omega⟩, Int.toNat_natCast, Int.toNat_natCast, hlen.out])
            clear i1 i2 hp4 hnn
            have HR8 := hid hr8
            go_wp2_with fail
            refine (impl_total_c _ n _ (vecRow (vv kk) n) 1099511627776 _ HR8.out HB8.out (by omega)).mono ?_
            rintro e w' ⟨rfl, rfl⟩
            rw [HT.out]
            obtain ⟨t, ht⟩ : ∃ t, t = rowsOf (at2 (ctOf ss)) n kk xx := ⟨_, rfl⟩
            rw [← ht]
            have HTT := hid ht
            clear ht
            by_cases hbig : t ≤ 1000000
            · have hb2 : ¬ ((1000000 : Int) < t) := by omega
              go_wp2_with fail
              refine (impl_total_c _ n _ (vecRow (vv kk) n) 1099511627776 _ HR8.out HB8.out (by omega)).mono ?_
              rintro e w' ⟨rfl, rfl⟩
              rw [HT.out, ← HTT.out]
              go_wp2
              go_ret
              refine ⟨?_, hbel⟩
              show Ending.returned (Value.int .i64 t) = _
              rw [HY.out, ← HTT.out, if_pos hbig]
            · have hb2 : (1000000 : Int) < t := by omega
              go_wp2
              go_ret
              refine ⟨?_, hbel⟩
              show Ending.returned (Value.int .i64 (-1)) = _
              rw [HY.out, ← HTT.out, if_neg (by omega)]
      · have HX := hid (show lenOf ss xx m = -1 by rw [lenOf, if_neg]; exact fun h => hm h.2.2)
        have hmo : m < 0 ∨ 20 < m := by omega
        clear hm
        rcases hmo with hmo | hmo
        all_goals
          go_enter Try.func18, Try.ntmps18
          go_wp2_with fail
          refine (impl_CountTable_c a n cap ss _ hr hs).mono ?_
          rintro e w1 ⟨v1, rfl, hg1, hb1⟩
          obtain ⟨vs, hog, hrsg⟩ := hg1
          rw [HRL.out] at hog
          obtain ⟨gv, cv, rfl, hbv, hvl⟩ := own_form hog (by omega)
          clear hog hrsg
          have hnil := fun w : World => Lib.run_eql_slice_nil (P := Try.prog) w 36 44 (some ⟨gv, 0, none⟩) n cv 0 0 Try.underlying36
          go_wp2
          go_ret
          exact ⟨by rw [HX.out]; rfl, hb1⟩
    · have HX := hid (show lenOf ss x m = -1 by rw [lenOf, if_neg]; rw [hlen.out]; exact fun h => hx h.2.1)
      have hxo : x < 0 ∨ (n : Int) ≤ x := by omega
      clear hx
      rcases hxo with hxo | hxo
      all_goals
        go_enter Try.func18, Try.ntmps18
        go_wp2_with fail
        refine (impl_CountTable_c a n cap ss _ hr hs).mono ?_
        rintro e w1 ⟨v1, rfl, hg1, hb1⟩
        obtain ⟨vs, hog, hrsg⟩ := hg1
        rw [HRL.out] at hog
        obtain ⟨gv, cv, rfl, hbv, hvl⟩ := own_form hog (by omega)
        clear hog hrsg
        have hnil := fun w : World => Lib.run_eql_slice_nil (P := Try.prog) w 36 44 (some ⟨gv, 0, none⟩) n cv 0 0 Try.underlying36
        go_wp2
        go_ret
        exact ⟨by rw [HX.out]; rfl, hb1⟩
  · have HX := hid (show lenOf ss x m = -1 by rw [lenOf, if_neg]; exact fun h => hsub h.1)
    have hsub2 : isSubst ss = false := by simpa using hsub
    clear hsub
    have hnil := fun w : World => Lib.run_eql_slice_nil (P := Try.prog) w 36 44 none 0 0 0 0 Try.underlying36
    go_enter Try.func18, Try.ntmps18
    go_wp2_with fail
    refine (impl_CountTable_nil a n cap ss _ hr hs hsub2).mono ?_
    rintro e w1 ⟨rfl, rfl⟩
    go_wp2
    go_ret
    exact ⟨by rw [HX.out]; rfl, Below.refl _ _⟩
end Go.Proofs.Ytcfjchaklgjmkaa
