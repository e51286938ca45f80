/- LengthAfter of the reference. Conditions: sizes within the reach. -/
import Derived.Test.YtcfjchaklgjmkaaLenImpl
import Derived.Test.YtcfjchaklgjmkaaBal
namespace Go.Proofs.Ytcfjchaklgjmkaa
open Go.RowKit

theorem vecRow_get (f : Nat → Int) {n i : Nat} (h : i < n) : (vecRow f n)[i]? = some (f i) := by simp [vecRow, h]
theorem rep_one (n : Nat) : List.replicate n (1 : Int) = vecRow (fun _ => 1) n := by
  refine List.ext_getElem (by simp [vecRow]) fun i h1 h2 => by simp [vecRow]
def capRow (f : Nat → Int) (T : Int) (n j : Nat) : List Int := (List.range n).map fun i => if i < j then min (f i) T else f i
theorem capRow_len (f : Nat → Int) (T : Int) (n j : Nat) : (capRow f T n j).length = n := by simp [capRow]
theorem capRow_zero (f : Nat → Int) (T : Int) (n : Nat) : capRow f T n 0 = vecRow f n := List.map_congr_left fun i _ => by rw [if_neg (Nat.not_lt_zero _)]
theorem capRow_all (f : Nat → Int) (T : Int) (n : Nat) : capRow f T n n = vecRow (fun i => min (f i) T) n := List.map_congr_left fun i hi => by rw [if_pos (List.mem_range.1 hi)]
theorem capRow_at (f : Nat → Int) (T : Int) {n j : Nat} (h : j < n) : (capRow f T n j)[j]? = some (f j) := by simp [capRow, h]
theorem capRow_step (f : Nat → Int) (T : Int) {n j : Nat} (h : j < n) : (intVals (capRow f T n j)).set j (.int .i64 (min (f j) T)) = intVals (capRow f T n (j + 1)) := by
  have : (intVals (capRow f T n j)).set j (.int .i64 (min (f j) T)) = intVals ((capRow f T n j).set j (min (f j) T)) := by simp [intVals, List.map_set]
  rw [this]
  congr 1
  refine List.ext_getElem (by simp [capRow]) fun i h1 h2 => ?_
  rw [List.getElem_set]
  by_cases hi : j = i
  · subst hi; simp [capRow]
  · rw [if_neg hi]
    simp only [capRow, List.getElem_map, List.getElem_range]
    by_cases h3 : i < j
    · rw [if_pos h3, if_pos (by omega)]
    · rw [if_neg h3, if_neg (by omega)]
/-- A table of one row, just made. -/
theorem tab_one (w : World) (T : TypeId) (a : Option Addr) (n c : Nat) (r : List Int) (hr : RowAt w a n (intVals r)) (hl : r.length = n) :
    TabAt (w.alloc (.cells #[.slice a n c] T)) (some ⟨w.heap.size, 0, none⟩) 1 [r] := by
  have hb : Below w.heap.size w (w.alloc (.cells #[.slice a n c] T)) := (Below.refl _ _).alloc (Nat.le_refl _) _
  refine ⟨[.slice a n c], ⟨rfl, by omega, fun _ => ⟨_, 0, rfl, by simp, fun k y hk => ?_⟩⟩, rfl, fun i x q hx hq => ?_⟩
  · match k, hk with
    | 0, hk =>
      simp only [List.getElem?_cons_zero, Option.some.injEq] at hk
      rw [← hk, World.cell?_alloc_at _ _ _ _ rfl]; rfl
  · match i, hx, hq with
    | 0, hx, hq =>
      simp only [List.getElem?_cons_zero, Option.some.injEq] at hx hq
      subst hx hq
      exact ⟨a, c, by rw [hl], by rw [hl]; exact hr.below hb (Nat.le_refl _)⟩
theorem capped_bd {M : Nat → Nat → Int} {n : Nat} (hM : ∀ i j, i < n → j < n → 0 ≤ M i j) (k j : Nat) (hj : j < n) : 0 ≤ capped M n 1000001 k j ∧ capped M n 1000001 k j ≤ 1000001 := by
  rw [capped_eq (by decide) hM k j hj]
  have := rows_nonneg hM k j hj
  omega
theorem muOf_one (f : Nat → Int) (B : List (List Int)) (n : Nat) (hB : B.length = n) : muOf [vecRow f n] B n = [vecRow (fun q => sumTo (fun t => f t * at2 B t q) n) n] := by
  unfold muOf
  rw [hB]
  simp only [List.length_singleton, List.range_one, List.map_cons, List.map_nil]
  congr 1
  refine List.map_congr_left fun q _ => ?_
  unfold mulTo
  exact sumTo_congr fun t ht => by rw [at2_row (r := vecRow f n) rfl, vecRow_at _ ht]

set_option maxHeartbeats 4000000 in
set_option maxRecDepth 100000 in
theorem spec_LengthAfter_c (a : Option Addr) (n cap : Nat) (ss : List ByteArray) (x m : Int) (w : World) (hr : RowAt w a n (strVals ss)) (hs : ∀ t ∈ ss, t.size ≤ maxLen) :
    Calls Try.prog 21 #[.slice a n cap, .int .i64 x, .int .i64 m] w fun e w' => e = .returned (.int .i64 (lenOf ss x m)) ∧ Below w.heap.size w w' := by
  have hlen := hid (show ss.length = n by simpa [strVals] using hr.len)
  have hlim := hr.lim
  by_cases hsub : isSubst ss = true
  · have h23 := subst_len hsub
    have hn2 : 2 ≤ n := by have := hlen.out; omega
    have hn3 : n ≤ 3 := by have := hlen.out; omega
    have HRL := hid (show (ctOf ss).length = n by rw [ctOf, if_pos hsub, ct_len, hlen.out])
    have HF := hid (ct_facts hsub)
    rw [hlen.out] at HF
    have HSUB := hid hsub
    clear h23
    by_cases hx : 0 ≤ x ∧ x ≤ (n : Int) - 1
    · have hinx := inB_t hx
      obtain ⟨hx0, hxn⟩ := hx
      obtain ⟨xx, rfl⟩ : ∃ xx : Nat, x = xx := ⟨x.toNat, by omega⟩
      by_cases hm : 0 ≤ m ∧ m ≤ 20
      · have hinm := inB_t hm
        obtain ⟨hm0, hm20⟩ := hm
        obtain ⟨mm, rfl⟩ : ∃ mm : Nat, m = mm := ⟨m.toNat, by omega⟩
        have hxi : (xx : Int) < (n : Int) := by omega
        go_enter Try.func21, Try.ntmps21
        go_wp2_with (first | (go_at_call 25; refine (spec_IsSubst_c _ _ _ ss _ hr hs).mono ?_; rintro e w' ⟨rfl, rfl⟩) | (go_at_call 57; refine (l1In_c _ _ _ _).mono ?_; rintro e w' ⟨rfl, rfl⟩))
        clear hsub
        go_loopw [7, 8] (fun v i wr => ∃ j : Nat, j ≤ n ∧ i = .int .i64 j ∧ wr.ownsRow w.heap.size 3 1 v j (intVals (List.replicate j 1)) ∧ Below w.heap.size w wr) (fun _ i _ => n - (intOf i).toNat)
        case atStart => exact ⟨0, by omega, rfl, owns_lit3 #[] _ rfl (Nat.le_refl _) (by unfold maxLen; simp), (Below.refl _ _).alloc (Nat.le_refl _) _⟩
        case round =>
          obtain ⟨j, hj, rfl, hown, hbel⟩ := hrel
          by_cases hlt : j < n
          · go_wp2_with (first | (at_builtin; go_must (refine wpList_app1 rfl _ _ 44 rfl w.heap.size 3 (.int .i64 0) 8 Try.underlying44 infoIntZ rfl _ j (intVals (List.replicate j 1)) _ hown rfl rfl rfl (by omega) (by unfold maxLen; omega) hbel hbel.size ?_); intro v' w1 hown' hbel'))
            go_roundw
            case rel => exact ⟨j + 1, by omega, by go_num, by rw [List.replicate_succ']; simpa [intVals] using hown', hbel'⟩
            case measure => simp [intOf]; omega
          · obtain rfl : j = n := by omega
            rw [rep_one] at hown
            have HO := hid hown
            have hr1 := hr.below hbel (Nat.le_refl _)
            clear hown
            go_wp2_with fail
            refine (spec_CountTable_c a j cap ss _ hr1 hs).mono ?_
            rintro e w1 ⟨v1, rfl, hg1, hb1⟩
            obtain ⟨vs, hog, hrsg⟩ := id hg1
            rw [HRL.out] at hog
            obtain ⟨gv, cv, rfl, hbv, hvl⟩ := own_form hog (by omega)
            have HG1 := hid (hg1.base hbel.size)
            have HO1 := hid (owns_below HO.out hb1)
            have hbel1 := hbel.trans (hb1.mono hbel.size)
            obtain ⟨cc, hcc⟩ : ∃ cc : Nat → Nat → Int, cc = capped (at2 (ctOf ss)) j 1000001 := ⟨_, rfl⟩
            have HCC := hid hcc
            have HBD := hid (capped_bd (M := at2 (ctOf ss)) (n := j) (fun p q hp hq => (HF.out.1 p q hp hq).1))
            rw [← hcc] at HBD
            clear hog hrsg hg1 hcc hr1
            go_wp2
            go_loopw [7, 10] (fun q k wr => ∃ (kk : Nat) (v8 : Value), kk ≤ mm ∧ k = .int .i64 kk ∧ q = v8 ∧ wr.ownsRow w.heap.size 3 1 v8 j (intVals (vecRow (cc kk) j)) ∧ TGrid 44 3 wr w.heap.size (.slice (some ⟨gv, 0, none⟩) j cv) (ctOf ss) ∧ Below w.heap.size w wr) (fun _ k _ => mm - (intOf k).toNat)
            case atStart => exact ⟨0, _, by omega, rfl, rfl, by rw [HCC.out]; exact HO1.out, HG1.out, hbel1⟩
            case round =>
              obtain ⟨kk, v8, hk, rfl, rfl, hown, hgr, hbel⟩ := hrel
              obtain ⟨g8, c8, rfl, hb8, hl8⟩ := own_form hown (by omega)
              by_cases hlt : kk < mm
              · have HG := hid hgr
                have HROWS := hid (fun r (hr : r ∈ ctOf ss) => (ct_rows HSUB.out hr).trans hlen.out)
                obtain ⟨ta, tc, hta, htab⟩ := grid_tabAt hgr (by rw [HRL.out]; omega) (fun r hr => by rw [HROWS.out r hr]; omega)
                rw [HRL.out] at hta htab
                simp only [Value.slice.injEq, true_and] at hta
                obtain ⟨rfl, rfl⟩ := hta
                obtain ⟨va, vc, hva, hvec⟩ := owns_rowAt hown hlim
                simp only [Value.slice.injEq, true_and] at hva
                obtain ⟨rfl, rfl⟩ := hva
                obtain ⟨wo, rfl⟩ : ∃ wo : World, wo = wr := ⟨_, rfl⟩
                have HA := hid (tab_one wo 44 _ j c8 _ hvec (vecRow_len _ _))
                have HB := hid (show TabAt (wo.alloc (.cells #[.slice (some ⟨g8, 0, none⟩) j c8] 44)) (some ⟨gv, 0, none⟩) j (ctOf ss) from htab.below ((Below.refl _ _).alloc (Nat.le_refl _) _) (Nat.le_refl _))
                have HXA := hid (show ∀ p q, p < 1 → q < j → 0 ≤ at2 [vecRow (cc kk) j] p q ∧ at2 [vecRow (cc kk) j] p q ≤ 1000001 from fun p q hp hq => by
                  obtain rfl : p = 0 := by omega
                  rw [at2_row (r := vecRow (cc kk) j) rfl, vecRow_at _ hq]
                  exact HBD.out kk q hq)
                clear hgr hown htab hvec
                go_wp2_with fail
                refine (spec_l4Times_c (some ⟨wo.heap.size, 0, none⟩) (some ⟨gv, 0, none⟩) 1 j 1 cv j [vecRow (cc kk) j] (ctOf ss) 1000001 4 _ HA.out HB.out (fun r hr => by rw [List.mem_singleton.1 hr, vecRow_len]; exact Nat.le_refl _) (fun r hr => by rw [HROWS.out r hr]; exact Nat.le_refl _) HXA.out HF.out.1 (by omega) (by omega) (by omega)).mono ?_
                rintro e w2 ⟨v2, rfl, hg2, hb2⟩
                rw [muOf_one _ _ _ HRL.out] at hg2
                obtain ⟨f, hf⟩ : ∃ f : Nat → Int, f = fun q => sumTo (fun t => cc kk t * at2 (ctOf ss) t q) j := ⟨_, rfl⟩
                rw [← hf] at hg2
                have HSTEP := hid (show cc (kk + 1) = fun q => min (f q) 1000001 by rw [HCC.out, hf, HCC.out]; rfl)
                obtain ⟨vs2, ho2, hrs2⟩ := hg2
                rw [List.length_singleton] at ho2
                obtain ⟨g2, c2, rfl, hbg2, hl2⟩ := own_form ho2 (by omega)
                obtain ⟨x2, r2, hx2, hr2, hown2⟩ := hrs2.get (i := 0) (by simp)
                simp only [List.getElem?_cons_zero, Option.some.injEq] at hr2
                subst hr2
                rw [vecRow_len] at hown2
                have hcell2 := (ho2.cellAt 0 (by omega)).trans hx2
                obtain ⟨gx, cx, rfl, hbx, hlx⟩ := own_form hown2 (by omega)
                have HO2 := hid (owns_base (base' := wo.heap.size) hown2 (by simp))
                have hbwo : Below wo.heap.size wo w2 := ((Below.refl _ _).alloc (Nat.le_refl _) _).trans (hb2.mono (by simp))
                clear hf ho2 hrs2 hx2 hown2 hb2
                go_wp2
                go_loopw [11] (fun i wq => ∃ p : Nat, p ≤ j ∧ i = .int .i64 p ∧ wq.ownsRow wo.heap.size 3 1 (.slice (some ⟨gx, 0, none⟩) j cx) j (intVals (capRow f 1000001 j p)) ∧ Below wo.heap.size wo wq) (fun i _ => j - (intOf i).toNat)
                case atStart => exact ⟨0, by omega, rfl, by rw [capRow_zero]; exact HO2.out, hbwo⟩
                case round =>
                  obtain ⟨p, hp, rfl, hownp, hbelp⟩ := hrel
                  have HP := hid hownp
                  by_cases hltp : p < j
                  · obtain ⟨u, hu⟩ : ∃ u, u = f p := ⟨_, rfl⟩
                    have hcell : wr.cell? ⟨gx, p, none⟩ = some (.int .i64 u) := (hownp.cellAt p (by omega)).trans (intVals_get (by rw [hu]; exact capRow_at f _ hltp))
                    have hfr := hownp.frozenAt p
                    have HU := hid hu
                    clear hownp hu
                    go_wp2_with fail
                    refine (l1Min_c u 1000001 _).mono ?_
                    rintro e w' ⟨rfl, rfl⟩
                    go_wp2
                    go_roundw
                    case rel =>
                      have hst := HP.out.stored p (.int .i64 (min (f p) 1000001))
                      rw [capRow_step _ _ hltp, ← HU.out] at hst
                      exact ⟨p + 1, by omega, by go_num, hst.1, hbelp.grown hst.2 hbelp.size (by rintro k ⟨⟩; exact Nat.le_trans (Nat.le_of_lt (by simp)) hbx)⟩
                    case measure => simp [intOf]; omega
                  · obtain rfl : p = j := by omega
                    clear hownp
                    go_wp2
                    go_roundw
                    case rel =>
                      have ho := HP.out
                      rw [capRow_all, ← HSTEP.out] at ho
                      exact ⟨kk + 1, _, by omega, by go_num, rfl, owns_base ho hbel.size, HG.out.below hbelp, hbel.trans (hbelp.mono hbel.size)⟩
                    case measure => simp [intOf]; omega
              · obtain rfl : kk = mm := by omega
                obtain ⟨u, hu⟩ : ∃ u, u = cc kk xx := ⟨_, rfl⟩
                have hcell : wr.cell? ⟨g8, xx, none⟩ = some (.int .i64 u) := (hown.cellAt xx (by omega)).trans (intVals_get (by rw [hu]; exact vecRow_get _ (by omega)))
                have HY := hid (show lenOf ss xx kk = (if u ≤ 1000000 then u else -1) by
                  have h0 : 0 ≤ rowsOf (at2 (ctOf ss)) j kk xx := rows_nonneg (fun p q hp hq => (HF.out.1 p q hp hq).1) kk xx (by omega)
                  rw [lenOf, if_pos ⟨HSUB.out, by rw [hlen.out]; omega, by omega⟩, Int.toNat_natCast, Int.toNat_natCast, hlen.out, hu, HCC.out, capped_eq (by decide) (fun p q hp hq => (HF.out.1 p q hp hq).1) kk xx (by omega)]
                  by_cases h : rowsOf (at2 (ctOf ss)) j kk xx ≤ 1000000
                  · rw [if_pos h, if_pos (by omega)]; omega
                  · rw [if_neg h, if_neg (by omega)])
                clear hu hown
                by_cases hbig : u ≤ 1000000
                · have hb2 : ¬ ((1000000 : Int) < u) := by omega
                  go_wp2
                  go_ret
                  refine ⟨?_, hbel⟩
                  show Ending.returned (Value.int .i64 u) = _
                  rw [HY.out, if_pos hbig]
                · have hb2 : (1000000 : Int) < u := by omega
                  go_wp2
                  go_ret
                  refine ⟨?_, hbel⟩
                  show Ending.returned (Value.int .i64 (-1)) = _
                  rw [HY.out, if_neg (by omega)]
      · have HX := hid (show lenOf ss xx m = -1 by rw [lenOf, if_neg]; exact fun h => hm h.2.2)
        have hinm := inB_f (x := m) (lo := 0) (hi := 20) (by omega)
        clear hm
        go_enter Try.func21, Try.ntmps21
        go_wp2_with (first | (go_at_call 25; refine (spec_IsSubst_c _ _ _ ss _ hr hs).mono ?_; rintro e w' ⟨rfl, rfl⟩) | (go_at_call 57; refine (l1In_c _ _ _ _).mono ?_; rintro e w' ⟨rfl, rfl⟩))
        go_ret
        exact ⟨by rw [HX.out]; rfl, Below.refl _ _⟩
    · have HX := hid (show lenOf ss x m = -1 by rw [lenOf, if_neg]; rw [hlen.out]; exact fun h => hx (by omega))
      have hinx := inB_f (x := x) (lo := 0) (hi := (n : Int) - 1) (by omega)
      clear hx
      go_enter Try.func21, Try.ntmps21
      go_wp2_with (first | (go_at_call 25; refine (spec_IsSubst_c _ _ _ ss _ hr hs).mono ?_; rintro e w' ⟨rfl, rfl⟩) | (go_at_call 57; refine (l1In_c _ _ _ _).mono ?_; rintro e w' ⟨rfl, rfl⟩))
      go_ret
      exact ⟨by rw [HX.out]; rfl, Below.refl _ _⟩
  · have HX := hid (show lenOf ss x m = -1 by rw [lenOf, if_neg]; exact fun h => hsub h.1)
    have hsub2 : isSubst ss = false := by simpa using hsub
    clear hsub
    go_enter Try.func21, Try.ntmps21
    go_wp2_with (first | (go_at_call 25; refine (spec_IsSubst_c _ _ _ ss _ hr hs).mono ?_; rintro e w' ⟨rfl, rfl⟩) | (go_at_call 57; refine (l1In_c _ _ _ _).mono ?_; rintro e w' ⟨rfl, rfl⟩))
    go_ret
    exact ⟨by rw [HX.out]; rfl, Below.refl _ _⟩
end Go.Proofs.Ytcfjchaklgjmkaa
