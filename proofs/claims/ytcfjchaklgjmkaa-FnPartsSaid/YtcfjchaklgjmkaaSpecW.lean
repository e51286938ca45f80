/- Parts that are followed by different letters: both functions. No condition but the sizes. -/
import Derived.Test.YtcfjchaklgjmkaaSpecS
namespace Go.Proofs.Ytcfjchaklgjmkaa
open Go.RowKit

theorem RowAt.drewNS {w : World} {a : Option Addr} {n : Nat} {xs : List Value} (h : RowAt w a n xs) (k : Nat) : RowAt (w.drewN k) a n xs := ⟨h.len, h.lim, h.at_⟩
theorem list_two {L : List ByteArray} {M j : Nat} (hM : L.length = M) (hlt : j + 1 < M) : ∃ x y, L[j]? = some x ∧ L[j + 1]? = some y ∧ L.getD j ByteArray.empty = x ∧ L.getD (j + 1) ByteArray.empty = y ∧ x ∈ L ∧ y ∈ L := by
  obtain ⟨x, hx⟩ := get_some (l := L) (n := j) (by omega)
  obtain ⟨y, hy⟩ := get_some (l := L) (n := j + 1) (by omega)
  exact ⟨x, y, hx, hy, by simp [List.getD, hx], by simp [List.getD, hy], List.mem_of_getElem? hx, List.mem_of_getElem? hy⟩
set_option maxHeartbeats 2000000 in
set_option maxRecDepth 100000 in
theorem spec_SpecialParts_yes (s : ByteArray) (n : Nat) (w : World) (hF : fitW s = true) (hn : n ≤ 20) :
    Calls Try.prog 37 #[.string s, .int .i64 n] w fun e w' => ∃ v, e = .returned v ∧ w'.ownsRow w.heap.size 9 1 v (specials s n).length (strVals (specials s n)) ∧ Below w.heap.size w w' := by
  have hs300 := fitW_size hF
  have HL := hid (fun w => show Calls Try.prog 74 #[.string s] w fun e w' => e = .returned (.bool true) ∧ w = w' from by rw [← hF]; exact fits_c s w (by unfold maxLen; omega))
  have HI := hid (fun w => show Calls Try.prog 57 #[.int .i64 n, .int .i64 0, .int .i64 20] w fun e w' => e = .returned (.bool true) ∧ w = w' from by rw [← inB_t (x := n) (lo := 0) (hi := 20) (by omega)]; exact l1In_c n 0 20 w)
  have HP := hid (fun w => spec_l31Parts_c s (n + 1) w hs300 (by omega))
  have HA := hid (fun (B g cap : Nat) (xs : List ByteArray) (x : ByteArray) (w : World) h1 h2 h3 => spec_l2Put_c B g cap xs.length xs x w rfl h1 h2 h3)
  unfold PutPost at HA
  unfold PartsPost at HP
  unfold specials
  have HSZ := hid (fun x (hx : x ∈ pts s (n + 1)) => pts_size hx)
  have hM300 := pts_le s (n + 1)
  obtain ⟨L, hL⟩ : ∃ L, L = pts s (n + 1) := ⟨_, rfl⟩
  rw [← hL] at HP HSZ hM300
  rw [← hL]
  obtain ⟨M, hM⟩ : ∃ M, M = L.length := ⟨_, rfl⟩
  rw [← hM] at HP hM300
  rw [← hM]
  have HM := hid hM
  have hno := owns_nilS w 9
  have hbe : Below w.heap.size w (w.alloc (.cells #[] 9)) := (Below.refl _ _).alloc (Nat.le_refl _) _
  clear hL hF hM
  go_enter Try.func37, Try.ntmps37
  go_wp2_with (first | (go_at_call 74; refine (HL.out _).mono ?_; rintro e w' ⟨rfl, rfl⟩) | (go_at_call 57; refine (HI.out _).mono ?_; rintro e w' ⟨rfl, rfl⟩))
  refine (HP.out _).mono ?_
  rintro e w1 ⟨g1, c1, rfl, ho1, hb1⟩
  have hown1 := owns_below hno hb1
  have hbw1 := bs hbe hb1
  have hg1 := ho1.lt g1 rfl
  have hg1w : w.heap.size < g1 := by have := hg1.1; simp at this; omega
  have hr1 : RowAt w1 (some ⟨g1, 0, none⟩) M (strVals L) := by
    obtain ⟨a, c, he, hr⟩ := owns_rowAt ho1 (by omega)
    simp only [Value.slice.injEq, true_and] at he
    obtain ⟨rfl, rfl⟩ := he
    exact hr
  have hg1s := hg1.2
  clear ho1 hb1 hno hbe hg1
  go_wp2
  go_loopw [5, 7] (fun v i wr => ∃ j g c : Nat, j + 1 ≤ max M 1 ∧ i = .int .i64 ((j + 1 : Nat) : Int) ∧ v = .slice (some ⟨g, 0, none⟩) (sq L n j).length c ∧ wr.ownsRow w.heap.size 9 1 (.slice (some ⟨g, 0, none⟩) (sq L n j).length c) (sq L n j).length (strVals (sq L n j)) ∧ g ≠ g1 ∧ RowAt wr (some ⟨g1, 0, none⟩) M (strVals L) ∧ g1 < wr.heap.size ∧ Below w.heap.size w wr) (fun _ i _ => M + 1 - (intOf i).toNat)
  case atStart => exact ⟨0, w.heap.size, 0, by omega, by go_num, rfl, hown1, by omega, hr1, hg1s, hbw1⟩
  case round =>
    obtain ⟨j, g, c, hj, rfl, rfl, hown, hne, hrow, hg1r, hbel⟩ := hrel
    have hsql := sq_len L n j
    by_cases hlt : j + 1 < M
    · obtain ⟨x, y, hx, hy, hxd, hyd, hxm, hym⟩ := list_two HM.out.symm hlt
      have hxs := HSZ.out x hxm
      have hys := HSZ.out y hym
      obtain ⟨b, off, he, _, hc⟩ := hrow.at_ (by omega)
      simp only [Option.some.injEq, Addr.mk.injEq, and_true] at he
      obtain ⟨rfl, rfl⟩ := he
      have hcx := hc j _ (strVals_get hx)
      have hcy := hc (j + 1) _ (strVals_get hy)
      simp only [Nat.zero_add] at hcx hcy
      have hji : (j : Int) + 1 < (M : Int) := by omega
      have hjj : ((j + 1 : Nat) : Int) = (j : Int) + 1 := by omega
      have HAj := hid (fun wr (h : wr.ownsRow w.heap.size 9 1 (.slice (some ⟨g, 0, none⟩) (sq L n j).length c) (sq L n j).length (strVals (sq L n j))) hB => HA.out w.heap.size g c (sq L n j) (y.extract 0 n) wr h hB (by omega))
      have HST : Hid (sq L n (j + 1) = if pf n y = pf n x then ins ltB (sq L n j) (pf n y) else sq L n j) := by show _ = _; rw [sq, hxd, hyd]
      have HL1 := hid (hown.lt g rfl)
      have HO := hid hown
      have HROW := hid hrow
      clear hx hy hxd hyd hxm hym hc hown hrow
      cases hq : ((y.extract 0 n).toList == (x.extract 0 n).toList)
      · have HST2 := hid (HST.out.trans (if_neg (fun e => by rw [show y.extract 0 n = x.extract 0 n from e] at hq; simp at hq)))
        go_wp2_with fail
        go_quiet (fail)
        go_wp2
        go_roundw
        case rel => exact ⟨j + 1, g, c, by omega, by go_num, by rw [HST2.out], by rw [HST2.out]; exact HO.out, hne, HROW.out.drewNS _, hg1r, below_drewN hbel _⟩
        case measure => simp [intOf]; omega
      · have HST2 := hid (HST.out.trans (if_pos (by rw [beq_iff_eq, Lib.toList_data, Lib.toList_data] at hq; exact bytes_eq hq)))
        rw [show ins ltB (sq L n j) (pf n y) = ins ltB (sq L n j) (y.extract 0 n) from rfl] at HST2
        rw [← HST2.out] at HAj
        go_wp2_with fail
        go_quiet (fail)
        go_wp2_with fail
        have HO2 := hid (show (wr.drewN nq).ownsRow w.heap.size 9 1 (.slice (some ⟨g, 0, none⟩) (sq L n j).length c) (sq L n j).length (strVals (sq L n j)) from HO.out)
        have HROW2 := hid (HROW.out.drewNS nq)
        have hbel2 : Below w.heap.size w (wr.drewN nq) := below_drewN hbel _
        have hg1r2 : g1 < (wr.drewN nq).heap.size := hg1r
        generalize wr.drewN nq = wq at *
        refine (HAj.out _ HO2.out hbel2.size).mono ?_
        rintro e w2 ⟨g', c', rfl, hown', hgr, hor⟩
        have hb : Below w.heap.size w w2 := hbel2.grown hgr hbel2.size (by rintro k ⟨⟩; exact HL1.out.1)
        have hg' : g' ≠ g1 := by rcases hor with h | h <;> omega
        have hrow2 := HROW2.out.grown hgr (by rintro b off ⟨⟩; exact fun e => hne e.symm)
        have hsz := hgr.size
        go_wp2
        go_roundw
        case rel => exact ⟨j + 1, g', c', by omega, by go_num, rfl, hown', hg', hrow2, by omega, hb⟩
        case measure => simp [intOf]; omega
    · have hnl : ¬ ((j + 1 : Nat) : Int) < (M : Int) := by omega
      have HFIN := hid (show M - 1 = j by omega)
      have HO := hid hown
      clear hown hrow
      go_wp2
      go_ret
      rw [HFIN.out]
      exact ⟨_, rfl, HO.out, hbel⟩
set_option maxHeartbeats 2000000 in
set_option maxRecDepth 100000 in
theorem impl_SpecialParts_yes (s : ByteArray) (n : Nat) (w : World) (hF : fitW s = true) (hn : n ≤ 20) :
    Calls Try.prog 27 #[.string s, .int .i64 n] w fun e w' => ∃ v, e = .returned v ∧ w'.ownsRow w.heap.size 9 1 v (specials s n).length (strVals (specials s n)) ∧ Below w.heap.size w w' := by
  have hs300 := fitW_size hF
  have HI := hid (fun w => show Calls Try.prog 69 #[.string s, .int .i64 n] w fun e w' => e = .returned (.bool true) ∧ w = w' from by
    have h := isCounted_c s n w (by unfold maxLen; omega)
    rw [hF, inB_t (x := n) (lo := 0) (hi := 20) (by omega)] at h
    exact h)
  have HP := hid (fun w => impl_parts_c s (n + 1) w hs300 (by omega))
  unfold PartsPost at HP
  unfold specials
  have HSZ := hid (fun x (hx : x ∈ pts s (n + 1)) => pts_size hx)
  have HASC := hid (pts_asc s (n + 1))
  have hM300 := pts_le s (n + 1)
  obtain ⟨L, hL⟩ : ∃ L, L = pts s (n + 1) := ⟨_, rfl⟩
  rw [← hL] at HP HSZ hM300 HASC
  rw [← hL]
  obtain ⟨M, hM⟩ : ∃ M, M = L.length := ⟨_, rfl⟩
  rw [← hM] at HP hM300
  rw [← hM]
  have HM := hid hM
  have hno := owns_nilS w 9
  have hbe : Below w.heap.size w (w.alloc (.cells #[] 9)) := (Below.refl _ _).alloc (Nat.le_refl _) _
  clear hL hF hM
  go_enter Try.func27, Try.ntmps27
  go_wp2_with (go_at_call 69; refine (HI.out _).mono ?_; rintro e w' ⟨rfl, rfl⟩)
  refine (HP.out _).mono ?_
  rintro e w1 ⟨g1, c1, rfl, ho1, hb1⟩
  have hown1 := owns_below hno hb1
  have hbw1 := bs hbe hb1
  have hg1 := ho1.lt g1 rfl
  have hg1w : w.heap.size < g1 := by have := hg1.1; simp at this; omega
  have hr1 : RowAt w1 (some ⟨g1, 0, none⟩) M (strVals L) := by
    obtain ⟨a, c, he, hr⟩ := owns_rowAt ho1 (by omega)
    simp only [Value.slice.injEq, true_and] at he
    obtain ⟨rfl, rfl⟩ := he
    exact hr
  have hg1s := hg1.2
  clear ho1 hb1 hno hbe hg1
  go_wp2
  go_loopw [5, 7] (fun v i wr => ∃ j g c : Nat, j + 1 ≤ max M 1 ∧ i = .int .i64 ((j + 1 : Nat) : Int) ∧ v = .slice (some ⟨g, 0, none⟩) (sq L n j).length c ∧ wr.ownsRow w.heap.size 9 1 (.slice (some ⟨g, 0, none⟩) (sq L n j).length c) (sq L n j).length (strVals (sq L n j)) ∧ g ≠ g1 ∧ RowAt wr (some ⟨g1, 0, none⟩) M (strVals L) ∧ g1 < wr.heap.size ∧ Below w.heap.size w wr) (fun _ i _ => M + 1 - (intOf i).toNat)
  case atStart => exact ⟨0, w.heap.size, 0, by omega, by go_num, rfl, hown1, by omega, hr1, hg1s, hbw1⟩
  case round =>
    obtain ⟨j, g, c, hj, rfl, rfl, hown, hne, hrow, hg1r, hbel⟩ := hrel
    have hsql := sq_len L n j
    by_cases hlt : j + 1 < M
    · obtain ⟨x, y, hx, hy, hxd, hyd, hxm, hym⟩ := list_two HM.out.symm hlt
      have hxs := HSZ.out x hxm
      have hys := HSZ.out y hym
      obtain ⟨b, off, he, _, hc⟩ := hrow.at_ (by omega)
      simp only [Option.some.injEq, Addr.mk.injEq, and_true] at he
      obtain ⟨rfl, rfl⟩ := he
      have hcx := hc j _ (strVals_get hx)
      have hcy := hc (j + 1) _ (strVals_get hy)
      simp only [Nat.zero_add] at hcx hcy
      have hji : (j : Int) + 1 < (M : Int) := by omega
      have hjj : ((j + 1 : Nat) : Int) = (j : Int) + 1 := by omega
      have HST : Hid (sq L n (j + 1) = if pf n y = pf n x then ins ltB (sq L n j) (pf n y) else sq L n j) := by show _ = _; rw [sq, hxd, hyd]
      have HADD := hid (sq_add (n := n) HASC.out (show j + 1 < L.length by rw [← HM.out]; exact hlt))
      rw [hyd] at HADD
      have HL1 := hid (hown.lt g rfl)
      have HO := hid hown
      have HROW := hid hrow
      have HR := hid (show RowAt wr (some ⟨g, 0, none⟩) (sq L n j).length (strVals (sq L n j)) by
        obtain ⟨a, c, he, hr⟩ := owns_rowAt hown (by omega)
        simp only [Value.slice.injEq, true_and] at he
        obtain ⟨rfl, rfl⟩ := he
        exact hr)
      have HCT := hid (slicesContainsS_c (some ⟨g, 0, none⟩) (sq L n j).length c (sq L n j) (y.extract 0 n) wr HR.out)
      clear hx hy hxd hyd hxm hym hc hown hrow
      cases hq : ((y.extract 0 n).toList == (x.extract 0 n).toList)
      · have HST2 := hid (HST.out.trans (if_neg (fun e => by rw [show y.extract 0 n = x.extract 0 n from e] at hq; simp at hq)))
        go_wp2
        go_roundw
        case rel => exact ⟨j + 1, g, c, by omega, by go_num, by rw [HST2.out], by rw [HST2.out]; exact HO.out, hne, HROW.out, hg1r, hbel⟩
        case measure => simp [intOf]; omega
      · have HST2 := hid ((HST.out.trans (if_pos (by rw [beq_iff_eq, Lib.toList_data, Lib.toList_data] at hq; exact bytes_eq hq))).trans HADD.out)
        rw [show addB (sq L n j) (pf n y) = addB (sq L n j) (y.extract 0 n) from rfl] at HST2
        unfold addB at HST2
        obtain ⟨hb, hhb⟩ : ∃ hb, hb = hasB (sq L n j) (y.extract 0 n) := ⟨_, rfl⟩
        rw [← hhb] at HST2 HCT
        clear hhb
        cases hb
        · have HST3 := hid (HST2.out.trans (if_neg (by simp)))
          have hU := HO.out.alloc (.cells #[.string (y.extract 0 n)] 9)
          go_wp2_with (first | (go_at_call 71; refine HCT.out.mono ?_; rintro e w' ⟨rfl, rfl⟩) | (at_builtin; go_must (refine wpList_appN rfl _ _ 24 rfl w.heap.size 9 (.string ByteArray.empty) 16 Try.underlying24 infoStrA rfl g c (sq L n j).length (strVals (sq L n j)) hU rfl wr.heap.size 0 1 1 [.string (y.extract 0 n)] rfl rfl (by intro q u hq; match q, hq with | 0, hq => simp at hq; subst hq; simp) (by intro u hu; simp at hu; subst hu; rfl) (by omega) (by unfold maxLen; omega) (by have := hbel.size; simp; omega) ?_); intro g2 c2 w2 hown2 hgr2 hb2 hlt2'))
          have hb3 : Below w.heap.size w w2 := (hbel.alloc hbel.size _).grown hgr2 (by have := hbel.size; simp; omega) (by rintro k ⟨⟩; exact HL1.out.1)
          have hg' : g2 ≠ g1 := by
            rcases hb2 with h | h
            · omega
            · simp at h; omega
          have hrow2 : RowAt w2 (some ⟨g1, 0, none⟩) M (strVals L) := (HROW.out.below ((Below.refl _ _).alloc (Nat.le_refl _) (.cells #[.string (y.extract 0 n)] 9)) (Nat.le_refl _)).grown hgr2 (by rintro b off ⟨⟩; exact fun e => hne e.symm)
          have hsz := hgr2.size
          simp at hsz
          go_roundw
          case rel => exact ⟨j + 1, g2, c2, by omega, by go_num, by rw [HST3.out]; simp, by rw [HST3.out, strVals_snocP]; simpa using hown2, hg', hrow2, by omega, hb3⟩
          case measure => simp [intOf]; omega
        · have HST3 := hid (HST2.out.trans (if_pos rfl))
          go_wp2_with (go_at_call 71; refine HCT.out.mono ?_; rintro e w' ⟨rfl, rfl⟩)
          go_roundw
          case rel => exact ⟨j + 1, g, c, by omega, by go_num, by rw [HST3.out], by rw [HST3.out]; exact HO.out, hne, HROW.out, hg1r, hbel⟩
          case measure => simp [intOf]; omega
    · have hnl : ¬ ((j + 1 : Nat) : Int) < (M : Int) := by omega
      have HFIN := hid (show M - 1 = j by omega)
      have HO := hid hown
      clear hown hrow
      go_wp2
      go_ret
      rw [HFIN.out]
      exact ⟨_, rfl, HO.out, hbel⟩
set_option maxHeartbeats 2000000 in
theorem spec_SpecialParts_c (s : ByteArray) (n : Int) (w : World) (hs : s.size ≤ maxLen) :
    Calls Try.prog 37 #[.string s, .int .i64 n] w (SpecPost s n w) := by
  unfold SpecPost specOf
  cases hF : fitW s
  · have HL := hid (fun w => show Calls Try.prog 74 #[.string s] w fun e w' => e = .returned (.bool false) ∧ w = w' from by rw [← hF]; exact fits_c s w hs)
    have hno := owns_nilS w 9
    have hbe : Below w.heap.size w (w.alloc (.cells #[] 9)) := (Below.refl _ _).alloc (Nat.le_refl _) _
    clear hF
    go_enter Try.func37, Try.ntmps37
    go_wp2_with (go_at_call 74; refine (HL.out _).mono ?_; rintro e w' ⟨rfl, rfl⟩)
    go_ret
    exact ⟨_, rfl, hno, hbe⟩
  · have HL := hid (fun w => show Calls Try.prog 74 #[.string s] w fun e w' => e = .returned (.bool true) ∧ w = w' from by rw [← hF]; exact fits_c s w hs)
    cases hd : inB n 0 20
    · have HI := hid (fun w => show Calls Try.prog 57 #[.int .i64 n, .int .i64 0, .int .i64 20] w fun e w' => e = .returned (.bool false) ∧ w = w' from by rw [← hd]; exact l1In_c n 0 20 w)
      have hno := owns_nilS w 9
      have hbe : Below w.heap.size w (w.alloc (.cells #[] 9)) := (Below.refl _ _).alloc (Nat.le_refl _) _
      clear hF hd
      go_enter Try.func37, Try.ntmps37
      go_wp2_with (first | (go_at_call 74; refine (HL.out _).mono ?_; rintro e w' ⟨rfl, rfl⟩) | (go_at_call 57; refine (HI.out _).mono ?_; rintro e w' ⟨rfl, rfl⟩))
      go_ret
      exact ⟨_, rfl, hno, hbe⟩
    · have hn := inB_iff.1 hd
      obtain ⟨m, rfl⟩ : ∃ m : Nat, n = m := ⟨n.toNat, by omega⟩
      rw [if_pos (show (true && true) = true from rfl), Int.toNat_natCast]
      exact spec_SpecialParts_yes s m w hF (by omega)
set_option maxHeartbeats 2000000 in
theorem impl_SpecialParts_c (s : ByteArray) (n : Int) (w : World) (hs : s.size ≤ maxLen) :
    Calls Try.prog 27 #[.string s, .int .i64 n] w (SpecPost s n w) := by
  unfold SpecPost specOf
  cases hF : (fitW s && inB n 0 20)
  · have HI := hid (fun w => show Calls Try.prog 69 #[.string s, .int .i64 n] w fun e w' => e = .returned (.bool false) ∧ w = w' from by rw [← hF]; exact isCounted_c s n w hs)
    clear hF
    go_enter Try.func27, Try.ntmps27
    go_wp2_with (go_at_call 69; refine (HI.out _).mono ?_; rintro e w' ⟨rfl, rfl⟩)
    go_ret
    exact ⟨_, rfl, ⟨rfl, Or.inl ⟨rfl, rfl⟩⟩, Below.refl _ _⟩
  · have hF2 := hF
    rw [Bool.and_eq_true, inB_iff] at hF2
    obtain ⟨h1, hn⟩ := hF2
    obtain ⟨m, rfl⟩ : ∃ m : Nat, n = m := ⟨n.toNat, by omega⟩
    rw [if_pos rfl, Int.toNat_natCast]
    exact impl_SpecialParts_yes s m w h1 (by omega)
end Go.Proofs.Ytcfjchaklgjmkaa
