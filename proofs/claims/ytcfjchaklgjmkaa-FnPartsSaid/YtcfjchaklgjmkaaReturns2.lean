/- Parts from one place up to the next: the program's function. Conditions: sizes of at most 1048576 bytes. -/
import Derived.Test.YtcfjchaklgjmkaaReturns
namespace Go.Proofs.Ytcfjchaklgjmkaa
open Go.RowKit
set_option maxHeartbeats 1000000 in
theorem impl_ReturnsTo_c (s p : ByteArray) (w : World) (hs : s.size ≤ 1048576) (hp : p.size ≤ 1048576) :
    Calls Try.prog 32 #[.string s, .string p] w (RtPost s p w) := by
  have hemp : World.ownsRow (w.alloc (.cells #[] 9)) w.heap.size 9 1 (.slice (some ⟨w.heap.size, 0, none⟩) 0 0) 0 [] :=
    World.ownsRow_made w #[] 0 (Nat.le_refl _) (Nat.zero_le _) rfl
  have hbe : Below w.heap.size w (w.alloc (.cells #[] 9)) := (Below.refl _ _).alloc (Nat.le_refl _) _
  have HE := hid hemp
  have HB := hid hbe
  clear hemp hbe
  obtain ⟨m, hm⟩ : ∃ m, m = (plOf s.data.toList p.data.toList).length := ⟨_, rfl⟩
  have hml : m ≤ 1048576 := by
    have h1 : (plOf s.data.toList p.data.toList).length ≤ s.data.toList.length := by
      unfold plOf; split
      · exact pl_le _ _ _
      · simp
    rw [size_list] at h1; omega
  have HM := hid hm
  clear hm
  go_enter Try.func32, Try.ntmps32
  go_wp2_with fail
  refine (impl_PlacesIn_c s p _ hs hp).mono ?_
  rintro e w1 ⟨vp, rfl, hop, hbp⟩
  rw [← HM.out] at hop
  obtain ⟨ap, cp, rfl, hrp⟩ := owns_rowAt hop (by omega)
  have HAT := hid (fun hn => owns_from hop hn)
  have hsz0 : w.heap.size + 1 ≤ w1.heap.size := by simpa using hbp.size
  have hown1 := owns_below HE.out hbp
  have hb1 : Below w.heap.size w w1 := HB.out.trans (hbp.mono (by simp))
  clear hop hrp hbp
  go_wp2
  go_loopw [5, 7, 8] (fun v i _ wr => ∃ (j : Nat) (acc : List ByteArray), j + 1 ≤ max m 1 ∧ i = .int .i64 ((j + 1 : Nat) : Int) ∧ acc.length ≤ j ∧ Hid (acc = rtN s (plOf s.data.toList p.data.toList) j) ∧ wr.ownsRow w.heap.size 9 1 v acc.length (strVals acc) ∧
      Below w.heap.size w wr ∧ Hid (∀ k, w.heap.size < k → k < w1.heap.size → wr.heap[k]? = w1.heap[k]?) ∧ w1.heap.size ≤ wr.heap.size ∧ (v.ownBlock = some w.heap.size ∨ ∃ k, v.ownBlock = some k ∧ w1.heap.size ≤ k)) (fun _ i _ _ => m + 1 - (intOf i).toNat)
  case atStart => exact ⟨0, [], by omega, by go_num, by simp, rfl, hown1, hb1, fun _ _ _ => rfl, Nat.le_refl _, .inl rfl⟩
  case round =>
    obtain ⟨j, acc, hj, rfl, hacc, HA, hown, hbel, HKEEP, hsz1, hblk⟩ := hrel
    by_cases hlt : j + 1 < m
    · obtain ⟨q1, q2, hq1, hq2, hq12, hq2s⟩ := plOf_two (s := s.data.toList) (p := p.data.toList) (k := j) (by rw [← HM.out]; exact hlt)
      rw [size_list] at hq2s
      obtain ⟨bp, rfl, hbpl, hbps, hcp⟩ := HAT.out (by omega)
      clear HAT
      have hbpl2 : w.heap.size < bp := by simp at hbpl; omega
      have hkb := HKEEP.out bp hbpl2 hbps
      have hcp1 := (World.cell?_of_block (w := w1) (a := ⟨bp, 0 + j, none⟩) hkb).trans (hcp j _ (intVals_get hq1))
      have hcp2 := (World.cell?_of_block (w := w1) (a := ⟨bp, 0 + (j + 1), none⟩) hkb).trans (hcp (j + 1) _ (intVals_get hq2))
      simp only [Nat.zero_add] at hcp1 hcp2
      obtain ⟨av, cv, rfl, hrv⟩ := owns_rowAt hown (by omega)
      have hji : (j : Int) + 1 < (m : Int) := by omega
      have hjj : ((j + 1 : Nat) : Int) = (j : Int) + 1 := by omega
      have HST := hid (show rtN s (plOf s.data.toList p.data.toList) (j + 1) = addB acc (s.extract q1 q2) by
        rw [HA.out]; show addB _ _ = _; rw [List.getD_eq_getElem?_getD, hq1, List.getD_eq_getElem?_getD, hq2]; simp)
      clear hkb hcp hq1 hq2
      have hrtl := rtN_len s (plOf s.data.toList p.data.toList) j
      cases hh : hasB acc (s.extract q1 q2)
      · have HST2 := hid (HST.out.trans (show addB acc (s.extract q1 q2) = acc ++ [s.extract q1 q2] by unfold addB; rw [hh]; rfl))
        go_wp2_with fail
        go_quiet (fail)
        go_wp2_with fail
        have hown2 : (wr.drewN nq).ownsRow w.heap.size 9 1 (.slice av acc.length cv) acc.length (strVals acc) := hown
        have hrv2 : RowAt (wr.drewN nq) av acc.length (strVals acc) := ⟨hrv.len, hrv.lim, hrv.at_⟩
        have hbel2 : Below w.heap.size w (wr.drewN nq) := below_drewN hbel _
        have HK2 : Hid (∀ k, w.heap.size < k → k < w1.heap.size → (wr.drewN nq).heap[k]? = w1.heap[k]?) := HKEEP
        have hsz2 : w1.heap.size ≤ (wr.drewN nq).heap.size := hsz1
        clear hown hrv hbel HKEEP hsz1 hcp1 hcp2
        generalize wr.drewN nq = wq at *
        refine (slicesContainsS_c av acc.length cv acc _ _ hrv2).mono ?_
        rintro e wz ⟨rfl, rfl⟩
        go_wp2_with (first | (at_builtin; go_must (refine wpList_app2 rfl _ _ 24 rfl w.heap.size 9 (.string ByteArray.empty) 16 Try.underlying24 infoStr2 rfl _ acc.length (strVals acc) _ hown2 rfl rfl rfl (by omega) (by unfold maxLen; omega) hbel2.size ?_); intro v' w2 hown' hgrow hwhere))
        go_roundw
        case rel =>
          refine ⟨j + 1, acc ++ [s.extract q1 q2], by omega, by go_num, by rw [List.length_append]; simp; omega, HST2.out.symm, ?_, (hbel2.alloc hbel2.size _).grown hgrow (by have := hbel2.size; simp; omega) (fun k hk => (hown2.lt k hk).1), ?_, by have := hgrow.size; simp at this; omega, ?_⟩
          · rw [List.length_append]
            simpa [strVals] using hown'
          · intro k hk1 hk2
            rw [hgrow.block k (by simp; omega) (by rcases hblk with h | ⟨q, h, hq⟩ <;> rw [h] <;> simp <;> omega)]
            exact (Below.heap_alloc _ _ _ (by omega)).trans (HK2.out k hk1 hk2)
          · rcases hwhere with h | h
            · rw [h]; exact hblk
            · exact .inr ⟨_, h, by omega⟩
        case measure => simp [intOf]; omega
      · have HST2 := hid (HST.out.trans (show addB acc (s.extract q1 q2) = acc by unfold addB; rw [hh]; rfl))
        go_wp2_with fail
        go_quiet (fail)
        go_wp2_with fail
        have hown2 : (wr.drewN nq).ownsRow w.heap.size 9 1 (.slice av acc.length cv) acc.length (strVals acc) := hown
        have hrv2 : RowAt (wr.drewN nq) av acc.length (strVals acc) := ⟨hrv.len, hrv.lim, hrv.at_⟩
        have hbel2 : Below w.heap.size w (wr.drewN nq) := below_drewN hbel _
        have HK2 : Hid (∀ k, w.heap.size < k → k < w1.heap.size → (wr.drewN nq).heap[k]? = w1.heap[k]?) := HKEEP
        have hsz2 : w1.heap.size ≤ (wr.drewN nq).heap.size := hsz1
        clear hown hrv hbel HKEEP hsz1 hcp1 hcp2
        generalize wr.drewN nq = wq at *
        refine (slicesContainsS_c av acc.length cv acc _ _ hrv2).mono ?_
        rintro e wz ⟨rfl, rfl⟩
        go_wp2
        go_roundw
        case rel => exact ⟨j + 1, acc, by omega, by go_num, by omega, HST2.out.symm, hown2, hbel2, HK2, hsz2, hblk⟩
        case measure => simp [intOf]; omega
    · have hnl : ¬ ((j + 1 : Nat) : Int) < (m : Int) := by omega
      have HFIN := hid (show rtOf s p = acc by rw [rtOf, ← HM.out, HA.out]; congr 1; omega)
      go_wp2
      go_ret
      exact ⟨_, rfl, by rw [HFIN.out]; exact hown, hbel⟩
end Go.Proofs.Ytcfjchaklgjmkaa
