/- Mirrored codes: the reference's function. Conditions: sizes within the reach. -/
import Derived.Test.YtcmmlldincflkaaSwap
import Derived.Test.YtcmmlldincflkaaTail
namespace Go.Proofs.Ytcmmlldincflkaa
open Go.RowKit

set_option maxHeartbeats 4000000 in
set_option maxRecDepth 100000 in
theorem spec_MirrorCode_c (k n : Int) (o : ByteArray) (w : World) (ho : o.size ≤ maxLen) :
    Calls Try.prog 10 #[.agg #[.int .i64 k, .int .i64 n, .string o]] w fun e w' => e = .returned (mirC k n o) ∧ Below w.heap.size w w' := by
  cases hc : isCode k n o
  · have HX := hid (show mirC k n o = .tuple #[.agg #[.int .i64 0, .int .i64 0, .string ⟨#[]⟩], .bool false] by unfold mirC; rw [hc]; rfl)
    have HI := hid (fun w : World => spec_IsCode_c k n o w ho)
    rw [hc] at HI
    clear hc
    go_enter Try.func10, Try.ntmps10
    go_wp2_with fail
    refine (HI.out _).mono ?_
    rintro e w1 ⟨rfl, hb1⟩
    obtain ⟨⟨hA, hFA⟩, ⟨hB, hFB⟩, hz, hbw⟩ := box2 hb1
    obtain ⟨hb0, hb1', hb2'⟩ := three hB
    have hf0 := hFB 0
    have hf1 := hFB 1
    have hf2 := hFB 2
    clear hA hFA hB hFB
    go_wp2
    refine bodyPost_ret (v := .tuple #[.agg #[.int .i64 0, .int .i64 0, .string ⟨#[]⟩], .bool false]) (by simp [results, Try.results10, go_sem, hb0, hb1', hb2']) rfl ⟨by rw [HX.out], ?_⟩
    first | exact hbw | exact ((hbw.setCell (by simp) _).setCell (by simp) _).setCell (by simp) _
  · obtain ⟨kk, nn, rfl, rfl, hk, ⟨hn1, hn4⟩, hp, hos, hl⟩ := code_facts hc
    have HX := hid (show mirC kk nn o = .tuple #[.agg #[.int .i64 kk, .int .i64 nn, .string (mirOut o kk nn)], .bool true] by unfold mirC; rw [hc]; rfl)
    have HI := hid (fun w : World => spec_IsCode_c kk nn o w ho)
    rw [hc] at HI
    have hk13 : 1 ≤ kk ∧ kk ≤ 3 := by omega
    have HWO := hid (fun w : World => spec_l2All_c kk nn w hk13 (by omega))
    unfold WordsPost at HWO
    have HM := hid (fun (i : Nat) (w : World) => spec_MirrorWord_c (wdB kk nn i) w (by rw [wdB_size]; omega))
    have HL := hid (fun (i : Nat) (w : World) => show Calls Try.prog 35 #[.agg #[.int .i64 kk, .int .i64 nn, .string o], .string ⟨(wdB kk nn i).data.toList.reverse.toArray⟩] w fun e w' => e = .returned (.string ⟨#[mirB o kk nn i]⟩) ∧ Below w.heap.size w w' from by
      have := l11Letter_c kk nn o ⟨(wdB kk nn i).data.toList.reverse.toArray⟩ w hk13.2 (by rw [List.toList_toArray]; exact lets_rev (wAt_lets hk13 nn i)) (by show (List.toArray _).size ≤ 16; simp [wdB_list, wAt_len]; omega) (by rw [hos]; show kk ^ (List.toArray _).size ≤ _; simp [wdB_list, wAt_len]) (by omega)
      rw [List.toList_toArray, wdB_list] at this
      rw [wdB_list]
      exact this)
    have HOUT := hid (show (⟨(outB (mirB o kk nn) (kk ^ nn)).toArray⟩ : ByteArray) = mirOut o kk nn from rfl)
    obtain ⟨m, hm⟩ : ∃ m, m = kk ^ nn := ⟨_, rfl⟩
    rw [← hm] at HWO hp HOUT
    clear hc hk hn1 hn4 hos hl hk13 hm
    go_enter Try.func10, Try.ntmps10
    go_wp2_with fail
    refine (HI.out _).mono ?_
    rintro e w1 ⟨rfl, hb1⟩
    obtain ⟨⟨hA, hFA⟩, ⟨hB, hFB⟩, hz, hbw⟩ := box2 hb1
    obtain ⟨ha0, ha1, ha2⟩ := three hA
    have HA := hid hA
    have HB := hid hB
    have HFB := hid hFB
    have hz0 : w.heap.size < w1.heap.size := by omega
    clear hA hFA hB hFB
    go_wp2_with fail
    refine (HWO.out _).mono ?_
    rintro e w2 ⟨v, rfl, hown, hb2⟩
    obtain ⟨G, hG⟩ : ∃ G, G = w1.heap.size := ⟨_, rfl⟩
    have hbox := box_kept (show Below (w1.heap.size + 1) _ w2 by simpa using hb2)
    have hbw2 : Below w.heap.size w w2 := hbw.trans (((Below.refl _ _).alloc (Nat.le_refl _) _).trans (hb2.mono (by simp)) |>.mono hbw.size)
    have hbw12 : Below w1.heap.size w1 w2 := ((Below.refl _ _).alloc (Nat.le_refl _) _).trans (hb2.mono (by simp))
    obtain ⟨hx0, hx1, hx2⟩ := three (cells_below HA.out hbw12 hz0)
    have HB2 := hid (cells_below HB.out hbw12 hz)
    have HFB2 := hid (frozen_below HFB.out hbw12 hz)
    have hm27 : m ≤ 140737488351232 := by omega
    have hown2 := owns_base (base' := G + 1) hown (by simp; omega)
    obtain ⟨a5, c5, rfl, hr5⟩ := owns_rowAt hown2 hm27
    have hbl5 : ∀ b off, a5 = some ⟨b, off, none⟩ → G < b := fun b off he => by
      have := (hown2.lt b (by rw [he]; rfl)).1
      omega
    have HBL := hid hbl5
    have HR5 := hid hr5
    have hsz2 : G < w2.heap.size := by have := hb2.size; simp at this; omega
    rw [← hG]
    rw [← hG] at hbox hz hz0
    have HBOX := hid hbox
    clear hbox hown hown2 hr5 hbl5 hb2 hbw12 hbw hb1 ha0 ha1 ha2 HA HB HFB HI HWO hG
    go_wp2
    go_loopw [6] (fun i wr => ∃ j : Nat, j ≤ m ∧ i = .int .i64 j ∧ (∀ q, wr.cell? ⟨G, q, none⟩ = (#[.int .i64 kk, .int .i64 nn, .string ⟨(outB (mirB o kk nn) j).toArray⟩] : Array Value)[q]?) ∧ (∀ q, wr.frozen? ⟨G, q, none⟩ = false) ∧ w2.grownBy wr (some G)) (fun i _ => m - (intOf i).toNat)
    case atStart => exact ⟨0, by omega, rfl, fun q => (HBOX.out q).1, fun q => (HBOX.out q).2, World.grownBy.refl _ _⟩
    case round =>
      obtain ⟨j, hj, rfl, hcs, hfs, hgr⟩ := hrel
      have HCS := hid hcs
      have HFS := hid hfs
      have hGl := Nat.lt_of_lt_of_le hsz2 hgr.size
      by_cases hlt : j < m
      · obtain ⟨b5, o5, rfl, hb5, hcl5⟩ := HR5.out.at_ (by omega)
        have hwc := hcl5 j _ (strVals_get (wds_get hlt))
        have hbG := HBL.out b5 o5 rfl
        have hd0 := hgr.cell hx0 (by simp; omega)
        have hd1 := hgr.cell hx1 (by simp; omega)
        have hd2 := hgr.cell hx2 (by simp; omega)
        have hwd := hgr.cell hwc (by simp; omega)
        have hbl := Nat.lt_of_lt_of_le (show w.heap.size < w2.heap.size by omega) hgr.size
        have hxl : w.heap.size < wr.drew.heap.size := hbl
        have hgsz := hgr.size
        have hO : wr.cell? ⟨G, 2, none⟩ = some (.string ⟨(outB (mirB o kk nn) j).toArray⟩) := hcs 2
        have hF := hfs 2
        have hji : (j : Int) < (m : Int) := by omega
        have hj0 : (0 : Int) ≤ (j : Int) := by omega
        have HMj := hid (HM.out j)
        have HLj := hid (HL.out j)
        have hg0 := grown_drew hgr
        obtain ⟨s, hs⟩ : ∃ s, s = wdB kk nn j := ⟨_, rfl⟩
        obtain ⟨x, hx⟩ : ∃ x : ByteArray, x = ⟨(outB (mirB o kk nn) j).toArray⟩ := ⟨_, rfl⟩
        obtain ⟨y, hy⟩ : ∃ y, y = mirB o kk nn j := ⟨_, rfl⟩
        have HST := hid (show x ++ ⟨#[y]⟩ = ⟨(outB (mirB o kk nn) (j + 1)).toArray⟩ by
          rw [hx, hy, show (ByteArray.mk #[mirB o kk nn j]) = ⟨[mirB o kk nn j].toArray⟩ from rfl, ByteArray.mk_append_mk]
          simp [outB, List.range_succ])
        have hcat : ¬ (9223372036854775807 < x.size + 1) := by
          rw [hx]; show ¬ (9223372036854775807 < (List.toArray _).size + 1); simp [outB_len]; omega
        rw [← hs] at hwd HMj HLj
        rw [← hy] at HLj
        rw [← hx] at hO
        rw [← hx] at HCS
        have hGd : G < wr.drew.heap.size := hGl
        clear hcs hfs hwc hcl5 hgr hs hx hy HM HL
        go_wp2_with fail
        obtain ⟨S, hSd⟩ : ∃ S : World → Prop, S = fun V => V.cell? ⟨w.heap.size, 0, none⟩ = some (.int .i64 kk) ∧ V.cell? ⟨w.heap.size, 1, none⟩ = some (.int .i64 nn) ∧ V.cell? ⟨w.heap.size, 2, none⟩ = some (.string o) ∧ V.cell? ⟨b5, o5 + j, none⟩ = some (.string s) ∧ V.cell? ⟨G, 2, none⟩ = some (.string x) := ⟨_, rfl⟩
        have HSO := hid (show ∀ V, S V → V.cell? ⟨w.heap.size, 0, none⟩ = some (.int .i64 kk) ∧ V.cell? ⟨w.heap.size, 1, none⟩ = some (.int .i64 nn) ∧ V.cell? ⟨w.heap.size, 2, none⟩ = some (.string o) ∧ V.cell? ⟨b5, o5 + j, none⟩ = some (.string s) ∧ V.cell? ⟨G, 2, none⟩ = some (.string x) from fun V hV => by rw [hSd] at hV; exact hV)
        have hS0 : S wr.drew := by rw [hSd]; exact ⟨hd0, hd1, hd2, hwd, hO⟩
        have hbwd : b5 < wr.drew.heap.size := Nat.lt_of_lt_of_le hb5 (by show _ ≤ wr.heap.size; exact hgsz)
        have HSM := hid (show ∀ V V', S V → Below V.heap.size V V' → wr.drew.heap.size ≤ V.heap.size → S V' from fun V V' hV hb hz => by
          rw [hSd] at hV ⊢
          obtain ⟨e0, e1, e2, e3, e4⟩ := hV
          exact ⟨(hb.cell (p := ⟨w.heap.size, 0, none⟩) (Nat.lt_of_lt_of_le hxl hz)).trans e0, (hb.cell (p := ⟨w.heap.size, 1, none⟩) (Nat.lt_of_lt_of_le hxl hz)).trans e1, (hb.cell (p := ⟨w.heap.size, 2, none⟩) (Nat.lt_of_lt_of_le hxl hz)).trans e2, (hb.cell (p := ⟨b5, o5 + j, none⟩) (Nat.lt_of_lt_of_le hbwd hz)).trans e3, (hb.cell (p := ⟨G, 2, none⟩) (Nat.lt_of_lt_of_le hGd hz)).trans e4⟩)
        clear hSd hd0 hd1 hd2 hwd hO
        refine wp_region_T (S := S) 11 (by kernel_rfl) ?_
        (refine wpAnyT_take (i := 0) (v := ?v0) rfl (by kernel_rfl) (by kernel_rfl) (by kernel_rfl) (by kernel_rfl) (fun _ _ _ h => h) (Or.inl ⟨by rfl, ?y0⟩) (by assumption) ?r0; case y0 => (intro V hSw; have hSw := HSO.out V hSw; go_split_ands; go_simp; first | done | with_reducible rfl); try simp only [Act.put, List.setIfInBounds_toArray, List.set_cons_zero, List.set_cons_succ])
        (refine wpAnyT_take (i := 1) (v := ?v1) rfl (by kernel_rfl) (by kernel_rfl) (by kernel_rfl) (by kernel_rfl) (fun _ _ _ h => h) (Or.inl ⟨by rfl, ?y1⟩) (by assumption) ?r1; case y1 => (intro V hSw; have hSw := HSO.out V hSw; go_split_ands; go_simp; first | done | with_reducible rfl); try simp only [Act.put, List.setIfInBounds_toArray, List.set_cons_zero, List.set_cons_succ])
        (refine wpAnyT_take (i := 2) (v := ?v2) rfl (by kernel_rfl) (by kernel_rfl) (by kernel_rfl) (by kernel_rfl) (fun _ _ _ h => h) (Or.inl ⟨by rfl, ?y2⟩) (by assumption) ?r2; case y2 => (intro V hSw; have hSw := HSO.out V hSw; go_split_ands; go_simp; first | done | with_reducible rfl); try simp only [Act.put, List.setIfInBounds_toArray, List.set_cons_zero, List.set_cons_succ])
        (refine wpAnyT_take (i := 3) (v := ?v3) rfl (by kernel_rfl) (by kernel_rfl) (by kernel_rfl) (by kernel_rfl) (fun _ _ _ h => h) (Or.inl ⟨by rfl, ?y3⟩) (by assumption) ?r3; case y3 => (intro V hSw; have hSw := HSO.out V hSw; go_split_ands; go_simp; first | done | with_reducible rfl); try simp only [Act.put, List.setIfInBounds_toArray, List.set_cons_zero, List.set_cons_succ])
        (refine wpAnyT_take (i := 4) (v := ?v4) rfl (by kernel_rfl) (by kernel_rfl) (by kernel_rfl) (by kernel_rfl) (fun _ _ _ h => h) (Or.inl ⟨by rfl, ?y4⟩) (by assumption) ?r4; case y4 => (intro V hSw; have hSw := HSO.out V hSw; go_split_ands; go_simp; first | done | with_reducible rfl); try simp only [Act.put, List.setIfInBounds_toArray, List.set_cons_zero, List.set_cons_succ])
        (refine wpAnyT_take (i := 5) (v := ?v5) rfl (by kernel_rfl) (by kernel_rfl) (by kernel_rfl) (by kernel_rfl) (fun _ _ _ h => h) (Or.inl ⟨by rfl, ?y5⟩) (by assumption) ?r5; case y5 => (intro V hSw; have hSw := HSO.out V hSw; go_split_ands; go_simp; first | done | with_reducible rfl); try simp only [Act.put, List.setIfInBounds_toArray, List.set_cons_zero, List.set_cons_succ])
        (refine wpAnyT_take (i := 6) (v := ?v6) rfl (by kernel_rfl) (by kernel_rfl) (by kernel_rfl) (by kernel_rfl) (fun _ _ _ h => h) (Or.inl ⟨by rfl, ?y6⟩) (by assumption) ?r6; case y6 => (intro V hSw; have hSw := HSO.out V hSw; go_split_ands; go_simp; first | done | with_reducible rfl); try simp only [Act.put, List.setIfInBounds_toArray, List.set_cons_zero, List.set_cons_succ])
        refine wpAnyT_step (i := 7) rfl (by kernel_rfl) (by decide) (fun K hK => ?_)
        go_simp
        go_at_call 36
        refine (HMj.out _).mono ?_
        rintro e w3 ⟨rfl, hb3⟩
        have hF3 := (hb3.frozen (p := ⟨G, 2, none⟩) hGd).trans hF
        have hg3 := grown_trans hg0 (below_grown hb3 (some G))
        have hS3 := HSM.out _ _ hS0 hb3 (Nat.le_refl _)
        go_wp2_with fail
        refine hK.out _ _ hS3 ?_
        clear hK K
        try simp only [Act.put, List.setIfInBounds_toArray, List.set_cons_zero, List.set_cons_succ]
        refine wpAnyT_step (i := 8) rfl (by kernel_rfl) (by decide) (fun K hK => ?_)
        go_simp
        go_at_call 35
        refine (HLj.out _).mono ?_
        rintro e w4 ⟨rfl, hb4⟩
        have hF4 := (hb4.frozen (p := ⟨G, 2, none⟩) (Nat.lt_of_lt_of_le hGd hb3.size)).trans hF3
        have hg4 := grown_trans hg3 (below_grown hb4 (some G))
        have hS4 := HSM.out _ _ hS3 hb4 hb3.size
        have hO4 := (HSO.out _ hS4).2.2.2.2
        go_wp2_with fail
        refine hK.out _ _ hS4 ?_
        clear hK K
        try simp only [Act.put, List.setIfInBounds_toArray, List.set_cons_zero, List.set_cons_succ]
        (refine wpAnyT_take (i := 9) (v := ?v9) rfl (by kernel_rfl) (by kernel_rfl) (by kernel_rfl) (by kernel_rfl) (fun _ _ _ h => h) (Or.inl ⟨by rfl, ?y9⟩) (by assumption) ?r9; case y9 => (intro V hSw; have hSw := HSO.out V hSw; go_split_ands; go_simp; first | done | with_reducible rfl); try simp only [Act.put, List.setIfInBounds_toArray, List.set_cons_zero, List.set_cons_succ])
        (refine wpAnyT_take (i := 10) (v := ?v10) rfl (by kernel_rfl) (by kernel_rfl) (by kernel_rfl) (by kernel_rfl) (fun _ _ _ h => h) (Or.inl ⟨by rfl, ?y10⟩) (by assumption) ?r10; case y10 => (intro V hSw; have hSw := HSO.out V hSw; go_split_ands; go_simp; first | done | with_reducible rfl); try simp only [Act.put, List.setIfInBounds_toArray, List.set_cons_zero, List.set_cons_succ])
        refine wpAnyT_last rfl (by kernel_rfl) (by kernel_rfl) (fun K hK => ?_)
        go_simp
        refine hK.out _ _ ?_
        clear hK K
        go_wp2
        go_roundw
        case rel =>
          refine ⟨j + 1, by omega, by go_num, fun q => ?_, fun q => (World.frozen?_setCell _ _ _ _).trans ((hb4.frozen (p := ⟨G, q, none⟩) (Nat.lt_of_lt_of_le hGd hb3.size)).trans ((hb3.frozen (p := ⟨G, q, none⟩) hGd).trans (HFS.out q))), grown_setCell hg4 _⟩
          have h4 := cells_below (cells_below (w := wr.drew) (A := #[.int .i64 kk, .int .i64 nn, .string x]) HCS.out hb3 hGd) hb4 (Nat.lt_of_lt_of_le hGd hb3.size)
          refine (cells_set h4 2 (by simp) (.string (x ++ ⟨#[y]⟩)) q).trans ?_
          rw [HST.out]; rfl
        case measure => simp [intOf]; omega
      · obtain rfl : j = m := by omega
        obtain ⟨hc0, hc1, hc2⟩ := three hcs
        have hBw : ∀ q v, (#[.int .i64 0, .int .i64 0, .string ⟨#[]⟩] : Array Value)[q]? = some v → wr.cell? ⟨w.heap.size + 1, q, none⟩ = some v := fun q v hq => hgr.cell ((HB2.out q).trans hq) (by simp; omega)
        have hb0 := hBw 0 _ rfl
        have hb1 := hBw 1 _ rfl
        have hb2 := hBw 2 _ rfl
        have hFw : ∀ q, wr.frozen? ⟨w.heap.size + 1, q, none⟩ = false := fun q => (hgr.frozen_far ⟨w.heap.size + 1, q, none⟩ (by show w.heap.size + 1 < _; omega) (by simp; omega)).trans (HFB2.out q)
        have hf0 := hFw 0
        have hf1 := hFw 1
        have hf2 := hFw 2
        have hzw : w.heap.size + 1 < wr.heap.size := by omega
        have hbwr : Below w.heap.size w wr := hbw2.grown hgr hbw2.size (by rintro k ⟨⟩; omega)
        rw [HOUT.out] at hc2
        clear hBw hFw hcs hfs
        go_wp2
        refine bodyPost_ret (v := .tuple #[.agg #[.int .i64 kk, .int .i64 nn, .string (mirOut o kk nn)], .bool true]) (by simp [results, Try.results10, go_sem, hb0, hb1, hb2]) rfl ⟨by rw [HX.out], ?_⟩
        exact ((hbwr.setCell (by simp) _).setCell (by simp) _).setCell (by simp) _
end Go.Proofs.Ytcmmlldincflkaa
