/- Exchanged codes: the reference's function. Conditions: sizes within the reach. -/
import Derived.Test.YtcmmlldincflkaaSwap
import Derived.Test.YtcmmlldincflkaaTail
namespace Go.Proofs.Ytcmmlldincflkaa
open Go.RowKit

/-- Codes of two letters. -/
def isCode2 (k n : Int) (o : ByteArray) : Bool := isCode k n o && !(k == 3)
theorem code2_facts {k n : Int} {o : ByteArray} (h : isCode2 k n o = true) : ∃ nn : Nat, k = 2 ∧ n = nn ∧ (1 ≤ nn ∧ nn ≤ 4) ∧ 2 ^ nn ≤ 27 ∧ o.size = 2 ^ nn ∧ lets 2 o.data.toList = true ∧ isCode 2 nn o = true := by
  unfold isCode2 at h
  rw [Bool.and_eq_true] at h
  obtain ⟨h1, h2⟩ := h
  obtain ⟨kk, nn, rfl, rfl, hk, hn, hp, ho, hl⟩ := code_facts h1
  have h3 : kk = 2 := by simp at h2; omega
  subst h3
  exact ⟨nn, rfl, rfl, hn, hp, ho, hl, h1⟩
def exC (k n : Int) (o : ByteArray) : Value := codeR (isCode2 k n o) k n (exOut o n.toNat)
set_option maxHeartbeats 2000000 in
set_option maxRecDepth 100000 in
theorem impl_ExchangeCode_no (k n : Int) (o : ByteArray) (w : World) (ho : o.size ≤ maxLen) (hx : isCode2 k n o = false) :
    Calls Try.prog 12 #[.agg #[.int .i64 k, .int .i64 n, .string o]] w fun e w' => e = .returned (exC k n o) ∧ Below w.heap.size w w' := by
  have HI := hid (fun w : World => impl_IsCode_c k n o w ho)
  cases hc : isCode k n o
  · rw [hc] at HI
    clear hc
    have HX := hid (show exC k n o = .tuple #[.agg #[.int .i64 0, .int .i64 0, .string ⟨#[]⟩], .bool false] by unfold exC; rw [hx]; rfl)
    go_enter Try.func12, Try.ntmps12
    go_wp2_with fail
    refine (HI.out _).mono ?_
    rintro e w1 ⟨rfl, hb1⟩
    obtain ⟨⟨hA, hFA⟩, ⟨hB, hFB⟩, hz, hbw⟩ := box2 hb1
    obtain ⟨hb0, hb1', hb2'⟩ := three hB
    obtain ⟨ha0, ha1, ha2⟩ := three hA
    have hf0 := hFB 0
    have hf1 := hFB 1
    have hf2 := hFB 2
    clear hA hFA hB hFB
    go_wp2
    refine bodyPost_ret (v := .tuple #[.agg #[.int .i64 0, .int .i64 0, .string ⟨#[]⟩], .bool false]) (by simp [results, Try.results12, go_sem, hb0, hb1', hb2']) rfl ⟨by rw [HX.out], ?_⟩
    first | exact hbw | exact ((hbw.setCell (by simp) _).setCell (by simp) _).setCell (by simp) _
  · have hk : (k == 3) = true := by unfold isCode2 at hx; rw [hc] at hx; simpa using hx
    rw [hc] at HI
    clear hc
    have HX := hid (show exC k n o = .tuple #[.agg #[.int .i64 0, .int .i64 0, .string ⟨#[]⟩], .bool false] by unfold exC; rw [hx]; rfl)
    go_enter Try.func12, Try.ntmps12
    go_wp2_with fail
    refine (HI.out _).mono ?_
    rintro e w1 ⟨rfl, hb1⟩
    obtain ⟨⟨hA, hFA⟩, ⟨hB, hFB⟩, hz, hbw⟩ := box2 hb1
    obtain ⟨hb0, hb1', hb2'⟩ := three hB
    obtain ⟨ha0, ha1, ha2⟩ := three hA
    have hf0 := hFB 0
    have hf1 := hFB 1
    have hf2 := hFB 2
    clear hA hFA hB hFB
    go_wp2
    refine bodyPost_ret (v := .tuple #[.agg #[.int .i64 0, .int .i64 0, .string ⟨#[]⟩], .bool false]) (by simp [results, Try.results12, go_sem, hb0, hb1', hb2']) rfl ⟨by rw [HX.out], ?_⟩
    first | exact hbw | exact ((hbw.setCell (by simp) _).setCell (by simp) _).setCell (by simp) _
set_option maxHeartbeats 2000000 in
set_option maxRecDepth 100000 in
theorem spec_ExchangeCode_no (k n : Int) (o : ByteArray) (w : World) (ho : o.size ≤ maxLen) (hx : isCode2 k n o = false) :
    Calls Try.prog 13 #[.agg #[.int .i64 k, .int .i64 n, .string o]] w fun e w' => e = .returned (exC k n o) ∧ Below w.heap.size w w' := by
  have HI := hid (fun w : World => spec_IsCode_c k n o w ho)
  cases hc : isCode k n o
  · rw [hc] at HI
    clear hc
    have HX := hid (show exC k n o = .tuple #[.agg #[.int .i64 0, .int .i64 0, .string ⟨#[]⟩], .bool false] by unfold exC; rw [hx]; rfl)
    go_enter Try.func13, Try.ntmps13
    go_wp2_with fail
    refine (HI.out _).mono ?_
    rintro e w1 ⟨rfl, hb1⟩
    obtain ⟨⟨hA, hFA⟩, ⟨hB, hFB⟩, hz, hbw⟩ := box2 hb1
    obtain ⟨hb0, hb1', hb2'⟩ := three hB
    obtain ⟨ha0, ha1, ha2⟩ := three hA
    have hf0 := hFB 0
    have hf1 := hFB 1
    have hf2 := hFB 2
    clear hA hFA hB hFB
    go_wp2
    refine bodyPost_ret (v := .tuple #[.agg #[.int .i64 0, .int .i64 0, .string ⟨#[]⟩], .bool false]) (by simp [results, Try.results13, go_sem, hb0, hb1', hb2']) rfl ⟨by rw [HX.out], ?_⟩
    first | exact hbw | exact ((hbw.setCell (by simp) _).setCell (by simp) _).setCell (by simp) _
  · have hk : (k == 3) = true := by unfold isCode2 at hx; rw [hc] at hx; simpa using hx
    rw [hc] at HI
    clear hc
    have HX := hid (show exC k n o = .tuple #[.agg #[.int .i64 0, .int .i64 0, .string ⟨#[]⟩], .bool false] by unfold exC; rw [hx]; rfl)
    go_enter Try.func13, Try.ntmps13
    go_wp2_with fail
    refine (HI.out _).mono ?_
    rintro e w1 ⟨rfl, hb1⟩
    obtain ⟨⟨hA, hFA⟩, ⟨hB, hFB⟩, hz, hbw⟩ := box2 hb1
    obtain ⟨hb0, hb1', hb2'⟩ := three hB
    obtain ⟨ha0, ha1, ha2⟩ := three hA
    have hf0 := hFB 0
    have hf1 := hFB 1
    have hf2 := hFB 2
    clear hA hFA hB hFB
    go_wp2
    refine bodyPost_ret (v := .tuple #[.agg #[.int .i64 0, .int .i64 0, .string ⟨#[]⟩], .bool false]) (by simp [results, Try.results13, go_sem, hb0, hb1', hb2']) rfl ⟨by rw [HX.out], ?_⟩
    first | exact hbw | exact ((hbw.setCell (by simp) _).setCell (by simp) _).setCell (by simp) _
set_option maxHeartbeats 2000000 in
set_option maxRecDepth 100000 in
theorem impl_ExchangeCode_c (k n : Int) (o : ByteArray) (w : World) (ho : o.size ≤ maxLen) :
    Calls Try.prog 12 #[.agg #[.int .i64 k, .int .i64 n, .string o]] w fun e w' => e = .returned (exC k n o) ∧ Below w.heap.size w w' := by
  cases hc : isCode2 k n o
  · exact impl_ExchangeCode_no k n o w ho hc
  · obtain ⟨nn, rfl, rfl, ⟨hn1, hn4⟩, hp, hos, hl, hic⟩ := code2_facts hc
    have HX := hid (show exC 2 nn o = .tuple #[.agg #[.int .i64 2, .int .i64 nn, .string (exOut o nn)], .bool true] by unfold exC; rw [hc]; rfl)
    have HI := hid (fun w : World => impl_IsCode_c 2 nn o w ho)
    rw [hic] at HI
    have HM := hid (fun w : World => impl_exchanged_c nn o w hn1 hn4 hp hos hl)
    clear hc hn1 hn4 hp hos hl hic
    go_enter Try.func12, Try.ntmps12
    go_wp2_with fail
    refine (HI.out _).mono ?_
    rintro e w1 ⟨rfl, hb1⟩
    obtain ⟨⟨hA, hFA⟩, ⟨hB, hFB⟩, hz, hbw⟩ := box2 hb1
    obtain ⟨ha0, ha1, ha2⟩ := three hA
    have HB := hid hB
    have HFB := hid hFB
    clear hA hFA hB hFB
    go_wp2_with fail
    refine (HM.out _).mono ?_
    rintro e w2 ⟨rfl, hb2⟩
    obtain ⟨hb0, hb1', hb2'⟩ := three (cells_below HB.out hb2 hz)
    have hf := frozen_below HFB.out hb2 hz
    have hf0 := hf 0
    have hf1 := hf 1
    have hf2 := hf 2
    have hz2 := Nat.lt_of_lt_of_le hz hb2.size
    have hbw2 := bs hbw hb2
    clear hf ha0 ha1 ha2
    go_wp2
    refine bodyPost_ret (v := .tuple #[.agg #[.int .i64 2, .int .i64 nn, .string (exOut o nn)], .bool true]) (by simp [results, Try.results12, go_sem, hb0, hb1', hb2']) rfl ⟨by rw [HX.out], ?_⟩
    exact ((hbw2.setCell (by simp) _).setCell (by simp) _).setCell (by simp) _
end Go.Proofs.Ytcmmlldincflkaa
namespace Go.Proofs.Ytcmmlldincflkaa
open Go.RowKit

set_option maxHeartbeats 4000000 in
set_option maxRecDepth 100000 in
theorem spec_ExchangeCode_c (k n : Int) (o : ByteArray) (w : World) (ho : o.size ≤ maxLen) :
    Calls Try.prog 13 #[.agg #[.int .i64 k, .int .i64 n, .string o]] w fun e w' => e = .returned (exC k n o) ∧ Below w.heap.size w w' := by
  cases hc : isCode2 k n o
  · exact spec_ExchangeCode_no k n o w ho hc
  · obtain ⟨nn, rfl, rfl, ⟨hn1, hn4⟩, hp, hos, hl, hic⟩ := code2_facts hc
    have HX := hid (show exC 2 nn o = .tuple #[.agg #[.int .i64 2, .int .i64 nn, .string (exOut o nn)], .bool true] by unfold exC; rw [hc]; rfl)
    have HI := hid (fun w : World => spec_IsCode_c 2 nn o w ho)
    rw [hic] at HI
    have hk13 : 1 ≤ 2 ∧ 2 ≤ 3 := by omega
    have HWO := hid (fun w : World => spec_l2All_c 2 nn w hk13 (by omega))
    unfold WordsPost at HWO
    have HM := hid (fun (i : Nat) (w : World) => l32Swap_c (wdB 2 nn i) w (by rw [wdB_size]; omega))
    have HL := hid (fun (i : Nat) (w : World) => show Calls Try.prog 35 #[.agg #[.int .i64 2, .int .i64 nn, .string o], .string ⟨((wdB 2 nn i).data.toList.map swB).toArray⟩] w fun e w' => e = .returned (.string ⟨#[giveB o (idxOf 2 ((wAt 2 nn i).map swB))]⟩) ∧ Below w.heap.size w w' from by
      have := l11Letter_c 2 nn o ⟨((wdB 2 nn i).data.toList.map swB).toArray⟩ w (by decide) (by rw [List.toList_toArray]; exact swB_lets _) (by show (List.toArray _).size ≤ 16; simp [wdB_list, wAt_len]; omega) (by rw [hos]; show 2 ^ (List.toArray _).size ≤ _; simp [wdB_list, wAt_len]) (by omega)
      rw [List.toList_toArray, wdB_list] at this
      rw [wdB_list]
      exact this)
    have HM2 := hid (fun (i : Nat) (w : World) => show Calls Try.prog 38 #[.string ⟨#[giveB o (idxOf 2 ((wAt 2 nn i).map swB))]⟩] w fun e w' => e = .returned (.string ⟨#[exB o nn i]⟩) ∧ w = w' from l32Swap_c ⟨#[giveB o (idxOf 2 ((wAt 2 nn i).map swB))]⟩ w (by show (Array.size _) ≤ _; simp))
    have HOUT := hid (show (⟨(outB (exB o nn) (2 ^ nn)).toArray⟩ : ByteArray) = exOut o nn from rfl)
    obtain ⟨m, hm⟩ : ∃ m, m = 2 ^ nn := ⟨_, rfl⟩
    rw [← hm] at HWO hp HOUT
    clear hc hn1 hn4 hos hl hk13 hm hic
    go_enter Try.func13, Try.ntmps13
    go_wp2_with fail
    refine (HI.out _).mono ?_
    rintro e w1 ⟨rfl, hb1⟩
    obtain ⟨⟨hA, hFA⟩, ⟨hB, hFB⟩, hz, hbw⟩ := box2 hb1
    obtain ⟨ha0, ha1, ha2⟩ := three hA
    have HA := hid hA
    have HB := hid hB
    have HFB := hid hFB
    have hz0 : w.heap.size < w1.heap.size := by omega
    clear hA hFA hB hFB
    go_wp2_with fail
    refine (HWO.out _).mono ?_
    rintro e w2 ⟨v, rfl, hown, hb2⟩
    obtain ⟨G, hG⟩ : ∃ G, G = w1.heap.size := ⟨_, rfl⟩
    have hbox := box_kept (show Below (w1.heap.size + 1) _ w2 by simpa using hb2)
    have hbw2 : Below w.heap.size w w2 := hbw.trans (((Below.refl _ _).alloc (Nat.le_refl _) _).trans (hb2.mono (by simp)) |>.mono hbw.size)
    have hbw12 : Below w1.heap.size w1 w2 := ((Below.refl _ _).alloc (Nat.le_refl _) _).trans (hb2.mono (by simp))
    obtain ⟨hx0, hx1, hx2⟩ := three (cells_below HA.out hbw12 hz0)
    have HB2 := hid (cells_below HB.out hbw12 hz)
    have HFB2 := hid (frozen_below HFB.out hbw12 hz)
    have hm27 : m ≤ 140737488351232 := by omega
    have hown2 := owns_base (base' := G + 1) hown (by simp; omega)
    obtain ⟨a5, c5, rfl, hr5⟩ := owns_rowAt hown2 hm27
    have hbl5 : ∀ b off, a5 = some ⟨b, off, none⟩ → G < b := fun b off he => by
      have := (hown2.lt b (by rw [he]; rfl)).1
      omega
    have HBL := hid hbl5
    have HR5 := hid hr5
    have hsz2 : G < w2.heap.size := by have := hb2.size; simp at this; omega
    rw [← hG]
    rw [← hG] at hbox hz hz0
    have HBOX := hid hbox
    clear hbox hown hown2 hr5 hbl5 hb2 hbw12 hbw hb1 ha0 ha1 ha2 HA HB HFB HI HWO hG
    go_wp2
    go_loopw [6] (fun i wr => ∃ j : Nat, j ≤ m ∧ i = .int .i64 j ∧ (∀ q, wr.cell? ⟨G, q, none⟩ = (#[.int .i64 2, .int .i64 nn, .string ⟨(outB (exB o nn) j).toArray⟩] : Array Value)[q]?) ∧ (∀ q, wr.frozen? ⟨G, q, none⟩ = false) ∧ w2.grownBy wr (some G)) (fun i _ => m - (intOf i).toNat)
    case atStart => exact ⟨0, by omega, rfl, fun q => (HBOX.out q).1, fun q => (HBOX.out q).2, World.grownBy.refl _ _⟩
    case round =>
      obtain ⟨j, hj, rfl, hcs, hfs, hgr⟩ := hrel
      have HCS := hid hcs
      have HFS := hid hfs
      have hGl := Nat.lt_of_lt_of_le hsz2 hgr.size
      by_cases hlt : j < m
      · obtain ⟨b5, o5, rfl, hb5, hcl5⟩ := HR5.out.at_ (by omega)
        have hwc := hcl5 j _ (strVals_get (wds_get hlt))
        have hbG := HBL.out b5 o5 rfl
        have hd0 := hgr.cell hx0 (by simp; omega)
        have hd1 := hgr.cell hx1 (by simp; omega)
        have hd2 := hgr.cell hx2 (by simp; omega)
        have hwd := hgr.cell hwc (by simp; omega)
        have hbl := Nat.lt_of_lt_of_le (show w.heap.size < w2.heap.size by omega) hgr.size
        have hxl : w.heap.size < wr.drew.heap.size := hbl
        have hgsz := hgr.size
        have hO : wr.cell? ⟨G, 2, none⟩ = some (.string ⟨(outB (exB o nn) j).toArray⟩) := hcs 2
        have hF := hfs 2
        have hji : (j : Int) < (m : Int) := by omega
        have hj0 : (0 : Int) ≤ (j : Int) := by omega
        have HMj := hid (HM.out j)
        have HLj := hid (HL.out j)
        have HM2j := hid (HM2.out j)
        obtain ⟨z, hzz⟩ : ∃ z, z = giveB o (idxOf 2 ((wAt 2 nn j).map swB)) := ⟨_, rfl⟩
        rw [← hzz] at HLj HM2j
        have hg0 := grown_drew hgr
        obtain ⟨s, hs⟩ : ∃ s, s = wdB 2 nn j := ⟨_, rfl⟩
        obtain ⟨x, hx⟩ : ∃ x : ByteArray, x = ⟨(outB (exB o nn) j).toArray⟩ := ⟨_, rfl⟩
        obtain ⟨y, hy⟩ : ∃ y, y = exB o nn j := ⟨_, rfl⟩
        have HST := hid (show x ++ ⟨#[y]⟩ = ⟨(outB (exB o nn) (j + 1)).toArray⟩ by
          rw [hx, hy, show (ByteArray.mk #[exB o nn j]) = ⟨[exB o nn j].toArray⟩ from rfl, ByteArray.mk_append_mk]
          simp [outB, List.range_succ])
        have hcat : ¬ (9223372036854775807 < x.size + 1) := by
          rw [hx]; show ¬ (9223372036854775807 < (List.toArray _).size + 1); simp [outB_len]; omega
        rw [← hs] at hwd HMj HLj
        rw [← hy] at HM2j
        rw [← hx] at hO
        rw [← hx] at HCS
        have hGd : G < wr.drew.heap.size := hGl
        clear hcs hfs hwc hcl5 hgr hs hx hy HM HL HM2 hzz
        go_wp2_with fail
        obtain ⟨S, hSd⟩ : ∃ S : World → Prop, S = fun V => V.cell? ⟨w.heap.size, 0, none⟩ = some (.int .i64 2) ∧ V.cell? ⟨w.heap.size, 1, none⟩ = some (.int .i64 nn) ∧ V.cell? ⟨w.heap.size, 2, none⟩ = some (.string o) ∧ V.cell? ⟨b5, o5 + j, none⟩ = some (.string s) ∧ V.cell? ⟨G, 2, none⟩ = some (.string x) := ⟨_, rfl⟩
        have HSO := hid (show ∀ V, S V → V.cell? ⟨w.heap.size, 0, none⟩ = some (.int .i64 2) ∧ V.cell? ⟨w.heap.size, 1, none⟩ = some (.int .i64 nn) ∧ V.cell? ⟨w.heap.size, 2, none⟩ = some (.string o) ∧ V.cell? ⟨b5, o5 + j, none⟩ = some (.string s) ∧ V.cell? ⟨G, 2, none⟩ = some (.string x) from fun V hV => by rw [hSd] at hV; exact hV)
        have hS0 : S wr.drew := by rw [hSd]; exact ⟨hd0, hd1, hd2, hwd, hO⟩
        have hbwd : b5 < wr.drew.heap.size := Nat.lt_of_lt_of_le hb5 (by show _ ≤ wr.heap.size; exact hgsz)
        have HSM := hid (show ∀ V V', S V → Below V.heap.size V V' → wr.drew.heap.size ≤ V.heap.size → S V' from fun V V' hV hb hz => by
          rw [hSd] at hV ⊢
          obtain ⟨e0, e1, e2, e3, e4⟩ := hV
          exact ⟨(hb.cell (p := ⟨w.heap.size, 0, none⟩) (Nat.lt_of_lt_of_le hxl hz)).trans e0, (hb.cell (p := ⟨w.heap.size, 1, none⟩) (Nat.lt_of_lt_of_le hxl hz)).trans e1, (hb.cell (p := ⟨w.heap.size, 2, none⟩) (Nat.lt_of_lt_of_le hxl hz)).trans e2, (hb.cell (p := ⟨b5, o5 + j, none⟩) (Nat.lt_of_lt_of_le hbwd hz)).trans e3, (hb.cell (p := ⟨G, 2, none⟩) (Nat.lt_of_lt_of_le hGd hz)).trans e4⟩)
        clear hSd hd0 hd1 hd2 hwd hO
        refine wp_region_T (S := S) 12 (by kernel_rfl) ?_
        (refine wpAnyT_take (i := 0) (v := ?v0) rfl (by kernel_rfl) (by kernel_rfl) (by kernel_rfl) (by kernel_rfl) (fun _ _ _ h => h) (Or.inl ⟨by rfl, ?y0⟩) (by assumption) ?r0; case y0 => (intro V hSw; have hSw := HSO.out V hSw; go_split_ands; go_simp; first | done | with_reducible rfl); try simp only [Act.put, List.setIfInBounds_toArray, List.set_cons_zero, List.set_cons_succ])
        (refine wpAnyT_take (i := 1) (v := ?v1) rfl (by kernel_rfl) (by kernel_rfl) (by kernel_rfl) (by kernel_rfl) (fun _ _ _ h => h) (Or.inl ⟨by rfl, ?y1⟩) (by assumption) ?r1; case y1 => (intro V hSw; have hSw := HSO.out V hSw; go_split_ands; go_simp; first | done | with_reducible rfl); try simp only [Act.put, List.setIfInBounds_toArray, List.set_cons_zero, List.set_cons_succ])
        (refine wpAnyT_take (i := 2) (v := ?v2) rfl (by kernel_rfl) (by kernel_rfl) (by kernel_rfl) (by kernel_rfl) (fun _ _ _ h => h) (Or.inl ⟨by rfl, ?y2⟩) (by assumption) ?r2; case y2 => (intro V hSw; have hSw := HSO.out V hSw; go_split_ands; go_simp; first | done | with_reducible rfl); try simp only [Act.put, List.setIfInBounds_toArray, List.set_cons_zero, List.set_cons_succ])
        (refine wpAnyT_take (i := 3) (v := ?v3) rfl (by kernel_rfl) (by kernel_rfl) (by kernel_rfl) (by kernel_rfl) (fun _ _ _ h => h) (Or.inl ⟨by rfl, ?y3⟩) (by assumption) ?r3; case y3 => (intro V hSw; have hSw := HSO.out V hSw; go_split_ands; go_simp; first | done | with_reducible rfl); try simp only [Act.put, List.setIfInBounds_toArray, List.set_cons_zero, List.set_cons_succ])
        (refine wpAnyT_take (i := 4) (v := ?v4) rfl (by kernel_rfl) (by kernel_rfl) (by kernel_rfl) (by kernel_rfl) (fun _ _ _ h => h) (Or.inl ⟨by rfl, ?y4⟩) (by assumption) ?r4; case y4 => (intro V hSw; have hSw := HSO.out V hSw; go_split_ands; go_simp; first | done | with_reducible rfl); try simp only [Act.put, List.setIfInBounds_toArray, List.set_cons_zero, List.set_cons_succ])
        (refine wpAnyT_take (i := 5) (v := ?v5) rfl (by kernel_rfl) (by kernel_rfl) (by kernel_rfl) (by kernel_rfl) (fun _ _ _ h => h) (Or.inl ⟨by rfl, ?y5⟩) (by assumption) ?r5; case y5 => (intro V hSw; have hSw := HSO.out V hSw; go_split_ands; go_simp; first | done | with_reducible rfl); try simp only [Act.put, List.setIfInBounds_toArray, List.set_cons_zero, List.set_cons_succ])
        (refine wpAnyT_take (i := 6) (v := ?v6) rfl (by kernel_rfl) (by kernel_rfl) (by kernel_rfl) (by kernel_rfl) (fun _ _ _ h => h) (Or.inl ⟨by rfl, ?y6⟩) (by assumption) ?r6; case y6 => (intro V hSw; have hSw := HSO.out V hSw; go_split_ands; go_simp; first | done | with_reducible rfl); try simp only [Act.put, List.setIfInBounds_toArray, List.set_cons_zero, List.set_cons_succ])
        refine wpAnyT_step (i := 7) rfl (by kernel_rfl) (by decide) (fun K hK => ?_)
        go_simp
        go_at_call 38
        refine (HMj.out _).mono ?_
        rintro e w3 ⟨rfl, hw3⟩
        obtain rfl : w3 = wr.drew := hw3.symm
        go_wp2_with fail
        refine hK.out _ _ hS0 ?_
        clear hK K
        try simp only [Act.put, List.setIfInBounds_toArray, List.set_cons_zero, List.set_cons_succ]
        refine wpAnyT_step (i := 8) rfl (by kernel_rfl) (by decide) (fun K hK => ?_)
        go_simp
        go_at_call 35
        refine (HLj.out _).mono ?_
        rintro e w4 ⟨rfl, hb4⟩
        have hF4 := (hb4.frozen (p := ⟨G, 2, none⟩) hGd).trans hF
        have hg4 := grown_trans hg0 (below_grown hb4 (some G))
        have hS4 := HSM.out _ _ hS0 hb4 (Nat.le_refl _)
        have hO4 := (HSO.out _ hS4).2.2.2.2
        go_wp2_with fail
        refine hK.out _ _ hS4 ?_
        clear hK K
        try simp only [Act.put, List.setIfInBounds_toArray, List.set_cons_zero, List.set_cons_succ]
        refine wpAnyT_step (i := 9) rfl (by kernel_rfl) (by decide) (fun K hK => ?_)
        go_simp
        go_at_call 38
        refine (HM2j.out _).mono ?_
        rintro e w5 ⟨rfl, hw5⟩
        obtain rfl : w5 = w4 := hw5.symm
        go_wp2_with fail
        refine hK.out _ _ hS4 ?_
        clear hK K
        try simp only [Act.put, List.setIfInBounds_toArray, List.set_cons_zero, List.set_cons_succ]
        (refine wpAnyT_take (i := 10) (v := ?v10) rfl (by kernel_rfl) (by kernel_rfl) (by kernel_rfl) (by kernel_rfl) (fun _ _ _ h => h) (Or.inl ⟨by rfl, ?y10⟩) (by assumption) ?r10; case y10 => (intro V hSw; have hSw := HSO.out V hSw; go_split_ands; go_simp; first | done | with_reducible rfl); try simp only [Act.put, List.setIfInBounds_toArray, List.set_cons_zero, List.set_cons_succ])
        (refine wpAnyT_take (i := 11) (v := ?v11) rfl (by kernel_rfl) (by kernel_rfl) (by kernel_rfl) (by kernel_rfl) (fun _ _ _ h => h) (Or.inl ⟨by rfl, ?y11⟩) (by assumption) ?r11; case y11 => (intro V hSw; have hSw := HSO.out V hSw; go_split_ands; go_simp; first | done | with_reducible rfl); try simp only [Act.put, List.setIfInBounds_toArray, List.set_cons_zero, List.set_cons_succ])
        refine wpAnyT_last rfl (by kernel_rfl) (by kernel_rfl) (fun K hK => ?_)
        go_simp
        refine hK.out _ _ ?_
        clear hK K
        go_wp2
        go_roundw
        case rel =>
          refine ⟨j + 1, by omega, by go_num, fun q => ?_, fun q => (World.frozen?_setCell _ _ _ _).trans ((hb4.frozen (p := ⟨G, q, none⟩) hGd).trans (HFS.out q)), grown_setCell hg4 _⟩
          have h4 := cells_below (w := wr.drew) (A := #[.int .i64 2, .int .i64 nn, .string x]) HCS.out hb4 hGd
          refine (cells_set h4 2 (by simp) (.string (x ++ ⟨#[y]⟩)) q).trans ?_
          rw [HST.out]; rfl
        case measure => simp [intOf]; omega
      · obtain rfl : j = m := by omega
        obtain ⟨hc0, hc1, hc2⟩ := three hcs
        have hBw : ∀ q v, (#[.int .i64 0, .int .i64 0, .string ⟨#[]⟩] : Array Value)[q]? = some v → wr.cell? ⟨w.heap.size + 1, q, none⟩ = some v := fun q v hq => hgr.cell ((HB2.out q).trans hq) (by simp; omega)
        have hb0 := hBw 0 _ rfl
        have hb1 := hBw 1 _ rfl
        have hb2 := hBw 2 _ rfl
        have hFw : ∀ q, wr.frozen? ⟨w.heap.size + 1, q, none⟩ = false := fun q => (hgr.frozen_far ⟨w.heap.size + 1, q, none⟩ (by show w.heap.size + 1 < _; omega) (by simp; omega)).trans (HFB2.out q)
        have hf0 := hFw 0
        have hf1 := hFw 1
        have hf2 := hFw 2
        have hzw : w.heap.size + 1 < wr.heap.size := by omega
        have hbwr : Below w.heap.size w wr := hbw2.grown hgr hbw2.size (by rintro k ⟨⟩; omega)
        rw [HOUT.out] at hc2
        clear hBw hFw hcs hfs
        go_wp2
        refine bodyPost_ret (v := .tuple #[.agg #[.int .i64 2, .int .i64 nn, .string (exOut o nn)], .bool true]) (by simp [results, Try.results13, go_sem, hb0, hb1, hb2]) rfl ⟨by rw [HX.out], ?_⟩
        exact ((hbwr.setCell (by simp) _).setCell (by simp) _).setCell (by simp) _
end Go.Proofs.Ytcmmlldincflkaa
