/- Exchanged codes: the exported functions. Conditions: sizes within the reach. -/
import Derived.Test.YtabjbmickngohaaSwap
namespace Go.Proofs.Ytabjbmickngohaa
open Go.RowKit

/-- Codes of two letters. -/
def isCode2 (k n : Int) (o : ByteArray) : Bool := isCode k n o && !(k == 3)
theorem code2_facts {k n : Int} {o : ByteArray} (h : isCode2 k n o = true) : ∃ nn : Nat, k = 2 ∧ n = nn ∧ (1 ≤ nn ∧ nn ≤ 4) ∧ 2 ^ nn ≤ 27 ∧ o.size = 2 ^ nn ∧ lets 2 o.data.toList = true ∧ isCode 2 nn o = true := by
  unfold isCode2 at h
  rw [Bool.and_eq_true] at h
  obtain ⟨h1, h2⟩ := h
  obtain ⟨kk, nn, rfl, rfl, hk, hn, hp, ho, hl⟩ := code_facts h1
  have h3 : kk = 2 := by simp at h2; omega
  subst h3
  exact ⟨nn, rfl, rfl, hn, hp, ho, hl, h1⟩
def exC (k n : Int) (o : ByteArray) : Value := codeR (isCode2 k n o) k n (exOut o n.toNat)
set_option maxHeartbeats 2000000 in
set_option maxRecDepth 100000 in
theorem impl_ExchangeCode_no (k n : Int) (o : ByteArray) (w : World) (ho : o.size ≤ maxLen) (hx : isCode2 k n o = false) :
    Calls Try.prog 20 #[.agg #[.int .i64 k, .int .i64 n, .string o]] w fun e w' => e = .returned (exC k n o) ∧ Below w.heap.size w w' := by
  have HI := hid (fun w : World => impl_IsCode_c k n o w ho)
  cases hc : isCode k n o
  · rw [hc] at HI
    clear hc
    have HX := hid (show exC k n o = .tuple #[.agg #[.int .i64 0, .int .i64 0, .string ⟨#[]⟩], .bool false] by unfold exC; rw [hx]; rfl)
    go_enter Try.func20, Try.ntmps20
    go_wp2_with fail
    refine (HI.out _).mono ?_
    rintro e w1 ⟨rfl, hb1⟩
    obtain ⟨⟨hA, hFA⟩, ⟨hB, hFB⟩, hz, hbw⟩ := box2 hb1
    obtain ⟨hb0, hb1', hb2'⟩ := three hB
    obtain ⟨ha0, ha1, ha2⟩ := three hA
    have hf0 := hFB 0
    have hf1 := hFB 1
    have hf2 := hFB 2
    clear hA hFA hB hFB
    go_wp2
    refine bodyPost_ret (v := .tuple #[.agg #[.int .i64 0, .int .i64 0, .string ⟨#[]⟩], .bool false]) (by simp [results, Try.results20, go_sem, hb0, hb1', hb2']) rfl ⟨by rw [HX.out], ?_⟩
    first | exact hbw | exact ((hbw.setCell (by simp) _).setCell (by simp) _).setCell (by simp) _
  · have hk : (k == 3) = true := by unfold isCode2 at hx; rw [hc] at hx; simpa using hx
    rw [hc] at HI
    clear hc
    have HX := hid (show exC k n o = .tuple #[.agg #[.int .i64 0, .int .i64 0, .string ⟨#[]⟩], .bool false] by unfold exC; rw [hx]; rfl)
    go_enter Try.func20, Try.ntmps20
    go_wp2_with fail
    refine (HI.out _).mono ?_
    rintro e w1 ⟨rfl, hb1⟩
    obtain ⟨⟨hA, hFA⟩, ⟨hB, hFB⟩, hz, hbw⟩ := box2 hb1
    obtain ⟨hb0, hb1', hb2'⟩ := three hB
    obtain ⟨ha0, ha1, ha2⟩ := three hA
    have hf0 := hFB 0
    have hf1 := hFB 1
    have hf2 := hFB 2
    clear hA hFA hB hFB
    go_wp2
    refine bodyPost_ret (v := .tuple #[.agg #[.int .i64 0, .int .i64 0, .string ⟨#[]⟩], .bool false]) (by simp [results, Try.results20, go_sem, hb0, hb1', hb2']) rfl ⟨by rw [HX.out], ?_⟩
    first | exact hbw | exact ((hbw.setCell (by simp) _).setCell (by simp) _).setCell (by simp) _
set_option maxHeartbeats 2000000 in
set_option maxRecDepth 100000 in
theorem spec_ExchangeCode_no (k n : Int) (o : ByteArray) (w : World) (ho : o.size ≤ maxLen) (hx : isCode2 k n o = false) :
    Calls Try.prog 19 #[.agg #[.int .i64 k, .int .i64 n, .string o]] w fun e w' => e = .returned (exC k n o) ∧ Below w.heap.size w w' := by
  have HI := hid (fun w : World => spec_IsCode_c k n o w ho)
  cases hc : isCode k n o
  · rw [hc] at HI
    clear hc
    have HX := hid (show exC k n o = .tuple #[.agg #[.int .i64 0, .int .i64 0, .string ⟨#[]⟩], .bool false] by unfold exC; rw [hx]; rfl)
    go_enter Try.func19, Try.ntmps19
    go_wp2_with fail
    refine (HI.out _).mono ?_
    rintro e w1 ⟨rfl, hb1⟩
    obtain ⟨⟨hA, hFA⟩, ⟨hB, hFB⟩, hz, hbw⟩ := box2 hb1
    obtain ⟨hb0, hb1', hb2'⟩ := three hB
    obtain ⟨ha0, ha1, ha2⟩ := three hA
    have hf0 := hFB 0
    have hf1 := hFB 1
    have hf2 := hFB 2
    clear hA hFA hB hFB
    go_wp2
    refine bodyPost_ret (v := .tuple #[.agg #[.int .i64 0, .int .i64 0, .string ⟨#[]⟩], .bool false]) (by simp [results, Try.results19, go_sem, hb0, hb1', hb2']) rfl ⟨by rw [HX.out], ?_⟩
    first | exact hbw | exact ((hbw.setCell (by simp) _).setCell (by simp) _).setCell (by simp) _
  · have hk : (k == 3) = true := by unfold isCode2 at hx; rw [hc] at hx; simpa using hx
    rw [hc] at HI
    clear hc
    have HX := hid (show exC k n o = .tuple #[.agg #[.int .i64 0, .int .i64 0, .string ⟨#[]⟩], .bool false] by unfold exC; rw [hx]; rfl)
    go_enter Try.func19, Try.ntmps19
    go_wp2_with fail
    refine (HI.out _).mono ?_
    rintro e w1 ⟨rfl, hb1⟩
    obtain ⟨⟨hA, hFA⟩, ⟨hB, hFB⟩, hz, hbw⟩ := box2 hb1
    obtain ⟨hb0, hb1', hb2'⟩ := three hB
    obtain ⟨ha0, ha1, ha2⟩ := three hA
    have hf0 := hFB 0
    have hf1 := hFB 1
    have hf2 := hFB 2
    clear hA hFA hB hFB
    go_wp2
    refine bodyPost_ret (v := .tuple #[.agg #[.int .i64 0, .int .i64 0, .string ⟨#[]⟩], .bool false]) (by simp [results, Try.results19, go_sem, hb0, hb1', hb2']) rfl ⟨by rw [HX.out], ?_⟩
    first | exact hbw | exact ((hbw.setCell (by simp) _).setCell (by simp) _).setCell (by simp) _
set_option maxHeartbeats 2000000 in
set_option maxRecDepth 100000 in
theorem impl_ExchangeCode_c (k n : Int) (o : ByteArray) (w : World) (ho : o.size ≤ maxLen) :
    Calls Try.prog 20 #[.agg #[.int .i64 k, .int .i64 n, .string o]] w fun e w' => e = .returned (exC k n o) ∧ Below w.heap.size w w' := by
  cases hc : isCode2 k n o
  · exact impl_ExchangeCode_no k n o w ho hc
  · obtain ⟨nn, rfl, rfl, ⟨hn1, hn4⟩, hp, hos, hl, hic⟩ := code2_facts hc
    have HX := hid (show exC 2 nn o = .tuple #[.agg #[.int .i64 2, .int .i64 nn, .string (exOut o nn)], .bool true] by unfold exC; rw [hc]; rfl)
    have HI := hid (fun w : World => impl_IsCode_c 2 nn o w ho)
    rw [hic] at HI
    have HM := hid (fun w : World => impl_exchanged_c nn o w hn1 hn4 hp hos hl)
    clear hc hn1 hn4 hp hos hl hic
    go_enter Try.func20, Try.ntmps20
    go_wp2_with fail
    refine (HI.out _).mono ?_
    rintro e w1 ⟨rfl, hb1⟩
    obtain ⟨⟨hA, hFA⟩, ⟨hB, hFB⟩, hz, hbw⟩ := box2 hb1
    obtain ⟨ha0, ha1, ha2⟩ := three hA
    have HB := hid hB
    have HFB := hid hFB
    clear hA hFA hB hFB
    go_wp2_with fail
    refine (HM.out _).mono ?_
    rintro e w2 ⟨rfl, hb2⟩
    obtain ⟨hb0, hb1', hb2'⟩ := three (cells_below HB.out hb2 hz)
    have hf := frozen_below HFB.out hb2 hz
    have hf0 := hf 0
    have hf1 := hf 1
    have hf2 := hf 2
    have hz2 := Nat.lt_of_lt_of_le hz hb2.size
    have hbw2 := bs hbw hb2
    clear hf ha0 ha1 ha2
    go_wp2
    refine bodyPost_ret (v := .tuple #[.agg #[.int .i64 2, .int .i64 nn, .string (exOut o nn)], .bool true]) (by simp [results, Try.results20, go_sem, hb0, hb1', hb2']) rfl ⟨by rw [HX.out], ?_⟩
    exact ((hbw2.setCell (by simp) _).setCell (by simp) _).setCell (by simp) _
end Go.Proofs.Ytabjbmickngohaa
