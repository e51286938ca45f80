/- Codes and words drawn: what the laws of rings begin with. Conditions: the bytes lie in memory. -/
import Derived.Test.YtcmmlldincflkaaDraw7
namespace Go.Proofs.Ytcmmlldincflkaa
open Go.RowKit

set_option maxHeartbeats 2000000 in
set_option maxRecDepth 100000 in
theorem l11Bent_c (W w : World) (g : Nat) (a : Option Addr) (n c : Nat) (bs : List UInt8) (h : Cur W w g a n c bs) :
    Calls Try.prog 52 #[.pointer (some ⟨g, 0, none⟩)] w fun e w' => ∃ (k m : Int) (o : ByteArray), e = .returned (.agg #[.int .i64 k, .int .i64 m, .string o]) ∧ o.size ≤ 101 ∧ Drew W w w' g a n c bs := by
  have hgw : g < w.heap.size ∧ W.heap.size ≤ w.heap.size := by obtain ⟨i, k, x⟩ := h; exact ⟨x.hi, x.bel.size⟩
  have HD0 := hid (h.drew0.alloc (.cells #[.int .i64 0, .int .i64 0, .string ⟨#[]⟩] 26))
  have HB0 := hid (BoxC.new w #[.int .i64 0, .int .i64 0, .string ⟨#[]⟩] 26)
  have HB := hid (l11Draw_c W (w.alloc (.cells #[.int .i64 0, .int .i64 0, .string ⟨#[]⟩] 26)) g a n c bs HD0.out.1)
  unfold CodeDraw at HB
  clear h
  go_enter Try.func52, Try.ntmps52
  go_wp2_with fail
  refine HB.out.mono ?_
  rintro e w1 ⟨k, m, o, rfl, ho, hd⟩
  have HB1 := hid (HB0.out.grown hd.2 (by omega))
  have HD1 := hid (HD0.out.trans hd)
  have hgw1 := hd.gW
  have hlt1 := HB1.out.lt
  have HD2 := hid (HD1.out.alloc (.cells #[.int .i64 k, .int .i64 m, .string o] 26))
  have HQ2 := hid (BoxC.new w1 #[.int .i64 k, .int .i64 m, .string o] 26)
  have HB2 := hid (HB1.out.alloc (.cells #[.int .i64 k, .int .i64 m, .string o] 26))
  have HC := hid (l1Below_c W (w1.alloc (.cells #[.int .i64 k, .int .i64 m, .string o] 26)) g a n c bs 18 HD2.out.1 (by omega) (by omega))
  clear hd HB HB0 HD0 HB1 HD1
  go_wp2_with fail
  refine HC.out.mono ?_
  rintro e w2 ⟨x, rfl, hx, hd⟩
  have HB3 := hid (HB2.out.grown hd.2 (by omega))
  have HQ3 := hid (HQ2.out.grown hd.2 (by omega))
  have HD3 := hid (HD2.out.trans hd)
  have hgw2 := hd.gW
  clear hd HC HB2 HQ2 HD2 hx
  by_cases hx0 : x = 0
  · subst hx0
    obtain ⟨⟨s0, s1, s2⟩, t0, t1, t2⟩ := HQ3.out.c3
    have hcat : ¬ (9223372036854775807 < o.size + 1) := by omega
    have hq2 := HQ3.out.set (A' := #[.int .i64 k, .int .i64 m, .string (o ++ ⟨#[97]⟩)]) (.string (o ++ ⟨#[97]⟩)) (i := 2) (by show 2 < 3; omega) (fun k => match k with | 0 => rfl | 1 => rfl | 2 => rfl | k + 3 => rfl)
    have hb2 := HB3.out.other (q := w1.heap.size) (i := 2) (by omega) (.string (o ++ ⟨#[97]⟩))
    have HDE := hid (HD3.out.app (show Below w.heap.size w2 (w2.setCell ⟨w1.heap.size, 2, none⟩ (.string (o ++ ⟨#[97]⟩))) from (Below.refl _ _).setCell (by show w.heap.size ≤ w1.heap.size; omega) _) hgw.1 hgw.2)
    have ho9 : (o ++ ⟨#[97]⟩ : ByteArray).size ≤ 101 := by rw [ByteArray.size_append]; show o.size + 1 ≤ 101; omega
    obtain ⟨⟨r0, r1, r2⟩, u0, u1, u2⟩ := HB3.out.c3
    have hzs := HB3.out.lt
    have hne : ¬ (w1.heap.size = w.heap.size) := by omega
    have hne2 : ¬ (w.heap.size = w1.heap.size) := by omega
    clear HB3 HQ3 HD3 hq2 hb2 hlt1 hgw1 hgw2
    go_wp2
    refine bodyPost_ret (v := .agg #[.int .i64 k, .int .i64 m, .string (o ++ ⟨#[97]⟩)]) ?_ rfl ⟨_, _, _, rfl, ho9, HDE.out.app (below_set3 (Below.refl w.heap.size _) (Nat.le_refl _) (.int .i64 k) (.int .i64 m) (.string (o ++ ⟨#[97]⟩))) hgw.1 hgw.2⟩
    simp [results, Try.results52, go_sem, r0, r1, r2, hzs]
  · have e0 : ((x : Int) == 0) = false := by simp; omega
    by_cases hx1 : x = 1
    · subst hx1
      have HD4 := hid (HD3.out.alloc (.cells #[.int .i64 1, .int .i64 4, .int .i64 3, .int .i64 2] 3))
      have HP := hid (l1PickInt_c W (w2.alloc (.cells #[.int .i64 1, .int .i64 4, .int .i64 3, .int .i64 2] 3)) g a n c bs (some ⟨w2.heap.size, 0, none⟩) 4 4 [1, 4, 3, 2] HD4.out.1 (by omega) (by omega) (lit_rowJ _ _ _ rfl (fun j v hj => by simpa [intVals] using hj) (by omega)) (fun q off e => by
        injection e with e
        injection e with e1
        omega))
      go_wp2_with fail
      refine HP.out.mono ?_
      rintro e w3 ⟨y, rfl, hy, hd⟩
      have HB4 := hid ((HB3.out.alloc (.cells #[.int .i64 1, .int .i64 4, .int .i64 3, .int .i64 2] 3)).grown hd.2 (by omega))
      have HQ4 := hid ((HQ3.out.alloc (.cells #[.int .i64 1, .int .i64 4, .int .i64 3, .int .i64 2] 3)).grown hd.2 (by omega))
      have HD5 := hid (HD4.out.trans hd)
      have HDE := hid (HD5.out.app (show Below w.heap.size w3 (w3.setCell ⟨w1.heap.size, 0, none⟩ (.int .i64 y)) from (Below.refl _ _).setCell (by show w.heap.size ≤ w1.heap.size; omega) _) hgw.1 hgw.2)
      obtain ⟨⟨s0, s1, s2⟩, t0, t1, t2⟩ := HQ4.out.c3
      obtain ⟨⟨r0, r1, r2⟩, u0, u1, u2⟩ := HB4.out.c3
      have hzs := HB4.out.lt
      have ho9 : o.size ≤ 101 := by omega
      have hne : ¬ (w1.heap.size = w.heap.size) := by omega
      have hne2 : ¬ (w.heap.size = w1.heap.size) := by omega
      clear hd HP HD4 HB3 HQ3 HD3 HD5 HB4 HQ4 hy hlt1 hgw1 hgw2
      go_wp2
      refine bodyPost_ret (v := .agg #[.int .i64 y, .int .i64 m, .string o]) ?_ rfl ⟨_, _, _, rfl, ho9, HDE.out.app (below_set3 (Below.refl w.heap.size _) (Nat.le_refl _) (.int .i64 y) (.int .i64 m) (.string o)) hgw.1 hgw.2⟩
      simp [results, Try.results52, go_sem, r0, r1, r2, hzs]
    · have e1 : ((x : Int) == 1) = false := by simp; omega
      obtain ⟨⟨s0, s1, s2⟩, t0, t1, t2⟩ := HQ3.out.c3
      obtain ⟨⟨r0, r1, r2⟩, u0, u1, u2⟩ := HB3.out.c3
      have hzs := HB3.out.lt
      have ho9 : o.size ≤ 101 := by omega
      have HDE := HD3
      clear HB3 HQ3 HD3 hlt1 hgw1 hgw2
      go_wp2
      refine bodyPost_ret (v := .agg #[.int .i64 k, .int .i64 m, .string o]) ?_ rfl ⟨_, _, _, rfl, ho9, HDE.out.app (below_set3 (Below.refl w.heap.size _) (Nat.le_refl _) (.int .i64 k) (.int .i64 m) (.string o)) hgw.1 hgw.2⟩
      simp [results, Try.results52, go_sem, r0, r1, r2, hzs]
theorem l32Number_c (a : Option Addr) (n c : Nat) (bs : List UInt8) (w : World) (hr : RowAt w a n (byteVals bs)) :
    Calls Try.prog 27 #[.slice a n c] w fun e w' => ∃ x : Int, e = .returned (.int .i64 x) ∧ -1 ≤ x ∧ x ≤ 256 ∧ Below w.heap.size w w' := by
  have HN := hid (l1New_c a n c bs w hr)
  clear hr
  go_enter Try.func27, Try.ntmps27
  go_wp2_with fail
  refine HN.out.mono ?_
  rintro e w1 ⟨g, rfl, hc, hb⟩
  have hwg : w.heap.size ≤ g := by obtain ⟨i, k, x⟩ := hc; exact x.lo
  have HB1 := hid (l1Below_c w w1 g a n c bs 256 hc (by omega) (by omega))
  have HD1 := hid hc.drew0
  have HBL := hid hb
  clear hc HN hb
  go_wp2_with fail
  refine HB1.out.mono ?_
  rintro e w2 ⟨x1, rfl, hx1, hd⟩
  have HD2 := hid (HD1.out.trans hd)
  have HB2 := hid (l1Below_c w w2 g a n c bs 256 hd.1 (by omega) (by omega))
  clear hd HB1 HD1
  go_wp2_with fail
  refine HB2.out.mono ?_
  rintro e w3 ⟨x2, rfl, hx2, hd⟩
  have HD3 := hid (HD2.out.trans hd)
  have HB3 := hid (l1Below_c w w3 g a n c bs 256 hd.1 (by omega) (by omega))
  clear hd HB2 HD2
  go_wp2_with fail
  refine HB3.out.mono ?_
  rintro e w4 ⟨x3, rfl, hx3, hd⟩
  have HD4 := hid (HD3.out.trans hd)
  have hg4 := hd.gW
  have HD5 := hid (HD4.out.alloc (.cells #[.int .i64 x1, .int .i64 x2, .int .i64 x3, .int .i64 90, .int .i64 150, .int .i64 30, .int .i64 110, .int .i64 0, .int .i64 255, .int .i64 256, .int .i64 (-1)] 3))
  have HP := hid (l1PickInt_c w (w4.alloc (.cells #[.int .i64 x1, .int .i64 x2, .int .i64 x3, .int .i64 90, .int .i64 150, .int .i64 30, .int .i64 110, .int .i64 0, .int .i64 255, .int .i64 256, .int .i64 (-1)] 3)) g a n c bs (some ⟨w4.heap.size, 0, none⟩) 11 11 [x1, x2, x3, 90, 150, 30, 110, 0, 255, 256, -1] HD5.out.1 (by omega) (by omega) (lit_rowJ _ _ _ rfl (fun j v hj => by simpa [intVals] using hj) (by omega)) (fun q off e => by
    injection e with e
    injection e with e1
    omega))
  clear hd HB3 HD3
  go_wp2_with fail
  refine HP.out.mono ?_
  rintro e w5 ⟨y, rfl, hy, hd⟩
  have HD6 := hid (HD5.out.trans hd)
  have hyb : -1 ≤ y ∧ y ≤ 256 := by
    simp only [List.mem_cons, List.not_mem_nil, or_false] at hy
    rcases hy with h | h | h | h | h | h | h | h | h | h | h <;> omega
  clear hd HP HD5 HD4 hy
  go_wp2
  go_ret
  exact ⟨y, rfl, hyb.1, hyb.2, HBL.out.grown HD6.out.2 HBL.out.size (by rintro k ⟨⟩; exact hwg)⟩
end Go.Proofs.Ytcmmlldincflkaa
