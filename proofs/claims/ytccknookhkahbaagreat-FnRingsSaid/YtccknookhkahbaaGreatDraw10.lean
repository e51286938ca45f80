/- What the laws of rings draw, to the end. Conditions: the bytes lie in memory. -/
import Derived.Test.YtccknookhkahbaaGreatDraw9
namespace Go.Proofs.YtccknookhkahbaaGreat
open Go.RowKit

def CodeOut (W : World) (e : Ending) (w' : World) : Prop :=
  ∃ (k m : Int) (o : ByteArray), e = .returned (.agg #[.int .i64 k, .int .i64 m, .string o]) ∧ o.size ≤ 101 ∧ Below W.heap.size W w'
set_option maxHeartbeats 4000000 in
set_option maxRecDepth 100000 in
theorem l32Code_c (a : Option Addr) (n c : Nat) (bs : List UInt8) (w : World) (hr : RowAt w a n (byteVals bs)) :
    Calls Tryz.prog 58 #[.slice a n c] w (CodeOut w) := by
  unfold CodeOut
  obtain ⟨w0, hw0⟩ : ∃ w0, w0 = w.alloc (.cells #[.int .i64 0, .int .i64 0, .string ⟨#[]⟩] 25) := ⟨_, rfl⟩
  have hb0 : Below w.heap.size w w0 := by rw [hw0]; exact (Below.refl _ _).alloc (Nat.le_refl _) _
  have HR0 := hid (hr.below hb0 (Nat.le_refl _))
  have HN := hid (l1New_c a n c bs _ HR0.out)
  have HB0 := hid (show BoxC w0 w.heap.size #[.int .i64 0, .int .i64 0, .string ⟨#[]⟩] by rw [hw0]; exact BoxC.new w _ _)
  have HL0 := hid hb0
  have hw0s : w0.heap.size = w.heap.size + 1 := by rw [hw0]; simp
  have HW0 := hid hw0
  clear hr hb0
  go_enter Tryz.func58, Tryz.ntmps58
  go_wp2_with fail
  rw [← HW0.out]
  refine HN.out.mono ?_
  rintro e w1 ⟨g, rfl, hc, hb⟩
  have HB1 := hid (HB0.out.below hb)
  have hgb : w.heap.size < g := by obtain ⟨i, k, x⟩ := hc; have := x.lo; omega
  have HR1 := hid (HR0.out.below hb (Nat.le_refl _))
  have HL1 := hid (HL0.out.trans (hb.mono HL0.out.size))
  have hg1 : g < w1.heap.size := by obtain ⟨i, k, x⟩ := hc; exact x.hi
  have HC1 := hid hc
  have HNU := hid (l32Number_c a n c bs w1 HR1.out)
  clear hc HN HB0 HR0 hb hw0 HW0
  go_wp2_with fail
  refine HNU.out.mono ?_
  rintro e w2 ⟨x, rfl, hx0, hx1, hb⟩
  have HB2 := hid (HB1.out.below hb)
  have HL2 := hid (HL1.out.trans (hb.mono HL1.out.size))
  have HC2 := hid (HC1.out.below hb)
  have hg2 := Nat.lt_of_lt_of_le hg1 hb.size
  have HRC := hid (spec_RuleCode_any x hx0 hx1 w2)
  unfold CodeAny at HRC
  clear hb HB1 HL1 HC1 HNU HR1
  go_wp2_with fail
  refine HRC.out.mono ?_
  rintro e w3 ⟨k, m, o, b, rfl, ho, hb⟩
  have hlt3 := HB2.out.lt
  have hb23 := hb.size
  have HB3 := hid (HB2.out.below hb)
  have HL3 := hid (HL2.out.trans (hb.mono HL2.out.size))
  have HC3 := hid (HC2.out.below hb)
  have hg3 := Nat.lt_of_lt_of_le hg2 hb.size
  have HB4 := hid (HB3.out.alloc (.cells #[.int .i64 k, .int .i64 m, .string o] 25))
  have HQ4 := hid (BoxC.new w3 #[.int .i64 k, .int .i64 m, .string o] 25)
  have HL4 := hid (HL3.out.alloc HL3.out.size (.cells #[.int .i64 k, .int .i64 m, .string o] 25))
  have HC4 := hid (HC3.out.below ((Below.refl _ _).alloc (Nat.le_refl _) (.cells #[.int .i64 k, .int .i64 m, .string o] 25)))
  have HO := hid (l1Once_c w0 (w3.alloc (.cells #[.int .i64 k, .int .i64 m, .string o] 25)) g a n c bs 3 HC4.out (by omega) (by omega))
  clear hb HB2 HL2 HC2 HRC HB3 HL3 HC3
  cases b
  · obtain ⟨w5, hw5⟩ : ∃ w5, w5 = w3.alloc (.cells #[.int .i64 k, .int .i64 m, .string o] 25) := ⟨_, rfl⟩
    have HB5 := HB4
    have HL5 := HL4
    have HC5 := HC4
    rw [← hw5] at HB5 HL5 HC5
    have HX := hid (l11Bent_c w0 w5 g a n c bs HC5.out)
    rw [hw5] at HX
    clear HO HQ4 HB4 HL4 HC4
    go_wp2_with fail
    refine HX.out.mono ?_
    rintro e w6 ⟨k, m, o, rfl, ho', hd⟩
    rw [← hw5] at hd
    have HB6 := hid (HB5.out.grown hd.2 (by omega))
    have HBE := hid (HL5.out.grown hd.2 HL5.out.size (by rintro z ⟨⟩; omega))
    obtain ⟨⟨r0, r1, r2⟩, u0, u1, u2⟩ := HB6.out.c3
    have hzs := HB6.out.lt
    clear hd HX HB6 HB5 HL5 HC5 hw5
    go_wp2
    refine bodyPost_ret (v := .agg #[.int .i64 k, .int .i64 m, .string o]) ?_ rfl ⟨_, _, _, rfl, ho', below_set3 HBE.out (Nat.le_refl _) (.int .i64 k) (.int .i64 m) (.string o)⟩
    simp [results, Tryz.results58, go_sem, r0, r1, r2, hzs]
  · go_wp2_with fail
    refine HO.out.mono ?_
    rintro e w5 ⟨b, rfl, hd⟩
    have HB5 := hid (HB4.out.grown hd.2 (by omega))
    have HQ5 := hid (HQ4.out.grown hd.2 (by omega))
    have HL5 := hid (HL4.out.grown hd.2 HL4.out.size (by rintro z ⟨⟩; omega))
    have HC5 := hid hd.1
    clear hd HO HB4 HQ4 HL4 HC4
    cases b
    · obtain ⟨⟨s0, s1, s2⟩, t0, t1, t2⟩ := HQ5.out.c3
      obtain ⟨⟨r0, r1, r2⟩, u0, u1, u2⟩ := HB5.out.c3
      have hzs := HB5.out.lt
      have HBE := HL5
      have ho' : o.size ≤ 101 := by omega
      clear HB5 HQ5 HL5 HC5
      go_wp2
      refine bodyPost_ret (v := .agg #[.int .i64 k, .int .i64 m, .string o]) ?_ rfl ⟨_, _, _, rfl, ho', below_set3 HBE.out (Nat.le_refl _) (.int .i64 k) (.int .i64 m) (.string o)⟩
      simp [results, Tryz.results58, go_sem, r0, r1, r2, hzs]
    · have HX := hid (l11Bent_c w0 w5 g a n c bs HC5.out)
      go_wp2_with fail
      refine HX.out.mono ?_
      rintro e w6 ⟨k, m, o, rfl, ho', hd⟩
      have HB6 := hid (HB5.out.grown hd.2 (by omega))
      have HBE := hid (HL5.out.grown hd.2 HL5.out.size (by rintro z ⟨⟩; omega))
      obtain ⟨⟨r0, r1, r2⟩, u0, u1, u2⟩ := HB6.out.c3
      have hzs := HB6.out.lt
      clear hd HX HB6 HB5 HQ5 HL5 HC5
      go_wp2
      refine bodyPost_ret (v := .agg #[.int .i64 k, .int .i64 m, .string o]) ?_ rfl ⟨_, _, _, rfl, ho', below_set3 HBE.out (Nat.le_refl _) (.int .i64 k) (.int .i64 m) (.string o)⟩
      simp [results, Tryz.results58, go_sem, r0, r1, r2, hzs]
set_option maxHeartbeats 4000000 in
set_option maxRecDepth 100000 in
theorem l33Word_c (a : Option Addr) (n c : Nat) (bs : List UInt8) (w : World) (hr : RowAt w a n (byteVals bs)) :
    Calls Tryz.prog 27 #[.slice a n c] w (CodeWord w) := by
  unfold CodeWord
  have hb0 : Below w.heap.size w (w.alloc (.cells #[.int .i64 0, .int .i64 0, .string ⟨#[]⟩] 25)) := (Below.refl _ _).alloc (Nat.le_refl _) _
  have HR := hid hr
  have HR0 := hid (hr.below hb0 (Nat.le_refl _))
  have HB0 := hid (BoxC.new w #[.int .i64 0, .int .i64 0, .string ⟨#[]⟩] 25)
  have HL0 := hid hb0
  have HX := hid (l11Case_c a n c bs _ HR0.out)
  unfold CodeWord at HX
  clear hr hb0
  go_enter Tryz.func27, Tryz.ntmps27
  go_wp2_with fail
  refine HX.out.mono ?_
  rintro e w1 ⟨k, m, o, s, rfl, ho', hs', hb⟩
  have hlt0 := HB0.out.lt
  have HB1 := hid ((HB0.out.below hb).alloc (.cells #[.int .i64 k, .int .i64 m, .string o] 25))
  have HQ1 := hid (BoxC.new w1 #[.int .i64 k, .int .i64 m, .string o] 25)
  have hb01 : Below w.heap.size w w1 := HL0.out.trans (hb.mono HL0.out.size)
  have hb11 : Below w.heap.size w (w1.alloc (.cells #[.int .i64 k, .int .i64 m, .string o] 25)) := hb01.alloc hb01.size _
  have HL1 := hid hb11
  have HR1 := hid ((HR0.out.below hb (Nat.le_refl _)).below ((Below.refl _ _).alloc (Nat.le_refl _) (.cells #[.int .i64 k, .int .i64 m, .string o] 25)) (Nat.le_refl _))
  have HN := hid (l1New_c a n c bs _ HR1.out)
  have hs01 := hb01.size
  have hs1 : w.heap.size < w1.heap.size := Nat.lt_of_lt_of_le (by simp) hb.size
  clear hb HX HB0 HL0 HR0 hb01 hb11 hlt0
  go_wp2_with fail
  refine HN.out.mono ?_
  rintro e w2 ⟨g, rfl, hc, hb⟩
  have hgb : w1.heap.size < g := by obtain ⟨i, k, x⟩ := hc; have := x.lo; simp at this; omega
  have HB2 := hid (HB1.out.below hb)
  have HQ2 := hid (HQ1.out.below hb)
  have HL2 := hid (HL1.out.trans (hb.mono HL1.out.size))
  have HR2 := hid (HR1.out.below hb (Nat.le_refl _))
  have HC2 := hid hc
  have HO := hid (l1Once_c _ w2 g a n c bs 2 hc (by omega) (by omega))
  clear hb hc HN HB1 HQ1 HL1 HR1
  go_wp2_with fail
  refine HO.out.mono ?_
  rintro e w3 ⟨b, rfl, hd⟩
  have HB3 := hid (HB2.out.grown hd.2 (by omega))
  have HQ3 := hid (HQ2.out.grown hd.2 (by omega))
  have HL3 := hid (HL2.out.grown hd.2 HL2.out.size (by rintro z ⟨⟩; omega))
  have HC3 := hid hd.1
  have HR3 := hid (HR.out.below HL3.out (Nat.le_refl _))
  clear hd HO HB2 HQ2 HL2 HC2 HR2
  cases b
  · obtain ⟨⟨s0, s1, s2⟩, t0, t1, t2⟩ := HQ3.out.c3
    obtain ⟨⟨r0, r1, r2⟩, u0, u1, u2⟩ := HB3.out.c3
    have hzs := HB3.out.lt
    have HBE := HL3
    clear HB3 HQ3 HL3 HC3 HR3
    go_wp2
    refine bodyPost_ret (v := .tuple #[.agg #[.int .i64 k, .int .i64 m, .string o], .string s]) ?_ rfl ⟨_, _, _, _, rfl, ho', hs', below_set3 HBE.out (Nat.le_refl _) (.int .i64 k) (.int .i64 m) (.string o)⟩
    simp [results, Tryz.results27, go_sem, r0, r1, r2, hzs]
  · clear ho' hs'
    have HCD := hid (l32Code_c a n c bs w3 HR3.out)
    unfold CodeOut at HCD
    go_wp2_with fail
    refine HCD.out.mono ?_
    rintro e w4 ⟨k, m, o, rfl, ho', hb⟩
    have HB4 := hid (HB3.out.below hb)
    have HL4 := hid (HL3.out.trans (hb.mono HL3.out.size))
    have HC4 := hid (HC3.out.below hb)
    have HE := hid (l2Draw_c _ w4 g a n c bs 2 8 HC4.out (by omega) (by omega) (by omega))
    clear hb HCD HB3 HQ3 HL3 HC3 HR3
    go_wp2_with fail
    refine HE.out.mono ?_
    rintro e w5 ⟨s, rfl, hs, hd⟩
    have HB5 := hid (HB4.out.grown hd.2 (by omega))
    have HBE := hid (HL4.out.grown hd.2 HL4.out.size (by rintro z ⟨⟩; omega))
    obtain ⟨⟨r0, r1, r2⟩, u0, u1, u2⟩ := HB5.out.c3
    have hzs := HB5.out.lt
    have hs' : s.size ≤ 100 := by omega
    clear hd HE HB4 HL4 HC4 HB5
    go_wp2
    refine bodyPost_ret (v := .tuple #[.agg #[.int .i64 k, .int .i64 m, .string o], .string s]) ?_ rfl ⟨_, _, _, _, rfl, ho', hs', below_set3 HBE.out (Nat.le_refl _) (.int .i64 k) (.int .i64 m) (.string o)⟩
    simp [results, Tryz.results27, go_sem, r0, r1, r2, hzs]
theorem DrawRingTail_c (a : Option Addr) (n c : Nat) (bs : List UInt8) (w : World) (hr : RowAt w a n (byteVals bs)) :
    Calls Tryz.prog 5 #[.slice a n c] w (CodeWord w) := by
  unfold CodeWord
  have hb0 : Below w.heap.size w (w.alloc (.cells #[.int .i64 0, .int .i64 0, .string ⟨#[]⟩] 25)) := (Below.refl _ _).alloc (Nat.le_refl _) _
  have HB0 := hid (BoxC.new w #[.int .i64 0, .int .i64 0, .string ⟨#[]⟩] 25)
  have HX := hid (l33Word_c a n c bs _ (hr.below hb0 (Nat.le_refl _)))
  unfold CodeWord at HX
  have HL0 := hid hb0
  clear hr hb0
  go_enter Tryz.func5, Tryz.ntmps5
  go_wp2_with fail
  refine HX.out.mono ?_
  rintro e w1 ⟨k, m, o, s, rfl, ho', hs', hb⟩
  have HB1 := hid (HB0.out.below hb)
  obtain ⟨⟨r0, r1, r2⟩, u0, u1, u2⟩ := HB1.out.c3
  have hzs := HB1.out.lt
  have hb01 : Below w.heap.size w w1 := HL0.out.trans (hb.mono HL0.out.size)
  have HBE := hid ((below_set3 hb01 (Nat.le_refl _) (.int .i64 k) (.int .i64 m) (.string o)).alloc (by simpa using hb01.size) (.cells #[.int .i64 k, .int .i64 m, .string o] 25))
  clear hb HX HB0 HL0 HB1 hb01
  go_wp2
  refine bodyPost_ret (v := .tuple #[.agg #[.int .i64 k, .int .i64 m, .string o], .string s]) ?_ rfl ⟨_, _, _, _, rfl, ho', hs', HBE.out⟩
  simp [results, Tryz.results5, go_sem, r0, r1, r2, hzs]
def CodeWordInt (W : World) (e : Ending) (w' : World) : Prop :=
  ∃ (k m : Int) (o s : ByteArray) (z : Int), e = .returned (.tuple #[.agg #[.int .i64 k, .int .i64 m, .string o], .string s, .int .i64 z]) ∧ o.size ≤ 101 ∧ s.size ≤ 100 ∧ -1 ≤ z ∧ z ≤ 1000001 ∧ Below W.heap.size W w'
set_option maxHeartbeats 2000000 in
set_option maxRecDepth 100000 in
theorem DrawRingAfter_c (a : Option Addr) (n c : Nat) (bs : List UInt8) (w : World) (hr : RowAt w a n (byteVals bs)) :
    Calls Tryz.prog 8 #[.slice a n c] w (CodeWordInt w) := by
  unfold CodeWordInt
  have hb0 : Below w.heap.size w (w.alloc (.cells #[.int .i64 0, .int .i64 0, .string ⟨#[]⟩] 25)) := (Below.refl _ _).alloc (Nat.le_refl _) _
  have HB0 := hid (BoxC.new w #[.int .i64 0, .int .i64 0, .string ⟨#[]⟩] 25)
  have HX := hid (l33Word_c a n c bs _ (hr.below hb0 (Nat.le_refl _)))
  unfold CodeWord at HX
  have HL0 := hid hb0
  have HR := hid hr
  clear hr hb0
  go_enter Tryz.func8, Tryz.ntmps8
  go_wp2_with fail
  refine HX.out.mono ?_
  rintro e w1 ⟨k, m, o, s, rfl, ho', hs', hb⟩
  have hs1 : w.heap.size < w1.heap.size := Nat.lt_of_lt_of_le (by simp) hb.size
  have hb01 : Below w.heap.size w w1 := HL0.out.trans (hb.mono HL0.out.size)
  have hb11 := hb01.alloc hb01.size (.cells #[.int .i64 k, .int .i64 m, .string o] 25)
  have HB1 := hid ((HB0.out.below hb).alloc (.cells #[.int .i64 k, .int .i64 m, .string o] 25))
  have HQ1 := hid (BoxC.new w1 #[.int .i64 k, .int .i64 m, .string o] 25)
  have HL1 := hid hb11
  have HN := hid (l1New_c a n c bs _ (HR.out.below hb11 (Nat.le_refl _)))
  clear hb HX HB0 HL0 hb01 hb11
  go_wp2_with fail
  refine HN.out.mono ?_
  rintro e w2 ⟨g, rfl, hc, hb⟩
  have hgb : w1.heap.size < g := by obtain ⟨i, k, x⟩ := hc; have := x.lo; simp at this; omega
  have HB2 := hid ((HB1.out.below hb).below (Below.refl _ _).drew)
  have HQ2 := hid ((HQ1.out.below hb).below (Below.refl _ _).drew)
  have HL2 := hid ((HL1.out.trans (hb.mono HL1.out.size)).drew)
  have hg2 : g < w2.drew.heap.size := by obtain ⟨i, k, x⟩ := hc; exact x.hi
  have hc2 := (hc.below (Below.refl _ _).drew).below ((Below.refl _ _).alloc (Nat.le_refl _) (.cells #[.int .i64 0, .int .i64 1, .int .i64 2, .int .i64 7, .int .i64 100, .int .i64 1000000, .int .i64 1000001, .int .i64 (-1)] 3))
  have HP := hid (l1PickInt_c _ (w2.drew.alloc (.cells #[.int .i64 0, .int .i64 1, .int .i64 2, .int .i64 7, .int .i64 100, .int .i64 1000000, .int .i64 1000001, .int .i64 (-1)] 3)) g a n c bs (some ⟨w2.drew.heap.size, 0, none⟩) 8 8 [0, 1, 2, 7, 100, 1000000, 1000001, -1] hc2 (by omega) (by omega) (lit_rowJ _ _ _ rfl (fun j v hj => by simpa [intVals] using hj) (by omega)) (fun q off e => by
    injection e with e
    injection e with e1
    omega))
  have HB3 := hid (HB2.out.alloc (.cells #[.int .i64 0, .int .i64 1, .int .i64 2, .int .i64 7, .int .i64 100, .int .i64 1000000, .int .i64 1000001, .int .i64 (-1)] 3))
  have HQ3 := hid (HQ2.out.alloc (.cells #[.int .i64 0, .int .i64 1, .int .i64 2, .int .i64 7, .int .i64 100, .int .i64 1000000, .int .i64 1000001, .int .i64 (-1)] 3))
  have HL3 := hid (HL2.out.alloc HL2.out.size (.cells #[.int .i64 0, .int .i64 1, .int .i64 2, .int .i64 7, .int .i64 100, .int .i64 1000000, .int .i64 1000001, .int .i64 (-1)] 3))
  clear hc hb hc2 HN HB1 HQ1 HL1
  go_wp2_with fail
  go_region_held3 (fun V => (V.cell? ⟨w1.heap.size, 0, none⟩ = some (.int .i64 k) ∧ V.cell? ⟨w1.heap.size, 1, none⟩ = some (.int .i64 m) ∧ V.cell? ⟨w1.heap.size, 2, none⟩ = some (.string o)) ∧ (V.frozen? ⟨w.heap.size, 0, none⟩ = false ∧ V.frozen? ⟨w.heap.size, 1, none⟩ = false ∧ V.frozen? ⟨w.heap.size, 2, none⟩ = false))
    (first | exact ⟨HQ2.out.c3.1, HB2.out.c3.2⟩ | exact ⟨HQ3.out.c3.1, HB3.out.c3.2⟩ | exact ⟨HQ4.out.c3.1, HB4.out.c3.2⟩ | exact held_set3 HQ4.out HB4.out (by omega))
    (first | (go_at_call 33; refine HP.out.mono ?_; rintro e w4 ⟨z, rfl, hz, hd⟩; have HB4 := hid (HB3.out.grown hd.2 (by omega)); have HQ4 := hid (HQ3.out.grown hd.2 (by omega)); have HL4 := hid (HL3.out.grown hd.2 HL3.out.size (by rintro z ⟨⟩; omega)); have v0 := HB4.out.c3.1.1; have v1 := HB4.out.c3.1.2.1; have v2 := HB4.out.c3.1.2.2; have hz5 := HB4.out.lt; have hz6 : -1 ≤ z ∧ z ≤ 1000001 := (by simp only [List.mem_cons, List.not_mem_nil, or_false] at hz; rcases hz with h | h | h | h | h | h | h | h <;> omega)))
  all_goals
    go_wp2
    refine bodyPost_ret (v := .tuple #[.agg #[.int .i64 k, .int .i64 m, .string o], .string s, .int .i64 z]) ?_ rfl ⟨_, _, _, _, _, rfl, ho', hs', hz6.1, hz6.2, below_set3 HL4.out (Nat.le_refl _) (.int .i64 k) (.int .i64 m) (.string o)⟩
    simp [results, Tryz.results8, go_sem, v0, v1, v2, hz5]
def CodeInt (W : World) (e : Ending) (w' : World) : Prop :=
  ∃ (k m : Int) (o : ByteArray) (z : Int), e = .returned (.tuple #[.agg #[.int .i64 k, .int .i64 m, .string o], .int .i64 z]) ∧ o.size ≤ 101 ∧ -6 ≤ z ∧ z ≤ 13 ∧ Below W.heap.size W w'
set_option maxHeartbeats 2000000 in
set_option maxRecDepth 100000 in
theorem l33Case_c (a : Option Addr) (n c : Nat) (bs : List UInt8) (w : World) (hr : RowAt w a n (byteVals bs)) :
    Calls Tryz.prog 36 #[.slice a n c] w (CodeInt w) := by
  unfold CodeInt
  have hb0 : Below w.heap.size w (w.alloc (.cells #[.int .i64 0, .int .i64 0, .string ⟨#[]⟩] 25)) := (Below.refl _ _).alloc (Nat.le_refl _) _
  have HB0 := hid (BoxC.new w #[.int .i64 0, .int .i64 0, .string ⟨#[]⟩] 25)
  have HN := hid (l1New_c a n c bs _ (hr.below hb0 (Nat.le_refl _)))
  have HL0 := hid hb0
  have HR := hid hr
  clear hr hb0
  go_enter Tryz.func36, Tryz.ntmps36
  go_wp2_with fail
  refine HN.out.mono ?_
  rintro e w1 ⟨g, rfl, hc, hb⟩
  have hgb : w.heap.size < g := by obtain ⟨i, k, x⟩ := hc; have := x.lo; simp at this; omega
  have HB1 := hid (HB0.out.below hb)
  have HL1 := hid (HL0.out.trans (hb.mono HL0.out.size))
  have HC1 := hid hc
  have HX := hid (l32Code_c a n c bs w1 (HR.out.below HL1.out (Nat.le_refl _)))
  unfold CodeOut at HX
  clear hc hb HN HB0 HL0
  go_wp2_with fail
  refine HX.out.mono ?_
  rintro e w2 ⟨k, m, o, rfl, ho', hb⟩
  have HB2 := hid (HB1.out.below hb)
  have HL2 := hid (HL1.out.trans (hb.mono HL1.out.size))
  have HO := hid (l1Below_c _ w2 g a n c bs 6 (HC1.out.below hb) (by omega) (by omega))
  clear hb HX HB1 HL1 HC1
  go_wp2_with fail
  refine HO.out.mono ?_
  rintro e w3 ⟨x, rfl, hx, hd⟩
  have HB3 := hid ((HB2.out.grown hd.2 (by omega)).alloc (.cells #[.int .i64 0, .int .i64 0, .int .i64 0, .int .i64 0, .int .i64 7, .int .i64 (-7)] 3))
  have HL3 := hid (HL2.out.grown hd.2 HL2.out.size (by rintro z ⟨⟩; omega))
  have HL4 := hid (HL3.out.alloc HL3.out.size (.cells #[.int .i64 0, .int .i64 0, .int .i64 0, .int .i64 0, .int .i64 7, .int .i64 (-7)] 3))
  have hg3 := hd.gW
  have HP := hid (l1PickInt_c _ (w3.alloc (.cells #[.int .i64 0, .int .i64 0, .int .i64 0, .int .i64 0, .int .i64 7, .int .i64 (-7)] 3)) g a n c bs (some ⟨w3.heap.size, 0, none⟩) 6 6 [0, 0, 0, 0, 7, -7] (hd.alloc _).1 (by omega) (by omega) (lit_rowJ _ _ _ rfl (fun j v hj => by simpa [intVals] using hj) (by omega)) (fun q off e => by
    injection e with e
    injection e with e1
    omega))
  clear hd HO HB2 HL2 HL3
  go_wp2_with fail
  refine HP.out.mono ?_
  rintro e w4 ⟨z, rfl, hz, hd⟩
  have HB5 := hid (HB3.out.grown hd.2 (by omega))
  have HL5 := hid (HL4.out.grown hd.2 HL4.out.size (by rintro z ⟨⟩; omega))
  obtain ⟨⟨r0, r1, r2⟩, u0, u1, u2⟩ := HB5.out.c3
  have hzs := HB5.out.lt
  have hz6 : -7 ≤ z ∧ z ≤ 7 := by
    simp only [List.mem_cons, List.not_mem_nil, or_false] at hz
    rcases hz with h | h | h | h | h | h <;> omega
  clear hd HP HB3 HL4 HB5 hz
  go_wp2
  refine bodyPost_ret (v := .tuple #[.agg #[.int .i64 k, .int .i64 m, .string o], .int .i64 (1 + x + z)]) ?_ rfl ⟨_, _, _, _, rfl, ho', by omega, by omega, below_set3 HL5.out (Nat.le_refl _) (.int .i64 k) (.int .i64 m) (.string o)⟩
  simp [results, Tryz.results36, go_sem, r0, r1, r2, hzs]
theorem DrawRingPeriods_c (a : Option Addr) (n c : Nat) (bs : List UInt8) (w : World) (hr : RowAt w a n (byteVals bs)) :
    Calls Tryz.prog 11 #[.slice a n c] w (CodeInt w) := by
  unfold CodeInt
  have hb0 : Below w.heap.size w (w.alloc (.cells #[.int .i64 0, .int .i64 0, .string ⟨#[]⟩] 25)) := (Below.refl _ _).alloc (Nat.le_refl _) _
  have HB0 := hid (BoxC.new w #[.int .i64 0, .int .i64 0, .string ⟨#[]⟩] 25)
  have HX := hid (l33Case_c a n c bs _ (hr.below hb0 (Nat.le_refl _)))
  unfold CodeInt at HX
  have HL0 := hid hb0
  clear hr hb0
  go_enter Tryz.func11, Tryz.ntmps11
  go_wp2_with fail
  refine HX.out.mono ?_
  rintro e w1 ⟨k, m, o, z, rfl, ho', hz1, hz2, hb⟩
  have HB1 := hid (HB0.out.below hb)
  obtain ⟨⟨r0, r1, r2⟩, u0, u1, u2⟩ := HB1.out.c3
  have hzs := HB1.out.lt
  have hb01 : Below w.heap.size w w1 := HL0.out.trans (hb.mono HL0.out.size)
  have HBE := hid ((below_set3 hb01 (Nat.le_refl _) (.int .i64 k) (.int .i64 m) (.string o)).alloc (by simpa using hb01.size) (.cells #[.int .i64 k, .int .i64 m, .string o] 25))
  clear hb HX HB0 HL0 HB1 hb01
  go_wp2
  refine bodyPost_ret (v := .tuple #[.agg #[.int .i64 k, .int .i64 m, .string o], .int .i64 z]) ?_ rfl ⟨_, _, _, _, rfl, ho', hz1, hz2, HBE.out⟩
  simp [results, Tryz.results11, go_sem, r0, r1, r2, hzs]
end Go.Proofs.YtccknookhkahbaaGreat
