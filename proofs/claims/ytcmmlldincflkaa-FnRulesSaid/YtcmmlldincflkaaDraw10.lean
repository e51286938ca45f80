/- What the laws of rings draw, to the end. Conditions: the bytes lie in memory. -/
import Derived.Test.YtcmmlldincflkaaDraw8
namespace Go.Proofs.Ytcmmlldincflkaa
open Go.RowKit

set_option maxHeartbeats 1000000 in
theorem spec_RuleCode_any (n : Int) (h0 : -1 ≤ n) (h1 : n ≤ 256) (w : World) :
    Calls Try.prog 7 #[.int .i64 n] w (CodeAny w) := by
  unfold CodeAny
  by_cases hn : 0 ≤ n ∧ n ≤ 255
  · obtain ⟨m, rfl⟩ : ∃ m : Nat, n = m := ⟨n.toNat, by omega⟩
    refine (spec_RuleCode_c m (by omega) w).mono ?_
    rintro e w' ⟨rfl, hb⟩
    exact ⟨_, _, _, _, rfl, by show (ruleOut m 8).length ≤ 100; simp [ruleOut], hb⟩
  · have hin := inB_f (x := n) (lo := 0) (hi := 255) (by omega)
    clear hn
    go_enter Try.func7, Try.ntmps7
    go_wp2_with (go_at_call 29; refine (l1In_c _ _ _ _).mono ?_; rintro e w' ⟨rfl, rfl⟩)
    refine bodyPost_ret (v := .tuple #[.agg #[.int .i64 0, .int .i64 0, .string ⟨#[]⟩], .bool false]) (by simp [results, Try.results7, go_sem]) rfl ⟨_, _, _, _, rfl, by show 0 ≤ 100; omega, ?_⟩
    exact ((Below.refl _ _).alloc (Nat.le_refl _) _)
/-- A code and a word. -/
def CodeWord (W : World) (e : Ending) (w' : World) : Prop :=
  ∃ (k m : Int) (o s : ByteArray), e = .returned (.tuple #[.agg #[.int .i64 k, .int .i64 m, .string o], .string s]) ∧ o.size ≤ 101 ∧ s.size ≤ 100 ∧ Below W.heap.size W w'
theorem Drew.bel {W w w1 : World} {g : Nat} {a : Option Addr} {n c : Nat} {bs : List UInt8} (h : Drew W w w1 g a n c bs) : Below W.heap.size W w1 := by
  obtain ⟨⟨i, k, x⟩, _⟩ := h
  exact x.bel
theorem held_set3 {w : World} {b q : Nat} {x y z x' y' z' : Value} {B : Array Value} (hq : BoxC w q #[x, y, z]) (hb : BoxC w b B) (hne : b ≠ q) :
    ((((w.setCell ⟨b, 0, none⟩ x').setCell ⟨b, 1, none⟩ y').setCell ⟨b, 2, none⟩ z').cell? ⟨q, 0, none⟩ = some x ∧ (((w.setCell ⟨b, 0, none⟩ x').setCell ⟨b, 1, none⟩ y').setCell ⟨b, 2, none⟩ z').cell? ⟨q, 1, none⟩ = some y ∧ (((w.setCell ⟨b, 0, none⟩ x').setCell ⟨b, 1, none⟩ y').setCell ⟨b, 2, none⟩ z').cell? ⟨q, 2, none⟩ = some z) ∧
    ((((w.setCell ⟨b, 0, none⟩ x').setCell ⟨b, 1, none⟩ y').setCell ⟨b, 2, none⟩ z').frozen? ⟨b, 0, none⟩ = false ∧ (((w.setCell ⟨b, 0, none⟩ x').setCell ⟨b, 1, none⟩ y').setCell ⟨b, 2, none⟩ z').frozen? ⟨b, 1, none⟩ = false ∧ (((w.setCell ⟨b, 0, none⟩ x').setCell ⟨b, 1, none⟩ y').setCell ⟨b, 2, none⟩ z').frozen? ⟨b, 2, none⟩ = false) :=
  ⟨(((hq.other (i := 0) hne x').other (i := 1) hne y').other (i := 2) hne z').c3.1, by simp only [World.frozen?_setCell]; exact ⟨hb.froz 0, hb.froz 1, hb.froz 2⟩⟩
end Go.Proofs.Ytcmmlldincflkaa
namespace Go.Proofs.Ytcmmlldincflkaa
open Go.RowKit

def CodeOut (W : World) (e : Ending) (w' : World) : Prop :=
  ∃ (k m : Int) (o : ByteArray), e = .returned (.agg #[.int .i64 k, .int .i64 m, .string o]) ∧ o.size ≤ 101 ∧ Below W.heap.size W w'
set_option maxHeartbeats 4000000 in
set_option maxRecDepth 100000 in
theorem l32Code_c (a : Option Addr) (n c : Nat) (bs : List UInt8) (w : World) (hr : RowAt w a n (byteVals bs)) :
    Calls Try.prog 30 #[.slice a n c] w (CodeOut w) := by
  unfold CodeOut
  obtain ⟨w0, hw0⟩ : ∃ w0, w0 = w.alloc (.cells #[.int .i64 0, .int .i64 0, .string ⟨#[]⟩] 26) := ⟨_, rfl⟩
  have hb0 : Below w.heap.size w w0 := by rw [hw0]; exact (Below.refl _ _).alloc (Nat.le_refl _) _
  have HR0 := hid (hr.below hb0 (Nat.le_refl _))
  have HN := hid (l1New_c a n c bs _ HR0.out)
  have HB0 := hid (show BoxC w0 w.heap.size #[.int .i64 0, .int .i64 0, .string ⟨#[]⟩] by rw [hw0]; exact BoxC.new w _ _)
  have HL0 := hid hb0
  have hw0s : w0.heap.size = w.heap.size + 1 := by rw [hw0]; simp
  have HW0 := hid hw0
  clear hr hb0
  go_enter Try.func30, Try.ntmps30
  go_wp2_with fail
  rw [← HW0.out]
  refine HN.out.mono ?_
  rintro e w1 ⟨g, rfl, hc, hb⟩
  have HB1 := hid (HB0.out.below hb)
  have hgb : w.heap.size < g := by obtain ⟨i, k, x⟩ := hc; have := x.lo; omega
  have HR1 := hid (HR0.out.below hb (Nat.le_refl _))
  have HL1 := hid (HL0.out.trans (hb.mono HL0.out.size))
  have hg1 : g < w1.heap.size := by obtain ⟨i, k, x⟩ := hc; exact x.hi
  have HC1 := hid hc
  have HNU := hid (l32Number_c a n c bs w1 HR1.out)
  clear hc HN HB0 HR0 hb hw0 HW0
  go_wp2_with fail
  refine HNU.out.mono ?_
  rintro e w2 ⟨x, rfl, hx0, hx1, hb⟩
  have HB2 := hid (HB1.out.below hb)
  have HL2 := hid (HL1.out.trans (hb.mono HL1.out.size))
  have HC2 := hid (HC1.out.below hb)
  have hg2 := Nat.lt_of_lt_of_le hg1 hb.size
  have HRC := hid (spec_RuleCode_any x hx0 hx1 w2)
  unfold CodeAny at HRC
  clear hb HB1 HL1 HC1 HNU HR1
  go_wp2_with fail
  refine HRC.out.mono ?_
  rintro e w3 ⟨k, m, o, b, rfl, ho, hb⟩
  have hlt3 := HB2.out.lt
  have hb23 := hb.size
  have HB3 := hid (HB2.out.below hb)
  have HL3 := hid (HL2.out.trans (hb.mono HL2.out.size))
  have HC3 := hid (HC2.out.below hb)
  have hg3 := Nat.lt_of_lt_of_le hg2 hb.size
  have HB4 := hid (HB3.out.alloc (.cells #[.int .i64 k, .int .i64 m, .string o] 26))
  have HQ4 := hid (BoxC.new w3 #[.int .i64 k, .int .i64 m, .string o] 26)
  have HL4 := hid (HL3.out.alloc HL3.out.size (.cells #[.int .i64 k, .int .i64 m, .string o] 26))
  have HC4 := hid (HC3.out.below ((Below.refl _ _).alloc (Nat.le_refl _) (.cells #[.int .i64 k, .int .i64 m, .string o] 26)))
  have HO := hid (l1Once_c w0 (w3.alloc (.cells #[.int .i64 k, .int .i64 m, .string o] 26)) g a n c bs 3 HC4.out (by omega) (by omega))
  clear hb HB2 HL2 HC2 HRC HB3 HL3 HC3
  cases b
  · obtain ⟨w5, hw5⟩ : ∃ w5, w5 = w3.alloc (.cells #[.int .i64 k, .int .i64 m, .string o] 26) := ⟨_, rfl⟩
    have HB5 := HB4
    have HL5 := HL4
    have HC5 := HC4
    rw [← hw5] at HB5 HL5 HC5
    have HX := hid (l11Bent_c w0 w5 g a n c bs HC5.out)
    rw [hw5] at HX
    clear HO HQ4 HB4 HL4 HC4
    go_wp2_with fail
    refine HX.out.mono ?_
    rintro e w6 ⟨k, m, o, rfl, ho', hd⟩
    rw [← hw5] at hd
    have HB6 := hid (HB5.out.grown hd.2 (by omega))
    have HBE := hid (HL5.out.grown hd.2 HL5.out.size (by rintro z ⟨⟩; omega))
    obtain ⟨⟨r0, r1, r2⟩, u0, u1, u2⟩ := HB6.out.c3
    have hzs := HB6.out.lt
    clear hd HX HB6 HB5 HL5 HC5 hw5
    go_wp2
    refine bodyPost_ret (v := .agg #[.int .i64 k, .int .i64 m, .string o]) ?_ rfl ⟨_, _, _, rfl, ho', below_set3 HBE.out (Nat.le_refl _) (.int .i64 k) (.int .i64 m) (.string o)⟩
    simp [results, Try.results30, go_sem, r0, r1, r2, hzs]
  · go_wp2_with fail
    refine HO.out.mono ?_
    rintro e w5 ⟨b, rfl, hd⟩
    have HB5 := hid (HB4.out.grown hd.2 (by omega))
    have HQ5 := hid (HQ4.out.grown hd.2 (by omega))
    have HL5 := hid (HL4.out.grown hd.2 HL4.out.size (by rintro z ⟨⟩; omega))
    have HC5 := hid hd.1
    clear hd HO HB4 HQ4 HL4 HC4
    cases b
    · obtain ⟨⟨s0, s1, s2⟩, t0, t1, t2⟩ := HQ5.out.c3
      obtain ⟨⟨r0, r1, r2⟩, u0, u1, u2⟩ := HB5.out.c3
      have hzs := HB5.out.lt
      have HBE := HL5
      have ho' : o.size ≤ 101 := by omega
      clear HB5 HQ5 HL5 HC5
      go_wp2
      refine bodyPost_ret (v := .agg #[.int .i64 k, .int .i64 m, .string o]) ?_ rfl ⟨_, _, _, rfl, ho', below_set3 HBE.out (Nat.le_refl _) (.int .i64 k) (.int .i64 m) (.string o)⟩
      simp [results, Try.results30, go_sem, r0, r1, r2, hzs]
    · have HX := hid (l11Bent_c w0 w5 g a n c bs HC5.out)
      go_wp2_with fail
      refine HX.out.mono ?_
      rintro e w6 ⟨k, m, o, rfl, ho', hd⟩
      have HB6 := hid (HB5.out.grown hd.2 (by omega))
      have HBE := hid (HL5.out.grown hd.2 HL5.out.size (by rintro z ⟨⟩; omega))
      obtain ⟨⟨r0, r1, r2⟩, u0, u1, u2⟩ := HB6.out.c3
      have hzs := HB6.out.lt
      clear hd HX HB6 HB5 HQ5 HL5 HC5
      go_wp2
      refine bodyPost_ret (v := .agg #[.int .i64 k, .int .i64 m, .string o]) ?_ rfl ⟨_, _, _, rfl, ho', below_set3 HBE.out (Nat.le_refl _) (.int .i64 k) (.int .i64 m) (.string o)⟩
      simp [results, Try.results30, go_sem, r0, r1, r2, hzs]
def CodeWordInt (W : World) (e : Ending) (w' : World) : Prop :=
  ∃ (k m : Int) (o s : ByteArray) (z : Int), e = .returned (.tuple #[.agg #[.int .i64 k, .int .i64 m, .string o], .string s, .int .i64 z]) ∧ o.size ≤ 101 ∧ s.size ≤ 100 ∧ -1 ≤ z ∧ z ≤ 1000001 ∧ Below W.heap.size W w'
def CodeInt (W : World) (e : Ending) (w' : World) : Prop :=
  ∃ (k m : Int) (o : ByteArray) (z : Int), e = .returned (.tuple #[.agg #[.int .i64 k, .int .i64 m, .string o], .int .i64 z]) ∧ o.size ≤ 101 ∧ -6 ≤ z ∧ z ≤ 13 ∧ Below W.heap.size W w'
end Go.Proofs.Ytcmmlldincflkaa
