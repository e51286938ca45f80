/- What the laws of substitutions draw. Conditions: the bytes lie in memory. -/
import Derived.Test.YtcfjchaklgjmkaaDraw3
namespace Go.Proofs.Ytcfjchaklgjmkaa
open Go.RowKit

theorem below_drew {W w w1 : World} {g : Nat} {a : Option Addr} {n c : Nat} {bs : List UInt8} (hb : Below W.heap.size W w) (hd : Drew W w w1 g a n c bs) : Below W.heap.size W w1 := by
  obtain ⟨⟨i, k, x⟩, hg⟩ := hd
  exact hb.grown hg hb.size (by rintro q ⟨⟩; exact x.lo)
/-- The texts of a substitution, as they lie in memory that is the call's own. -/
def SubOwn (w : World) (B : Nat) (v : Value) (ss : List ByteArray) : Prop := w.ownsRow B 9 1 v ss.length (strVals ss) ∧ ss.length ≤ 5 ∧ ∀ s ∈ ss, s.size ≤ 5
set_option maxHeartbeats 1000000 in
theorem DrawCountTable_c (a : Option Addr) (n c : Nat) (bs : List UInt8) (w : World) (hr : RowAt w a n (byteVals bs)) :
    Calls Try.prog 15 #[.slice a n c] w fun e w' => ∃ v ss, e = .returned v ∧ SubOwn w' w.heap.size v ss ∧ Below w.heap.size w w' := by
  have HN := hid (l1New_c a n c bs w hr)
  clear hr
  go_enter Try.func15, Try.ntmps15
  go_wp2_with fail
  refine HN.out.mono ?_
  rintro e w1 ⟨g, rfl, hc, hb1⟩
  have HD := hid (l30Draw_c w w1 g a n c bs hc)
  have HB := hid hb1
  clear hc hb1 HN
  unfold SubDraw at HD
  go_wp2_with fail
  refine HD.out.mono ?_
  rintro e w2 ⟨v, ss, rfl, ho, hl, hs, hd⟩
  have HX := hid (below_drew HB.out hd)
  have HO := hid (show SubOwn w2 w.heap.size v ss from ⟨owns_base ho HB.out.size, hl, hs⟩)
  obtain ⟨b1, c1, rfl, _⟩ := owns_rowAt ho (by omega)
  clear hd ho hl hs
  go_wp2
  go_ret
  exact ⟨_, ss, rfl, HO.out, HX.out⟩
set_option maxHeartbeats 1000000 in
theorem DrawReplaceTimes_c (a : Option Addr) (n c : Nat) (bs : List UInt8) (w : World) (hr : RowAt w a n (byteVals bs)) :
    Calls Try.prog 6 #[.slice a n c] w fun e w' => ∃ v ss s m, e = .returned (.tuple #[v, .string s, .int .i64 m]) ∧ SubOwn w' w.heap.size v ss ∧ s.size ≤ 10 ∧ (-10 ≤ m ∧ m ≤ 400) ∧ Below w.heap.size w w' := by
  have HN := hid (l1New_c a n c bs w hr)
  clear hr
  go_enter Try.func6, Try.ntmps6
  go_wp2_with fail
  refine HN.out.mono ?_
  rintro e w1 ⟨g, rfl, hc, hb1⟩
  have hgw : g < w1.heap.size := by obtain ⟨i, k, x⟩ := hc; exact x.hi
  have HD := hid (l30Draw_c w w1 g a n c bs hc)
  have HB := hid hb1
  clear hc hb1 HN
  unfold SubDraw at HD
  go_wp2_with fail
  refine HD.out.mono ?_
  rintro e w2 ⟨v, ss, rfl, ho, hl, hs, hd⟩
  have HX2 := hid (below_drew HB.out hd)
  have HL := hid (l2Draw_c w w2 g a n c bs 2 4 hd.1 (by omega) (by omega) (by omega))
  obtain ⟨b1, c1, rfl, _⟩ := owns_rowAt ho (by omega)
  have HO2 := hid ho
  have HS := hid (And.intro hl hs)
  clear hd ho hl hs HD
  go_wp2_with fail
  refine HL.out.mono ?_
  rintro e w3 ⟨s, rfl, hss, hd⟩
  have HX3 := hid (below_drew HX2.out hd)
  have HO3 := hid (own_drew HO2.out hd.2 hgw)
  have HL := hid (l1Below_c w w3 g a n c bs 6 hd.1 (by omega) (by omega))
  clear hd HX2 HO2
  go_wp2_with fail
  refine HL.out.mono ?_
  rintro e w4 ⟨x, rfl, hx, hd⟩
  have HX4 := hid (below_drew HX3.out hd)
  have HO4 := hid (own_drew HO3.out hd.2 hgw)
  have HL := hid (l1Once_c w w4 g a n c bs 12 hd.1 (by omega) (by omega))
  clear hd HX3 HO3
  go_wp2_with fail
  refine HL.out.mono ?_
  rintro e w5 ⟨b, rfl, hd⟩
  have HX5 := hid (below_drew HX4.out hd)
  have HO5 := hid (own_drew HO4.out hd.2 hgw)
  clear hd HX4 HO4 HL
  go_wp2_with fail
  refine (l1BitD_c b w5).mono ?_
  rintro e w6 ⟨y, rfl, hy, rfl⟩
  go_wp2
  refine bodyPost_ret (v := .tuple #[.slice b1 ss.length c1, .string s, .int .i64 ((x : Int) - (y : Int))]) (by simp [results, Try.results6, go_sem]) rfl ⟨_, ss, s, (x : Int) - (y : Int), rfl, ⟨owns_base HO5.out HB.out.size, HS.out.1, HS.out.2⟩, by omega, ⟨by omega, by omega⟩, HX5.out⟩
set_option maxHeartbeats 1000000 in
theorem DrawReplace_c (a : Option Addr) (n c : Nat) (bs : List UInt8) (w : World) (hr : RowAt w a n (byteVals bs)) :
    Calls Try.prog 9 #[.slice a n c] w fun e w' => ∃ v ss s, e = .returned (.tuple #[v, .string s]) ∧ SubOwn w' w.heap.size v ss ∧ s.size ≤ 10 ∧ Below w.heap.size w w' := by
  have HN := hid (l1New_c a n c bs w hr)
  clear hr
  go_enter Try.func9, Try.ntmps9
  go_wp2_with fail
  refine HN.out.mono ?_
  rintro e w1 ⟨g, rfl, hc, hb1⟩
  have hgw : g < w1.heap.size := by obtain ⟨i, k, x⟩ := hc; exact x.hi
  have HD := hid (l30Draw_c w w1 g a n c bs hc)
  have HB := hid hb1
  clear hc hb1 HN
  unfold SubDraw at HD
  go_wp2_with fail
  refine HD.out.mono ?_
  rintro e w2 ⟨v, ss, rfl, ho, hl, hs, hd⟩
  have HX2 := hid (below_drew HB.out hd)
  have HL := hid (l1Below_c w w2 g a n c bs 2 hd.1 (by omega) (by omega))
  obtain ⟨b1, c1, rfl, _⟩ := owns_rowAt ho (by omega)
  have HO2 := hid ho
  have HS := hid (And.intro hl hs)
  clear hd ho hl hs HD
  go_wp2_with fail
  refine HL.out.mono ?_
  rintro e w3 ⟨x, rfl, hx, hd⟩
  have HX3 := hid (below_drew HX2.out hd)
  have HO3 := hid (own_drew HO2.out hd.2 hgw)
  have HL := hid (l2Draw_c w w3 g a n c bs (2 + x) 9 hd.1 (by omega) (by omega) (by omega))
  have hcast : ((2 + x : Nat) : Int) = 2 + (x : Int) := by omega
  rw [hcast] at HL
  clear hd HX2 HO2 hcast
  go_wp2_with fail
  refine HL.out.mono ?_
  rintro e w4 ⟨s, rfl, hss, hd⟩
  have HX4 := hid (below_drew HX3.out hd)
  have HO4 := hid (own_drew HO3.out hd.2 hgw)
  clear hd HX3 HO3
  go_wp2
  refine bodyPost_ret (v := .tuple #[.slice b1 ss.length c1, .string s]) (by simp [results, Try.results9, go_sem]) rfl ⟨_, ss, s, rfl, ⟨owns_base HO4.out HB.out.size, HS.out.1, HS.out.2⟩, by omega, HX4.out⟩
theorem lit_rowI {w : World} {e : TypeId} (cs : Array Value) (zs : List Int) (k : Nat) (hz : zs.length = k) (hcs : ∀ (j : Nat) (v : Value), (intVals zs)[j]? = some v → cs[j]? = some v) (hk : k ≤ 1000) :
    RowAt (w.alloc (.cells cs e)) (some ⟨w.heap.size, 0, none⟩) k (intVals zs) :=
  ⟨by simp [intVals, hz], by omega, fun _ => ⟨w.heap.size, 0, rfl, by simp, fun j v hj => by
    rw [World.cell?_alloc_at _ _ _ _ rfl, Nat.zero_add]; exact hcs j v hj⟩⟩
set_option maxHeartbeats 1000000 in
theorem DrawFixedStart_c (a : Option Addr) (n c : Nat) (bs : List UInt8) (w : World) (hr : RowAt w a n (byteVals bs)) :
    Calls Try.prog 12 #[.slice a n c] w fun e w' => ∃ v ss x m, e = .returned (.tuple #[v, .int .i64 x, .int .i64 m]) ∧ SubOwn w' w.heap.size v ss ∧ (-10 ≤ x ∧ x ≤ 400) ∧ (-10 ≤ m ∧ m ≤ 400) ∧ Below w.heap.size w w' := by
  have HN := hid (l1New_c a n c bs w hr)
  clear hr
  go_enter Try.func12, Try.ntmps12
  go_wp2_with fail
  refine HN.out.mono ?_
  rintro e w1 ⟨g, rfl, hc, hb1⟩
  have hgw : g < w1.heap.size := by obtain ⟨i, k, x⟩ := hc; exact x.hi
  have HD := hid (l30Draw_c w w1 g a n c bs hc)
  have HB := hid hb1
  clear hc hb1 HN
  unfold SubDraw at HD
  go_wp2_with fail
  refine HD.out.mono ?_
  rintro e w2 ⟨v, ss, rfl, ho, hl, hs, hd⟩
  have HX2 := hid (below_drew HB.out hd)
  have HL := hid (l1Below_c w w2 g a n c bs 3 hd.1 (by omega) (by omega))
  obtain ⟨b1, c1, rfl, _⟩ := owns_rowAt ho (by omega)
  have HO2 := hid ho
  have HS := hid (And.intro hl hs)
  clear hd ho hl hs HD
  go_wp2_with fail
  refine HL.out.mono ?_
  rintro e w3 ⟨x, rfl, hx, hd⟩
  have HX3 := hid (below_drew HX2.out hd)
  have HO3 := hid (own_drew HO2.out hd.2 hgw)
  have HL := hid (l1Once_c w w3 g a n c bs 14 hd.1 (by omega) (by omega))
  clear hd HX2 HO2
  go_wp2_with fail
  refine HL.out.mono ?_
  rintro e w4 ⟨b, rfl, hd⟩
  have HX4 := hid (below_drew HX3.out hd)
  have HO4 := hid (own_drew HO3.out hd.2 hgw)
  have HDD := hid (hd.alloc (.cells #[.int .i64 0, .int .i64 1, .int .i64 5, .int .i64 20, .int .i64 60, .int .i64 300, .int .i64 301, .int .i64 (-1)] 3))
  have hgw4 : g < w4.heap.size := by obtain ⟨⟨i, k, x⟩, _⟩ := hd; exact x.hi
  have HD4 := hid hd
  clear hd HX3 HO3 HL
  go_wp2_with fail
  refine (l1BitD_c b w4).mono ?_
  rintro e w5 ⟨y, rfl, hy, rfl⟩
  have HP := hid (l1PickInt_c w (w4.alloc (.cells #[.int .i64 0, .int .i64 1, .int .i64 5, .int .i64 20, .int .i64 60, .int .i64 300, .int .i64 301, .int .i64 (-1)] 3)) g a n c bs (some ⟨w4.heap.size, 0, none⟩) 8 8 [0, 1, 5, 20, 60, 300, 301, -1] HDD.out.1 (by omega) (by omega) (lit_rowI _ _ _ rfl (fun j v hj => by simpa [intVals] using hj) (by omega)) (fun q off e => by
    injection e with e
    injection e with e1
    omega))
  go_wp2_with fail
  refine HP.out.mono ?_
  rintro e w6 ⟨m, rfl, hm, hd⟩
  have hmb : -10 ≤ m ∧ m ≤ 400 := by
    have : ∀ z ∈ [0, 1, 5, 20, 60, 300, 301, -1], (-10 : Int) ≤ z ∧ z ≤ 400 := by decide
    exact this m hm
  have HX6 := hid (below_drew (HX4.out.alloc HX4.out.size (.cells #[.int .i64 0, .int .i64 1, .int .i64 5, .int .i64 20, .int .i64 60, .int .i64 300, .int .i64 301, .int .i64 (-1)] 3)) hd)
  have HO6 := hid (own_drew (HO4.out.alloc (.cells #[.int .i64 0, .int .i64 1, .int .i64 5, .int .i64 20, .int .i64 60, .int .i64 300, .int .i64 301, .int .i64 (-1)] 3)) hd.2 hgw)
  clear hd HP HDD hm
  go_wp2
  refine bodyPost_ret (v := .tuple #[.slice b1 ss.length c1, .int .i64 ((x : Int) - (y : Int)), .int .i64 m]) (by simp [results, Try.results12, go_sem]) rfl ⟨_, ss, (x : Int) - (y : Int), m, rfl, ⟨owns_base HO6.out HB.out.size, HS.out.1, HS.out.2⟩, by omega, hmb, HX6.out⟩
set_option maxHeartbeats 1000000 in
theorem DrawLengthAfter_c (a : Option Addr) (n c : Nat) (bs : List UInt8) (w : World) (hr : RowAt w a n (byteVals bs)) :
    Calls Try.prog 17 #[.slice a n c] w fun e w' => ∃ v ss x m, e = .returned (.tuple #[v, .int .i64 x, .int .i64 m]) ∧ SubOwn w' w.heap.size v ss ∧ (-10 ≤ x ∧ x ≤ 400) ∧ (-10 ≤ m ∧ m ≤ 400) ∧ Below w.heap.size w w' := by
  have HN := hid (l1New_c a n c bs w hr)
  clear hr
  go_enter Try.func17, Try.ntmps17
  go_wp2_with fail
  refine HN.out.mono ?_
  rintro e w1 ⟨g, rfl, hc, hb1⟩
  have hgw : g < w1.heap.size := by obtain ⟨i, k, x⟩ := hc; exact x.hi
  have HD := hid (l30Draw_c w w1 g a n c bs hc)
  have HB := hid hb1
  clear hc hb1 HN
  unfold SubDraw at HD
  go_wp2_with fail
  refine HD.out.mono ?_
  rintro e w2 ⟨v, ss, rfl, ho, hl, hs, hd⟩
  have HX2 := hid (below_drew HB.out hd)
  have HL := hid (l1Below_c w w2 g a n c bs 4 hd.1 (by omega) (by omega))
  obtain ⟨b1, c1, rfl, _⟩ := owns_rowAt ho (by omega)
  have HO2 := hid ho
  have HS := hid (And.intro hl hs)
  clear hd ho hl hs HD
  go_wp2_with fail
  refine HL.out.mono ?_
  rintro e w3 ⟨x, rfl, hx, hd⟩
  have HX3 := hid (below_drew HX2.out hd)
  have HO3 := hid (own_drew HO2.out hd.2 hgw)
  have HL := hid (l1Once_c w w3 g a n c bs 14 hd.1 (by omega) (by omega))
  clear hd HX2 HO2
  go_wp2_with fail
  refine HL.out.mono ?_
  rintro e w4 ⟨b, rfl, hd⟩
  have HX4 := hid (below_drew HX3.out hd)
  have HO4 := hid (own_drew HO3.out hd.2 hgw)
  have HDD := hid (hd.alloc (.cells #[.int .i64 0, .int .i64 1, .int .i64 2, .int .i64 3, .int .i64 5, .int .i64 10, .int .i64 20, .int .i64 21, .int .i64 (-1)] 3))
  have hgw4 : g < w4.heap.size := by obtain ⟨⟨i, k, x⟩, _⟩ := hd; exact x.hi
  have HD4 := hid hd
  clear hd HX3 HO3 HL
  go_wp2_with fail
  refine (l1BitD_c b w4).mono ?_
  rintro e w5 ⟨y, rfl, hy, rfl⟩
  have HP := hid (l1PickInt_c w (w4.alloc (.cells #[.int .i64 0, .int .i64 1, .int .i64 2, .int .i64 3, .int .i64 5, .int .i64 10, .int .i64 20, .int .i64 21, .int .i64 (-1)] 3)) g a n c bs (some ⟨w4.heap.size, 0, none⟩) 9 9 [0, 1, 2, 3, 5, 10, 20, 21, -1] HDD.out.1 (by omega) (by omega) (lit_rowI _ _ _ rfl (fun j v hj => by simpa [intVals] using hj) (by omega)) (fun q off e => by
    injection e with e
    injection e with e1
    omega))
  go_wp2_with fail
  refine HP.out.mono ?_
  rintro e w6 ⟨m, rfl, hm, hd⟩
  have hmb : -10 ≤ m ∧ m ≤ 400 := by
    have : ∀ z ∈ [0, 1, 2, 3, 5, 10, 20, 21, -1], (-10 : Int) ≤ z ∧ z ≤ 400 := by decide
    exact this m hm
  have HX6 := hid (below_drew (HX4.out.alloc HX4.out.size (.cells #[.int .i64 0, .int .i64 1, .int .i64 2, .int .i64 3, .int .i64 5, .int .i64 10, .int .i64 20, .int .i64 21, .int .i64 (-1)] 3)) hd)
  have HO6 := hid (own_drew (HO4.out.alloc (.cells #[.int .i64 0, .int .i64 1, .int .i64 2, .int .i64 3, .int .i64 5, .int .i64 10, .int .i64 20, .int .i64 21, .int .i64 (-1)] 3)) hd.2 hgw)
  clear hd HP HDD hm
  go_wp2
  refine bodyPost_ret (v := .tuple #[.slice b1 ss.length c1, .int .i64 ((x : Int) - (y : Int)), .int .i64 m]) (by simp [results, Try.results17, go_sem]) rfl ⟨_, ss, (x : Int) - (y : Int), m, rfl, ⟨owns_base HO6.out HB.out.size, HS.out.1, HS.out.2⟩, by omega, hmb, HX6.out⟩
end Go.Proofs.Ytcfjchaklgjmkaa
