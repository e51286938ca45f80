/- What the laws of parts draw. Conditions: the bytes lie in memory. -/
import Derived.Test.YtcfjchaklgjmkaaDraw4
import Derived.Test.YtcfjchaklgjmkaaSubsL
import Derived.Test.YtcfjchaklgjmkaaFixed2
namespace Go.Proofs.Ytcfjchaklgjmkaa
open Go.RowKit

theorem Drew.dr {W w w1 : World} {g : Nat} {a : Option Addr} {n c : Nat} {bs : List UInt8} (h : Drew W w w1 g a n c bs) : Drew W w w1.drew g a n c bs :=
  ⟨h.1.below (Below.refl _ _).drew, grown_trans h.2 ⟨rfl, rfl, rfl, Nat.le_refl _, fun _ _ _ => rfl⟩⟩
theorem turn_size (s x : ByteArray) (t : Nat) (ht : t ≤ s.size) : (s.extract 0 t ++ x ++ s.extract t s.size).size ≤ s.size + x.size := by
  simp [ByteArray.size_append, ByteArray.size_extract]
  omega
set_option maxHeartbeats 1000000 in
theorem l1Turned_c (W w : World) (g : Nat) (a : Option Addr) (n c : Nat) (bs : List UInt8) (s : ByteArray) (b : Option Addr) (m d : Nat) (zs : List ByteArray) (h : Cur W w g a n c bs) (hs : s.size ≤ 200) (h0 : 0 < m) (hm : m ≤ 256) (hr : RowAt w b m (strVals zs)) (hb : ∀ q off, b = some ⟨q, off, none⟩ → q ≠ g) (hz : ∀ z ∈ zs, z.size ≤ 10) :
    Calls Try.prog 85 #[.pointer (some ⟨g, 0, none⟩), .string s, .slice b m d] w fun e w' => ∃ x : ByteArray, e = .returned (.string x) ∧ x.size ≤ s.size + 10 ∧ Drew W w w' g a n c bs := by
  have HB := hid (l1Below_c W w g a n c bs (s.size + 1) h (by omega) (by omega))
  have hcast : ((s.size + 1 : Nat) : Int) = (s.size : Int) + 1 := by omega
  rw [hcast] at HB
  have HR := hid hr
  have HN := hid hb
  have HZ := hid hz
  clear hcast h hr hb hz
  go_enter Try.func85, Try.ntmps85
  go_wp2_with fail
  refine HB.out.mono ?_
  rintro e w1 ⟨t, rfl, ht, hd⟩
  have HR1 := hid (HR.out.grown hd.2 HN.out)
  have HB2 := hid (l1Below_c W w1 g a n c bs 6 hd.1 (by omega) (by omega))
  have HD1 := hid hd
  clear hd HB
  go_wp2_with fail
  refine HB2.out.mono ?_
  rintro e w2 ⟨y, rfl, hy, hd⟩
  have HR2 := hid (HR1.out.grown hd.2 HN.out)
  have HD2 := hid (HD1.out.trans hd)
  have hts : (t : Int) ≤ (s.size : Int) := by omega
  have ht0 : (0 : Int) ≤ (t : Int) := by omega
  clear hd HB2 HR1 HD1
  by_cases hy0 : y = 0
  · subst hy0
    have HP := hid (l1Pick_c W w2.drew g a n c bs b m d zs HD2.out.dr.1 h0 hm (HR2.out.below (Below.refl _ _).drew (Nat.le_refl _)) HN.out)
    go_wp2
    go_region_held3 (fun V => Drew W w V g a n c bs)
      (first | exact HD2.out.dr | exact hd4)
      (first | (go_at_call 72; refine HP.out.mono ?_; rintro e w3 ⟨x, rfl, hx, hd3⟩; have hx10 := HZ.out x hx; have hd4 := HD2.out.dr.trans hd3; have hsx := turn_size s x t (by omega); have hc1 : ¬ (9223372036854775807 < (s.extract 0 t).size + x.size) := (by have := turn_size s x t (by omega); rw [ByteArray.size_append, ByteArray.size_append] at this; omega); have hc2 : ¬ (9223372036854775807 < (s.extract 0 t ++ x).size + (s.extract t s.size).size) := (by have := turn_size s x t (by omega); rw [ByteArray.size_append] at this; omega); have hd1 := hc1; have hd2 := hc2; simp only [ByteArray.size_append, ByteArray.size_extract, Nat.sub_zero, Nat.min_self] at hd1 hd2; have hd5 : ¬ (9223372036854775807 < t + x.size) := (by omega); have hd6 : ¬ (9223372036854775807 < t + x.size + (s.size - t)) := (by omega)))
    all_goals
      go_wp2
      go_ret
      exact ⟨_, rfl, by omega, by assumption⟩
  · have e0 : ((y : Int) == 0) = false := by simp; omega
    by_cases hy1 : y = 1
    · subst hy1
      go_wp2
      go_ret
      exact ⟨_, rfl, by simp [ByteArray.size_extract]; omega, HD2.out⟩
    · have e1 : ((y : Int) == 1) = false := by simp; omega
      go_wp2
      go_ret
      exact ⟨s, rfl, by omega, HD2.out⟩
set_option maxHeartbeats 1000000 in
theorem l31Draw_c (W w : World) (g : Nat) (a : Option Addr) (n c : Nat) (bs : List UInt8) (h : Cur W w g a n c bs) :
    Calls Try.prog 68 #[.pointer (some ⟨g, 0, none⟩)] w fun e w' => ∃ s : ByteArray, e = .returned (.string s) ∧ s.size ≤ 100 ∧ Drew W w w' g a n c bs := by
  have HD := hid (l30Draw_c W w g a n c bs h)
  have hgw : g < w.heap.size := by obtain ⟨i, k, x⟩ := h; exact x.hi
  unfold SubDraw at HD
  clear h
  go_enter Try.func68, Try.ntmps68
  go_wp2_with fail
  refine HD.out.mono ?_
  rintro e w1 ⟨v, ss, rfl, ho, hl, hss, hd⟩
  obtain ⟨b1, c1, rfl, _⟩ := owns_rowAt ho (by omega)
  have HDD := hid (hd.alloc (.cells #[.int .i64 20, .int .i64 40, .int .i64 60] 3))
  have HOO := hid (ho.alloc (.cells #[.int .i64 20, .int .i64 40, .int .i64 60] 3))
  have hgw1 : g < w1.heap.size := Nat.lt_of_lt_of_le hgw hd.2.size
  have HS := hid hss
  have HP := hid (l1PickInt_c W (w1.alloc (.cells #[.int .i64 20, .int .i64 40, .int .i64 60] 3)) g a n c bs (some ⟨w1.heap.size, 0, none⟩) 3 3 [20, 40, 60] HDD.out.1 (by omega) (by omega) (lit_rowI _ _ _ rfl (fun j v hj => by simpa [intVals] using hj) (by omega)) (fun q off e => by
    injection e with e
    injection e with e1
    omega))
  clear ho hd hss HD
  go_wp2_with fail
  refine HP.out.mono ?_
  rintro e w2 ⟨m, rfl, hm, hd⟩
  have hm60 : 0 ≤ m ∧ m ≤ 60 := by
    have : ∀ z ∈ [20, 40, 60], (0 : Int) ≤ z ∧ z ≤ 60 := by decide
    exact this m hm
  have HD2 := hid (HDD.out.trans hd)
  obtain ⟨a2, c2, hv2, hr2⟩ := owns_rowAt (own_drew HOO.out hd.2 hgw) (by omega)
  simp only [Value.slice.injEq, true_and] at hv2
  obtain ⟨rfl, rfl⟩ := hv2
  have HF := hid (spec_FixedStart_c b1 ss.length c1 ss 0 m w2 hr2 (fun t ht => Nat.le_trans (HS.out t ht) (by unfold maxLen; omega)))
  obtain ⟨x3, hx3⟩ : ∃ x, x = fixO ss 0 m := ⟨_, rfl⟩
  rw [← hx3] at HF
  have hX3 := hid hx3
  clear hd HP HDD HOO hm hr2 hx3
  go_wp2_with fail
  refine HF.out.mono ?_
  rintro e w3 ⟨rfl, rfl⟩
  clear HF
  have HL := fun (V : World) (hc : Cur W V g a n c bs) => l2Draw_c W V g a n c bs 3 20 hc (by omega) (by omega) (by omega)
  have HL := hid HL
  cases hk : okO x3
  · have HLA := hid (HL.out w2 HD2.out.1)
    go_wp2_with fail
    refine HLA.out.mono ?_
    rintro e w5 ⟨y, rfl, hy, hd⟩
    have HD5 := hid (HD2.out.trans hd)
    have HD6 := hid (HD5.out.alloc (.cells #[.string ⟨#[97]⟩, .string ⟨#[98]⟩, .string ⟨#[100]⟩, .string ⟨#[97, 98, 97]⟩] 9))
    have hgw5 : g < w5.heap.size := Nat.lt_of_lt_of_le hgw HD5.out.2.size
    have HT := hid (l1Turned_c W (w5.alloc (.cells #[.string ⟨#[97]⟩, .string ⟨#[98]⟩, .string ⟨#[100]⟩, .string ⟨#[97, 98, 97]⟩] 9)) g a n c bs y (some ⟨w5.heap.size, 0, none⟩) 4 4 [⟨#[97]⟩, ⟨#[98]⟩, ⟨#[100]⟩, ⟨#[97, 98, 97]⟩] HD6.out.1 (by omega) (by omega) (by omega) (lit_row _ _ _ rfl (fun j v hj => by simpa [strVals] using hj) (by omega)) (fun q off e => by
      injection e with e
      injection e with e1
      omega) (by decide))
    clear hd HLA
    go_wp2_with fail
    refine HT.out.mono ?_
    rintro e w6 ⟨x, rfl, hx, hd⟩
    have HD7 := hid (HD6.out.trans hd)
    clear hd HT
    go_wp2
    go_ret
    exact ⟨x, rfl, by omega, HD7.out⟩
  · have hsz : (strO x3).size ≤ 60 := by
      have hF := (fix_facts (ss := ss) (x := 0) (m := m) (a := (strO x3).data.toList) (by rw [← hX3.out]; exact strO_some hk)).1
      rw [size_list] at hF
      omega
    obtain ⟨y3, hy3⟩ : ∃ y, y = strO x3 := ⟨_, rfl⟩
    rw [← hy3] at hsz ⊢
    clear hy3 hX3
    have HO := hid (l1Once_c W w2 g a n c bs 5 HD2.out.1 (by omega) (by omega))
    go_wp2_with fail
    refine HO.out.mono ?_
    rintro e w3 ⟨bb, rfl, hd⟩
    have HD3 := hid (HD2.out.trans hd)
    clear hd HO
    cases bb
    · go_wp2
      go_ret
      exact ⟨y3, rfl, by omega, HD3.out⟩
    · have HLA := hid (HL.out w3 HD3.out.1)
      go_wp2_with fail
      refine HLA.out.mono ?_
      rintro e w5 ⟨y, rfl, hy, hd⟩
      have HD5 := hid (HD3.out.trans hd)
      have HD6 := hid (HD5.out.alloc (.cells #[.string ⟨#[97]⟩, .string ⟨#[98]⟩, .string ⟨#[100]⟩, .string ⟨#[97, 98, 97]⟩] 9))
      have hgw5 : g < w5.heap.size := Nat.lt_of_lt_of_le hgw HD5.out.2.size
      have HT := hid (l1Turned_c W (w5.alloc (.cells #[.string ⟨#[97]⟩, .string ⟨#[98]⟩, .string ⟨#[100]⟩, .string ⟨#[97, 98, 97]⟩] 9)) g a n c bs y (some ⟨w5.heap.size, 0, none⟩) 4 4 [⟨#[97]⟩, ⟨#[98]⟩, ⟨#[100]⟩, ⟨#[97, 98, 97]⟩] HD6.out.1 (by omega) (by omega) (by omega) (lit_row _ _ _ rfl (fun j v hj => by simpa [strVals] using hj) (by omega)) (fun q off e => by
        injection e with e
        injection e with e1
        omega) (by decide))
      clear hd HLA
      go_wp2_with fail
      refine HT.out.mono ?_
      rintro e w6 ⟨x, rfl, hx, hd⟩
      have HD7 := hid (HD6.out.trans hd)
      clear hd HT
      go_wp2
      go_ret
      exact ⟨x, rfl, by omega, HD7.out⟩
set_option maxHeartbeats 1000000 in
theorem DrawIsBalancedWord_c (a : Option Addr) (n c : Nat) (bs : List UInt8) (w : World) (hr : RowAt w a n (byteVals bs)) :
    Calls Try.prog 35 #[.slice a n c] w fun e w' => ∃ s : ByteArray, e = .returned (.string s) ∧ s.size ≤ 100 ∧ Below w.heap.size w w' := by
  have HN := hid (l1New_c a n c bs w hr)
  clear hr
  go_enter Try.func35, Try.ntmps35
  go_wp2_with fail
  refine HN.out.mono ?_
  rintro e w1 ⟨g, rfl, hc, hb1⟩
  have HD := hid (l31Draw_c w w1 g a n c bs hc)
  have HB := hid hb1
  clear hc hb1 HN
  go_wp2_with fail
  refine HD.out.mono ?_
  rintro e w2 ⟨s, rfl, hs, hd⟩
  have HX := hid (below_drew HB.out hd)
  clear hd
  go_wp2
  go_ret
  exact ⟨s, rfl, hs, HX.out⟩
set_option maxHeartbeats 1000000 in
theorem DrawPartCount_c (a : Option Addr) (n c : Nat) (bs : List UInt8) (w : World) (hr : RowAt w a n (byteVals bs)) :
    Calls Try.prog 30 #[.slice a n c] w fun e w' => ∃ (s : ByteArray) (m : Int), e = .returned (.tuple #[.string s, .int .i64 m]) ∧ s.size ≤ 100 ∧ (-10 ≤ m ∧ m ≤ 400) ∧ Below w.heap.size w w' := by
  have HN := hid (l1New_c a n c bs w hr)
  clear hr
  go_enter Try.func30, Try.ntmps30
  go_wp2_with fail
  refine HN.out.mono ?_
  rintro e w1 ⟨g, rfl, hc, hb1⟩
  have HD := hid (l31Draw_c w w1 g a n c bs hc)
  have HB := hid hb1
  clear hc hb1 HN
  go_wp2_with fail
  refine HD.out.mono ?_
  rintro e w4 ⟨s, rfl, hs, hd⟩
  have HX4 := hid (below_drew HB.out hd)
  have HDD := hid (hd.alloc (.cells #[.int .i64 0, .int .i64 1, .int .i64 2, .int .i64 3, .int .i64 4, .int .i64 5, .int .i64 20, .int .i64 21, .int .i64 (-1)] 3))
  have hgw4 : g < w4.heap.size := by obtain ⟨⟨i, k, x⟩, _⟩ := hd; exact x.hi
  clear hd HD
  have HP := hid (l1PickInt_c w (w4.alloc (.cells #[.int .i64 0, .int .i64 1, .int .i64 2, .int .i64 3, .int .i64 4, .int .i64 5, .int .i64 20, .int .i64 21, .int .i64 (-1)] 3)) g a n c bs (some ⟨w4.heap.size, 0, none⟩) 9 9 [0, 1, 2, 3, 4, 5, 20, 21, -1] HDD.out.1 (by omega) (by omega) (lit_rowI _ _ _ rfl (fun j v hj => by simpa [intVals] using hj) (by omega)) (fun q off e => by
    injection e with e
    injection e with e1
    omega))
  go_wp2_with fail
  refine HP.out.mono ?_
  rintro e w6 ⟨m, rfl, hm, hd⟩
  have hmb : -10 ≤ m ∧ m ≤ 400 := by
    have : ∀ z ∈ [0, 1, 2, 3, 4, 5, 20, 21, -1], (-10 : Int) ≤ z ∧ z ≤ 400 := by decide
    exact this m hm
  have HX6 := hid (below_drew (HX4.out.alloc HX4.out.size (.cells #[.int .i64 0, .int .i64 1, .int .i64 2, .int .i64 3, .int .i64 4, .int .i64 5, .int .i64 20, .int .i64 21, .int .i64 (-1)] 3)) hd)
  clear hd HP HDD hm
  go_wp2
  refine bodyPost_ret (v := .tuple #[.string s, .int .i64 m]) (by simp [results, Try.results30, go_sem]) rfl ⟨s, m, rfl, hs, hmb, HX6.out⟩
set_option maxHeartbeats 1000000 in
theorem DrawPartRow_c (a : Option Addr) (n c : Nat) (bs : List UInt8) (w : World) (hr : RowAt w a n (byteVals bs)) :
    Calls Try.prog 28 #[.slice a n c] w fun e w' => ∃ (s : ByteArray) (m : Int), e = .returned (.tuple #[.string s, .int .i64 m]) ∧ s.size ≤ 100 ∧ (-10 ≤ m ∧ m ≤ 400) ∧ Below w.heap.size w w' := by
  have HN := hid (l1New_c a n c bs w hr)
  clear hr
  go_enter Try.func28, Try.ntmps28
  go_wp2_with fail
  refine HN.out.mono ?_
  rintro e w1 ⟨g, rfl, hc, hb1⟩
  have HD := hid (l31Draw_c w w1 g a n c bs hc)
  have HB := hid hb1
  clear hc hb1 HN
  go_wp2_with fail
  refine HD.out.mono ?_
  rintro e w4 ⟨s, rfl, hs, hd⟩
  have HX4 := hid (below_drew HB.out hd)
  have HDD := hid (hd.alloc (.cells #[.int .i64 0, .int .i64 1, .int .i64 3, .int .i64 6, .int .i64 21, .int .i64 (-1)] 3))
  have hgw4 : g < w4.heap.size := by obtain ⟨⟨i, k, x⟩, _⟩ := hd; exact x.hi
  clear hd HD
  have HP := hid (l1PickInt_c w (w4.alloc (.cells #[.int .i64 0, .int .i64 1, .int .i64 3, .int .i64 6, .int .i64 21, .int .i64 (-1)] 3)) g a n c bs (some ⟨w4.heap.size, 0, none⟩) 6 6 [0, 1, 3, 6, 21, -1] HDD.out.1 (by omega) (by omega) (lit_rowI _ _ _ rfl (fun j v hj => by simpa [intVals] using hj) (by omega)) (fun q off e => by
    injection e with e
    injection e with e1
    omega))
  go_wp2_with fail
  refine HP.out.mono ?_
  rintro e w6 ⟨m, rfl, hm, hd⟩
  have hmb : -10 ≤ m ∧ m ≤ 400 := by
    have : ∀ z ∈ [0, 1, 3, 6, 21, -1], (-10 : Int) ≤ z ∧ z ≤ 400 := by decide
    exact this m hm
  have HX6 := hid (below_drew (HX4.out.alloc HX4.out.size (.cells #[.int .i64 0, .int .i64 1, .int .i64 3, .int .i64 6, .int .i64 21, .int .i64 (-1)] 3)) hd)
  clear hd HP HDD hm
  go_wp2
  refine bodyPost_ret (v := .tuple #[.string s, .int .i64 m]) (by simp [results, Try.results28, go_sem]) rfl ⟨s, m, rfl, hs, hmb, HX6.out⟩
set_option maxHeartbeats 1000000 in
theorem DrawSpecialParts_c (a : Option Addr) (n c : Nat) (bs : List UInt8) (w : World) (hr : RowAt w a n (byteVals bs)) :
    Calls Try.prog 26 #[.slice a n c] w fun e w' => ∃ (s : ByteArray) (m : Int), e = .returned (.tuple #[.string s, .int .i64 m]) ∧ s.size ≤ 100 ∧ (-10 ≤ m ∧ m ≤ 400) ∧ Below w.heap.size w w' := by
  have HN := hid (l1New_c a n c bs w hr)
  clear hr
  go_enter Try.func26, Try.ntmps26
  go_wp2_with fail
  refine HN.out.mono ?_
  rintro e w1 ⟨g, rfl, hc, hb1⟩
  have HD := hid (l31Draw_c w w1 g a n c bs hc)
  have HB := hid hb1
  clear hc hb1 HN
  go_wp2_with fail
  refine HD.out.mono ?_
  rintro e w4 ⟨s, rfl, hs, hd⟩
  have HX4 := hid (below_drew HB.out hd)
  have HDD := hid (hd.alloc (.cells #[.int .i64 0, .int .i64 1, .int .i64 2, .int .i64 3, .int .i64 4, .int .i64 21, .int .i64 (-1)] 3))
  have hgw4 : g < w4.heap.size := by obtain ⟨⟨i, k, x⟩, _⟩ := hd; exact x.hi
  clear hd HD
  have HP := hid (l1PickInt_c w (w4.alloc (.cells #[.int .i64 0, .int .i64 1, .int .i64 2, .int .i64 3, .int .i64 4, .int .i64 21, .int .i64 (-1)] 3)) g a n c bs (some ⟨w4.heap.size, 0, none⟩) 7 7 [0, 1, 2, 3, 4, 21, -1] HDD.out.1 (by omega) (by omega) (lit_rowI _ _ _ rfl (fun j v hj => by simpa [intVals] using hj) (by omega)) (fun q off e => by
    injection e with e
    injection e with e1
    omega))
  go_wp2_with fail
  refine HP.out.mono ?_
  rintro e w6 ⟨m, rfl, hm, hd⟩
  have hmb : -10 ≤ m ∧ m ≤ 400 := by
    have : ∀ z ∈ [0, 1, 2, 3, 4, 21, -1], (-10 : Int) ≤ z ∧ z ≤ 400 := by decide
    exact this m hm
  have HX6 := hid (below_drew (HX4.out.alloc HX4.out.size (.cells #[.int .i64 0, .int .i64 1, .int .i64 2, .int .i64 3, .int .i64 4, .int .i64 21, .int .i64 (-1)] 3)) hd)
  clear hd HP HDD hm
  go_wp2
  refine bodyPost_ret (v := .tuple #[.string s, .int .i64 m]) (by simp [results, Try.results26, go_sem]) rfl ⟨s, m, rfl, hs, hmb, HX6.out⟩
set_option maxHeartbeats 1000000 in
theorem DrawPlacesIn_c (a : Option Addr) (n c : Nat) (bs : List UInt8) (w : World) (hr : RowAt w a n (byteVals bs)) :
    Calls Try.prog 33 #[.slice a n c] w fun e w' => ∃ (s t : ByteArray), e = .returned (.tuple #[.string s, .string t]) ∧ s.size ≤ 100 ∧ t.size ≤ 10 ∧ Below w.heap.size w w' := by
  have HN := hid (l1New_c a n c bs w hr)
  clear hr
  go_enter Try.func33, Try.ntmps33
  go_wp2_with fail
  refine HN.out.mono ?_
  rintro e w1 ⟨g, rfl, hc, hb1⟩
  have HD := hid (l31Draw_c w w1 g a n c bs hc)
  have HB := hid hb1
  clear hc hb1 HN
  go_wp2_with fail
  refine HD.out.mono ?_
  rintro e w4 ⟨s, rfl, hs, hd⟩
  have HX4 := hid (below_drew HB.out hd)
  have HP := hid (l2Draw_c w w4 g a n c bs 2 3 hd.1 (by omega) (by omega) (by omega))
  clear hd HD
  go_wp2_with fail
  refine HP.out.mono ?_
  rintro e w6 ⟨t, rfl, ht, hd⟩
  have HX6 := hid (below_drew HX4.out hd)
  clear hd HP
  go_wp2
  refine bodyPost_ret (v := .tuple #[.string s, .string t]) (by simp [results, Try.results33, go_sem]) rfl ⟨s, t, rfl, hs, by omega, HX6.out⟩
set_option maxHeartbeats 1000000 in
theorem DrawReturnsTo_c (a : Option Addr) (n c : Nat) (bs : List UInt8) (w : World) (hr : RowAt w a n (byteVals bs)) :
    Calls Try.prog 31 #[.slice a n c] w fun e w' => ∃ (s t : ByteArray), e = .returned (.tuple #[.string s, .string t]) ∧ s.size ≤ 100 ∧ t.size ≤ 10 ∧ Below w.heap.size w w' := by
  have HN := hid (l1New_c a n c bs w hr)
  clear hr
  go_enter Try.func31, Try.ntmps31
  go_wp2_with fail
  refine HN.out.mono ?_
  rintro e w1 ⟨g, rfl, hc, hb1⟩
  have HD := hid (l31Draw_c w w1 g a n c bs hc)
  have HB := hid hb1
  clear hc hb1 HN
  go_wp2_with fail
  refine HD.out.mono ?_
  rintro e w4 ⟨s, rfl, hs, hd⟩
  have HX4 := hid (below_drew HB.out hd)
  have HDD := hid (hd.alloc (.cells #[.string ⟨#[97]⟩, .string ⟨#[98]⟩, .string ⟨#[97, 98]⟩, .string ⟨#[98, 97]⟩, .string ⟨#[97, 97]⟩, .string ⟨#[97, 98, 97]⟩, .string ⟨#[97, 98, 98]⟩, .string ⟨#[]⟩] 9))
  have hgw4 : g < w4.heap.size := by obtain ⟨⟨i, k, x⟩, _⟩ := hd; exact x.hi
  clear hd HD
  have HP := hid (l1Pick_c w (w4.alloc (.cells #[.string ⟨#[97]⟩, .string ⟨#[98]⟩, .string ⟨#[97, 98]⟩, .string ⟨#[98, 97]⟩, .string ⟨#[97, 97]⟩, .string ⟨#[97, 98, 97]⟩, .string ⟨#[97, 98, 98]⟩, .string ⟨#[]⟩] 9)) g a n c bs (some ⟨w4.heap.size, 0, none⟩) 8 8 [⟨#[97]⟩, ⟨#[98]⟩, ⟨#[97, 98]⟩, ⟨#[98, 97]⟩, ⟨#[97, 97]⟩, ⟨#[97, 98, 97]⟩, ⟨#[97, 98, 98]⟩, ⟨#[]⟩] HDD.out.1 (by omega) (by omega) (lit_row _ _ _ rfl (fun j v hj => by simpa [strVals] using hj) (by omega)) (fun q off e => by
    injection e with e
    injection e with e1
    omega))
  go_wp2_with fail
  refine HP.out.mono ?_
  rintro e w6 ⟨t, rfl, hm, hd⟩
  have hmb : t.size ≤ 10 := by
    have : ∀ z ∈ [(⟨#[97]⟩ : ByteArray), ⟨#[98]⟩, ⟨#[97, 98]⟩, ⟨#[98, 97]⟩, ⟨#[97, 97]⟩, ⟨#[97, 98, 97]⟩, ⟨#[97, 98, 98]⟩, ⟨#[]⟩], z.size ≤ 10 := by decide
    exact this t hm
  have HX6 := hid (below_drew (HX4.out.alloc HX4.out.size (.cells #[.string ⟨#[97]⟩, .string ⟨#[98]⟩, .string ⟨#[97, 98]⟩, .string ⟨#[98, 97]⟩, .string ⟨#[97, 97]⟩, .string ⟨#[97, 98, 97]⟩, .string ⟨#[97, 98, 98]⟩, .string ⟨#[]⟩] 9)) hd)
  clear hd HP HDD hm
  go_wp2
  refine bodyPost_ret (v := .tuple #[.string s, .string t]) (by simp [results, Try.results31, go_sem]) rfl ⟨s, t, rfl, hs, hmb, HX6.out⟩
end Go.Proofs.Ytcfjchaklgjmkaa
