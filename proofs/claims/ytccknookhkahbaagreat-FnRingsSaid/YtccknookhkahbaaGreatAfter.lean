/- Rings after many steps: both functions. No condition but the sizes. -/
import Derived.Test.YtccknookhkahbaaGreatTailS
namespace Go.Proofs.YtccknookhkahbaaGreat
open Go.RowKit

def redn (t p m : Nat) : Nat := if t < m then t + (m - t) % p else m
def AfterPost (f : List UInt8 → List UInt8) (l : List UInt8) (m : Nat) (w : World) (e : Ending) (w' : World) : Prop := ∃ t p : Nat, IsTail f l t p ∧ e = .returned (.tuple #[.string (txt (itr f l (redn t p m))), .bool true]) ∧ Below w.heap.size w w'
def afterOk (k n : Int) (o s : ByteArray) (m : Int) : Bool := tailOk k n o s && inB m 0 1000000
theorem after_facts {k n : Int} {o s : ByteArray} {m : Int} (h : afterOk k n o s m = true) : tailOk k n o s = true ∧ 0 ≤ m ∧ m ≤ 1000000 := by
  unfold afterOk at h
  rw [Bool.and_eq_true, inB_iff] at h
  exact h
theorem redn_gt {t p m : Nat} (h : t < m) : redn t p m = t + (m - t) % p := by unfold redn; rw [if_pos h]
theorem redn_le {t p m : Nat} (h : ¬ t < m) : redn t p m = m := by unfold redn; rw [if_neg h]
theorem redn_lt {t p m : Nat} (hp : 1 ≤ p) (h : t + p ≤ 6561) : redn t p m ≤ 6561 := by
  unfold redn
  split
  · have := Nat.mod_lt (m - t) hp; omega
  · omega
theorem rem_nat {t p m : Nat} (h : t < m) : Int.tmod ((m : Int) - (t : Int)) (p : Int) = (((m - t) % p : Nat) : Int) := by
  rw [← Int.ofNat_sub (Nat.le_of_lt h)]; rfl
theorem ring_step {k n : Nat} {o s : ByteArray} (h : tailOk k n o s = true) (i : Nat) :
    ∃ h1 : 1 ≤ k ∧ k ≤ 3, 1 ≤ n ∧ n ≤ 4 ∧ k ^ n ≤ o.size ∧ lets k (itr (ringB o k n) s.data.toList i) = true ∧ 0 < (itr (ringB o k n) s.data.toList i).length ∧ (itr (ringB o k n) s.data.toList i).length ≤ 1000 := by
  obtain ⟨hr, h8⟩ := tail_facts h
  obtain ⟨kk, nn, hkk, hnn, hk, ⟨hn1, hn4⟩, hp, hos, hlo, ⟨hs1, hs16⟩, hl, hic⟩ := ring_facts hr
  obtain rfl : k = kk := by omega
  obtain rfl : n = nn := by omega
  have hw := ring_words (l := s.data.toList) (by omega) hn1 hlo (Nat.le_of_eq hos.symm) hl (by rw [size_list]; exact hs1) i
  rw [size_list] at hw
  exact ⟨by omega, hn1, hn4, Nat.le_of_eq hos.symm, hw.2, by omega, by omega⟩
theorem impl_ring_itr (k n : Nat) (o s : ByteArray) (i : Nat) (w : World) (h : tailOk k n o s = true) :
    Calls Tryz.prog 34 #[.agg #[.int .i64 k, .int .i64 n, .string o], .string (txt (itr (ringB o k n) s.data.toList i))] w fun e w' => e = .returned (.string (txt (itr (ringB o k n) s.data.toList (i + 1)))) ∧ Below w.heap.size w w' := by
  obtain ⟨hk, hn1, hn, ho, hl, h0, h1⟩ := ring_step h i
  have := impl_ring_c k n o (txt (itr (ringB o k n) s.data.toList i)) w hk.2 hn1 hn ho hl (by rw [txt_size]; exact h0) (by rw [txt_size]; exact h1)
  rwa [txt_list] at this
theorem spec_ring_itr (k n : Nat) (o s : ByteArray) (i : Nat) (w : World) (ho : o.size ≤ maxLen) (h : tailOk k n o s = true) :
    Calls Tryz.prog 30 #[.agg #[.int .i64 k, .int .i64 n, .string o], .string (txt (itr (ringB o k n) s.data.toList i))] w fun e w' => e = .returned (.tuple #[.string (txt (itr (ringB o k n) s.data.toList (i + 1))), .bool true]) ∧ Below w.heap.size w w' := by
  have h1 := spec_ApplyRing_yes k n o (txt (itr (ringB o k n) s.data.toList i)) w ho (ring_ok_itr (tail_facts h).1 i)
  rwa [txt_list] at h1
set_option maxHeartbeats 2000000 in
set_option maxRecDepth 100000 in
theorem spec_RingAfter_no (k n : Int) (o s : ByteArray) (m : Int) (w : World) (ho : o.size ≤ maxLen) (hs : s.size ≤ maxLen) (h : afterOk k n o s m = false) :
    Calls Tryz.prog 10 #[.agg #[.int .i64 k, .int .i64 n, .string o], .string s, .int .i64 m] w fun e w' => e = .returned (.tuple #[.string ⟨#[]⟩, .bool false]) ∧ Below w.heap.size w w' := by
  cases hr : tailOk k n o s
  · have HN := hid (fun w => spec_RingTail_no k n o s w ho hs hr)
    clear hr h
    go_enter Tryz.func10, Tryz.ntmps10
    go_wp2_with fail
    refine (HN.out _).mono ?_
    rintro e w1 ⟨rfl, hb1⟩
    go_wp2
    go_ret2
    exact ⟨rfl, ((Below.refl _ _).alloc (Nat.le_refl _) _).trans (hb1.mono (by simp))⟩
  · have hm : inB m 0 1000000 = false := by unfold afterOk at h; rwa [hr, Bool.true_and] at h
    obtain ⟨kk, nn, rfl, rfl, hrest⟩ := ring_facts (tail_facts hr).1
    have HT := hid (fun w => spec_RingTail_yes kk nn o s w ho hr)
    obtain ⟨f, hf⟩ : ∃ f, f = ringB o kk nn := ⟨_, rfl⟩
    rw [← hf] at HT
    clear hrest hr h hf
    go_enter Tryz.func10, Tryz.ntmps10
    go_wp2_with fail
    refine (HT.out _).mono ?_
    rintro e w1 ⟨t, p, hT, hle, rfl, hb1⟩
    clear hT
    have ht0 : ¬ ((t : Int) < 0) := by omega
    go_wp2_with (go_at_call 35; refine (l1In_c _ _ _ _).mono ?_; rintro e w' ⟨rfl, rfl⟩)
    go_ret2
    exact ⟨rfl, ((Below.refl _ _).alloc (Nat.le_refl _) _).trans (hb1.mono (by simp))⟩
set_option maxHeartbeats 2000000 in
set_option maxRecDepth 100000 in
theorem spec_RingAfter_yes (kk nn : Nat) (o s : ByteArray) (m : Nat) (w : World) (ho : o.size ≤ maxLen) (h : tailOk kk nn o s = true) (hm : m ≤ 1000000) :
    Calls Tryz.prog 10 #[.agg #[.int .i64 kk, .int .i64 nn, .string o], .string s, .int .i64 m] w (AfterPost (ringB o kk nn) s.data.toList m w) := by
  have HT := hid (fun w => spec_RingTail_yes kk nn o s w ho h)
  have HRI := fun i w => spec_ring_itr kk nn o s i w ho h
  obtain ⟨k, hk⟩ : ∃ k : Int, k = kk := ⟨_, rfl⟩
  obtain ⟨n, hn⟩ : ∃ n : Int, n = nn := ⟨_, rfl⟩
  obtain ⟨l, hl⟩ : ∃ l, l = s.data.toList := ⟨_, rfl⟩
  obtain ⟨f, hf⟩ : ∃ f, f = ringB o kk nn := ⟨_, rfl⟩
  have HSL := hid (show s = txt (itr f l 0) by rw [hl]; rfl)
  rw [← hk, ← hn, ← hf] at HT
  rw [← hk, ← hn, ← hf, ← hl]
  rw [← hl] at HT
  try rw [← hk, ← hn] at HN
  have HR := hid (fun i w => HRI i w)
  rw [← hk, ← hn, ← hf, ← hl] at HR
  clear HRI hf hl hk hn h
  have hm1 : (0 : Int) ≤ (m : Int) := by omega
  have hm2 : (m : Int) ≤ 1000000 := by omega
  have hin := inB_t (x := (m : Int)) (lo := 0) (hi := 1000000) (by omega)
  go_enter Tryz.func10, Tryz.ntmps10
  go_wp2_with fail
  refine (HT.out _).mono ?_
  rintro e w1 ⟨t, p, hT, hle, rfl, hb1⟩
  obtain ⟨⟨hc0, hc1, hc2⟩, _, hz⟩ := box3 hb1
  have hbw1 : Below w.heap.size w w1 := ((Below.refl _ _).alloc (Nat.le_refl _) _).trans (hb1.mono (by simp))
  have HK := hid (fun (V : World) (hV : Below w1.heap.size w1 V) => (⟨(hV.cell (p := ⟨w.heap.size, 0, none⟩) hz).trans hc0, (hV.cell (p := ⟨w.heap.size, 1, none⟩) hz).trans hc1, (hV.cell (p := ⟨w.heap.size, 2, none⟩) hz).trans hc2⟩ : V.cell? ⟨w.heap.size, 0, none⟩ = some (.int .i64 k) ∧ V.cell? ⟨w.heap.size, 1, none⟩ = some (.int .i64 n) ∧ V.cell? ⟨w.heap.size, 2, none⟩ = some (.string o)))
  clear hb1
  have ht0 : ¬ ((t : Int) < 0) := by omega
  go_wp2_with fail
  refine (l1In_c _ _ _ _).mono ?_
  rintro e w' ⟨rfl, rfl⟩
  have HTL := hid hT
  have hp1 := hT.pos
  clear hT
  have hp0 : ¬ ((p : Int) = 0) := by omega
  by_cases htm : t < m
  · have hti : (t : Int) < (m : Int) := by omega
    have hrem := rem_nat (p := p) htm
    obtain ⟨r, hr⟩ : ∃ r, r = (m - t) % p := ⟨_, rfl⟩
    have hrp : r < p := by rw [hr]; exact Nat.mod_lt _ hp1
    obtain ⟨q, hq⟩ : ∃ q, q = t + r := ⟨_, rfl⟩
    have HQ := hid (show q = redn t p m by rw [redn_gt htm, hq, hr])
    rw [← hr] at hrem
    have hw1 : IntKind.i64.wrap ((m : Int) - (t : Int)) = (m : Int) - (t : Int) := IntWalk.i64_in _ (by omega)
    have hw2 : IntKind.i64.wrap (r : Int) = (r : Int) := IntWalk.i64_in _ (by omega)
    have hw3 : IntKind.i64.wrap ((t : Int) + (r : Int)) = (q : Int) := by rw [show (t : Int) + (r : Int) = (q : Int) by omega]; exact IntWalk.i64_in _ (by omega)
    have hw4 : (t : Int) + (r : Int) = (q : Int) := by omega
    have hw5 : IntKind.i64.wrap (q : Int) = (q : Int) := IntWalk.i64_in _ (by omega)
    have hq2 : q ≤ 6561 := by omega
    clear hr hq
    go_wp2
    go_loopw [1, 10] (fun v i wr => ∃ (j : Nat) (x : ByteArray), j ≤ q ∧ i = .int .i64 j ∧ v = .string x ∧ Hid (x = txt (itr f l j)) ∧ Below w1.heap.size w1 wr) (fun _ i _ => q - (intOf i).toNat)
    case atStart => exact ⟨0, _, by omega, rfl, rfl, HSL.out, Below.refl _ _⟩
    case round =>
      obtain ⟨j, x, hj, rfl, rfl, HX, hbel⟩ := hrel
      by_cases hlt : j < q
      · have hjq : (j : Int) < (q : Int) := by omega
        obtain ⟨h0, h1, h2⟩ := HK.out _ hbel
        have HRj := hid (fun w => HR.out j w)
        rw [← HX.out] at HRj
        obtain ⟨y, hy⟩ : ∃ y, y = txt (itr f l (j + 1)) := ⟨_, rfl⟩
        rw [← hy] at HRj
        have HY := hid hy
        clear hy
        go_wp2_with fail
        refine (HRj.out _).mono ?_
        rintro e w2 ⟨rfl, hb2⟩
        go_wp2
        go_roundw
        case rel => exact ⟨j + 1, y, by omega, by go_num, rfl, HY.out, hbel.trans (hb2.mono hbel.size)⟩
        case measure => simp [intOf]; omega
      · obtain rfl : j = q := by omega
        have hjq : ¬ ((j : Int) < (j : Int)) := by omega
        go_wp2
        go_ret2
        exact ⟨t, p, HTL.out, (show _ = Ending.returned (.tuple #[.string x, .bool true]) from rfl).trans (by rw [HX.out, ← HQ.out]), hbw1.trans (hbel.mono hbw1.size)⟩
  · have hti : ¬ ((t : Int) < (m : Int)) := by omega
    obtain ⟨q, hq⟩ : ∃ q, q = m := ⟨_, rfl⟩
    have HQ := hid (show q = redn t p m by rw [redn_le htm, hq])
    subst hq
    go_wp2
    go_loopw [1, 10] (fun v i wr => ∃ (j : Nat) (x : ByteArray), j ≤ q ∧ i = .int .i64 j ∧ v = .string x ∧ Hid (x = txt (itr f l j)) ∧ Below w1.heap.size w1 wr) (fun _ i _ => q - (intOf i).toNat)
    case atStart => exact ⟨0, _, by omega, rfl, rfl, HSL.out, Below.refl _ _⟩
    case round =>
      obtain ⟨j, x, hj, rfl, rfl, HX, hbel⟩ := hrel
      by_cases hlt : j < q
      · have hjq : (j : Int) < (q : Int) := by omega
        obtain ⟨h0, h1, h2⟩ := HK.out _ hbel
        have HRj := hid (fun w => HR.out j w)
        rw [← HX.out] at HRj
        obtain ⟨y, hy⟩ : ∃ y, y = txt (itr f l (j + 1)) := ⟨_, rfl⟩
        rw [← hy] at HRj
        have HY := hid hy
        clear hy
        go_wp2_with fail
        refine (HRj.out _).mono ?_
        rintro e w2 ⟨rfl, hb2⟩
        go_wp2
        go_roundw
        case rel => exact ⟨j + 1, y, by omega, by go_num, rfl, HY.out, hbel.trans (hb2.mono hbel.size)⟩
        case measure => simp [intOf]; omega
      · obtain rfl : j = q := by omega
        have hjq : ¬ ((j : Int) < (j : Int)) := by omega
        go_wp2
        go_ret2
        exact ⟨t, p, HTL.out, (show _ = Ending.returned (.tuple #[.string x, .bool true]) from rfl).trans (by rw [HX.out, ← HQ.out]), hbw1.trans (hbel.mono hbw1.size)⟩
set_option maxHeartbeats 2000000 in
set_option maxRecDepth 100000 in
theorem impl_RingAfter_no (k n : Int) (o s : ByteArray) (m : Int) (w : World) (ho : o.size ≤ maxLen) (hs : s.size ≤ maxLen) (h : afterOk k n o s m = false) :
    Calls Tryz.prog 9 #[.agg #[.int .i64 k, .int .i64 n, .string o], .string s, .int .i64 m] w fun e w' => e = .returned (.tuple #[.string ⟨#[]⟩, .bool false]) ∧ Below w.heap.size w w' := by
  have HN := hid (fun w => impl_isRing_c k n o s w ho hs)
  cases hr : tailOk k n o s
  · rw [hr] at HN
    clear hr h
    go_enter Tryz.func9, Tryz.ntmps9
    go_wp2_with fail
    refine (HN.out _).mono ?_
    rintro e w1 ⟨rfl, hb1⟩
    go_wp2
    go_ret2
    exact ⟨rfl, ((Below.refl _ _).alloc (Nat.le_refl _) _).trans (hb1.mono (by simp))⟩
  · have hm : inB m 0 1000000 = false := by unfold afterOk at h; rwa [hr, Bool.true_and] at h
    rw [hr] at HN
    clear hr h
    by_cases h1 : m < 0
    · clear hm
      go_enter Tryz.func9, Tryz.ntmps9
      go_wp2_with fail
      refine (HN.out _).mono ?_
      rintro e w1 ⟨rfl, hb1⟩
      go_wp2
      go_ret2
      exact ⟨rfl, ((Below.refl _ _).alloc (Nat.le_refl _) _).trans (hb1.mono (by simp))⟩
    · have h2 : 1000000 < m := by
        refine Int.lt_of_not_ge fun h3 => ?_
        rw [inB_t (by omega)] at hm
        cases hm
      clear hm
      go_enter Tryz.func9, Tryz.ntmps9
      go_wp2_with fail
      refine (HN.out _).mono ?_
      rintro e w1 ⟨rfl, hb1⟩
      go_wp2
      go_ret2
      exact ⟨rfl, ((Below.refl _ _).alloc (Nat.le_refl _) _).trans (hb1.mono (by simp))⟩
set_option maxHeartbeats 2000000 in
set_option maxRecDepth 100000 in
theorem impl_RingAfter_yes (kk nn : Nat) (o s : ByteArray) (m : Nat) (w : World) (ho : o.size ≤ maxLen) (hs : s.size ≤ maxLen) (h : tailOk kk nn o s = true) (hm : m ≤ 1000000) :
    Calls Tryz.prog 9 #[.agg #[.int .i64 kk, .int .i64 nn, .string o], .string s, .int .i64 m] w (AfterPost (ringB o kk nn) s.data.toList m w) := by
  have HN := hid (fun w => impl_isRing_c kk nn o s w ho hs)
  rw [h] at HN
  have HT := hid (fun w => impl_tail_yes kk nn o s w h)
  have HRI := fun i w => impl_ring_itr kk nn o s i w h
  obtain ⟨k, hk⟩ : ∃ k : Int, k = kk := ⟨_, rfl⟩
  obtain ⟨n, hn⟩ : ∃ n : Int, n = nn := ⟨_, rfl⟩
  obtain ⟨l, hl⟩ : ∃ l, l = s.data.toList := ⟨_, rfl⟩
  obtain ⟨f, hf⟩ : ∃ f, f = ringB o kk nn := ⟨_, rfl⟩
  have HSL := hid (show s = txt (itr f l 0) by rw [hl]; rfl)
  rw [← hk, ← hn, ← hf] at HT
  rw [← hk, ← hn, ← hf, ← hl]
  rw [← hl] at HT
  try rw [← hk, ← hn] at HN
  have HR := hid (fun i w => HRI i w)
  rw [← hk, ← hn, ← hf, ← hl] at HR
  clear HRI hf hl hk hn h
  have hm1 : (0 : Int) ≤ (m : Int) := by omega
  have hm2 : (m : Int) ≤ 1000000 := by omega
  go_enter Tryz.func9, Tryz.ntmps9
  go_wp2_with fail
  refine (HN.out _).mono ?_
  rintro e w0 ⟨rfl, hb0⟩
  obtain ⟨⟨hc0, hc1, hc2⟩, _, hz⟩ := box3 hb0
  have hm0 : ¬ ((m : Int) < 0) := by omega
  go_wp2_with fail
  refine (HT.out _).mono ?_
  rintro e w1 ⟨t, p, hT, hle, rfl, hb1⟩
  have hb1 := bs hb0 hb1
  clear hc0 hc1 hc2 hz
  obtain ⟨⟨hc0, hc1, hc2⟩, _, hz⟩ := box3 hb1
  have hbw1 : Below w.heap.size w w1 := ((Below.refl _ _).alloc (Nat.le_refl _) _).trans (hb1.mono (by simp))
  have HK := hid (fun (V : World) (hV : Below w1.heap.size w1 V) => (⟨(hV.cell (p := ⟨w.heap.size, 0, none⟩) hz).trans hc0, (hV.cell (p := ⟨w.heap.size, 1, none⟩) hz).trans hc1, (hV.cell (p := ⟨w.heap.size, 2, none⟩) hz).trans hc2⟩ : V.cell? ⟨w.heap.size, 0, none⟩ = some (.int .i64 k) ∧ V.cell? ⟨w.heap.size, 1, none⟩ = some (.int .i64 n) ∧ V.cell? ⟨w.heap.size, 2, none⟩ = some (.string o)))
  clear hb1
  have HTL := hid hT
  have hp1 := hT.pos
  clear hT
  have hp0 : ¬ ((p : Int) = 0) := by omega
  by_cases htm : t < m
  · have hti : (t : Int) < (m : Int) := by omega
    have hrem := rem_nat (p := p) htm
    obtain ⟨r, hr⟩ : ∃ r, r = (m - t) % p := ⟨_, rfl⟩
    have hrp : r < p := by rw [hr]; exact Nat.mod_lt _ hp1
    obtain ⟨q, hq⟩ : ∃ q, q = t + r := ⟨_, rfl⟩
    have HQ := hid (show q = redn t p m by rw [redn_gt htm, hq, hr])
    rw [← hr] at hrem
    have hw1 : IntKind.i64.wrap ((m : Int) - (t : Int)) = (m : Int) - (t : Int) := IntWalk.i64_in _ (by omega)
    have hw2 : IntKind.i64.wrap (r : Int) = (r : Int) := IntWalk.i64_in _ (by omega)
    have hw3 : IntKind.i64.wrap ((t : Int) + (r : Int)) = (q : Int) := by rw [show (t : Int) + (r : Int) = (q : Int) by omega]; exact IntWalk.i64_in _ (by omega)
    have hw4 : (t : Int) + (r : Int) = (q : Int) := by omega
    have hw5 : IntKind.i64.wrap (q : Int) = (q : Int) := IntWalk.i64_in _ (by omega)
    have hq2 : q ≤ 6561 := by omega
    clear hr hq
    go_wp2
    go_loopw [1, 39] (fun v i wr => ∃ (j : Nat) (x : ByteArray), j ≤ q ∧ i = .int .i64 j ∧ v = .string x ∧ Hid (x = txt (itr f l j)) ∧ Below w1.heap.size w1 wr) (fun _ i _ => q - (intOf i).toNat)
    case atStart => exact ⟨0, _, by omega, rfl, rfl, HSL.out, Below.refl _ _⟩
    case round =>
      obtain ⟨j, x, hj, rfl, rfl, HX, hbel⟩ := hrel
      by_cases hlt : j < q
      · have hjq : (j : Int) < (q : Int) := by omega
        obtain ⟨h0, h1, h2⟩ := HK.out _ hbel
        have HRj := hid (fun w => HR.out j w)
        rw [← HX.out] at HRj
        obtain ⟨y, hy⟩ : ∃ y, y = txt (itr f l (j + 1)) := ⟨_, rfl⟩
        rw [← hy] at HRj
        have HY := hid hy
        clear hy
        go_wp2_with fail
        refine (HRj.out _).mono ?_
        rintro e w2 ⟨rfl, hb2⟩
        go_wp2
        go_roundw
        case rel => exact ⟨j + 1, y, by omega, by go_num, rfl, HY.out, hbel.trans (hb2.mono hbel.size)⟩
        case measure => simp [intOf]; omega
      · obtain rfl : j = q := by omega
        have hjq : ¬ ((j : Int) < (j : Int)) := by omega
        go_wp2
        go_ret2
        exact ⟨t, p, HTL.out, (show _ = Ending.returned (.tuple #[.string x, .bool true]) from rfl).trans (by rw [HX.out, ← HQ.out]), hbw1.trans (hbel.mono hbw1.size)⟩
  · have hti : ¬ ((t : Int) < (m : Int)) := by omega
    obtain ⟨q, hq⟩ : ∃ q, q = m := ⟨_, rfl⟩
    have HQ := hid (show q = redn t p m by rw [redn_le htm, hq])
    subst hq
    go_wp2
    go_loopw [1, 39] (fun v i wr => ∃ (j : Nat) (x : ByteArray), j ≤ q ∧ i = .int .i64 j ∧ v = .string x ∧ Hid (x = txt (itr f l j)) ∧ Below w1.heap.size w1 wr) (fun _ i _ => q - (intOf i).toNat)
    case atStart => exact ⟨0, _, by omega, rfl, rfl, HSL.out, Below.refl _ _⟩
    case round =>
      obtain ⟨j, x, hj, rfl, rfl, HX, hbel⟩ := hrel
      by_cases hlt : j < q
      · have hjq : (j : Int) < (q : Int) := by omega
        obtain ⟨h0, h1, h2⟩ := HK.out _ hbel
        have HRj := hid (fun w => HR.out j w)
        rw [← HX.out] at HRj
        obtain ⟨y, hy⟩ : ∃ y, y = txt (itr f l (j + 1)) := ⟨_, rfl⟩
        rw [← hy] at HRj
        have HY := hid hy
        clear hy
        go_wp2_with fail
        refine (HRj.out _).mono ?_
        rintro e w2 ⟨rfl, hb2⟩
        go_wp2
        go_roundw
        case rel => exact ⟨j + 1, y, by omega, by go_num, rfl, HY.out, hbel.trans (hb2.mono hbel.size)⟩
        case measure => simp [intOf]; omega
      · obtain rfl : j = q := by omega
        have hjq : ¬ ((j : Int) < (j : Int)) := by omega
        go_wp2
        go_ret2
        exact ⟨t, p, HTL.out, (show _ = Ending.returned (.tuple #[.string x, .bool true]) from rfl).trans (by rw [HX.out, ← HQ.out]), hbw1.trans (hbel.mono hbw1.size)⟩
end Go.Proofs.YtccknookhkahbaaGreat
