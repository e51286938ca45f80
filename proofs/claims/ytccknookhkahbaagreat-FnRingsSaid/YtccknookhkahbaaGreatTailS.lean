/- Where rings begin to come again: both functions. No condition but the sizes. -/
import Derived.Test.YtccknookhkahbaaGreatOrbit
import Derived.Test.YtccknookhkahbaaGreatAll
namespace Go.Proofs.YtccknookhkahbaaGreat
open Go.RowKit

theorem str_eqb (a b : ByteArray) : (a.toList == b.toList) = decide (a = b) := by
  rw [ByteArray.toList_eq, ByteArray.toList_eq]
  by_cases h : a = b
  · subst h; simp
  · have h2 : a.data.toList ≠ b.data.toList := by
      intro e
      apply h
      apply ByteArray.ext
      exact Array.toList_inj.1 e
    simp [h]
    exact fun e => h2 (by rw [e])
/-- Where a text lies in a list, as a program says it. -/
def IdxPostT (xs : List ByteArray) (s : ByteArray) (w : World) (e : Ending) (w' : World) : Prop := ∃ r : Int, e = .returned (.int .i64 r) ∧ w = w' ∧ ((r = -1 ∧ s ∉ xs) ∨ ∃ t : Nat, r = t ∧ xs[t]? = some s)
set_option maxHeartbeats 1000000 in
theorem l10Index_c (a : Option Addr) (n cap : Nat) (xs : List ByteArray) (s : ByteArray) (w : World) (hr : RowAt w a n (strVals xs)) :
    Calls Tryz.prog 31 #[.slice a n cap, .string s] w (IdxPostT xs s w) := by
  obtain ⟨hl, hlim, hat⟩ := hr
  have hlen := hid (show xs.length = n by simpa [strVals] using hl)
  have HAT := hid hat
  clear hat hl
  go_enter Tryz.func31, Tryz.ntmps31
  go_wp2
  go_loop [5] (fun i => ∃ j : Nat, j ≤ n ∧ i = .int .i64 j ∧ Hid (∀ q, q < j → xs[q]? ≠ some s)) (fun i => n - (intOf i).toNat)
  case atStart => exact ⟨0, by omega, rfl, fun q hq => absurd hq (by omega)⟩
  case round =>
    obtain ⟨j, hj, rfl, HN⟩ := hrel
    by_cases hlt : j < n
    · obtain ⟨b1, o1, rfl, hb1, hc1⟩ := HAT.out (by omega)
      obtain ⟨x, hx⟩ := get_some (l := xs) (n := j) (by rw [hlen.out]; exact hlt)
      have hcell := hc1 j _ (strVals_get hx)
      have HX := hid hx
      clear hc1 hx
      have heq := str_eqb x s
      by_cases hxs : x = s
      · rw [decide_eq_true hxs] at heq
        have HXS := hid hxs
        clear hxs
        go_wp2
        go_ret
        exact ⟨_, rfl, rfl, Or.inr ⟨j, rfl, by rw [← HXS.out]; exact HX.out⟩⟩
      · rw [decide_eq_false hxs] at heq
        have HXS := hid hxs
        clear hxs
        go_wp2
        go_round
        case rel => exact ⟨j + 1, by omega, by go_num, fun q hq => by
          rcases Nat.lt_or_ge q j with h1 | h1
          · exact HN.out q h1
          · obtain rfl : q = j := by omega
            rw [HX.out]; intro e; injection e with e; exact HXS.out e⟩
        case measure => simp [intOf]; omega
    · obtain rfl : j = n := by omega
      go_wp2
      go_ret
      refine ⟨_, rfl, rfl, Or.inl ⟨rfl, fun hm => ?_⟩⟩
      obtain ⟨q, hq⟩ := List.getElem?_of_mem hm
      exact HN.out q (by have := (List.getElem?_eq_some_iff.1 hq).1; rw [hlen.out] at this; exact this) hq

/-- The words seen. -/
def itrs (f : List UInt8 → List UInt8) (l : List UInt8) (m : Nat) : List ByteArray := (List.range m).map fun i => txt (itr f l i)
theorem itrs_succ (f : List UInt8 → List UInt8) (l : List UInt8) (m : Nat) : strVals (itrs f l (m + 1)) = strVals (itrs f l m) ++ [.string (txt (itr f l m))] := by simp [itrs, strVals, List.range_succ]
theorem itrs_get {f : List UInt8 → List UInt8} {l : List UInt8} {m i : Nat} (h : i < m) : (itrs f l m)[i]? = some (txt (itr f l i)) := by simp [itrs, h]
theorem itrs_mem {f : List UInt8 → List UInt8} {l : List UInt8} {m i : Nat} {y : ByteArray} (h : (itrs f l m)[i]? = some y) : i < m ∧ y = txt (itr f l i) := by
  have h1 := (List.getElem?_eq_some_iff.1 h).1
  simp [itrs] at h1
  rw [itrs_get h1] at h
  exact ⟨h1, (Option.some.inj h).symm⟩
/-- A ring whose tail may be asked for. -/
def tailOk (k n : Int) (o s : ByteArray) : Bool := ringOk k n o s && decide (s.size ≤ 8)
def lenSlice (v : Value) : Nat := match v with | .slice _ n _ => n | _ => 0
set_option maxHeartbeats 2000000 in
set_option maxRecDepth 100000 in
theorem spec_RingTail_no (k n : Int) (o s : ByteArray) (w : World) (ho : o.size ≤ maxLen) (hs : s.size ≤ maxLen) (h : tailOk k n o s = false) :
    Calls Tryz.prog 7 #[.agg #[.int .i64 k, .int .i64 n, .string o], .string s] w fun e w' => e = .returned (.tuple #[.int .i64 (-1), .int .i64 0]) ∧ Below w.heap.size w w' := by
  cases hr : ringOk k n o s
  · have HN := hid (fun w => spec_ApplyRing_no k n o s w ho hs hr)
    go_enter Tryz.func7, Tryz.ntmps7
    go_wp2_with fail
    refine (HN.out _).mono ?_
    rintro e w1 ⟨rfl, hb1⟩
    go_wp2
    go_ret2
    exact ⟨rfl, ((Below.refl _ _).alloc (Nat.le_refl _) _).trans (hb1.mono (by simp))⟩
  · have h8 : ¬ ((s.size : Int) ≤ 8) := by unfold tailOk at h; rw [hr, Bool.true_and] at h; simp at h; omega
    obtain ⟨kk, nn, rfl, rfl, _⟩ := ring_facts hr
    have HN := hid (fun w => spec_ApplyRing_yes kk nn o s w ho hr)
    obtain ⟨y, hy⟩ : ∃ y, y = txt (ringB o kk nn s.data.toList) := ⟨_, rfl⟩
    rw [← hy] at HN
    clear hy
    go_enter Tryz.func7, Tryz.ntmps7
    go_wp2_with fail
    refine (HN.out _).mono ?_
    rintro e w1 ⟨rfl, hb1⟩
    go_wp2
    go_ret2
    exact ⟨rfl, ((Below.refl _ _).alloc (Nat.le_refl _) _).trans (hb1.mono (by simp))⟩
theorem ring_ok_itr {k n : Nat} {o s : ByteArray} (h : ringOk k n o s = true) (i : Nat) : ringOk k n o (txt (itr (ringB o k n) s.data.toList i)) = true := by
  obtain ⟨kk, nn, hkk, hnn, hk, ⟨hn1, hn4⟩, hp, hos, hlo, ⟨hs1, hs16⟩, hl, hic⟩ := ring_facts h
  obtain rfl : k = kk := by omega
  obtain rfl : n = nn := by omega
  have hw := ring_words (l := s.data.toList) (by omega) hn1 hlo (Nat.le_of_eq hos.symm) hl (by rw [size_list]; exact hs1) i
  rw [size_list] at hw
  unfold ringOk
  rw [hic, txt_size, txt_list, hw.1, hw.2]
  simp [hs1, hs16]
set_option maxHeartbeats 2000000 in
set_option maxRecDepth 100000 in
theorem spec_RingTail_yes (k n : Nat) (o s : ByteArray) (w : World) (ho : o.size ≤ maxLen) (h : tailOk k n o s = true) :
    Calls Tryz.prog 7 #[.agg #[.int .i64 k, .int .i64 n, .string o], .string s] w (TailPost (ringB o k n) s.data.toList w) := by
  unfold tailOk at h
  rw [Bool.and_eq_true, decide_eq_true_eq] at h
  obtain ⟨hr, hs8⟩ := h
  have h8 : (s.size : Int) ≤ 8 := by omega
  obtain ⟨kk, nn, hkk, hnn, hk, ⟨hn1, hn4⟩, hp, hos, hlo, ⟨hs1, _⟩, hl, _⟩ := ring_facts hr
  obtain rfl : k = kk := by omega
  obtain rfl : n = nn := by omega
  have hk3 : k ≤ 3 := by omega
  have hw := ring_words (l := s.data.toList) hk3 hn1 hlo (Nat.le_of_eq hos.symm) hl (by rw [size_list]; exact hs1)
  obtain ⟨f, hf⟩ : ∃ f, f = ringB o k n := ⟨_, rfl⟩
  have HN := hid (fun (i : Nat) (w : World) => show Calls Tryz.prog 30 #[.agg #[.int .i64 k, .int .i64 n, .string o], .string (txt (itr f s.data.toList i))] w fun e w' => e = .returned (.tuple #[.string (txt (itr f s.data.toList (i + 1))), .bool true]) ∧ Below w.heap.size w w' from by
    have h1 := spec_ApplyRing_yes k n o (txt (itr (ringB o k n) s.data.toList i)) w ho (ring_ok_itr hr i)
    rw [txt_list] at h1
    rw [hf]
    exact h1)
  rw [← hf] at hw
  rw [← hf]
  have HFL := hid (fun (m : Nat) (h : Fresh f s.data.toList m) => show m ≤ 6561 from by
    have h1 := fresh_le hk3 (L := s.size) (fun i => by rw [← size_list]; exact hw i) h
    exact Nat.le_trans h1 (pow_small hk3 hs8))
  obtain ⟨l, hll⟩ : ∃ l, l = s.data.toList := ⟨_, rfl⟩
  have hsl : s = txt l := by rw [hll]; rfl
  rw [← hll] at HN HFL
  rw [← hll]
  have HSL := hid hsl
  have HN0 := hid (HN.out 0)
  rw [show txt (itr f l 0) = s from HSL.out.symm] at HN0
  obtain ⟨y, hy⟩ : ∃ y, y = txt (itr f l 1) := ⟨_, rfl⟩
  rw [← hy] at HN0
  clear hy hw hf hr hos hlo hl hp hk hll hsl hs8
  go_enter Tryz.func7, Tryz.ntmps7
  go_wp2_with fail
  refine (HN0.out _).mono ?_
  rintro e w1 ⟨rfl, hb1⟩
  obtain ⟨⟨hc0, hc1, hc2⟩, _, hz⟩ := box3 hb1
  have hbw1 : Below w.heap.size w w1 := ((Below.refl _ _).alloc (Nat.le_refl _) _).trans (hb1.mono (by simp))
  have HK := hid (fun (V : World) (hV : Below w1.heap.size w1 V) => (⟨(hV.cell (p := ⟨w.heap.size, 0, none⟩) hz).trans hc0, (hV.cell (p := ⟨w.heap.size, 1, none⟩) hz).trans hc1, (hV.cell (p := ⟨w.heap.size, 2, none⟩) hz).trans hc2⟩ : V.cell? ⟨w.heap.size, 0, none⟩ = some (.int .i64 k) ∧ V.cell? ⟨w.heap.size, 1, none⟩ = some (.int .i64 n) ∧ V.cell? ⟨w.heap.size, 2, none⟩ = some (.string o)))
  clear hc0 hc1 hc2 hb1
  go_wp2
  go_loopw [8] (fun v wr => ∃ m : Nat, Hid (Fresh f l (m + 1)) ∧ wr.ownsRow w1.heap.size 9 1 v (m + 1) (strVals (itrs f l (m + 1))) ∧ Below w1.heap.size w1 wr) (fun v _ => 10000 - lenSlice v)
  case atStart => exact ⟨0, fun i j h1 h2 => absurd h1 (by omega), by rw [show itrs f l (0 + 1) = [s] by rw [HSL.out]; rfl]; exact owns_lit3 #[.string s] _ rfl (Nat.le_refl _) (by unfold maxLen; simp), (Below.refl _ _).alloc (Nat.le_refl _) _⟩
  case round =>
    obtain ⟨m, HF, hown, hbel⟩ := hrel
    have hm := HFL.out _ HF.out
    obtain ⟨a5, c5, rfl, hr5⟩ := owns_rowAt hown (by omega)
    obtain ⟨b5, o5, rfl, hb5, hcl5⟩ := hr5.at_ (by omega)
    have HC5 := hid (hcl5 m _ (strVals_get (itrs_get (Nat.lt_succ_self m))))
    obtain ⟨x, hx⟩ : ∃ x, x = txt (itr f l m) := ⟨_, rfl⟩
    obtain ⟨y, hy⟩ : ∃ y, y = txt (itr f l (m + 1)) := ⟨_, rfl⟩
    have HNm := hid (HN.out m)
    rw [← hx, ← hy] at HNm
    rw [← hx] at HC5
    have HY := hid hy
    have HOWN := hid hown
    obtain ⟨h0, h1, h2⟩ := HK.out _ hbel
    have hcell := HC5.out
    have hw1 : IntKind.i64.wrap ((m : Int) + 1 - 1) = (m : Int) := by rw [show (m : Int) + 1 - 1 = m by omega]; exact IntWalk.i64_in _ (by omega)
    have hw2 : (m : Int) + 1 - 1 = (m : Int) := by omega
    have hw3 : IntKind.i64.wrap (m : Int) = (m : Int) := IntWalk.i64_in _ (by omega)
    have hm0 : (0 : Int) ≤ (m : Int) := by omega
    have hmm : (m : Int) < (m : Int) + 1 := by omega
    have hbel0 := hbel.drew
    clear hx hy hr5 hown hcl5
    go_wp2
    go_region_held3 (fun V => V.cell? ⟨w.heap.size, 0, none⟩ = some (.int .i64 k) ∧ V.cell? ⟨w.heap.size, 1, none⟩ = some (.int .i64 n) ∧ V.cell? ⟨w.heap.size, 2, none⟩ = some (.string o) ∧ V.cell? ⟨b5, o5 + m, none⟩ = some (.string x) ∧ Below w1.heap.size w1 V)
      (first | exact ⟨h0, h1, h2, hcell, hbel0⟩ | exact ⟨(HK.out _ hbel2).1, (HK.out _ hbel2).2.1, (HK.out _ hbel2).2.2, (hb2.cell (p := ⟨b5, o5 + m, none⟩) hb5).trans hcell, hbel2⟩)
      (first | (go_at_call 30; refine (HNm.out _).mono ?_; rintro e w2 ⟨rfl, hb2⟩; have hbel2 := hbel0.trans (hb2.mono hbel.size)))
    have hown2 := owns_below (owns_below HOWN.out (Below.refl _ _).drew) hb2
    have hr2 := (owns_rowAt hown2 (by omega))
    obtain ⟨a6, c6, hv6, hr6⟩ := hr2
    simp only [Value.slice.injEq, true_and] at hv6
    obtain ⟨rfl, rfl⟩ := hv6
    go_wp2_with fail
    refine (l10Index_c _ _ _ _ _ _ hr6).mono ?_
    rintro e w3 ⟨r, rfl, rfl, hcase⟩
    rcases hcase with ⟨rfl, hno⟩ | ⟨t, rfl, hyes⟩
    · have HNO := hid hno
      clear hno
      go_wp2_with (first | (at_builtin; go_must (refine wpList_app1 rfl _ _ 44 rfl w1.heap.size 9 (.string ByteArray.empty) 16 Tryz.underlying44 infoStr3 rfl _ (m + 1) (strVals (itrs f l (m + 1))) _ hown2 rfl rfl rfl (by omega) (by unfold maxLen; omega) hbel2 hbel2.size ?_); intro v' w4 hown' hbel'))
      go_roundw
      case rel => exact ⟨m + 1, fun i j hij hj => by
        rcases Nat.lt_or_ge j (m + 1) with h1 | h1
        · exact HF.out i j hij h1
        · obtain rfl : j = m + 1 := by omega
          intro e
          refine HNO.out (List.mem_of_getElem? (i := i) ?_)
          rw [itrs_get hij, e, HY.out], by rw [itrs_succ, ← HY.out]; exact hown', hbel'⟩
      case measure => obtain ⟨a7, c7, rfl, _⟩ := owns_rowAt hown' (by omega); simp [lenSlice]; omega
    · obtain ⟨htm, hty⟩ := itrs_mem hyes
      have HTY := hid hty
      clear hyes hty
      have hti : (t : Int) < (m : Int) + 1 := by omega
      go_wp2
      go_ret2
      refine ⟨t, m + 1 - t, ⟨by omega, ?_, by rw [show t + (m + 1 - t) = m + 1 by omega]; exact HF.out⟩, by omega, ?_, hbw1.trans (hbel2.mono hbw1.size)⟩
      · rw [show t + (m + 1 - t) = m + 1 by omega]; apply txt_inj; rw [← HY.out]; exact HTY.out
      · refine (show _ = Ending.returned (.tuple #[.int .i64 (t : Int), .int .i64 ((m : Int) + 1 - (t : Int))]) from rfl).trans ?_
        rw [Int.ofNat_sub (show t ≤ m + 1 by omega)]
        rfl
set_option maxHeartbeats 2000000 in
theorem impl_isRing_c (k n : Int) (o s : ByteArray) (w : World) (ho : o.size ≤ maxLen) (hs : s.size ≤ maxLen) :
    Calls Tryz.prog 28 #[.agg #[.int .i64 k, .int .i64 n, .string o], .string s] w fun e w' => e = .returned (.bool (tailOk k n o s)) ∧ Below w.heap.size w w' := by
  have HI := hid (fun w : World => impl_IsCode_c k n o w ho)
  cases hc : isCode k n o
  · rw [hc] at HI
    have HF := hid (show tailOk k n o s = false by simp [tailOk, ringOk, hc])
    rw [HF.out]
    clear hc
    go_enter Tryz.func28, Tryz.ntmps28
    go_wp2_with fail
    refine (HI.out _).mono ?_
    rintro e w1 ⟨rfl, hb1⟩
    go_wp2
    go_ret
    exact ⟨rfl, ((Below.refl _ _).alloc (Nat.le_refl _) _).trans (hb1.mono (by simp))⟩
  · rw [hc] at HI
    obtain ⟨kk, nn, rfl, rfl, hk, ⟨hn1, hn4⟩, hp, hos, hl⟩ := code_facts hc
    have HW := hid (fun w : World => impl_IsWord_c kk s w (by omega) hs)
    have HT := hid (show tailOk kk nn o s = (decide (1 ≤ s.size ∧ s.size ≤ 16) && lets kk s.data.toList && decide (s.size ≤ 8)) by unfold tailOk ringOk; rw [hc, Bool.true_and])
    rw [HT.out]
    clear hc hk hp hos hl
    by_cases h0 : s.size = 0
    · obtain rfl : s = ⟨#[]⟩ := by
        apply ByteArray.ext
        exact Array.eq_empty_of_size_eq_zero h0
      clear h0
      go_enter Tryz.func28, Tryz.ntmps28
      go_wp2_with fail
      refine (HI.out _).mono ?_
      rintro e w1 ⟨rfl, hb1⟩
      go_wp2
      go_ret
      exact ⟨rfl, ((Below.refl _ _).alloc (Nat.le_refl _) _).trans (hb1.mono (by simp))⟩
    · have hne : (!s.toList.isEmpty) = true ∧ s.toList.isEmpty = false := by
        have : s.toList ≠ [] := by
          intro h
          have h2 : s.toList.length = s.size := by rw [ByteArray.toList_eq]; simp
          rw [h] at h2; simp at h2; omega
        cases h : s.toList with
        | nil => exact absurd h this
        | cons => exact ⟨rfl, rfl⟩
      obtain ⟨hne1, hne2⟩ := hne
      by_cases h8 : s.size ≤ 8
      · have h8i : (s.size : Int) ≤ 8 := by omega
        go_enter Tryz.func28, Tryz.ntmps28
        go_wp2_with fail
        refine (HI.out _).mono ?_
        rintro e w1 ⟨rfl, hb1⟩
        obtain ⟨⟨hc0, hc1, hc2⟩, _, hz⟩ := box3 hb1
        go_wp2_with fail
        refine (HW.out _).mono ?_
        rintro e w2 ⟨rfl, rfl⟩
        go_wp2
        go_ret
        exact ⟨ret_bool (by have : 1 ≤ s.size := by omega
                            have : s.size ≤ 16 := by omega
                            simp [*]), ((Below.refl _ _).alloc (Nat.le_refl _) _).trans (hb1.mono (by simp))⟩
      · have h8i : ¬ ((s.size : Int) ≤ 8) := by omega
        go_enter Tryz.func28, Tryz.ntmps28
        go_wp2_with fail
        refine (HI.out _).mono ?_
        rintro e w1 ⟨rfl, hb1⟩
        go_wp2
        go_ret
        exact ⟨ret_bool (by simp [h8]), ((Below.refl _ _).alloc (Nat.le_refl _) _).trans (hb1.mono (by simp))⟩
theorem tail_facts {k n : Int} {o s : ByteArray} (h : tailOk k n o s = true) : ringOk k n o s = true ∧ s.size ≤ 8 := by
  unfold tailOk at h
  rwa [Bool.and_eq_true, decide_eq_true_eq] at h
theorem impl_tail_yes (k n : Nat) (o s : ByteArray) (w : World) (h : tailOk k n o s = true) :
    Calls Tryz.prog 29 #[.agg #[.int .i64 k, .int .i64 n, .string o], .string s] w (TailPost (ringB o k n) s.data.toList w) := by
  obtain ⟨hr, h8⟩ := tail_facts h
  obtain ⟨kk, nn, hkk, hnn, hk, ⟨hn1, hn4⟩, hp, hos, hlo, ⟨hs1, hs16⟩, hl, hic⟩ := ring_facts hr
  obtain rfl : k = kk := by omega
  obtain rfl : n = nn := by omega
  exact impl_tail_c k n o s w hk hn1 hn4 hos hlo hl hs1 h8
set_option maxHeartbeats 1000000 in
theorem impl_RingTail_no (k n : Int) (o s : ByteArray) (w : World) (ho : o.size ≤ maxLen) (hs : s.size ≤ maxLen) (h : tailOk k n o s = false) :
    Calls Tryz.prog 6 #[.agg #[.int .i64 k, .int .i64 n, .string o], .string s] w fun e w' => e = .returned (.tuple #[.int .i64 (-1), .int .i64 0]) ∧ Below w.heap.size w w' := by
  have HN := hid (fun w => impl_isRing_c k n o s w ho hs)
  rw [h] at HN
  go_enter Tryz.func6, Tryz.ntmps6
  go_wp2_with fail
  refine (HN.out _).mono ?_
  rintro e w1 ⟨rfl, hb1⟩
  go_wp2
  go_ret2
  exact ⟨rfl, ((Below.refl _ _).alloc (Nat.le_refl _) _).trans (hb1.mono (by simp))⟩
set_option maxHeartbeats 1000000 in
theorem impl_RingTail_yes (k n : Nat) (o s : ByteArray) (w : World) (ho : o.size ≤ maxLen) (hs : s.size ≤ maxLen) (h : tailOk k n o s = true) :
    Calls Tryz.prog 6 #[.agg #[.int .i64 k, .int .i64 n, .string o], .string s] w (TailPost (ringB o k n) s.data.toList w) := by
  have HN := hid (fun w => impl_isRing_c k n o s w ho hs)
  have HT := hid (fun w => impl_tail_yes k n o s w h)
  rw [h] at HN
  clear h
  go_enter Tryz.func6, Tryz.ntmps6
  go_wp2_with fail
  refine (HN.out _).mono ?_
  rintro e w1 ⟨rfl, hb1⟩
  obtain ⟨⟨hc0, hc1, hc2⟩, _, hz⟩ := box3 hb1
  go_wp2_with fail
  refine (HT.out _).mono ?_
  rintro e w2 ⟨t, p, hT, hle, rfl, hb2⟩
  go_wp2
  go_ret2
  exact ⟨t, p, hT, hle, rfl, ((Below.refl _ _).alloc (Nat.le_refl _) _).trans ((bs hb1 hb2).mono (by simp))⟩
end Go.Proofs.YtccknookhkahbaaGreat
