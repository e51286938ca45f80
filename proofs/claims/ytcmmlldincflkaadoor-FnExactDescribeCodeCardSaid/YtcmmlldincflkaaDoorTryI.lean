/- A code that undoes another one but for a place, if there is one: the program's function. Conditions: a code, a width whose words are few enough. -/
import Derived.Test.YtcmmlldincflkaaDoorTry
import Derived.Test.YtcmmlldincflkaaDoorBox
namespace Go.Proofs.YtcmmlldincflkaaDoor
open Go.RowKit

theorem byteB_made (M : Nat) : (madeCells (Value.int .u8 0).cells (M * 1)).toList = byteVals (madeB (fun _ => 0) M) := by
  rw [Nat.mul_one]
  show (madeCells #[Value.int .u8 0] M).toList = _
  rw [toList_madeCells_one]
  refine List.ext_getElem? fun i => ?_
  by_cases hi : i < M
  · rw [byteT_get (madeB_get hi), List.getElem?_replicate, if_pos hi]
    rfl
  · rw [List.getElem?_eq_none (by simp; omega), List.getElem?_eq_none (by simp [byteVals, madeB]; omega)]
theorem made_byte (w : World) (M : Nat) (hM : M ≤ 6561) : (w.alloc (.cells (madeCells #[.int .u8 0] M) 5)).ownsRow w.heap.size 5 1 (.slice (some ⟨w.heap.size, 0, none⟩) M M) M (byteVals (madeB (fun _ => 0) M)) ∧ Below w.heap.size w (w.alloc (.cells (madeCells #[.int .u8 0] M) 5)) := by
  obtain ⟨ti, hi, hz, hz1, hz2⟩ := info_parts infoByteT
  obtain ⟨w', h1, h2, h3⟩ := run_make_full (P := Tryd.prog) w w.heap.size 41 5 ti (.int .u8 0) 1 Tryd.underlying41 hi hz hz1 .i64 .i64 M (by rw [hz2]; omega) (by unfold maxLen; omega) (Nat.le_refl _)
  have h4 := run_make_row (P := Tryd.prog) 41 5 ti (.int .u8 0) Tryd.underlying41 hi hz hz1 rfl .i64 .i64 M (by rw [hz2]; omega) (by omega) w
  rw [h4] at h1
  injection h1 with _ h1
  subst h1
  rw [byteB_made] at h2
  exact ⟨h2, (Below.refl _ _).alloc (Nat.le_refl _) _⟩
/-- An undoing code and whether there is one. -/
def undV (k m : Nat) (r : Option ByteArray) : Value := match r with
  | some s => .tuple #[.agg #[.int .i64 k, .int .i64 m, .string s], .bool true]
  | none => .tuple #[.agg #[.int .i64 0, .int .i64 0, .string ⟨#[]⟩], .bool false]
set_option maxHeartbeats 4000000 in
set_option maxRecDepth 100000 in
theorem impl_undoing_c (k n m at_ : Nat) (o : ByteArray) (w : World) (h : TryF o k n m at_) :
    Calls Tryd.prog 40 #[.agg #[.int .i64 k, .int .i64 n, .string o], .int .i64 m, .int .i64 at_] w fun e w' => e = .returned (undV k m (tryO o k n m at_)) ∧ Below w.heap.size w w' := by
  obtain ⟨hP, hm1, hm4, hP27, hat⟩ := h
  have hk := hP.k23
  have hn1 := hP.n1
  have hn4 := hP.n4
  have hk3 : k ≤ 3 := by omega
  have hos27 : o.size ≤ 27 := by rw [hP.size]; exact hP.fits
  have HPW := hid (fun w => impl_powB_c k m hk3 (by omega) w)
  obtain ⟨P, hPe⟩ : ∃ P, P = k ^ m := ⟨_, rfl⟩
  rw [← hPe] at HPW
  obtain ⟨L, hL⟩ : ∃ L, L = n + m - 1 := ⟨_, rfl⟩
  have hLi : (n : Int) + (m : Int) - 1 = (L : Int) := by omega
  have hL7 : L ≤ 7 := by omega
  have hLn : n ≤ L := by omega
  have HAL := hid (fun w => impl_wordsOf_c k L w ⟨by omega, hk3⟩ (by omega))
  unfold WordsPost at HAL
  obtain ⟨T, hT⟩ : ∃ T, T = k ^ L := ⟨_, rfl⟩
  have hT6 : T ≤ 6561 := by rw [hT]; exact pow_small hk3 (by omega)
  rw [← hT] at HAL
  have HAP := hid (fun (j : Nat) (w : World) => show Calls Tryd.prog 49 #[.agg #[.int .i64 k, .int .i64 n, .string o], .string (wdB k L j)] w fun e w' => e = .returned (.string ⟨(madeB (apB o k n (wAt k (n + m - 1) j)) m).toArray⟩) ∧ Below w.heap.size w w' from by
    have h1 := impl_apply_c k n o (wdB k L j) w hk3 hn1 hn4 (Nat.le_of_eq hP.size.symm) (wAt_lets ⟨by omega, hk3⟩ L j) (by rw [wdB_size]; omega) (by rw [wdB_size]; omega)
    rw [wdB_size, wdB_list, show L + 1 - n = m by omega, hL] at h1
    rw [hL]
    exact h1)
  have HNU := hid (fun (j : Nat) (w : World) => show Calls Tryd.prog 48 #[.int .i64 k, .string ⟨(madeB (apB o k n (wAt k (n + m - 1) j)) m).toArray⟩] w fun e w' => e = .returned (.int .i64 (tryI o k n m j : Int)) ∧ w = w' from
    indexOf_c k _ w hk3 (LW_lets hk3 (img_LW hP hm1 j)) (by show (madeB _ m).toArray.size ≤ 16; simp [madeB_len]; omega))
  have HIL := hid (fun (j : Nat) => show tryI o k n m j < P from by rw [hPe]; exact tryI_lt hP hm1 j)
  have HCH := hid (fun (j : Nat) (hj : at_ < (wdB k L j).size) => show (wdB k L j)[at_].toNat = (tryC k n m at_ j).toNat from by
    unfold tryC
    rw [← hL, List.getD_eq_getElem?_getD, ← wdB_list, byte_at _ _ hj]
    rfl)
  have HNO := hid (fun (j : Nat) (f : Nat → UInt8) (h : tryS o k n m at_ j = some f) (hb : f (tryI o k n m j) ≠ 0 ∧ f (tryI o k n m j) ≠ tryC k n m at_ j) (hj : j < T) => show undV k m (tryO o k n m at_) = .tuple #[.agg #[.int .i64 0, .int .i64 0, .string ⟨#[]⟩], .bool false] from by
    rw [tryO_none h hb (by rw [← hL, ← hT]; exact hj)]; rfl)
  have HYES := hid (fun (f : Nat → UInt8) (h : tryS o k n m at_ T = some f) => show undV k m (tryO o k n m at_) = .tuple #[.agg #[.int .i64 k, .int .i64 m, .string ⟨(madeB (fillA f P) P).toArray⟩], .bool true] from by
    unfold tryO
    rw [← hL, ← hT, h, ← hPe]; rfl)
  obtain ⟨V, hV⟩ : ∃ V, V = undV k m (tryO o k n m at_) := ⟨_, rfl⟩
  rw [← hV] at HNO HYES
  rw [← hV]
  have hP27 : P ≤ 27 := by rw [hPe]; exact hP27
  have hat7 : at_ < L := by omega
  clear hV hT hL hPe hP hk hat
  obtain ⟨ti, hi, hz, hz1, hz2⟩ := info_parts infoByteT
  have hmk := fun w => run_make_row (P := Tryd.prog) 41 5 ti (.int .u8 0) Tryd.underlying41 hi hz hz1 rfl .i64 .i64 P (by rw [hz2]; omega) (by omega) w
  obtain ⟨cs, hcs⟩ : ∃ cs, cs = madeCells #[.int .u8 0] P := ⟨_, rfl⟩
  have HMB := hid (fun (w : World) => made_byte w P (by omega))
  rw [← hcs] at HMB hmk
  clear hi hz hz1 hz2 hcs
  obtain ⟨W1, hW1⟩ : ∃ W1, W1 = (w.alloc (.cells #[.int .i64 k, .int .i64 n, .string o] 26)).alloc (.cells #[.int .i64 0, .int .i64 0, .string ⟨#[]⟩] 26) := ⟨_, rfl⟩
  have hWB : W1.heap.size = w.heap.size + 1 + 1 := by rw [hW1]; simp
  have HK := hid (fun (V : World) (hV : Below W1.heap.size W1 V) => show (V.cell? ⟨w.heap.size, 0, none⟩ = some (.int .i64 k) ∧ V.cell? ⟨w.heap.size, 1, none⟩ = some (.int .i64 n) ∧ V.cell? ⟨w.heap.size, 2, none⟩ = some (.string o)) ∧ (∀ q, V.cell? ⟨w.heap.size + 1, q, none⟩ = (#[.int .i64 0, .int .i64 0, .string ⟨#[]⟩] : Array Value)[q]?) ∧ (∀ q, V.frozen? ⟨w.heap.size + 1, q, none⟩ = false) ∧ w.heap.size + 1 < V.heap.size ∧ Below w.heap.size w V from by
    rw [hW1] at hV
    obtain ⟨⟨h1, _⟩, ⟨h2, h3⟩, h4, h5⟩ := box2 hV
    exact ⟨⟨h1 0, h1 1, h1 2⟩, h2, h3, h4, h5⟩)
  go_enter Tryd.func40, Tryd.ntmps40
  go_wp2_with (first | (go_at_call 27; refine (HPW.out _).mono ?_; rintro e w' ⟨rfl, rfl⟩) | (go_at_call 47; refine (HAL.out _).mono ?_; rintro e w2 ⟨v2, rfl, hown2, hb2⟩; obtain ⟨a2, c2, rfl, hr2⟩ := owns_rowAt hown2 (by omega)))
  rw [← hW1] at hown2 hb2
  have h0 := HMB.out W1
  have hbz : W1.heap.size ≤ (W1.alloc (.cells cs 5)).heap.size := by simp
  have HB2 := hid (bs h0.2 hb2)
  obtain ⟨wa, hwa⟩ : ∃ wa, wa = W1.alloc (.cells cs 5) := ⟨_, rfl⟩
  rw [← hwa] at hown2 hbz
  have HWD := hid hown2
  obtain ⟨g, hge⟩ : ∃ g, g = W1.heap.size := ⟨_, rfl⟩
  have hg1 : W1.heap.size ≤ g := by omega
  have HOW := hid (show w2.ownsRow W1.heap.size 5 1 (.slice (some ⟨g, 0, none⟩) P P) P (byteVals (madeB (fun _ => 0) P)) from by rw [hge]; exact owns_below h0.1 (by rw [hwa] at *; exact hb2))
  rw [← hWB, ← hge]
  clear h0 hown2 hb2 hr2 HAL HPW hmk HMB hwa hW1 hge hWB
  go_loopw [28] (fun i wr => ∃ (q : Nat) (f : Nat → UInt8), q ≤ T ∧ i = .int .i64 q ∧ Hid (tryS o k n m at_ q = some f) ∧ Hid (wr.ownsRow W1.heap.size 5 1 (.slice (some ⟨g, 0, none⟩) P P) P (byteVals (madeB f P))) ∧ Hid (wr.ownsRow wa.heap.size 9 1 (.slice a2 T c2) T (strVals (wds k L T))) ∧ Hid (Below W1.heap.size W1 wr)) (fun i _ => T - (intOf i).toNat)
  case atStart => exact ⟨0, fun _ => 0, by omega, rfl, hid rfl, HOW, HWD, HB2⟩
  case round =>
    clear HOW HWD HB2
    obtain ⟨q, f, hq, rfl, HS, HOW, HWD, HB⟩ := hrel
    by_cases hltq : q < T
    · obtain ⟨h0, h1, h2⟩ := (HK.out _ HB.out).1
      have hqT : (q : Int) < (T : Int) := by omega
      obtain ⟨a3, c3, he, hr3⟩ := owns_rowAt HWD.out (by omega)
      simp only [Value.slice.injEq, true_and] at he
      obtain ⟨rfl, rfl⟩ := he
      obtain ⟨b2, o2, rfl, hb2, hcl2⟩ := hr3.at_ (by omega)
      have hcw := hcl2 q _ (strVals_get (wds_get hltq))
      have HAPq := hid (HAP.out q)
      have HNUq := hid (HNU.out q)
      have hIL := HIL.out q
      have hCH := HCH.out q (by rw [wdB_size]; exact hat7)
      have hNO := fun hb => HNO.out q f HS.out hb hltq
      obtain ⟨img, himg⟩ : ∃ img : ByteArray, img = ⟨(madeB (apB o k n (wAt k (n + m - 1) q)) m).toArray⟩ := ⟨_, rfl⟩
      obtain ⟨u, hu⟩ : ∃ u, u = wdB k L q := ⟨_, rfl⟩
      have husz : u.size = L := by rw [hu, wdB_size]
      obtain ⟨x, hx⟩ : ∃ x, x = tryI o k n m q := ⟨_, rfl⟩
      obtain ⟨y, hy⟩ : ∃ y, y = tryC k n m at_ q := ⟨_, rfl⟩
      rw [← himg, ← hu] at HAPq
      rw [← himg, ← hx] at HNUq
      rw [← hx] at hIL hNO
      rw [← hy] at hNO
      rw [← hu] at hcw
      have hua : at_ < u.size := by omega
      have hchu : u[at_].toNat = y.toNat := by rw [hy]; subst hu; exact hCH
      have hOK := fun hb => tryS_ok HS.out (by rw [← hx, ← hy]; exact hb)
      rw [← hx, ← hy] at hOK
      have HNOq := hid hNO
      have HOKq := hid hOK
      have hcf : wr.cell? ⟨g, x, none⟩ = some (.int .u8 ((f x).toNat : Int)) := (HOW.out.cellAt x (by omega)).trans (byteT_get (madeB_get hIL))
      have hfr := HOW.out.frozenAt x
      have hxj : (x : Int) < (P : Int) := by omega
      have hbw : W1.heap.size ≤ wr.heap.size := HB.out.size
      have hg3 : g < wr.heap.size := (HOW.out.lt g rfl).2
      have hbel0 := (Below.refl wr.heap.size wr).drew
      have huai : (at_ : Int) < (u.size : Int) := by omega
      have ha0 : (0 : Int) ≤ (at_ : Int) := by omega
      clear himg hu hx hy hCH hNO hOK hr3 hcl2
      go_wp2
      go_region_held3 (fun V => V.cell? ⟨w.heap.size, 0, none⟩ = some (.int .i64 k) ∧ V.cell? ⟨w.heap.size, 1, none⟩ = some (.int .i64 n) ∧ V.cell? ⟨w.heap.size, 2, none⟩ = some (.string o) ∧ Below wr.heap.size wr V)
        (first | exact ⟨h0, h1, h2, hbel0⟩ | exact ⟨(HK.out _ (HB.out.trans (hbel2.mono hbw))).1.1, (HK.out _ (HB.out.trans (hbel2.mono hbw))).1.2.1, (HK.out _ (HB.out.trans (hbel2.mono hbw))).1.2.2, hbel2⟩)
        (first | (go_at_call 49; refine (HAPq.out _).mono ?_; rintro e w3 ⟨rfl, hb3⟩; have hbel2 := hbel0.trans (hb3.mono hbel0.size)) | (go_at_call 48; refine (HNUq.out _).mono ?_; rintro e w4 ⟨rfl, rfl⟩))
      have hcf3 := (hbel2.cell (p := ⟨g, x, none⟩) hg3).trans hcf
      have hfr3 := (hbel2.frozen (p := ⟨g, x, none⟩) hg3).trans hfr
      have HOW3 := hid (owns_below HOW.out hbel2)
      have HWD3 := hid (owns_below HWD.out hbel2)
      have HB3 := hid (HB.out.trans (hbel2.mono hbw))
      have hg5 : g < w3.heap.size := Nat.lt_of_lt_of_le hg3 hbel2.size
      have hbw3 : W1.heap.size ≤ w3.heap.size := HB3.out.size
      clear hb3 hbel0 hbel2 h0 h1 h2 hcw hcf hfr
      obtain ⟨z, hz⟩ : ∃ z, z = f x := ⟨_, rfl⟩
      rw [← hz] at hcf3 HNOq HOKq
      clear hz
      by_cases hz0 : z = 0
      · have hzi : ((z.toNat : Int) != 0) = false := by rw [hz0]; rfl
        have HN := hid (HOKq.out fun h => h.1 hz0)
        clear hz0
        go_wp2
        go_quiet (fail)
        obtain ⟨w5, hw5⟩ : ∃ w5, w5 = w3.drewN nq := ⟨_, rfl⟩
        rw [← hw5]
        have hb5 : Below w3.heap.size w3 w5 := by rw [hw5]; exact below_drewN (Below.refl _ _) _
        have hfr5 := (hb5.frozen (p := ⟨g, x, none⟩) hg5).trans hfr3
        have HOW5 := hid (owns_below HOW3.out hb5)
        have HWD5 := hid (owns_below HWD3.out hb5)
        have HB5 := hid (HB3.out.trans (hb5.mono hbw3))
        have hbw5 : W1.heap.size ≤ w5.heap.size := HB5.out.size
        have hcf5 := (hb5.cell (p := ⟨g, x, none⟩) hg5).trans hcf3
        clear hw5 hfr3 hcf3 hb5
        have HST := hid (HOW5.out.stored x (.int .u8 (y.toNat : Int)))
        have HWD6 := hid (HWD5.out.kept HST.out.2 (owns_ne (owns_base HWD5.out hbz) HOW5.out (by decide)))
        go_wp2
        go_roundw
        case rel => exact ⟨q + 1, _, by omega, by go_num, HN, hid (by rw [← byteT_set]; exact HST.out.1), HWD6, hid (HB5.out.grown HST.out.2 hbw5 (by rintro q ⟨⟩; exact hg1))⟩
        case measure => simp [intOf]; omega
      · have hzi : ((z.toNat : Int) != 0) = true := by
          have : z.toNat ≠ 0 := fun e => hz0 (UInt8.toNat_inj.1 e)
          simp [this]
        by_cases hzy : z = y
        · have hzyi : ((z.toNat : Int) != (u[at_].toNat : Int)) = false := by rw [hchu, hzy]; simp
          have HN := hid (HOKq.out fun h => h.2 hzy)
          clear hzy
          go_wp2
          go_quiet (fail)
          obtain ⟨w5, hw5⟩ : ∃ w5, w5 = w3.drewN nq := ⟨_, rfl⟩
          rw [← hw5]
          have hb5 : Below w3.heap.size w3 w5 := by rw [hw5]; exact below_drewN (Below.refl _ _) _
          have hfr5 := (hb5.frozen (p := ⟨g, x, none⟩) hg5).trans hfr3
          have HOW5 := hid (owns_below HOW3.out hb5)
          have HWD5 := hid (owns_below HWD3.out hb5)
          have HB5 := hid (HB3.out.trans (hb5.mono hbw3))
          have hbw5 : W1.heap.size ≤ w5.heap.size := HB5.out.size
          have hcf5 := (hb5.cell (p := ⟨g, x, none⟩) hg5).trans hcf3
          clear hw5 hfr3 hcf3 hb5
          have HST := hid (HOW5.out.stored x (.int .u8 (y.toNat : Int)))
          have HWD6 := hid (HWD5.out.kept HST.out.2 (owns_ne (owns_base HWD5.out hbz) HOW5.out (by decide)))
          go_wp2
          go_roundw
          case rel => exact ⟨q + 1, _, by omega, by go_num, HN, hid (by rw [← byteT_set]; exact HST.out.1), HWD6, hid (HB5.out.grown HST.out.2 hbw5 (by rintro q ⟨⟩; exact hg1))⟩
          case measure => simp [intOf]; omega
        · have hzyi : ((z.toNat : Int) != (u[at_].toNat : Int)) = true := by
            have : z.toNat ≠ y.toNat := fun e => hzy (UInt8.toNat_inj.1 e)
            rw [hchu]; simp; omega
          have HR := hid (HNOq.out ⟨hz0, hzy⟩)
          go_wp2
          go_quiet (fail)
          obtain ⟨w5, hw5⟩ : ∃ w5, w5 = w3.drewN nq := ⟨_, rfl⟩
          rw [← hw5]
          have hb5 : Below w3.heap.size w3 w5 := by rw [hw5]; exact below_drewN (Below.refl _ _) _
          obtain ⟨_, hC, hF, hlt5, hBF⟩ := HK.out _ (HB3.out.trans (hb5.mono hbw3))
          obtain ⟨r0, r1, r2⟩ := three hC
          have u0 := hF 0
          have u1 := hF 1
          have u2 := hF 2
          clear hC hF hw5 hb5
          go_wp2
          refine bodyPost_ret (v := .tuple #[.agg #[.int .i64 0, .int .i64 0, .string ⟨#[]⟩], .bool false]) (by simp [results, Tryd.results40, go_sem, r0, r1, r2]) rfl ⟨by rw [HR.out], ?_⟩
          first | exact hBF | exact ((hBF.setCell (by simp) _).setCell (by simp) _).setCell (by simp) _
    · obtain rfl : q = T := by omega
      have HYE := hid (HYES.out f HS.out)
      go_wp2
      go_loopw [63] (fun i wr => ∃ r : Nat, r ≤ P ∧ i = .int .i64 r ∧ Hid (wr.ownsRow W1.heap.size 5 1 (.slice (some ⟨g, 0, none⟩) P P) P (byteVals (madeB (fillA f r) P))) ∧ Hid (Below W1.heap.size W1 wr)) (fun i _ => P - (intOf i).toNat)
      case atStart => exact ⟨0, by omega, rfl, hid (by rw [fillA_zero]; exact HOW.out), HB⟩
      case round =>
        clear HOW HB
        obtain ⟨r, hr, rfl, HOW, HB⟩ := hrel
        by_cases hltr : r < P
        · have hrj : (r : Int) < (P : Int) := by omega
          have hcf : wr.cell? ⟨g, r, none⟩ = some (.int .u8 ((fillA f r r).toNat : Int)) := (HOW.out.cellAt r (by omega)).trans (byteT_get (madeB_get hltr))
          have hfr := HOW.out.frozenAt r
          have hff : fillA f r r = f r := by unfold fillA; rw [if_neg (by omega)]
          rw [hff] at hcf
          have HST := hid (HOW.out.stored r (.int .u8 97))
          obtain ⟨z, hz⟩ : ∃ z, z = f r := ⟨_, rfl⟩
          rw [← hz] at hcf
          have HZ := hid hz
          have hbw : W1.heap.size ≤ wr.heap.size := HB.out.size
          clear hff hz
          by_cases hz0 : z = 0
          · have hzi : ((z.toNat : Int) == 0) = true := by rw [hz0]; rfl
            have HF := hid (fillA_set f P r (by rw [← HZ.out]; exact hz0))
            clear hz0
            go_wp2
            go_roundw
            case rel => exact ⟨r + 1, by omega, by go_num, hid (by rw [← HF.out]; exact HST.out.1), hid (HB.out.grown HST.out.2 hbw (by rintro q ⟨⟩; exact hg1))⟩
            case measure => simp [intOf]; omega
          · have hzi : ((z.toNat : Int) == 0) = false := by
              have : z.toNat ≠ 0 := fun e => hz0 (UInt8.toNat_inj.1 e)
              simp [this]
            have HF := hid (fillA_same f r (by rw [← HZ.out]; exact hz0))
            clear hz0
            go_wp2
            go_roundw
            case rel => exact ⟨r + 1, by omega, by go_num, hid (by rw [← HF.out]; exact HOW.out), HB⟩
            case measure => simp [intOf]; omega
        · obtain rfl : r = P := by omega
          obtain ⟨a4, c4, he, hr4⟩ := owns_rowAt HOW.out (by omega)
          simp only [Value.slice.injEq, true_and] at he
          obtain ⟨rfl, rfl⟩ := he
          obtain ⟨⟨h0, h1, h2⟩, hC, hF, hlt5, hBF⟩ := HK.out _ HB.out
          obtain ⟨r0, r1, r2⟩ := three hC
          have u0 := hF 0
          have u1 := hF 1
          have u2 := hF 2
          have hne : ¬ (w.heap.size = w.heap.size + 1) := by omega
          clear hC hF
          go_wp2_with (with_reducible refine wpList_convs rfl _ 41 9 5 rfl Tryd.underlying41 Tryd.underlying5 Tryd.underlying9 _ r _ (madeB (fillA f r) r) rfl hr4 ?_)
          refine bodyPost_ret (v := .tuple #[.agg #[.int .i64 k, .int .i64 m, .string ⟨(madeB (fillA f r) r).toArray⟩], .bool true]) (by simp [results, Tryd.results40, go_sem, r0, r1, r2]) rfl ⟨by rw [HYE.out], ?_⟩
          exact ((hBF.setCell (by simp) _).setCell (by simp) _).setCell (by simp) _
end Go.Proofs.YtcmmlldincflkaaDoor
