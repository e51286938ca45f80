/- A code that undoes another one but for a place, if there is one: both functions. Conditions: a code, a width whose words are few enough. -/
import Derived.Test.YtcmmlldincflkaaDoorApply
import Derived.Test.YtcmmlldincflkaaDoorKept
import Derived.Test.YtcmmlldincflkaaDoorRulesL
import Derived.Deep.OwnRows
import Derived.BigQuiet
namespace Go.Proofs.YtcmmlldincflkaaDoor
open Go.RowKit

/-- The index of what a code gives to the word number j of the length n + m - 1. -/
def tryI (o : ByteArray) (k n m j : Nat) : Nat := idxOf k (madeB (apB o k n (wAt k (n + m - 1) j)) m)
def tryC (k n m at_ j : Nat) : UInt8 := (wAt k (n + m - 1) j).getD at_ 0
/-- What lies in the table behind the first j words. -/
def tryS (o : ByteArray) (k n m at_ : Nat) : Nat → Option (Nat → UInt8)
  | 0 => some fun _ => 0
  | j + 1 => match tryS o k n m at_ j with
    | none => none
    | some f => if f (tryI o k n m j) ≠ 0 ∧ f (tryI o k n m j) ≠ tryC k n m at_ j then none else some fun i => if i = tryI o k n m j then tryC k n m at_ j else f i
theorem tryS_bad {o : ByteArray} {k n m at_ j : Nat} {f : Nat → UInt8} (h : tryS o k n m at_ j = some f) (hb : f (tryI o k n m j) ≠ 0 ∧ f (tryI o k n m j) ≠ tryC k n m at_ j) : ∀ q, tryS o k n m at_ (j + 1 + q) = none
  | 0 => by rw [Nat.add_zero, tryS, h]; simp only [if_pos hb]
  | q + 1 => by
    show tryS o k n m at_ ((j + 1 + q) + 1) = none
    rw [tryS, tryS_bad h hb q]
theorem tryS_ok {o : ByteArray} {k n m at_ j : Nat} {f : Nat → UInt8} (h : tryS o k n m at_ j = some f) (hb : ¬ (f (tryI o k n m j) ≠ 0 ∧ f (tryI o k n m j) ≠ tryC k n m at_ j)) : tryS o k n m at_ (j + 1) = some fun i => if i = tryI o k n m j then tryC k n m at_ j else f i := by
  rw [tryS, h]; simp only [if_neg hb]
def fillA (f : Nat → UInt8) (r i : Nat) : UInt8 := if i < r ∧ f i = 0 then 97 else f i
/-- The table of the code that undoes. -/
def tryO (o : ByteArray) (k n m at_ : Nat) : Option ByteArray := (tryS o k n m at_ (k ^ (n + m - 1))).map fun f => ⟨(madeB (fillA f (k ^ m)) (k ^ m)).toArray⟩
theorem tryO_none {o : ByteArray} {k n m at_ j : Nat} {f : Nat → UInt8} (h : tryS o k n m at_ j = some f) (hb : f (tryI o k n m j) ≠ 0 ∧ f (tryI o k n m j) ≠ tryC k n m at_ j) (hj : j < k ^ (n + m - 1)) : tryO o k n m at_ = none := by
  have := tryS_bad h hb (k ^ (n + m - 1) - (j + 1))
  rw [show j + 1 + (k ^ (n + m - 1) - (j + 1)) = k ^ (n + m - 1) by omega] at this
  unfold tryO; rw [this]; rfl
theorem madeB_get {f : Nat → UInt8} {m i : Nat} (h : i < m) : (madeB f m)[i]? = some (f i) := by simp [madeB, h]
theorem byteT_get {l : List UInt8} {i : Nat} {c : UInt8} (h : l[i]? = some c) : (byteVals l)[i]? = some (.int .u8 (c.toNat : Int)) := by simp [byteVals, h]
theorem byteT_set (f : Nat → UInt8) (m i : Nat) (c : UInt8) : (byteVals (madeB f m)).set i (.int .u8 (c.toNat : Int)) = byteVals (madeB (fun q => if q = i then c else f q) m) := by
  apply List.ext_getElem?
  intro q
  rw [List.getElem?_set]
  by_cases hq : q < m
  · by_cases e : i = q
    · subst e
      rw [if_pos rfl, if_pos (by simp [byteVals, madeB_len, hq]), byteT_get (madeB_get hq)]
      simp
    · rw [if_neg e, byteT_get (madeB_get hq), byteT_get (madeB_get hq), if_neg (fun h => e h.symm)]
  · have h1 : (byteVals (madeB (fun q => if q = i then c else f q) m))[q]? = none := List.getElem?_eq_none (by simp [byteVals, madeB_len]; omega)
    have h2 : (byteVals (madeB f m))[q]? = none := List.getElem?_eq_none (by simp [byteVals, madeB_len]; omega)
    rw [h1]
    split
    · rename_i e
      subst e
      rw [if_neg (by simp [byteVals, madeB_len]; omega)]
    · exact h2
theorem fillA_set (f : Nat → UInt8) (m r : Nat) (h0 : f r = 0) : (byteVals (madeB (fillA f r) m)).set r (.int .u8 97) = byteVals (madeB (fillA f (r + 1)) m) := by
  rw [show (Value.int .u8 97) = .int .u8 (((97 : UInt8).toNat : Nat) : Int) from rfl, byteT_set]
  congr 2
  funext q
  unfold fillA
  by_cases e : q = r
  · subst e; simp [h0]
  · rw [if_neg e]
    by_cases h : q < r ∧ f q = 0
    · rw [if_pos h, if_pos ⟨by omega, h.2⟩]
    · rw [if_neg h, if_neg (fun h2 => h ⟨by omega, h2.2⟩)]
theorem fillA_same (f : Nat → UInt8) (r : Nat) (h0 : f r ≠ 0) : fillA f r = fillA f (r + 1) := by
  funext q
  unfold fillA
  by_cases h : q < r ∧ f q = 0
  · rw [if_pos h, if_pos ⟨by omega, h.2⟩]
  · rw [if_neg h, if_neg (fun h2 => h ⟨by rcases Nat.lt_or_ge q r with h3 | h3; exact h3; exact absurd (by rw [show r = q by omega]; exact h2.2) h0, h2.2⟩)]
theorem fillA_zero (f : Nat → UInt8) : fillA f 0 = f := by funext q; simp [fillA]
theorem img_LW {o : ByteArray} {k n m : Nat} (h : CodeP o k n) (hm : 1 ≤ m) (j : Nat) : LW k (madeB (apB o k n (wAt k (n + m - 1) j)) m) := fun c hc => by
  obtain ⟨i, hi, rfl⟩ := List.mem_map.1 hc
  have hi := List.mem_range.1 hi
  have hk := h.k23
  have hn := h.n1
  unfold apB
  have hl : ((wAt k (n + m - 1) j).drop i |>.take n).length = n := by rw [List.length_take, List.length_drop, wAt_len]; omega
  have hlt := LW.lt (show k ≤ 3 by omega) (((wAt_LW (show 0 < k by omega) (n + m - 1) j).drop i).take n)
  rw [hl] at hlt
  exact h.give hlt
theorem tryI_lt {o : ByteArray} {k n m : Nat} (h : CodeP o k n) (hm : 1 ≤ m) (j : Nat) : tryI o k n m j < k ^ m := by
  have hk := h.k23
  have := LW.lt (show k ≤ 3 by omega) (img_LW h hm j)
  rwa [madeB_len] at this
theorem infoByteT : (Tryd.prog.info? 5).map (fun i => (i.zero, i.size, i.bytes)) = some (some (.int .u8 0), 1, 1) := by kernel_rfl
/-- The text of an undoing code and whether there is one. -/
def tryV (r : Option ByteArray) : Value := match r with
  | some s => .tuple #[.string s, .bool true]
  | none => .tuple #[.string ⟨#[]⟩, .bool false]
/-- Facts on a width that both walks want. -/
structure TryF (o : ByteArray) (k n m at_ : Nat) : Prop where
  code : CodeP o k n
  m1 : 1 ≤ m
  m4 : m ≤ 4
  few : k ^ m ≤ 27
  at_lt : at_ < n + m - 1
set_option maxHeartbeats 4000000 in
set_option maxRecDepth 100000 in
theorem spec_l13Try_c (k n m at_ : Nat) (o : ByteArray) (w : World) (h : TryF o k n m at_) :
    Calls Tryd.prog 35 #[.agg #[.int .i64 k, .int .i64 n, .string o], .int .i64 m, .int .i64 at_] w fun e w' => e = .returned (tryV (tryO o k n m at_)) ∧ Below w.heap.size w w' := by
  obtain ⟨hP, hm1, hm4, hP27, hat⟩ := h
  have hk := hP.k23
  have hn1 := hP.n1
  have hn4 := hP.n4
  have hk3 : k ≤ 3 := by omega
  have hos27 : o.size ≤ 27 := by rw [hP.size]; exact hP.fits
  have HPW := hid (fun w => spec_l11Power_c k m hk3 hm4 w)
  obtain ⟨P, hPe⟩ : ∃ P, P = k ^ m := ⟨_, rfl⟩
  rw [show powN k m = k ^ m from rfl, ← hPe] at HPW
  obtain ⟨L, hL⟩ : ∃ L, L = n + m - 1 := ⟨_, rfl⟩
  have hLi : (n : Int) + (m : Int) - 1 = (L : Int) := by omega
  have hL7 : L ≤ 7 := by omega
  have hLn : n ≤ L := by omega
  have HAL := hid (fun w => spec_l2All_c k L w ⟨by omega, hk3⟩ (by omega))
  unfold WordsPost at HAL
  obtain ⟨T, hT⟩ : ∃ T, T = k ^ L := ⟨_, rfl⟩
  have hT6 : T ≤ 6561 := by rw [hT]; exact pow_small hk3 (by omega)
  rw [← hT] at HAL
  have HAP := hid (fun (j : Nat) (w : World) => show Calls Tryd.prog 43 #[.agg #[.int .i64 k, .int .i64 n, .string o], .string (wdB k L j)] w fun e w' => e = .returned (.string ⟨(madeB (apB o k n (wAt k (n + m - 1) j)) m).toArray⟩) ∧ Below w.heap.size w w' from by
    have h1 := spec_l11Apply_c k n o (wdB k L j) w hk3 hn1 hn4 (Nat.le_of_eq hP.size.symm) (by omega) (wAt_lets ⟨by omega, hk3⟩ L j) (by rw [wdB_size]; omega) (by rw [wdB_size]; omega)
    rw [wdB_size, wdB_list, show L + 1 - n = m by omega, hL] at h1
    rw [hL]
    exact h1)
  have HNU := hid (fun (j : Nat) (w : World) => show Calls Tryd.prog 42 #[.int .i64 k, .string ⟨(madeB (apB o k n (wAt k (n + m - 1) j)) m).toArray⟩] w fun e w' => e = .returned (.int .i64 (tryI o k n m j : Int)) ∧ w = w' from
    l13Number_c k _ w hk3 (LW_lets hk3 (img_LW hP hm1 j)) (by show (madeB _ m).toArray.size ≤ 16; simp [madeB_len]; omega))
  have HIL := hid (fun (j : Nat) => show tryI o k n m j < P from by rw [hPe]; exact tryI_lt hP hm1 j)
  have HCH := hid (fun (j : Nat) (hj : at_ < (wdB k L j).size) => show (wdB k L j)[at_].toNat = (tryC k n m at_ j).toNat from by
    unfold tryC
    rw [← hL, List.getD_eq_getElem?_getD, ← wdB_list, byte_at _ _ hj]
    rfl)
  have HNO := hid (fun (j : Nat) (f : Nat → UInt8) (h : tryS o k n m at_ j = some f) (hb : f (tryI o k n m j) ≠ 0 ∧ f (tryI o k n m j) ≠ tryC k n m at_ j) (hj : j < T) => show tryV (tryO o k n m at_) = .tuple #[.string ⟨#[]⟩, .bool false] from by
    rw [tryO_none h hb (by rw [← hL, ← hT]; exact hj)]; rfl)
  have HYES := hid (fun (f : Nat → UInt8) (h : tryS o k n m at_ T = some f) => show tryV (tryO o k n m at_) = .tuple #[.string ⟨(madeB (fillA f P) P).toArray⟩, .bool true] from by
    unfold tryO
    rw [← hL, ← hT, h, ← hPe]; rfl)
  obtain ⟨V, hV⟩ : ∃ V, V = tryV (tryO o k n m at_) := ⟨_, rfl⟩
  rw [← hV] at HNO HYES
  rw [← hV]
  have hP27 : P ≤ 27 := by rw [hPe]; exact hP27
  have hat7 : at_ < L := by omega
  clear hV hT hL hPe hP hk hat
  go_enter Tryd.func35, Tryd.ntmps35
  go_wp2
  obtain ⟨W1, hW1⟩ : ∃ W1, W1 = w.alloc (.cells #[.int .i64 k, .int .i64 n, .string o] 26) := ⟨_, rfl⟩
  have HO0 := hid (World.ownsRow_made W1 #[] 0 (e := 5) (size := 1) (base := W1.heap.size) (Nat.le_refl _) (by omega) rfl)
  have hWB : W1.heap.size = w.heap.size + 1 := by rw [hW1]; simp
  have HK := hid (fun (V : World) (hV : Below W1.heap.size W1 V) => show (V.cell? ⟨w.heap.size, 0, none⟩ = some (.int .i64 k) ∧ V.cell? ⟨w.heap.size, 1, none⟩ = some (.int .i64 n) ∧ V.cell? ⟨w.heap.size, 2, none⟩ = some (.string o)) from by
    have hlt : w.heap.size < W1.heap.size := by omega
    rw [hW1] at hV
    exact ⟨(hV.cell (p := ⟨w.heap.size, 0, none⟩) (by simp)).trans (World.cell?_alloc_at _ _ _ _ rfl), (hV.cell (p := ⟨w.heap.size, 1, none⟩) (by simp)).trans (World.cell?_alloc_at _ _ _ _ rfl), (hV.cell (p := ⟨w.heap.size, 2, none⟩) (by simp)).trans (World.cell?_alloc_at _ _ _ _ rfl)⟩)
  have HB0 := hid (fun (V : World) (hV : Below W1.heap.size W1 V) => show Below w.heap.size w V from by
    rw [hW1] at hV
    exact ((Below.refl _ _).alloc (Nat.le_refl _) _).trans (hV.mono (by simp)))
  have HB1 := hid ((Below.refl W1.heap.size W1).alloc (Nat.le_refl _) (.cells #[] 5))
  rw [← hWB, ← hW1]
  have HWB := hid hWB
  clear hW1 hWB
  go_loopw [8, 9] (fun v i wr => ∃ j : Nat, j ≤ P ∧ i = .int .i64 j ∧ Hid (wr.ownsRow W1.heap.size 5 1 v j (byteVals (madeB (fun _ => 0) j))) ∧ Hid (Below W1.heap.size W1 wr)) (fun _ i _ => P - (intOf i).toNat)
  case atStart => exact ⟨0, by omega, rfl, HO0, HB1⟩
  case round =>
    obtain ⟨j, hj, rfl, HO, HB⟩ := hrel
    obtain ⟨h0, h1, h2⟩ := HK.out _ HB.out
    by_cases hlt : j < P
    · have hji : (j : Int) < (P : Int) := by omega
      have hbz : W1.heap.size ≤ wr.heap.size := HB.out.size
      go_wp2_with (first | (go_at_call 22; refine (HPW.out _).mono ?_; rintro e w' ⟨rfl, rfl⟩) | (at_builtin; go_must (refine wpList_appg rfl _ _ 41 rfl W1.heap.size 5 (.int .u8 0) 1 Tryd.underlying41 infoByteT rfl _ j (byteVals (madeB (fun _ => 0) j)) _ HO.out rfl rfl rfl (by omega) (by unfold maxLen; omega) hbz ?_); intro v' w4 hown' hgr'))
      go_roundw
      case rel => exact ⟨j + 1, by omega, by go_num, hid (by rw [byteVals_madeB]; exact hown'), hid (HB.out.grown hgr' hbz (fun z hz => (HO.out.lt z hz).1))⟩
      case measure => simp [intOf]; omega
    · obtain rfl : j = P := by omega
      have hP1 : 0 < j := by have := HIL.out 0; omega
      obtain ⟨g, c, rfl, hg1, hg2⟩ := own_form HO.out hP1
      obtain ⟨wa, rfl⟩ : ∃ wa : World, wa = wr := ⟨_, rfl⟩
      have hbz : W1.heap.size ≤ wa.heap.size := HB.out.size
      go_wp2_with (first | (go_at_call 22; refine (HPW.out _).mono ?_; rintro e w' ⟨rfl, rfl⟩) | (go_at_call 41; refine (HAL.out _).mono ?_; rintro e w2 ⟨v2, rfl, hown2, hb2⟩; obtain ⟨a2, c2, rfl, hr2⟩ := owns_rowAt hown2 (by omega)))
      have HOW := hid (owns_below HO.out hb2)
      have HWD := hid hown2
      have HB2 := hid (HB.out.trans (hb2.mono hbz))
      clear HO HB hown2 hb2 hr2 h0 h1 h2 HAL HPW
      go_loopw [11] (fun i wr => ∃ (q : Nat) (f : Nat → UInt8), q ≤ T ∧ i = .int .i64 q ∧ Hid (tryS o k n m at_ q = some f) ∧ Hid (wr.ownsRow W1.heap.size 5 1 (.slice (some ⟨g, 0, none⟩) j c) j (byteVals (madeB f j))) ∧ Hid (wr.ownsRow wa.heap.size 9 1 (.slice a2 T c2) T (strVals (wds k L T))) ∧ Hid (Below W1.heap.size W1 wr)) (fun i _ => T - (intOf i).toNat)
      case atStart => exact ⟨0, fun _ => 0, by omega, rfl, hid rfl, HOW, HWD, HB2⟩
      case round =>
        clear HOW HWD HB2
        obtain ⟨q, f, hq, rfl, HS, HOW, HWD, HB⟩ := hrel
        by_cases hltq : q < T
        · obtain ⟨h0, h1, h2⟩ := HK.out _ HB.out
          have hqT : (q : Int) < (T : Int) := by omega
          obtain ⟨a3, c3, he, hr3⟩ := owns_rowAt HWD.out (by omega)
          simp only [Value.slice.injEq, true_and] at he
          obtain ⟨rfl, rfl⟩ := he
          obtain ⟨b2, o2, rfl, hb2, hcl2⟩ := hr3.at_ (by omega)
          have hcw := hcl2 q _ (strVals_get (wds_get hltq))
          have HAPq := hid (HAP.out q)
          have HNUq := hid (HNU.out q)
          have hIL := HIL.out q
          have hCH := HCH.out q (by rw [wdB_size]; exact hat7)
          have hNO := fun hb => HNO.out q f HS.out hb hltq
          obtain ⟨img, himg⟩ : ∃ img : ByteArray, img = ⟨(madeB (apB o k n (wAt k (n + m - 1) q)) m).toArray⟩ := ⟨_, rfl⟩
          obtain ⟨u, hu⟩ : ∃ u, u = wdB k L q := ⟨_, rfl⟩
          have husz : u.size = L := by rw [hu, wdB_size]
          obtain ⟨x, hx⟩ : ∃ x, x = tryI o k n m q := ⟨_, rfl⟩
          obtain ⟨y, hy⟩ : ∃ y, y = tryC k n m at_ q := ⟨_, rfl⟩
          rw [← himg, ← hu] at HAPq
          rw [← himg, ← hx] at HNUq
          rw [← hx] at hIL hNO
          rw [← hy] at hNO
          rw [← hu] at hcw
          have hua : at_ < u.size := by omega
          have hchu : u[at_].toNat = y.toNat := by rw [hy]; subst hu; exact hCH
          have hOK := fun hb => tryS_ok HS.out (by rw [← hx, ← hy]; exact hb)
          rw [← hx, ← hy] at hOK
          have HNOq := hid hNO
          have HOKq := hid hOK
          have hcf : wr.cell? ⟨g, x, none⟩ = some (.int .u8 ((f x).toNat : Int)) := (HOW.out.cellAt x (by omega)).trans (byteT_get (madeB_get hIL))
          have hfr := HOW.out.frozenAt x
          have hxj : (x : Int) < (j : Int) := by omega
          have hbw : W1.heap.size ≤ wr.heap.size := HB.out.size
          have hg3 : g < wr.heap.size := (HOW.out.lt g rfl).2
          have hbel0 := (Below.refl wr.heap.size wr).drew
          have huai : (at_ : Int) < (u.size : Int) := by omega
          have ha0 : (0 : Int) ≤ (at_ : Int) := by omega
          clear himg hu hx hy hCH hNO hOK hr3 hcl2
          go_wp2
          go_region_held3 (fun V => V.cell? ⟨w.heap.size, 0, none⟩ = some (.int .i64 k) ∧ V.cell? ⟨w.heap.size, 1, none⟩ = some (.int .i64 n) ∧ V.cell? ⟨w.heap.size, 2, none⟩ = some (.string o) ∧ V.cell? ⟨b2, o2 + q, none⟩ = some (.string u) ∧ Below wr.heap.size wr V)
            (first | exact ⟨h0, h1, h2, hcw, hbel0⟩ | exact ⟨(HK.out _ (HB.out.trans (hbel2.mono hbw))).1, (HK.out _ (HB.out.trans (hbel2.mono hbw))).2.1, (HK.out _ (HB.out.trans (hbel2.mono hbw))).2.2, (hbel2.cell (p := ⟨b2, o2 + q, none⟩) hb2).trans hcw, hbel2⟩)
            (first | (go_at_call 43; refine (HAPq.out _).mono ?_; rintro e w3 ⟨rfl, hb3⟩; have hbel2 := hbel0.trans (hb3.mono hbel0.size)) | (go_at_call 42; refine (HNUq.out _).mono ?_; rintro e w4 ⟨rfl, rfl⟩))
          have hcw3 := (hbel2.cell (p := ⟨b2, o2 + q, none⟩) hb2).trans hcw
          have hcf3 := (hbel2.cell (p := ⟨g, x, none⟩) hg3).trans hcf
          have hfr3 := (hbel2.frozen (p := ⟨g, x, none⟩) hg3).trans hfr
          have HOW3 := hid (owns_below HOW.out hbel2)
          have HWD3 := hid (owns_below HWD.out hbel2)
          have HB3 := hid (HB.out.trans (hbel2.mono hbw))
          have hlt5 : b2 < w3.heap.size := Nat.lt_of_lt_of_le hb2 hbel2.size
          have hg5 : g < w3.heap.size := Nat.lt_of_lt_of_le hg3 hbel2.size
          have hbw3 : W1.heap.size ≤ w3.heap.size := HB3.out.size
          clear hb3 hbel0 hbel2 h0 h1 h2 hcw hcf hfr
          obtain ⟨z, hz⟩ : ∃ z, z = f x := ⟨_, rfl⟩
          rw [← hz] at hcf3 HNOq HOKq
          clear hz
          by_cases hz0 : z = 0
          · have hzi : ((z.toNat : Int) != 0) = false := by rw [hz0]; rfl
            have HN := hid (HOKq.out fun h => h.1 hz0)
            clear hz0
            go_wp2
            go_quiet (fail)
            obtain ⟨w5, hw5⟩ : ∃ w5, w5 = w3.drewN nq := ⟨_, rfl⟩
            rw [← hw5]
            have hb5 : Below w3.heap.size w3 w5 := by rw [hw5]; exact below_drewN (Below.refl _ _) _
            have hcw5 := (hb5.cell (p := ⟨b2, o2 + q, none⟩) hlt5).trans hcw3
            have hfr5 := (hb5.frozen (p := ⟨g, x, none⟩) hg5).trans hfr3
            have HOW5 := hid (owns_below HOW3.out hb5)
            have HWD5 := hid (owns_below HWD3.out hb5)
            have HB5 := hid (HB3.out.trans (hb5.mono hbw3))
            have hbw5 : W1.heap.size ≤ w5.heap.size := HB5.out.size
            have hcf5 := (hb5.cell (p := ⟨g, x, none⟩) hg5).trans hcf3
            clear hw5 hcw3 hfr3 hcf3 hb5
            have HST := hid (HOW5.out.stored x (.int .u8 (y.toNat : Int)))
            have HWD6 := hid (HWD5.out.kept HST.out.2 (owns_ne (owns_base HWD5.out hbz) HOW5.out (by decide)))
            go_wp2
            go_roundw
            case rel => exact ⟨q + 1, _, by omega, by go_num, HN, hid (by rw [← byteT_set]; exact HST.out.1), HWD6, hid (HB5.out.grown HST.out.2 hbw5 (by rintro q ⟨⟩; exact hg1))⟩
            case measure => simp [intOf]; omega
          · have hzi : ((z.toNat : Int) != 0) = true := by
              have : z.toNat ≠ 0 := fun e => hz0 (UInt8.toNat_inj.1 e)
              simp [this]
            by_cases hzy : z = y
            · have hzyi : ((z.toNat : Int) != (u[at_].toNat : Int)) = false := by rw [hchu, hzy]; simp
              have HN := hid (HOKq.out fun h => h.2 hzy)
              clear hzy
              go_wp2
              go_quiet (fail)
              obtain ⟨w5, hw5⟩ : ∃ w5, w5 = w3.drewN nq := ⟨_, rfl⟩
              rw [← hw5]
              have hb5 : Below w3.heap.size w3 w5 := by rw [hw5]; exact below_drewN (Below.refl _ _) _
              have hcw5 := (hb5.cell (p := ⟨b2, o2 + q, none⟩) hlt5).trans hcw3
              have hfr5 := (hb5.frozen (p := ⟨g, x, none⟩) hg5).trans hfr3
              have HOW5 := hid (owns_below HOW3.out hb5)
              have HWD5 := hid (owns_below HWD3.out hb5)
              have HB5 := hid (HB3.out.trans (hb5.mono hbw3))
              have hbw5 : W1.heap.size ≤ w5.heap.size := HB5.out.size
              have hcf5 := (hb5.cell (p := ⟨g, x, none⟩) hg5).trans hcf3
              clear hw5 hcw3 hfr3 hcf3 hb5
              have HST := hid (HOW5.out.stored x (.int .u8 (y.toNat : Int)))
              have HWD6 := hid (HWD5.out.kept HST.out.2 (owns_ne (owns_base HWD5.out hbz) HOW5.out (by decide)))
              go_wp2
              go_roundw
              case rel => exact ⟨q + 1, _, by omega, by go_num, HN, hid (by rw [← byteT_set]; exact HST.out.1), HWD6, hid (HB5.out.grown HST.out.2 hbw5 (by rintro q ⟨⟩; exact hg1))⟩
              case measure => simp [intOf]; omega
            · have hzyi : ((z.toNat : Int) != (u[at_].toNat : Int)) = true := by
                have : z.toNat ≠ y.toNat := fun e => hzy (UInt8.toNat_inj.1 e)
                rw [hchu]; simp; omega
              have HR := hid (HNOq.out ⟨hz0, hzy⟩)
              have hBF := hid (HB0.out _ HB3.out)
              go_wp2
              go_quiet (fail)
              go_wp2
              go_ret2
              exact ⟨by rw [HR.out]; rfl, below_drewN hBF.out _⟩
        · obtain rfl : q = T := by omega
          have HYE := hid (HYES.out f HS.out)
          obtain ⟨a3, c3, he, hr3⟩ := owns_rowAt HWD.out (by omega)
          simp only [Value.slice.injEq, true_and] at he
          obtain ⟨rfl, rfl⟩ := he
          clear hr3
          go_wp2
          go_loopw [13] (fun i wr => ∃ r : Nat, r ≤ j ∧ i = .int .i64 r ∧ Hid (wr.ownsRow W1.heap.size 5 1 (.slice (some ⟨g, 0, none⟩) j c) j (byteVals (madeB (fillA f r) j))) ∧ Hid (Below W1.heap.size W1 wr)) (fun i _ => j - (intOf i).toNat)
          case atStart => exact ⟨0, by omega, rfl, hid (by rw [fillA_zero]; exact HOW.out), HB⟩
          case round =>
            clear HOW HB
            obtain ⟨r, hr, rfl, HOW, HB⟩ := hrel
            by_cases hltr : r < j
            · have hrj : (r : Int) < (j : Int) := by omega
              have hcf : wr.cell? ⟨g, r, none⟩ = some (.int .u8 ((fillA f r r).toNat : Int)) := (HOW.out.cellAt r (by omega)).trans (byteT_get (madeB_get hltr))
              have hfr := HOW.out.frozenAt r
              have hff : fillA f r r = f r := by unfold fillA; rw [if_neg (by omega)]
              rw [hff] at hcf
              have HST := hid (HOW.out.stored r (.int .u8 97))
              obtain ⟨z, hz⟩ : ∃ z, z = f r := ⟨_, rfl⟩
              rw [← hz] at hcf
              have HZ := hid hz
              have hbw : W1.heap.size ≤ wr.heap.size := HB.out.size
              clear hff hz
              by_cases hz0 : z = 0
              · have hzi : ((z.toNat : Int) == 0) = true := by rw [hz0]; rfl
                have HF := hid (fillA_set f j r (by rw [← HZ.out]; exact hz0))
                clear hz0
                go_wp2
                go_roundw
                case rel => exact ⟨r + 1, by omega, by go_num, hid (by rw [← HF.out]; exact HST.out.1), hid (HB.out.grown HST.out.2 hbw (by rintro q ⟨⟩; exact hg1))⟩
                case measure => simp [intOf]; omega
              · have hzi : ((z.toNat : Int) == 0) = false := by
                  have : z.toNat ≠ 0 := fun e => hz0 (UInt8.toNat_inj.1 e)
                  simp [this]
                have HF := hid (fillA_same f r (by rw [← HZ.out]; exact hz0))
                clear hz0
                go_wp2
                go_roundw
                case rel => exact ⟨r + 1, by omega, by go_num, hid (by rw [← HF.out]; exact HOW.out), HB⟩
                case measure => simp [intOf]; omega
            · obtain rfl : r = j := by omega
              obtain ⟨a4, c4, he, hr4⟩ := owns_rowAt HOW.out (by omega)
              simp only [Value.slice.injEq, true_and] at he
              obtain ⟨rfl, rfl⟩ := he
              have hBF := hid (HB0.out _ HB.out)
              go_wp2_with (with_reducible refine wpList_convs rfl _ 41 9 5 rfl Tryd.underlying41 Tryd.underlying5 Tryd.underlying9 _ r _ (madeB (fillA f r) r) rfl hr4 ?_)
              go_ret2
              exact ⟨by rw [HYE.out]; rfl, hBF.out⟩
end Go.Proofs.YtcmmlldincflkaaDoor
