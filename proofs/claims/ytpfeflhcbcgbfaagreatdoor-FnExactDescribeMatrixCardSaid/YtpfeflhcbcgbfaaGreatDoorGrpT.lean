/- A group's text, both ways. Conditions: short lists of numbers. -/
import Derived.Test.YtpfeflhcbcgbfaaGreatDoorNums
import Derived.Test.YtpfeflhcbcgbfaaGreatDoorPartI
namespace Go.Proofs.YtpfeflhcbcgbfaaGreatDoor
open Go.RowKit
def grW (x : Int) : List ByteArray := if x = 0 then [⟨#[90]⟩] else if 1 < x then [⟨#[90, 47]⟩ ++ fmtB x] else []
def grWs (xs : List Int) (j : Nat) : List ByteArray := (xs.take j).flatMap grW
def grJ (L : List ByteArray) : ByteArray := if L.length = 0 then ⟨#[48]⟩ else joinV L ⟨#[43]⟩
/-- A group's text. -/
def grT (xs : List Int) : ByteArray := grJ (grWs xs xs.length)
theorem grWs_next {xs : List Int} {j : Nat} {x : Int} (h : xs[j]? = some x) : grWs xs (j + 1) = grWs xs j ++ grW x := by
  unfold grWs
  rw [List.take_add_one, h, List.flatMap_append]
  simp
theorem grWs_zero {xs : List Int} {j : Nat} (h : xs[j]? = some 0) : grWs xs (j + 1) = grWs xs j ++ [⟨#[90]⟩] := grWs_next h
theorem grWs_one {xs : List Int} {j : Nat} (h : xs[j]? = some 1) : grWs xs (j + 1) = grWs xs j := by
  rw [grWs_next h]
  show grWs xs j ++ [] = _
  rw [List.append_nil]
theorem grWs_more {xs : List Int} {j : Nat} {x : Int} (h : xs[j]? = some x) (hx : 1 < x) : grWs xs (j + 1) = grWs xs j ++ [⟨#[90, 47]⟩ ++ fmtB x] := by
  rw [grWs_next h, grW, if_neg (by omega), if_pos hx]
theorem flat_len (xs : List Int) : (xs.flatMap grW).length ≤ xs.length := by
  induction xs with
  | nil => simp
  | cons x xs ih =>
    rw [List.flatMap_cons, List.length_append, List.length_cons]
    have : (grW x).length ≤ 1 := by
      unfold grW
      split
      · simp
      · split <;> simp
    omega
theorem grWs_len (xs : List Int) (j : Nat) : (grWs xs j).length ≤ j := by
  have := flat_len (xs.take j)
  rw [List.length_take] at this
  unfold grWs
  omega
theorem fmtB_leM {x : Int} (h : I64 x) : (fmtB x).size ≤ 21 := by
  have := itoa_le h
  have h3 : (fmtB x).size = (Lib.itoa x).length := by simp [fmtB, ByteArray.size]
  omega
theorem dlj_sizeM (s : ByteArray) : (dlj s).length = s.size := rfl
theorem lens_le {b : Nat} : ∀ (L : List ByteArray), (∀ s ∈ L, s.size ≤ b) → Lib.lens (L.map dlj) ≤ b * L.length
  | [], _ => by simp [Lib.lens]
  | s :: L, h => by
    have ih := lens_le L fun x hx => h x (List.mem_cons_of_mem _ hx)
    have h1 := h s (List.mem_cons_self ..)
    have h2 := dlj_sizeM s
    have e : Lib.lens ((s :: L).map dlj) = (dlj s).length + Lib.lens (L.map dlj) := rfl
    rw [e, List.length_cons, Nat.mul_add]
    omega
theorem grW_size {x : Int} (h : 0 ≤ x ∧ x ≤ 1000000000000) : ∀ s ∈ grW x, s.size ≤ 23 := by
  intro s hs
  unfold grW at hs
  split at hs
  · rw [List.mem_singleton.1 hs]; decide
  · split at hs
    · rw [List.mem_singleton.1 hs]
      have := fmtB_leM (x := x) ⟨by omega, by omega⟩
      rw [ByteArray.size_append]
      show 2 + _ ≤ 23
      omega
    · simp at hs
theorem grWs_size {xs : List Int} (h : ∀ x ∈ xs, 0 ≤ x ∧ x ≤ 1000000000000) (j : Nat) : ∀ s ∈ grWs xs j, s.size ≤ 23 := by
  intro s hs
  unfold grWs at hs
  obtain ⟨x, hx, hs⟩ := List.mem_flatMap.1 hs
  exact grW_size (h x (List.mem_of_mem_take hx)) s hs
theorem grWs_join {xs : List Int} (h : ∀ x ∈ xs, 0 ≤ x ∧ x ≤ 1000000000000) (hn : xs.length ≤ 9) : (Lib.join ((grWs xs xs.length).map dlj) (⟨#[43]⟩ : ByteArray).data.toList).length ≤ 1000000000 := by
  have h1 := join_le ((grWs xs xs.length).map dlj) (⟨#[43]⟩ : ByteArray).data.toList
  have h2 := lens_le (grWs xs xs.length) (grWs_size h xs.length)
  have h3 := grWs_len xs xs.length
  rw [List.length_map] at h1
  have h4 : (⟨#[43]⟩ : ByteArray).data.toList.length = 1 := rfl
  rw [h4] at h1
  omega
set_option maxHeartbeats 4000000 in
set_option maxRecDepth 100000 in
theorem spec_GroupText_c (a : Option Addr) (n c : Nat) (xs : List Int) (w : World) (hr : RowAt w a n (intVals xs)) (hx0 : ∀ x ∈ xs, 0 ≤ x ∧ x ≤ 1000000000000) (hn : n ≤ 9) :
    Calls Tryz.prog 93 #[.slice a n c] w fun e w' => e = .returned (.string (grT xs)) ∧ Below w.heap.size w w' := by
  have HLEN := hid (show xs.length = n by simpa [intVals] using hr.len)
  have HAT := hid hr.at_
  have HS0 := hid (fun (j : Nat) (h : xs[j]? = some 0) => grWs_zero h)
  have HS1 := hid (fun (j : Nat) (h : xs[j]? = some 1) => grWs_one h)
  have HS2 := hid (fun (j : Nat) (x : Int) (h : xs[j]? = some x) (hx : 1 < x) => grWs_more h hx)
  have HWL := hid (fun j => grWs_len xs j)
  have HZ := hid (show grWs xs 0 = [] by simp [grWs])
  have HXB := hid (fun (j : Nat) (x : Int) (h : xs[j]? = some x) => hx0 x (List.mem_of_getElem? h))
  have HE := hid (show grT xs = grJ (grWs xs xs.length) from rfl)
  have HJL := hid (grWs_join hx0 (show xs.length ≤ 9 by rw [HLEN.out]; exact hn))
  have HFS := hid (fun (x : Int) (h : 0 ≤ x ∧ x ≤ 1000000000000) => fmtB_leM (x := x) ⟨by omega, by omega⟩)
  have HFM := hid (fun (x : Int) (h : 0 ≤ x ∧ x ≤ 1000000000000) (V : World) => spec_FormatInt_c x V (by omega) (by omega))
  rw [HLEN.out] at HE HJL
  obtain ⟨K, hK⟩ : ∃ K, K = grWs xs := ⟨_, rfl⟩
  rw [← hK] at HS0 HS1 HS2 HWL HZ HE HJL
  obtain ⟨TX, hTX⟩ : ∃ TX, TX = grT xs := ⟨_, rfl⟩
  rw [← hTX] at HE
  rw [← hTX]
  have HRI := hid (show (w.alloc (.cells #[] 9)).ownsRow w.heap.size 9 1 (.slice (some ⟨w.heap.size, 0, none⟩) 0 0) 0 (strVals (K 0)) from by rw [HZ.out]; exact owns_lit3 (w := w) (base := w.heap.size) (e := 9) #[] [] rfl (Nat.le_refl _) (by unfold maxLen; simp))
  have HB0 := hid (show Below w.heap.size w (w.alloc (.cells #[] 9)) from (Below.refl _ _).alloc (Nat.le_refl _) _)
  have HK0 := hid (show (K 0).length = 0 by rw [HZ.out]; rfl)
  clear hr hx0 hK hTX
  go_enter Tryz.func93, Tryz.ntmps93
  go_wp2
  go_loopw [3, 4] (fun v i wr => ∃ (j gj cj : Nat), j ≤ n ∧ i = .int .i64 j ∧ v = .slice (some ⟨gj, 0, none⟩) (K j).length cj ∧ Hid (wr.ownsRow w.heap.size 9 1 (.slice (some ⟨gj, 0, none⟩) (K j).length cj) (K j).length (strVals (K j))) ∧ Hid (Below w.heap.size w wr)) (fun _ i _ => n - (intOf i).toNat)
  case atStart => exact ⟨0, w.heap.size, 0, by omega, rfl, by rw [HK0.out], by rw [HK0.out]; exact HRI, HB0⟩
  case round =>
    clear HRI HB0
    obtain ⟨j, gj, cj, hj, rfl, rfl, HRI, HBL⟩ := hrel
    have hmle := HWL.out j
    obtain ⟨m, hm⟩ : ∃ m, m = (K j).length := ⟨_, rfl⟩
    have HME := hid hm
    rw [← hm] at HRI hmle
    rw [← hm]
    clear hm
    by_cases hlt : j < n
    · have hji : (j : Int) < (n : Int) := by omega
      obtain ⟨x, hx⟩ := get_some (l := xs) (n := j) (by rw [HLEN.out]; exact hlt)
      have hxb := HXB.out j x hx
      obtain ⟨b, off, rfl, hb, hc⟩ := HAT.out (by omega)
      have hcell := (HBL.out.cell (p := ⟨b, off + j, none⟩) hb).trans (hc j _ (intVals_get hx))
      have hgl := (HRI.out.lt gj rfl)
      have hsz := HBL.out.size
      have hxn : ¬ (x < 0) := by omega
      by_cases hx1 : x = 0
      · subst hx1
        have HE2 := hid (HS0.out j hx)
        have hlen : (K (j + 1)).length = m + 1 := by rw [HE2.out, List.length_append, ← HME.out]; rfl
        have HIV := hid (show strVals (K (j + 1)) = strVals (K j) ++ [.string ⟨#[90]⟩] by rw [HE2.out]; simp [strVals])
        clear hx hc hxb
        go_wp2_with (first | (at_builtin; go_must (refine wpList_appN rfl _ _ 22 rfl w.heap.size 9 (.string ByteArray.empty) 16 Tryz.underlying22 infoStr rfl gj cj m (strVals (K j)) (HRI.out.alloc _) rfl wr.heap.size 0 1 1 [.string ⟨#[90]⟩] rfl rfl (lit_cellsP rfl) (by intro u hu; simp at hu; subst hu; rfl) (by omega) (by unfold maxLen; omega) (by simp; omega) ?_); intro g3 c3 w4 hown3 hgr3 hor3 hlt3))
        have HO3 := hid hown3
        have HB3 := hid ((HBL.out.alloc (by omega) (.cells #[.string ⟨#[90]⟩] 9)).grown hgr3 (by simp; omega) (by rintro k ⟨⟩; exact hgl.1))
        clear hown3 hgr3 hor3 hcell
        go_roundw
        case rel => exact ⟨j + 1, g3, c3, by omega, by go_num, by rw [hlen], hid (by rw [hlen, HIV.out]; exact HO3.out), HB3⟩
        case measure => simp [intOf]; omega
      · by_cases hx2 : x = 1
        · subst hx2
          have HE2 := hid (HS1.out j hx)
          have hlen : m = (K (j + 1)).length := by rw [HE2.out]; exact HME.out
          clear hx hc hxb
          go_wp2
          go_roundw
          case rel => exact ⟨j + 1, gj, cj, by omega, by go_num, by rw [hlen], hid (by rw [← hlen, HE2.out]; exact HRI.out), HBL⟩
          case measure => simp [intOf]; omega
        · have hx3 : 1 < x := by omega
          have hxz : (x == 0) = false := by simp [hx1]
          have HE2 := hid (HS2.out j x hx hx3)
          have hlen : (K (j + 1)).length = m + 1 := by rw [HE2.out, List.length_append, ← HME.out]; rfl
          have hfs := HFS.out x hxb
          have HFQ := hid (HFM.out x hxb wr)
          obtain ⟨d, hd⟩ : ∃ d, d = fmtB x := ⟨_, rfl⟩
          rw [← hd] at HE2 hfs HFQ
          obtain ⟨t, ht⟩ : ∃ t : ByteArray, t = ⟨#[90, 47]⟩ ++ d := ⟨_, rfl⟩
          have HIV := hid (show strVals (K (j + 1)) = strVals (K j) ++ [.string t] by rw [HE2.out, ht]; simp [strVals])
          have HTE := hid ht
          have hcat : ¬ (9223372036854775807 < 2 + d.size) := by omega
          clear hx hc hxb hd ht
          go_wp2_with fail
          refine HFQ.out.mono ?_
          rintro e w3 ⟨rfl, hb3⟩
          have ho3 := owns_below HRI.out hb3
          have hs3 := hb3.size
          go_wp2_with (first | (at_builtin; go_must (refine wpList_appN rfl _ _ 22 rfl w.heap.size 9 (.string ByteArray.empty) 16 Tryz.underlying22 infoStr rfl gj cj m (strVals (K j)) (ho3.alloc _) rfl w3.heap.size 0 1 1 [.string (⟨#[90, 47]⟩ ++ d)] rfl rfl (lit_cellsP rfl) (by intro u hu; simp at hu; subst hu; rfl) (by omega) (by unfold maxLen; omega) (by simp; omega) ?_); intro g3 c3 w4 hown3 hgr3 hor3 hlt3))
          rw [← HTE.out] at hown3
          have HO3 := hid hown3
          have HB3 := hid (((HBL.out.trans (hb3.mono hsz)).alloc (by omega) (.cells #[.string (⟨#[90, 47]⟩ ++ d)] 9)).grown hgr3 (by simp; omega) (by rintro k ⟨⟩; exact hgl.1))
          clear hown3 hgr3 hor3 hcell
          go_roundw
          case rel => exact ⟨j + 1, g3, c3, by omega, by go_num, by rw [hlen], hid (by rw [hlen, HIV.out]; exact HO3.out), HB3⟩
          case measure => simp [intOf]; omega
    · obtain rfl : j = n := by omega
      by_cases hm0 : m = 0
      · have HE0 := hid (show TX = ⟨#[48]⟩ from by rw [HE.out]; unfold grJ; rw [if_pos (by rw [← HME.out]; exact hm0)])
        subst hm0
        go_wp2
        go_ret
        exact ⟨by rw [HE0.out]; rfl, HBL.out⟩
      · have HE1 := hid (show TX = joinV (K j) ⟨#[43]⟩ from by rw [HE.out]; unfold grJ; rw [if_neg (by rw [← HME.out]; exact hm0)])
        have hmz : ((m : Int) == 0) = false := by simp; omega
        have HJQ := hid (by
          obtain ⟨ar, cr, hev, hrow⟩ := owns_rowAt HRI.out (by omega)
          simp only [Value.slice.injEq] at hev
          obtain ⟨rfl, -, rfl⟩ := hev
          exact spec_Join_c _ m cj (K j) ⟨#[43]⟩ wr hrow HJL.out)
        rw [← HE1.out] at HJQ
        go_wp2_with fail
        refine HJQ.out.mono ?_
        rintro e w5 ⟨rfl, hb5⟩
        have HBX := hid (HBL.out.trans (hb5.mono HBL.out.size))
        clear hb5
        go_wp2
        go_ret
        exact ⟨rfl, HBX.out⟩
set_option maxHeartbeats 4000000 in
set_option maxRecDepth 100000 in
theorem impl_GroupText_c (a : Option Addr) (n c : Nat) (xs : List Int) (w : World) (hr : RowAt w a n (intVals xs)) (hx0 : ∀ x ∈ xs, 0 ≤ x ∧ x ≤ 1000000000000) (hn : n ≤ 9) (ht : TabW w) :
    Calls Tryz.prog 106 #[.slice a n c] w fun e w' => e = .returned (.string (grT xs)) ∧ Below w.heap.size w w' := by
  have HLEN := hid (show xs.length = n by simpa [intVals] using hr.len)
  have HAT := hid hr.at_
  have HS0 := hid (fun (j : Nat) (h : xs[j]? = some 0) => grWs_zero h)
  have HS1 := hid (fun (j : Nat) (h : xs[j]? = some 1) => grWs_one h)
  have HS2 := hid (fun (j : Nat) (x : Int) (h : xs[j]? = some x) (hx : 1 < x) => grWs_more h hx)
  have HWL := hid (fun j => grWs_len xs j)
  have HZ := hid (show grWs xs 0 = [] by simp [grWs])
  have HXB := hid (fun (j : Nat) (x : Int) (h : xs[j]? = some x) => hx0 x (List.mem_of_getElem? h))
  have HE := hid (show grT xs = grJ (grWs xs xs.length) from rfl)
  have HJL := hid (grWs_join hx0 (show xs.length ≤ 9 by rw [HLEN.out]; exact hn))
  have HFS := hid (fun (x : Int) (h : 0 ≤ x ∧ x ≤ 1000000000000) => fmtB_leM (x := x) ⟨by omega, by omega⟩)
  have HFM := hid (fun (x : Int) (h : 0 ≤ x ∧ x ≤ 1000000000000) (V : World) (hV : Below w.heap.size w V) => impl_FormatInt_c x V ⟨by omega, by omega⟩ (tab_below ht hV (Nat.le_refl _)))
  rw [HLEN.out] at HE HJL
  obtain ⟨K, hK⟩ : ∃ K, K = grWs xs := ⟨_, rfl⟩
  rw [← hK] at HS0 HS1 HS2 HWL HZ HE HJL
  obtain ⟨TX, hTX⟩ : ∃ TX, TX = grT xs := ⟨_, rfl⟩
  rw [← hTX] at HE
  rw [← hTX]
  have HRI := hid (show (w.alloc (.cells #[] 9)).ownsRow w.heap.size 9 1 (.slice (some ⟨w.heap.size, 0, none⟩) 0 0) 0 (strVals (K 0)) from by rw [HZ.out]; exact owns_lit3 (w := w) (base := w.heap.size) (e := 9) #[] [] rfl (Nat.le_refl _) (by unfold maxLen; simp))
  have HB0 := hid (show Below w.heap.size w (w.alloc (.cells #[] 9)) from (Below.refl _ _).alloc (Nat.le_refl _) _)
  have HK0 := hid (show (K 0).length = 0 by rw [HZ.out]; rfl)
  clear hr hx0 hK hTX ht
  go_enter Tryz.func106, Tryz.ntmps106
  go_wp2
  go_loopw [3, 9] (fun v i wr => ∃ (j gj cj : Nat), j ≤ n ∧ i = .int .i64 j ∧ v = .slice (some ⟨gj, 0, none⟩) (K j).length cj ∧ Hid (wr.ownsRow w.heap.size 9 1 (.slice (some ⟨gj, 0, none⟩) (K j).length cj) (K j).length (strVals (K j))) ∧ Hid (Below w.heap.size w wr)) (fun _ i _ => n - (intOf i).toNat)
  case atStart => exact ⟨0, w.heap.size, 0, by omega, rfl, by rw [HK0.out], by rw [HK0.out]; exact HRI, HB0⟩
  case round =>
    clear HRI HB0
    obtain ⟨j, gj, cj, hj, rfl, rfl, HRI, HBL⟩ := hrel
    have hmle := HWL.out j
    obtain ⟨m, hm⟩ : ∃ m, m = (K j).length := ⟨_, rfl⟩
    have HME := hid hm
    rw [← hm] at HRI hmle
    rw [← hm]
    clear hm
    by_cases hlt : j < n
    · have hji : (j : Int) < (n : Int) := by omega
      obtain ⟨x, hx⟩ := get_some (l := xs) (n := j) (by rw [HLEN.out]; exact hlt)
      have hxb := HXB.out j x hx
      obtain ⟨b, off, rfl, hb, hc⟩ := HAT.out (by omega)
      have hcell := (HBL.out.cell (p := ⟨b, off + j, none⟩) hb).trans (hc j _ (intVals_get hx))
      have hgl := (HRI.out.lt gj rfl)
      have hsz := HBL.out.size
      have hxn : ¬ (x < 0) := by omega
      by_cases hx1 : x = 0
      · subst hx1
        have HE2 := hid (HS0.out j hx)
        have hlen : (K (j + 1)).length = m + 1 := by rw [HE2.out, List.length_append, ← HME.out]; rfl
        have HIV := hid (show strVals (K (j + 1)) = strVals (K j) ++ [.string ⟨#[90]⟩] by rw [HE2.out]; simp [strVals])
        clear hx hc hxb
        go_wp2_with (first | (at_builtin; go_must (refine wpList_appN rfl _ _ 22 rfl w.heap.size 9 (.string ByteArray.empty) 16 Tryz.underlying22 infoStr rfl gj cj m (strVals (K j)) (HRI.out.alloc _) rfl wr.heap.size 0 1 1 [.string ⟨#[90]⟩] rfl rfl (lit_cellsP rfl) (by intro u hu; simp at hu; subst hu; rfl) (by omega) (by unfold maxLen; omega) (by simp; omega) ?_); intro g3 c3 w4 hown3 hgr3 hor3 hlt3))
        have HO3 := hid hown3
        have HB3 := hid ((HBL.out.alloc (by omega) (.cells #[.string ⟨#[90]⟩] 9)).grown hgr3 (by simp; omega) (by rintro k ⟨⟩; exact hgl.1))
        clear hown3 hgr3 hor3 hcell
        go_roundw
        case rel => exact ⟨j + 1, g3, c3, by omega, by go_num, by rw [hlen], hid (by rw [hlen, HIV.out]; exact HO3.out), HB3⟩
        case measure => simp [intOf]; omega
      · by_cases hx2 : x = 1
        · subst hx2
          have HE2 := hid (HS1.out j hx)
          have hlen : m = (K (j + 1)).length := by rw [HE2.out]; exact HME.out
          clear hx hc hxb
          go_wp2
          go_roundw
          case rel => exact ⟨j + 1, gj, cj, by omega, by go_num, by rw [hlen], hid (by rw [← hlen, HE2.out]; exact HRI.out), HBL⟩
          case measure => simp [intOf]; omega
        · have hx3 : 1 < x := by omega
          have hxz : (x == 0) = false := by simp [hx1]
          have HE2 := hid (HS2.out j x hx hx3)
          have hlen : (K (j + 1)).length = m + 1 := by rw [HE2.out, List.length_append, ← HME.out]; rfl
          have hfs := HFS.out x hxb
          have HFQ := hid (HFM.out x hxb wr HBL.out)
          obtain ⟨d, hd⟩ : ∃ d, d = fmtB x := ⟨_, rfl⟩
          rw [← hd] at HE2 hfs HFQ
          obtain ⟨t, ht⟩ : ∃ t : ByteArray, t = ⟨#[90, 47]⟩ ++ d := ⟨_, rfl⟩
          have HIV := hid (show strVals (K (j + 1)) = strVals (K j) ++ [.string t] by rw [HE2.out, ht]; simp [strVals])
          have HTE := hid ht
          have hcat : ¬ (9223372036854775807 < 2 + d.size) := by omega
          clear hx hc hxb hd ht
          go_wp2_with fail
          refine HFQ.out.mono ?_
          rintro e w3 ⟨rfl, hb3⟩
          have ho3 := owns_below HRI.out hb3
          have hs3 := hb3.size
          go_wp2_with (first | (at_builtin; go_must (refine wpList_appN rfl _ _ 22 rfl w.heap.size 9 (.string ByteArray.empty) 16 Tryz.underlying22 infoStr rfl gj cj m (strVals (K j)) (ho3.alloc _) rfl w3.heap.size 0 1 1 [.string (⟨#[90, 47]⟩ ++ d)] rfl rfl (lit_cellsP rfl) (by intro u hu; simp at hu; subst hu; rfl) (by omega) (by unfold maxLen; omega) (by simp; omega) ?_); intro g3 c3 w4 hown3 hgr3 hor3 hlt3))
          rw [← HTE.out] at hown3
          have HO3 := hid hown3
          have HB3 := hid (((HBL.out.trans (hb3.mono hsz)).alloc (by omega) (.cells #[.string (⟨#[90, 47]⟩ ++ d)] 9)).grown hgr3 (by simp; omega) (by rintro k ⟨⟩; exact hgl.1))
          clear hown3 hgr3 hor3 hcell
          go_roundw
          case rel => exact ⟨j + 1, g3, c3, by omega, by go_num, by rw [hlen], hid (by rw [hlen, HIV.out]; exact HO3.out), HB3⟩
          case measure => simp [intOf]; omega
    · obtain rfl : j = n := by omega
      by_cases hm0 : m = 0
      · have HE0 := hid (show TX = ⟨#[48]⟩ from by rw [HE.out]; unfold grJ; rw [if_pos (by rw [← HME.out]; exact hm0)])
        subst hm0
        go_wp2
        go_ret
        exact ⟨by rw [HE0.out]; rfl, HBL.out⟩
      · have HE1 := hid (show TX = joinV (K j) ⟨#[43]⟩ from by rw [HE.out]; unfold grJ; rw [if_neg (by rw [← HME.out]; exact hm0)])
        have hmz : ((m : Int) == 0) = false := by simp; omega
        have HJQ := hid (implJoin_c w.heap.size gj cj m (K j) ⟨#[43]⟩ wr HME.out.symm HRI.out (by omega) HJL.out)
        rw [← HE1.out] at HJQ
        go_wp2_with fail
        refine HJQ.out.mono ?_
        rintro e w5 ⟨rfl, hb5⟩
        have HBX := hid (HBL.out.trans (hb5.mono HBL.out.size))
        clear hb5
        go_wp2
        go_ret
        exact ⟨rfl, HBX.out⟩
end Go.Proofs.YtpfeflhcbcgbfaaGreatDoor
