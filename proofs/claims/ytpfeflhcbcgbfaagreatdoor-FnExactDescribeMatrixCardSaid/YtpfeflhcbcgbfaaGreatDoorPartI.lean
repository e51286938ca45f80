/- Tables with some rows and columns only, the program's way. Conditions: a square table and lists of places in memory. -/
import Derived.Test.YtpfeflhcbcgbfaaGreatDoorMinI
import Derived.Test.YtpfeflhcbcgbfaaGreatDoorZero
import Derived.Test.YtpfeflhcbcgbfaaGreatDoorAppS
namespace Go.Proofs.YtpfeflhcbcgbfaaGreatDoor
open Go.RowKit
def natV (L : List Nat) : List Value := intVals (L.map fun (i : Nat) => ((i : Nat) : Int))
theorem natV_get {L : List Nat} {i x : Nat} (h : L[i]? = some x) : (natV L)[i]? = some (.int .i64 (x : Int)) := by simp [natV, intVals, h]
theorem natV_len (L : List Nat) : (natV L).length = L.length := by simp [natV, intVals]
def ptRow (t : List (List Int)) (C : List Nat) (i j : Nat) : List Int := (C.take j).map fun x => at2 t i x
def partRC (t : List (List Int)) (R C : List Nat) : List (List Int) := R.map fun i => C.map fun j => at2 t i j
def partTo (t : List (List Int)) (R C : List Nat) (i : Nat) : List (List Int) := (R.take i).map fun x => ptRow t C x C.length
theorem ptRow_zero (t : List (List Int)) (C : List Nat) (i : Nat) : ptRow t C i 0 = [] := by simp [ptRow]
theorem ptRow_succ {t : List (List Int)} {C : List Nat} {i j x : Nat} (h : C[j]? = some x) : intVals (ptRow t C i (j + 1)) = intVals (ptRow t C i j) ++ [.int .i64 (at2 t i x)] := by
  unfold ptRow
  rw [List.take_add_one, h]
  simp [intVals]
theorem ptRow_len {t : List (List Int)} {C : List Nat} {i j : Nat} (h : j ≤ C.length) : (ptRow t C i j).length = j := by simp [ptRow]; omega
theorem partTo_zero (t : List (List Int)) (R C : List Nat) : partTo t R C 0 = [] := by simp [partTo]
theorem partTo_succ {t : List (List Int)} {R C : List Nat} {i x : Nat} (h : R[i]? = some x) : partTo t R C (i + 1) = partTo t R C i ++ [ptRow t C x C.length] := by
  unfold partTo
  rw [List.take_add_one, h]
  simp
theorem partTo_len {t : List (List Int)} {R C : List Nat} {i : Nat} (h : i ≤ R.length) : (partTo t R C i).length = i := by simp [partTo]; omega
theorem partTo_all (t : List (List Int)) (R C : List Nat) : partTo t R C R.length = partRC t R C := by
  unfold partTo partRC ptRow
  rw [List.take_of_length_le (l := R) (Nat.le_refl _)]
  refine List.map_congr_left fun x _ => ?_
  rw [List.take_of_length_le (l := C) (Nat.le_refl _)]
theorem partRC_rect (t : List (List Int)) (R C : List Nat) : Rect (partRC t R C) R.length C.length := by
  refine ⟨by simp [partRC], fun r hr => ?_⟩
  unfold partRC at hr
  obtain ⟨i, _, rfl⟩ := List.mem_map.1 hr
  simp
theorem partRC_bd {B : Int} {t : List (List Int)} {n : Nat} {R C : List Nat} (hR : Rect t n n) (hb : Bd B t) (h1 : ∀ i ∈ R, i < n) (h2 : ∀ i ∈ C, i < n) : Bd B (partRC t R C) := by
  intro r hr x hx
  unfold partRC at hr
  obtain ⟨i, hi, rfl⟩ := List.mem_map.1 hr
  obtain ⟨j, hj, rfl⟩ := List.mem_map.1 hx
  exact hb.at hR (h1 i hi) (h2 j hj)
theorem lit_cellsP {w : World} {cs : Array Value} {T : TypeId} {us : List Value} (h : cs.toList = us) (j : Nat) (u : Value) (hj : us[j]? = some u) : (w.alloc (.cells cs T)).cell? ⟨w.heap.size, 0 + j, none⟩ = some u := by
  rw [Nat.zero_add, World.cell?_alloc_at _ _ _ _ rfl, ← hj, ← h]
  simp
end Go.Proofs.YtpfeflhcbcgbfaaGreatDoor
namespace Go.Proofs.YtpfeflhcbcgbfaaGreatDoor
open Go.RowKit
set_option maxHeartbeats 4000000 in
set_option maxRecDepth 100000 in
theorem impl_picked_c (a gc : Option Addr) (n c m cc : Nat) (t : List (List Int)) (C : List Nat) (w : World) (h : TabAt w a n t) (hR : Rect t n n) (hrc : RowAt w gc m (natV C)) (hCn : ∀ i ∈ C, i < n) (hm9 : C.length ≤ 9) :
    Calls Tryz.prog 141 #[.slice a n c, .slice gc m cc] w (GridPost (partRC t C C) w) := by
  have HRR := hid (fun (i : Nat) (hi : i < n) => rect_row h hR hi)
  have HCA := hid hrc
  have HCN := hid (fun (i x : Nat) (hx : C[i]? = some x) => hCn x (List.mem_of_getElem? hx))
  have hm : C.length = m := by have := hrc.len; rw [natV_len] at this; exact this
  have HRA := hid hrc
  have HRN := HCN
  have hk := hm
  have HTS := hid (fun (i x : Nat) (hx : C[i]? = some x) => partTo_succ (t := t) (C := C) hx)
  have HTL := hid (fun (i : Nat) (hi : i ≤ m) => partTo_len (t := t) (R := C) (C := C) (i := i) (by omega))
  have HPS := hid (fun (x j y : Nat) (hy : C[j]? = some y) => ptRow_succ (t := t) (i := x) hy)
  have HPL := hid (fun (x j : Nat) (hj : j ≤ m) => ptRow_len (t := t) (C := C) (i := x) (j := j) (by omega))
  have HPZ := hid (fun x => ptRow_zero t C x)
  have HEND := hid (show partTo t C C m = partRC t C C by rw [← hk]; exact partTo_all t C C)
  rw [hm] at HTS
  have HML := hid hm
  have HKL := hid hk
  have HTZ := hid (partTo_zero t C C)
  have hmm : m ≤ 9 := by omega
  have hkk : m ≤ 9 := by omega
  obtain ⟨TO, hTO⟩ : ∃ TO, TO = partTo t C C := ⟨_, rfl⟩
  rw [← hTO] at HTS HTL HEND HTZ
  obtain ⟨PR, hPR⟩ : ∃ PR, PR = ptRow t C := ⟨_, rfl⟩
  rw [← hPR] at HTS HPS HPL HPZ
  obtain ⟨FIN, hFIN⟩ : ∃ FIN, FIN = partRC t C C := ⟨_, rfl⟩
  rw [← hFIN] at HEND
  rw [← hFIN]
  have HO0 := hid (show (w.alloc (.cells #[] 39)).ownsRow w.heap.size 39 1 (.slice (some ⟨w.heap.size, 0, none⟩) 0 0) 0 [] from owns_lit3 #[] _ rfl (Nat.le_refl _) (by unfold maxLen; simp))
  have HT0 := hid (show TRows 3 (w.alloc (.cells #[] 39)) w.heap.size [] (TO 0) from by rw [HTZ.out]; exact TRows.nil _ _ _)
  have HB0 := hid (show Below w.heap.size w (w.alloc (.cells #[] 39)) from (Below.refl _ _).alloc (Nat.le_refl _) _)
  clear h hR hrc hCn hm hk hTO hPR hFIN hm9 
  go_enter Tryz.func141, Tryz.ntmps141
  go_wp2
  go_loopw [5, 14] (fun v i wr => ∃ (p go co : Nat) (vs : List Value), p ≤ m ∧ i = .int .i64 p ∧ v = .slice (some ⟨go, 0, none⟩) p co ∧ Hid (wr.ownsRow w.heap.size 39 1 (.slice (some ⟨go, 0, none⟩) p co) p vs) ∧ Hid (TRows 3 wr w.heap.size vs (TO p)) ∧ Hid (Below w.heap.size w wr)) (fun _ i _ => m - (intOf i).toNat)
  case atStart => exact ⟨0, w.heap.size, 0, [], by omega, rfl, rfl, HO0, HT0, HB0⟩
  case round =>
    clear HO0 HT0 HB0
    obtain ⟨p, go, co, vs, hp, rfl, rfl, HOO, HRS, HBL⟩ := hrel
    obtain ⟨wo, hwo⟩ : ∃ wo, wo = wr := ⟨_, rfl⟩
    subst hwo
    by_cases hltp : p < m
    · have hpi : (p : Int) < (m : Int) := by omega
      obtain ⟨x, hx⟩ := get_some (l := C) (n := p) (by rw [HKL.out]; exact hltp)
      have hxn := HRN.out p x hx
      obtain ⟨br, offr, rfl, hbr, hcr⟩ := HRA.out.at_ (by omega)
      have hcx0 := hcr p _ (natV_get hx)
      have hcx := (HBL.out.cell (p := ⟨br, offr + p, none⟩) hbr).trans hcx0
      have HTP := hid (HTS.out p x hx)
      have hszL := HBL.out.size
      have hbA : Below wo.heap.size wo (wo.alloc (.cells #[] 3)) := (Below.refl _ _).alloc (Nat.le_refl _) _
      have HRI := hid (show (wo.alloc (.cells #[] 3)).ownsRow wo.heap.size 3 1 (.slice (some ⟨wo.heap.size, 0, none⟩) 0 0) 0 (intVals (PR x 0)) from by rw [HPZ.out]; exact owns_lit3 (w := wo) (base := wo.heap.size) (e := 3) #[] [] rfl (Nat.le_refl _) (by unfold maxLen; simp))
      have HBA := hid hbA
      obtain ⟨S, hS⟩ : ∃ S, S = wo.heap.size := ⟨_, rfl⟩
      have HSE := hid hS
      clear hbA hx hcr
      go_wp2
      go_loopw [8, 21] (fun v i wq => ∃ (j gj cj : Nat), j ≤ m ∧ i = .int .i64 j ∧ v = .slice (some ⟨gj, 0, none⟩) j cj ∧ Hid (wq.ownsRow S 3 1 (.slice (some ⟨gj, 0, none⟩) j cj) j (intVals (PR x j))) ∧ Hid (Below S wo wq)) (fun _ i _ => m - (intOf i).toNat)
      case atStart => exact ⟨0, S, 0, by omega, rfl, by rw [HSE.out], by rw [HSE.out]; exact HRI, by rw [HSE.out]; exact HBA⟩
      case round =>
        clear HRI HBA hcx
        obtain ⟨j, gj, cj, hj, rfl, rfl, HRI, HBQ⟩ := hrel
        obtain ⟨wq, hwq⟩ : ∃ wq, wq = wr := ⟨_, rfl⟩
        subst hwq
        by_cases hltj : j < m
        · have hji : (j : Int) < (m : Int) := by omega
          obtain ⟨y, hy⟩ := get_some (l := C) (n := j) (by rw [HML.out]; exact hltj)
          have hyn := HCN.out j y hy
          obtain ⟨bc, offc, hgc, hbc, hcc⟩ := HCA.out.at_ (by omega)
          obtain ⟨b, off, a', c', r, rfl, hb, hc, hrow, hrx, hat⟩ := HRR.out x hxn
          obtain ⟨b2, off2, rfl, hb2, hc2⟩ := hrow.at_ (by omega)
          have hrl : r.length = n := by simpa [intVals] using hrow.len
          have hSw : w.heap.size ≤ S := by rw [HSE.out]; exact hszL
          have HBT := hid (fun (V : World) (hV : Below S wo V) => show Below w.heap.size w V from HBL.out.trans (hV.mono hSw))
          simp only [Option.some.injEq, Addr.mk.injEq, and_true] at hgc
          obtain ⟨rfl, rfl⟩ := hgc
          have HKK := hid (fun (V : World) (hV : Below S wo V) => show V.cell? ⟨br, offr + p, none⟩ = some (.int .i64 (x : Int)) ∧ V.cell? ⟨br, offr + j, none⟩ = some (.int .i64 (y : Int)) ∧ V.cell? ⟨b, off + x, none⟩ = some (.slice (some ⟨b2, off2, none⟩) n c') ∧ V.cell? ⟨b2, off2 + y, none⟩ = some (.int .i64 (at2 t x y)) from
            ⟨((HBT.out V hV).cell (p := ⟨br, offr + p, none⟩) hbr).trans hcx0, ((HBT.out V hV).cell (p := ⟨br, offr + j, none⟩) hbc).trans (hcc j _ (natV_get hy)), ((HBT.out V hV).cell (p := ⟨b, off + x, none⟩) hb).trans hc, ((HBT.out V hV).cell (p := ⟨b2, off2 + y, none⟩) hb2).trans ((hc2 y (.int .i64 (at0 r y)) (intVals_get (at0_some (by omega)))).trans (by rw [hat y]))⟩)
          obtain ⟨z0, z1, z2, z3⟩ := HKK.out _ HBQ.out
          have HPY := hid (HPS.out x j y hy)
          obtain ⟨u, hu⟩ : ∃ u, u = at2 t x y := ⟨_, rfl⟩
          rw [← hu] at HKK HPY z3
          have hxi : (x : Int) < (n : Int) := by omega
          have hyi : (y : Int) < (n : Int) := by omega
          have hszQ := HBQ.out.size
          have hszS : S ≤ wq.heap.size := by rw [HSE.out]; exact hszQ
          have hxi0 : (0 : Int) ≤ (x : Int) := by omega
          have hyi0 : (0 : Int) ≤ (y : Int) := by omega
          clear hu hc hc2 hcc hrow hrx hat hy
          have hgl := (HRI.out.lt gj rfl).1
          go_wp2_with (first | (at_builtin; go_must (refine wpList_appN rfl _ _ 39 rfl S 3 (.int .i64 0) 8 Tryz.underlying39 infoIntZ rfl gj cj j (intVals (PR x j)) (HRI.out.alloc _) rfl wq.heap.size 0 1 1 [.int .i64 u] rfl rfl (lit_cellsP rfl) (by intro u hu; simp at hu; subst hu; rfl) (by omega) (by unfold maxLen; omega) (by simp; omega) ?_); intro g3 c3 w3 hown3 hgr3 hor3 hlt3))
          have hb3 := (HBQ.out.alloc hszS (.cells #[.int .i64 u] 3)).grown hgr3 (by simp; omega) (by rintro k ⟨⟩; exact hgl)
          have HR3 := hid hown3
          have HB3 := hid hb3
          clear hown3 hgr3 hor3 hb3 z0 z1 z2 z3 HKK
          go_roundw
          case rel => exact ⟨j + 1, g3, c3, by omega, by go_num, rfl, hid (by rw [HPY.out]; exact HR3.out), HB3⟩
          case measure => simp [intOf]; omega
        · obtain rfl : j = m := by omega
          have hbS : Below wo.heap.size wo wq := by rw [← HSE.out]; exact HBQ.out
          have hgj : wo.heap.size ≤ gj := by rw [← HSE.out]; exact (HRI.out.lt gj rfl).1
          have ho2 := owns_below HOO.out hbS
          have hszQ := hbS.size
          have HR2 := hid (HRS.out.moreAt (r := PR x j) (c := cj) (below_none hbS) hgj (by rw [HPL.out x j (Nat.le_refl _)]; exact owns_base HRI.out (by rw [HSE.out]; exact hszL)))
          rw [HPL.out x j (Nat.le_refl _)] at HR2
          go_wp2_with (first | (at_builtin; go_must (refine wpList_appN rfl _ _ 31 rfl w.heap.size 39 (.slice none 0 0) 24 Tryz.underlying31 infoInts rfl go co p vs (ho2.alloc _) rfl wq.heap.size 0 1 1 [.slice (some ⟨gj, 0, none⟩) j cj] rfl rfl (lit_cellsP rfl) (by intro u hu; simp at hu; subst hu; rfl) (by omega) (by unfold maxLen; omega) (by simp; omega) ?_); intro g3 c3 w3 hown3 hgr3 hor3 hlt3))
          have HR3 := hid ((HR2.out.below ((Below.refl _ _).alloc (Nat.le_refl _) _)).kept (ho2.alloc _) (by decide) hgr3)
          have HO3 := hid hown3
          have HB3 := hid (((HBL.out.trans (hbS.mono hszL)).alloc (by omega) _).grown hgr3 (by simp; omega) (by rintro k ⟨⟩; exact (ho2.lt go rfl).1))
          clear hown3 hgr3 ho2 hbS
          go_roundw
          case rel => exact ⟨p + 1, g3, c3, _, by omega, by go_num, rfl, HO3, hid (by rw [HTP.out]; exact HR3.out), HB3⟩
          case measure => simp [intOf]; omega
    · obtain rfl : p = m := by omega
      have HF := hid (show TGrid 39 3 wo w.heap.size (.slice (some ⟨go, 0, none⟩) p co) FIN from ⟨vs, by rw [← HEND.out, HTL.out p (Nat.le_refl _)]; exact HOO.out, by rw [← HEND.out]; exact HRS.out⟩)
      go_wp2
      go_ret
      exact ⟨_, rfl, HF.out, HBL.out⟩
end Go.Proofs.YtpfeflhcbcgbfaaGreatDoor
