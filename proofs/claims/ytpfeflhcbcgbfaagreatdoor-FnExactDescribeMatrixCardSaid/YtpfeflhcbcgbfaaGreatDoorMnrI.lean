/- Greatest common divisors of minors, the program's. Conditions: a square table of small numbers. -/
import Derived.Test.YtpfeflhcbcgbfaaGreatDoorMnrP
import Derived.Test.YtpfeflhcbcgbfaaGreatDoorSetI
import Derived.Test.YtpfeflhcbcgbfaaGreatDoorPartI
import Derived.Test.YtpfeflhcbcgbfaaGreatDoorDet
namespace Go.Proofs.YtpfeflhcbcgbfaaGreatDoor
open Go.RowKit
set_option maxHeartbeats 8000000 in
set_option maxRecDepth 100000 in
theorem impl_minors_c (a : Option Addr) (n c k : Nat) (t : List (List Int)) (w : World) (h : TabAt w a n t) (hR : Rect t n n) (hn : 1 ≤ n ∧ n ≤ 4) (hb : Bd 100 t) (hk : k ≤ n) :
    Calls Tryz.prog 168 #[.slice a n c, .int .i64 k] w fun e w' => e = .returned (.int .i64 (mnrV t n k : Nat)) ∧ Below w.heap.size w w' := by
  have HSE := hid (fun (V : World) => impl_choices_c n k V hn.2 (by omega))
  have HRR := hid (fun (i : Nat) (hi : i < n) => rect_row h hR hi)
  have HDT := hid (fun (am : Option Addr) (cm : Nat) (R C : List Nat) (V : World) (hRn : ∀ i ∈ R, i < n) (hRl : R.length = k) (hCn : ∀ i ∈ C, i < n) (hCl : C.length = k) (ht : TabC V am k (partRC t R C)) => impl_determinant_c 100 (by omega) (by omega) k (by omega) (partRC t R C) am cm V ht (by have := partRC_rect t R C; rw [hRl, hCl] at this; exact this) (partRC_bd hR hb hRn hCn))
  have HGS := hid (fun (i : Nat) (hi : i ≤ (setsL n k (2 ^ n)).length) => gAll_sml hn.2 hk hR hb i hi)
  have HFS := hid (fun (i j : Nat) (hi : i < (setsL n k (2 ^ n)).length) (hj : j < (setsL n k (2 ^ n)).length) => mnF_sml hn.2 hk hR hb hi hj)
  have hpos := sets_pos n (by omega) k (by omega) hk
  have hle := setsL_le n k (2 ^ n)
  have hp4 := pow4 n hn.2
  have HLS := hid (fun (i : Nat) (hi : i < (setsL n k (2 ^ n)).length) => show ∃ L, (setsL n k (2 ^ n))[i]? = some L ∧ (setsI n k (2 ^ n))[i]? = some (intL L) ∧ L.length = k ∧ (∀ x ∈ L, x < n) from by
    obtain ⟨L, hL⟩ := get_some hi
    obtain ⟨h1, h2⟩ := setsL_mem (List.mem_of_getElem? hL)
    exact ⟨L, hL, setsI_get hL, h1, h2⟩)
  have HMF := hid (fun (i j : Nat) (R C : List Nat) (hi : (setsL n k (2 ^ n))[i]? = some R) (hj : (setsL n k (2 ^ n))[j]? = some C) => mnF_of (t := t) hi hj)
  obtain ⟨F, hF⟩ : ∃ F, F = mnF t n k := ⟨_, rfl⟩
  obtain ⟨Ls, hLs⟩ : ∃ Ls, Ls = setsL n k (2 ^ n) := ⟨_, rfl⟩
  obtain ⟨SI, hSI⟩ : ∃ SI, SI = setsI n k (2 ^ n) := ⟨_, rfl⟩
  obtain ⟨D, hD⟩ : ∃ D, D = Ls.length := ⟨_, rfl⟩
  have HSL := hid (show SI.length = D by rw [hSI, setsI_len, hD, hLs])
  have HA0 := hid (show gAll t n k 0 = 0 from rfl)
  have HAS := hid (fun i => show gAll t n k (i + 1) = gFold (F i) (gAll t n k i) D from by rw [hF, hD, hLs]; rfl)
  have HME := hid (show mnrV t n k = gAll t n k D from by rw [hD, hLs]; rfl)
  rw [← hLs, ← hD] at HGS HFS hpos hle HLS
  rw [← hLs] at HMF
  rw [← hF] at HFS HMF
  rw [← hSI] at HLS HSE
  obtain ⟨G, hG⟩ : ∃ G, G = gAll t n k := ⟨_, rfl⟩
  rw [← hG] at HA0 HAS HME HGS
  have HF0 := hid (fun (f : Nat → Int) (g : Nat) => show gFold f g 0 = g from rfl)
  have HFN := hid (fun (f : Nat → Int) (g j : Nat) => show gFold f g (j + 1) = Int.gcd ((gFold f g j : Nat) : Int) (f j) from rfl)
  have HFB := hid (fun (i j : Nat) (hi : i < D) (hj : j ≤ D) => gFold_sml (HGS.out i (by omega)) (fun j hj => HFS.out i j hi hj) j hj)
  have HTS := hid (fun (R C : List Nat) (hCl : C.length = k) (i x : Nat) (hx : R[i]? = some x) => show partTo t R C (i + 1) = partTo t R C i ++ [ptRow t C x k] from by rw [← hCl]; exact partTo_succ hx)
  have HTL := hid (fun (R C : List Nat) (hRl : R.length = k) (i : Nat) (hi : i ≤ k) => partTo_len (t := t) (R := R) (C := C) (i := i) (by omega))
  have HPS := hid (fun (C : List Nat) (x j y : Nat) (hy : C[j]? = some y) => ptRow_succ (t := t) (i := x) hy)
  have HPL := hid (fun (C : List Nat) (hCl : C.length = k) (x j : Nat) (hj : j ≤ k) => ptRow_len (t := t) (C := C) (i := x) (j := j) (by omega))
  have HPZ := hid (fun (C : List Nat) x => ptRow_zero t C x)
  have HTZ := hid (fun (R C : List Nat) => partTo_zero t R C)
  have HEND := hid (fun (R C : List Nat) (hRl : R.length = k) (hCl : C.length = k) => show partTo t R C k = partRC t R C ∧ Rect (partRC t R C) k k from ⟨by rw [← hRl]; exact partTo_all t R C, by have := partRC_rect t R C; rw [hRl, hCl] at this; exact this⟩)
  have hk4 : k ≤ 4 := by omega
  clear h hR hb hF hLs hSI hD hG
  go_enter Tryz.func168, Tryz.ntmps168
  go_wp2_with (go_at_call 139; refine (HSE.out _).mono ?_; rintro e w1 ⟨v1, rfl, ⟨vs1, ho1, hr1⟩, hb1⟩; obtain ⟨gs1, cs1, rfl, hsg1, hsz1⟩ := grid_form ⟨vs1, ho1, hr1⟩ (n := D) HSL.out hpos)
  have HROW1 := hid (fun (i : Nat) (hi : i < D) => show ∃ ax cx L, w1.cell? ⟨gs1, i, none⟩ = some (.slice ax k cx) ∧ RowAt w1 ax k (natV L) ∧ L.length = k ∧ (∀ x ∈ L, x < n) ∧ Ls[i]? = some L from by
    obtain ⟨L, h1, h2, h3, h4⟩ := HLS.out i hi
    obtain ⟨x, hx⟩ := get_some (l := vs1) (n := i) (by rw [hr1.len, HSL.out]; exact hi)
    have hrow := hr1.own i x (intL L) hx h2
    rw [intL_len, h3, intL_vals] at hrow
    obtain ⟨ax, cx, rfl, hrowx⟩ := owns_rowAt hrow (by omega)
    rw [HSL.out] at ho1
    exact ⟨ax, cx, L, (ho1.cellAt i (by omega)).trans hx, hrowx, h3, h4, h1⟩)
  have HB1 := hid hb1
  clear ho1 hr1 hb1
  go_loopw [5, 21] (fun g i wr => ∃ p : Nat, p ≤ D ∧ i = .int .i64 p ∧ g = .int .i64 (G p : Nat) ∧ Hid (Below w1.heap.size w1 wr)) (fun _ i _ => D - (intOf i).toNat)
  case atStart => exact ⟨0, by omega, rfl, by rw [HA0.out]; rfl, hid (Below.refl _ _)⟩
  case round =>
    obtain ⟨p, hp, rfl, rfl, HBO⟩ := hrel
    obtain ⟨wo, hwo⟩ : ∃ wo, wo = wr := ⟨_, rfl⟩
    subst hwo
    by_cases hlp : p < D
    · have hpi : (p : Int) < (D : Int) := by omega
      obtain ⟨ax, cx, R, hcx0, hrx, hRl, hRn, hRg⟩ := HROW1.out p hlp
      have HXX := hid (show RowAt w1 ax k (natV R) ∧ R.length = k ∧ (∀ x ∈ R, x < n) ∧ Ls[p]? = some R from ⟨hrx, hRl, hRn, hRg⟩)
      have hcx := (HBO.out.cell (p := ⟨gs1, p, none⟩) hsz1).trans hcx0
      have HFp := hid (fun j (hj : j ≤ D) => HFB.out p j hlp hj)
      have HASp := hid (HAS.out p)
      have HF0p := hid (HF0.out (F p) (G p))
      have HFNp := hid (fun j => HFN.out (F p) (G p) j)
      obtain ⟨Q, hQ⟩ : ∃ Q, Q = gFold (F p) (G p) := ⟨_, rfl⟩
      rw [← hQ] at HFp HASp HF0p HFNp
      clear hcx0 hrx hRl hRn hRg hQ
      go_wp2_with (go_at_call 139; refine (HSE.out _).mono ?_; rintro e w2 ⟨v2, rfl, ⟨vs2, ho2, hr2⟩, hb2⟩; obtain ⟨gs2, cs2, rfl, hsg2, hsz2⟩ := grid_form ⟨vs2, ho2, hr2⟩ (n := D) HSL.out hpos)
      have HROW2 := hid (fun (i : Nat) (hi : i < D) => show ∃ ax cx L, w2.cell? ⟨gs2, i, none⟩ = some (.slice ax k cx) ∧ RowAt w2 ax k (natV L) ∧ L.length = k ∧ (∀ x ∈ L, x < n) ∧ Ls[i]? = some L from by
        obtain ⟨L, h1, h2, h3, h4⟩ := HLS.out i hi
        obtain ⟨x, hx⟩ := get_some (l := vs2) (n := i) (by rw [hr2.len, HSL.out]; exact hi)
        have hrow := hr2.own i x (intL L) hx h2
        rw [intL_len, h3, intL_vals] at hrow
        obtain ⟨ax, cx, rfl, hrowx⟩ := owns_rowAt hrow (by omega)
        rw [HSL.out] at ho2
        exact ⟨ax, cx, L, (ho2.cellAt i (by omega)).trans hx, hrowx, h3, h4, h1⟩)
      have HB2 := hid (HBO.out.trans (hb2.mono HBO.out.size))
      clear ho2 hr2 hb2 hcx
      go_loopw [5, 30] (fun g i wr => ∃ j : Nat, j ≤ D ∧ i = .int .i64 j ∧ g = .int .i64 (Q j : Nat) ∧ Hid (Below w2.heap.size w2 wr)) (fun _ i _ => D - (intOf i).toNat)
      case atStart => exact ⟨0, by omega, rfl, by rw [HF0p.out], hid (Below.refl _ _)⟩
      case round =>
        obtain ⟨j, hj, rfl, rfl, HBP⟩ := hrel
        obtain ⟨wp, hwp⟩ : ∃ wp, wp = wr := ⟨_, rfl⟩
        subst hwp
        by_cases hlj : j < D
        · have hji : (j : Int) < (D : Int) := by omega
          obtain ⟨ay, cy, C, hcy0, hry, hCl, hCn, hCg⟩ := HROW2.out j hlj
          obtain ⟨hrx, hRl, hRn, hRg⟩ := HXX.out
          have hcy := (HBP.out.cell (p := ⟨gs2, j, none⟩) hsz2).trans hcy0
          have hsm := HFS.out p j hlp hlj
          have hgs := HFp.out j hj
          have HNX := hid (HFNp.out j)
          have hmf := HMF.out p j R C hRg hCg
          obtain ⟨d, hd⟩ : ∃ d, d = F p j := ⟨_, rfl⟩
          rw [← hd] at hmf hsm HNX
          obtain ⟨hend, hrect⟩ := HEND.out R C hRl hCl
          have HDQ := hid (fun (am : Option Addr) (cm : Nat) (V : World) (ht : TabC V am k (partTo t R C k)) => show Calls Tryz.prog 140 #[.slice am k cm] V fun e w' => e = .returned (.int .i64 d) ∧ Below V.heap.size V w' from by rw [hend] at ht; rw [hmf]; exact HDT.out am cm R C V hRn hRl hCn hCl ht)
          obtain ⟨g, hg⟩ : ∃ g, g = Q j := ⟨_, rfl⟩
          rw [← hg] at hgs HNX
          rw [← hg]
          have HGQ := hid (fun (V : World) => show Calls Tryz.prog 102 #[.int .i64 (g : Int), .int .i64 d] V fun e w' => e = .returned (.int .i64 (Q (j + 1) : Nat)) ∧ Below V.heap.size V w' from by rw [HNX.out]; exact impl_gcdZ_c (g : Int) d V (sml_nat hgs) hsm)
          have HRA := hid ((hrx.below HB2.out (Nat.le_refl _)).below HBP.out (Nat.le_refl _))
          have HCA := hid (hry.below HBP.out (Nat.le_refl _))
          have HRN := hid (fun (i x : Nat) (hx : R[i]? = some x) => hRn x (List.mem_of_getElem? hx))
          have HCN := hid (fun (i x : Nat) (hx : C[i]? = some x) => hCn x (List.mem_of_getElem? hx))
          have HBW := hid (show Below w.heap.size w wp from HB1.out.trans ((HB2.out.trans (HBP.out.mono HB2.out.size)).mono HB1.out.size))
          have HTSq := hid (fun i x hx => HTS.out R C hCl i x hx)
          have HTLq := hid (fun i hi => HTL.out R C hRl i hi)
          have HPSq := hid (fun x j y hy => HPS.out C x j y hy)
          have HPLq := hid (fun x j hj => HPL.out C hCl x j hj)
          have HPZq := hid (fun x => HPZ.out C x)
          have HTZq := hid (HTZ.out R C)
          have HRECT := hid (show Rect (partTo t R C k) k k from by rw [hend]; exact hrect)
          obtain ⟨TO, hTO⟩ : ∃ TO, TO = partTo t R C := ⟨_, rfl⟩
          rw [← hTO] at HTSq HTLq HTZq HRECT HDQ
          obtain ⟨PR, hPR⟩ : ∃ PR, PR = ptRow t C := ⟨_, rfl⟩
          rw [← hPR] at HTSq HPSq HPLq HPZq
          have HRL := hid hRl
          have HCL := hid hCl
          have HO0 := hid (show (wp.alloc (.cells #[] 39)).ownsRow wp.heap.size 39 1 (.slice (some ⟨wp.heap.size, 0, none⟩) 0 0) 0 [] from owns_lit3 #[] _ rfl (Nat.le_refl _) (by unfold maxLen; simp))
          have HT0 := hid (show TRows 3 (wp.alloc (.cells #[] 39)) wp.heap.size [] (TO 0) from by rw [HTZq.out]; exact TRows.nil _ _ _)
          have HB0 := hid (show Below wp.heap.size wp (wp.alloc (.cells #[] 39)) from (Below.refl _ _).alloc (Nat.le_refl _) _)
          clear hcy0 hry hCl hCn hCg hrx hRl hRn hRg hsm hgs hmf hd hg hend hrect hTO hPR
          go_wp2
          go_loopw [10, 37] (fun v i wr => ∃ (q go co : Nat) (vs : List Value), q ≤ k ∧ i = .int .i64 q ∧ v = .slice (some ⟨go, 0, none⟩) q co ∧ Hid (wr.ownsRow wp.heap.size 39 1 (.slice (some ⟨go, 0, none⟩) q co) q vs) ∧ Hid (TRows 3 wr wp.heap.size vs (TO q)) ∧ Hid (Below wp.heap.size wp wr)) (fun _ i _ => k - (intOf i).toNat)
          case atStart => exact ⟨0, wp.heap.size, 0, [], by omega, rfl, rfl, HO0, HT0, HB0⟩
          case round =>
            clear HO0 HT0 HB0 hcy
            obtain ⟨q, go, co, vs, hq, rfl, rfl, HOO, HRS, HBL⟩ := hrel
            obtain ⟨wq, hwq⟩ : ∃ wq, wq = wr := ⟨_, rfl⟩
            subst hwq
            by_cases hltp : q < k
            · have hqi : (q : Int) < (k : Int) := by omega
              obtain ⟨x, hx⟩ := get_some (l := R) (n := q) (by rw [HRL.out]; exact hltp)
              have hxn := HRN.out q x hx
              obtain ⟨br, offr, rfl, hbr, hcr⟩ := HRA.out.at_ (by omega)
              have hcx := (HBL.out.cell (p := ⟨br, offr + q, none⟩) hbr).trans (hcr q _ (natV_get hx))
              have HTP := hid (HTSq.out q x hx)
              have hszL := HBL.out.size
              have HRI := hid (show (wq.alloc (.cells #[] 3)).ownsRow wq.heap.size 3 1 (.slice (some ⟨wq.heap.size, 0, none⟩) 0 0) 0 (intVals (PR x 0)) from by rw [HPZq.out]; exact owns_lit3 (w := wq) (base := wq.heap.size) (e := 3) #[] [] rfl (Nat.le_refl _) (by unfold maxLen; simp))
              have HBA := hid (show Below wq.heap.size wq (wq.alloc (.cells #[] 3)) from (Below.refl _ _).alloc (Nat.le_refl _) _)
              obtain ⟨S, hS⟩ : ∃ S, S = wq.heap.size := ⟨_, rfl⟩
              have HSQ := hid hS
              clear hx hcr
              go_wp2
              go_loopw [13, 44] (fun v i wz => ∃ (z gj cj : Nat), z ≤ k ∧ i = .int .i64 z ∧ v = .slice (some ⟨gj, 0, none⟩) z cj ∧ Hid (wz.ownsRow S 3 1 (.slice (some ⟨gj, 0, none⟩) z cj) z (intVals (PR x z))) ∧ Hid (Below S wq wz)) (fun _ i _ => k - (intOf i).toNat)
              case atStart => exact ⟨0, S, 0, by omega, rfl, by rw [HSQ.out], by rw [HSQ.out]; exact HRI, by rw [HSQ.out]; exact HBA⟩
              case round =>
                clear HRI HBA hcx
                obtain ⟨z, gj, cj, hz, rfl, rfl, HRI, HBQ⟩ := hrel
                obtain ⟨wz, hwz⟩ : ∃ wz, wz = wr := ⟨_, rfl⟩
                subst hwz
                by_cases hltz : z < k
                · have hzi : (z : Int) < (k : Int) := by omega
                  obtain ⟨y, hy⟩ := get_some (l := C) (n := z) (by rw [HCL.out]; exact hltz)
                  have hyn := HCN.out z y hy
                  obtain ⟨bc, offc, rfl, hbc, hcc⟩ := HCA.out.at_ (by omega)
                  obtain ⟨b, off, a', c', r, rfl, hb, hc, hrow, hrx, hat⟩ := HRR.out x hxn
                  obtain ⟨b2, off2, rfl, hb2, hc2⟩ := hrow.at_ (by omega)
                  have hrl : r.length = n := by simpa [intVals] using hrow.len
                  have hbS : Below wq.heap.size wq wz := by rw [← HSQ.out]; exact HBQ.out
                  have hBP := HBL.out.trans (hbS.mono hszL)
                  have hBWz := HBW.out.trans (hBP.mono HBW.out.size)
                  have z0 := (hBP.cell (p := ⟨bc, offc + z, none⟩) hbc).trans (hcc z _ (natV_get hy))
                  have z1 := (hBWz.cell (p := ⟨b, off + x, none⟩) hb).trans hc
                  have z2 := ((hBWz.cell (p := ⟨b2, off2 + y, none⟩) hb2).trans ((hc2 y (.int .i64 (at0 r y)) (intVals_get (at0_some (by omega)))).trans (by rw [← hat y])))
                  have HPY := hid (HPSq.out x z y hy)
                  obtain ⟨u, hu⟩ : ∃ u, u = at2 t x y := ⟨_, rfl⟩
                  rw [← hu] at HPY z2
                  have hxi : (x : Int) < (n : Int) := by omega
                  have hyi : (y : Int) < (n : Int) := by omega
                  have hszQ := HBQ.out.size
                  have hszS : S ≤ wz.heap.size := by rw [HSQ.out]; exact hbS.size
                  have hxi0 : (0 : Int) ≤ (x : Int) := by omega
                  have hyi0 : (0 : Int) ≤ (y : Int) := by omega
                  have hwx : IntKind.i64.wrap (x : Int) = (x : Int) := IntWalk.i64_in _ (by omega)
                  have hwy : IntKind.i64.wrap (y : Int) = (y : Int) := IntWalk.i64_in _ (by omega)
                  clear hu hc hc2 hcc hrow hrx hat hy hbS hBP hBWz
                  go_wp2_with (first | (at_builtin; go_must (refine wpList_appN rfl _ _ 39 rfl S 3 (.int .i64 0) 8 Tryz.underlying39 infoIntZ rfl gj cj z (intVals (PR x z)) (HRI.out.alloc _) rfl wz.heap.size 0 1 1 [.int .i64 u] rfl rfl (lit_cellsP rfl) (by intro u hu; simp at hu; subst hu; rfl) (by omega) (by unfold maxLen; omega) (by simp; omega) ?_); intro g3 c3 w3 hown3 hgr3 hor3 hlt3))
                  have HR3 := hid hown3
                  have HB3 := hid ((HBQ.out.alloc hszS (.cells #[.int .i64 u] 3)).grown hgr3 (by simp; omega) (by rintro k ⟨⟩; exact (HRI.out.lt gj rfl).1))
                  clear hown3 hgr3 hor3 z0 z1 z2
                  go_roundw
                  case rel => exact ⟨z + 1, g3, c3, by omega, by go_num, rfl, hid (by rw [HPY.out]; exact HR3.out), HB3⟩
                  case measure => simp [intOf]; omega
                · obtain rfl : z = k := by omega
                  have hbS : Below wq.heap.size wq wz := by rw [← HSQ.out]; exact HBQ.out
                  have hgj : wq.heap.size ≤ gj := by rw [← HSQ.out]; exact (HRI.out.lt gj rfl).1
                  have ho2 := owns_below HOO.out hbS
                  have hszQ := hbS.size
                  have HR2 := hid (HRS.out.moreAt (r := PR x z) (c := cj) (below_none hbS) hgj (by rw [HPLq.out x z (Nat.le_refl _)]; exact owns_base HRI.out (by rw [HSQ.out]; exact hszL)))
                  rw [HPLq.out x z (Nat.le_refl _)] at HR2
                  go_wp2_with (first | (at_builtin; go_must (refine wpList_appN rfl _ _ 31 rfl wp.heap.size 39 (.slice none 0 0) 24 Tryz.underlying31 infoInts rfl go co q vs (ho2.alloc _) rfl wz.heap.size 0 1 1 [.slice (some ⟨gj, 0, none⟩) z cj] rfl rfl (lit_cellsP rfl) (by intro u hu; simp at hu; subst hu; rfl) (by omega) (by unfold maxLen; omega) (by simp; omega) ?_); intro g3 c3 w3 hown3 hgr3 hor3 hlt3))
                  have HR3 := hid ((HR2.out.below ((Below.refl _ _).alloc (Nat.le_refl _) _)).kept (ho2.alloc _) (by decide) hgr3)
                  have HO3 := hid hown3
                  have HB3 := hid (((HBL.out.trans (hbS.mono hszL)).alloc (by omega) _).grown hgr3 (by simp; omega) (by rintro k ⟨⟩; exact (ho2.lt go rfl).1))
                  clear hown3 hgr3 ho2 hbS
                  go_roundw
                  case rel => exact ⟨q + 1, g3, c3, _, by omega, by go_num, rfl, HO3, hid (by rw [HTP.out]; exact HR3.out), HB3⟩
                  case measure => simp [intOf]; omega
            · obtain rfl : q = k := by omega
              obtain ⟨am, cm, hev, _, htm⟩ := grid_tabC (T1 := 39) (T0 := 3) (w := wq) (base := wp.heap.size) (v := .slice (some ⟨go, 0, none⟩) q co) ⟨vs, by rw [HTLq.out q (Nat.le_refl _)]; exact HOO.out, HRS.out⟩ HRECT.out (by omega)
              simp only [Value.slice.injEq] at hev
              obtain ⟨rfl, -, rfl⟩ := hev
              have hbZ := HBP.out.trans (HBL.out.mono HBP.out.size)
              go_wp2_with (first | (go_at_call 140; refine (HDQ.out _ _ _ htm).mono ?_; rintro e w4 ⟨rfl, hb4⟩; have hbZ := hbZ.trans (hb4.mono hbZ.size)) | (go_at_call 102; refine (HGQ.out _).mono ?_; rintro e w5 ⟨rfl, hb5⟩; have hbZ := hbZ.trans (hb5.mono hbZ.size)))
              have HBX := hid hbZ
              clear hbZ
              go_roundw
              case rel => exact ⟨j + 1, by omega, by go_num, rfl, HBX⟩
              case measure => simp [intOf]; omega
        · obtain rfl : j = D := by omega
          have HBX := hid (HB2.out.trans (HBP.out.mono HB2.out.size))
          go_wp2
          go_roundw
          case rel => exact ⟨p + 1, by omega, by go_num, by rw [HASp.out], HBX⟩
          case measure => simp [intOf]; omega
    · obtain rfl : p = D := by omega
      go_wp2
      go_ret
      exact ⟨by rw [HME.out]; rfl, HB1.out.trans (HBO.out.mono HB1.out.size)⟩
end Go.Proofs.YtpfeflhcbcgbfaaGreatDoor
