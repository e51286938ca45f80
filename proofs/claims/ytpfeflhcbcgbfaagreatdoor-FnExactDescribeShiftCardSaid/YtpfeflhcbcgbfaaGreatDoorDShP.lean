/- A report of a shift: its text, and what it is made of. Plain laws. -/
import Derived.Test.YtpfeflhcbcgbfaaGreatDoorGraS
import Derived.Test.YtpfeflhcbcgbfaaGreatDoorNums
import Derived.Test.YtpfeflhcbcgbfaaGreatDoorIntsIn
import Derived.Test.YtpfeflhcbcgbfaaGreatDoorZero
import Derived.Test.YtpfeflhcbcgbfaaGreatDoorCntS
import Derived.Test.YtpfeflhcbcgbfaaGreatDoorShfO
namespace Go.Proofs.YtpfeflhcbcgbfaaGreatDoor
open Go.RowKit
set_option maxHeartbeats 8000000 in
set_option maxRecDepth 100000 in
theorem impl_GraphOf_c (k : Nat) (a : Option Addr) (n c : Nat) (ss : List ByteArray) (w : World) (hr : RowAt w a n (strVals ss)) (hok : okShB k ss = true) (hm : MaxW w) :
    Calls Tryz.prog 72 #[.agg #[.int .i64 k, .slice a n c]] w (GraPost ss k w) := by
  obtain ⟨hk, hl8, hsw, _⟩ := okSh_facts hok
  have hln : ss.length = n := by simpa [strVals] using hr.len
  have hs : ∀ t ∈ ss, t.size ≤ 1048576 := fun t ht => by
    obtain ⟨i, hi⟩ := List.mem_iff_getElem?.1 ht
    have := (hsw i t hi).2.2
    omega
  obtain ⟨W2, hW2⟩ : ∃ W2, W2 = w.alloc (.cells #[.int .i64 k, .slice a n c] 27) := ⟨_, rfl⟩
  have hB : Below w.heap.size w W2 := by rw [hW2]; exact (Below.refl _ _).alloc (Nat.le_refl _) _
  have hsz : W2.heap.size = w.heap.size + 1 := by rw [hW2]; simp
  have hbx : BoxC W2 w.heap.size #[.int .i64 k, .slice a n c] := by rw [hW2]; exact BoxC.new _ _ _
  have HST := hid (impl_StatesOf_c k a n c ss W2 (hr.below hB (Nat.le_refl _)) hok (max_below hm hB (Nat.le_refl _)))
  have HAV := hid (fun (V : World) (wd : ByteArray) (hwd : wd.size ≤ 1048576) (hV : Below W2.heap.size W2 V) => avoids_c (k : Int) a n c ss wd V (hr.below (hB.trans (hV.mono (by omega))) (Nat.le_refl _)) hwd (by omega) (max_below hm (hB.trans (hV.mono (by omega))) (Nat.le_refl _)))
  have HLEN := hid (stL_len (ss := ss) hk.2)
  have HBX := hid (fun (V : World) (hV : Below W2.heap.size W2 V) => show (V.cell? ⟨w.heap.size, 0, none⟩ = some (.int .i64 k) ∧ V.cell? ⟨w.heap.size, 1, none⟩ = some (.slice a n c)) ∧ Below w.heap.size w V from ⟨⟨(hbx.below hV).cell 0, (hbx.below hV).cell 1⟩, hB.trans (hV.mono (by omega))⟩)
  have HLK := hid (fun (t q : Nat) (h : (stL ss k)[t]? = some q) => stL_mem h)
  have HJ := hid (fun (i q : Nat) (hq : q < k ^ 2) => pair_join (i := i) hk hq)
  have HU1 := hid (fun (i : Nat) (hi : i < k ^ 2) (h : 1 < (wdB k 2 i).size) => pair_get1 hk hi h)
  have HV0 := hid (fun (i : Nat) (hi : i < k ^ 2) (h : 0 < (wdB k 2 i).size) => pair_get0 hk hi h)
  have HZ := hid (fun (N : Nat) (w : World) (hN : N ≤ 9) => impl_zeros_c N w (by omega))
  unfold StPost at HST
  unfold GridPost at HZ
  unfold GraPost gM
  obtain ⟨L, hL⟩ : ∃ L, L = stL ss k := ⟨_, rfl⟩
  rw [← hL] at HST HLEN HLK
  rw [← hL]
  obtain ⟨N, hN⟩ : ∃ N, N = L.length := ⟨_, rfl⟩
  rw [← hN] at HST HLEN
  rw [← hN]
  have HNL := hid hN
  have HGF := hid (fun (p q i j : Nat) (hp : L[p]? = some i) (hq : L[q]? = some j) => gF_get (ss := ss) (k := k) hp hq)
  obtain ⟨f, hf⟩ : ∃ f, f = gF ss k L := ⟨_, rfl⟩
  rw [← hf] at HGF
  rw [← hf]
  obtain ⟨D, hD⟩ : ∃ D, D = decide (N ≠ 0) := ⟨_, rfl⟩
  rw [← hD]
  have HB := hid hB
  have q0 := hbx.cell 0
  have q1 := hbx.cell 1
  clear hr hs hB hbx hok hsw hln hL hN hk hf hm
  go_enter Tryz.func72, Tryz.ntmps72
  go_wp2_with (rw [← hW2])
  first | rw [← hW2] | skip
  clear hW2
  refine HST.out.mono ?_
  rintro e w1 ⟨v, rfl, hown, hb1⟩
  have hN9 := HLEN.out
  obtain ⟨gw, cw, rfl, hrow⟩ := owns_rowAt hown (by omega)
  have HB1 := hid hb1
  have HRA := hid hrow
  clear hown hrow hb1 q0 q1 HST
  by_cases hN0 : N = 0
  · obtain rfl : D = false := by rw [hD, hN0]; rfl
    clear hD
    subst hN0
    go_wp2
    go_ret2
    exact ⟨_, rfl, fun h => absurd rfl h, (HBX.out _ HB1.out).2⟩
  · obtain rfl : D = true := by rw [hD, decide_eq_true hN0]
    clear hD
    have hNi : ((N : Int) == 0) = false := by simp; omega
    go_wp2_with fail
    refine (HZ.out N _ hN9).mono ?_
    rintro e w3 ⟨v, rfl, hgr, hb3⟩
    rw [← fill_zero N f] at hgr
    obtain ⟨gv, cv, rfl, hgv, _⟩ := grid_form hgr (fill_rect N f 0 0).len (by omega)
    have HG3 := hid hgr
    have HB3 := hid hb3
    clear hgr hb3 HZ
    go_wp2
    go_loopw [20] (fun i' wr => ∃ i : Nat, i ≤ N ∧ i' = .int .i64 i ∧ Hid (TGrid 39 3 wr w1.heap.size (.slice (some ⟨gv, 0, none⟩) N cv) (fillT N f i 0)) ∧ Hid (Below w1.heap.size w1 wr)) (fun i' _ => N - (intOf i').toNat)
    case atStart => exact ⟨0, by omega, rfl, HG3, HB3⟩
    case round =>
      clear HG3 HB3
      obtain ⟨i, hi, rfl, HG, HBL⟩ := hrel
      by_cases hlt : i < N
      · have hti : (i : Int) < (N : Int) := by omega
        obtain ⟨p, hp⟩ := get_some (l := L) (n := i) (by rw [← HNL.out]; exact hlt)
        have hpk := HLK.out i p hp
        have HFI := hid (fun (j q : Nat) (hq : L[j]? = some q) => HGF.out i j p q hp hq)
        have hus : (wdB k 2 p).size = 2 := wdB_size k 2 p
        have hu1 := HU1.out p hpk (by rw [hus]; omega)
        obtain ⟨b, off, rfl, hb, hc⟩ := HRA.out.at_ (by omega)
        have hci := hc i (.string (wdB k 2 p)) (by simp [strVals, hp])
        have HC := hid hc
        clear hc hp
        have hci0 := (HBL.out.cell (p := ⟨b, off + i, none⟩) hb).trans hci
        go_wp2
        clear hci0
        go_loopw [27] (fun j' wr => ∃ j : Nat, j ≤ N ∧ j' = .int .i64 j ∧ Hid (TGrid 39 3 wr w1.heap.size (.slice (some ⟨gv, 0, none⟩) N cv) (fillT N f i j)) ∧ Hid (Below w1.heap.size w1 wr)) (fun j' _ => N - (intOf j').toNat)
        case atStart => exact ⟨0, by omega, rfl, HG, HBL⟩
        case round =>
          clear HG HBL
          obtain ⟨j, hj, rfl, HG, HBL⟩ := hrel
          by_cases hltj : j < N
          · have htj : (j : Int) < (N : Int) := by omega
            obtain ⟨q, hq⟩ := get_some (l := L) (n := j) (by rw [← HNL.out]; exact hltj)
            have hqk := HLK.out j q hq
            have hvs : (wdB k 2 q).size = 2 := wdB_size k 2 q
            have hv0 := HV0.out q hqk (by rw [hvs]; omega)
            have hcelli := (HBL.out.cell (p := ⟨b, off + i, none⟩) hb).trans hci
            have hcellj := (HBL.out.cell (p := ⟨b, off + j, none⟩) hb).trans (HC.out j (.string (wdB k 2 q)) (by simp [strVals, hq]))
            obtain ⟨⟨s0, s1⟩, hbw⟩ := HBX.out _ (HB1.out.trans (HBL.out.mono HB1.out.size))
            have HPJ := hid (HJ.out p q hqk)
            have HFV := hid (HFI.out j q hq)
            have HEP := hid (show eP ss k p q = (decide (p % k = q / k) && avB ss (pairW k p ++ [letB (q % k)])) from rfl)
            obtain ⟨x, hx⟩ : ∃ x, x = p % k := ⟨_, rfl⟩
            obtain ⟨y, hy⟩ : ∃ y, y = q / k := ⟨_, rfl⟩
            obtain ⟨E, hE⟩ : ∃ E, E = eP ss k p q := ⟨_, rfl⟩
            have hu1' := hu1
            rw [← hE] at HEP HFV
            rw [← hx] at hu1' HEP
            rw [← hy] at hv0 HEP
            clear hE hq hx hy hbw hu1
            by_cases hxy : x = y
            · subst hxy
              have hes : ((wdB k 2 q).extract 1 2).size = 1 := by rw [ByteArray.size_extract, hvs]; rfl
              have huz : ¬ (9223372036854775807 < (wdB k 2 p).size + 1) := by omega
              have huz2 : ¬ (9223372036854775807 < (wdB k 2 p).size + ((wdB k 2 q).extract 1 2).size) := by omega
              have HEV := hid (show E = avB ss (pairW k p ++ [letB (q % k)]) from by rw [HEP.out, decide_eq_true rfl]; rfl)
              have hbZ : Below wr.heap.size wr wr.drew := (Below.refl _ _).drew
              have hszC := HBL.out.size
              have HCALL := hid (fun (V : World) (hV : Below wr.heap.size wr V) => show Calls Tryz.prog 78 #[.agg #[.int .i64 k, .slice a n c], .string (wdB k 2 p ++ (wdB k 2 q).extract 1 2)] V fun e w' => e = .returned (.bool E) ∧ Below V.heap.size V w' from by
                have := HAV.out V (wdB k 2 p ++ (wdB k 2 q).extract 1 2) (by rw [ByteArray.size_append, ByteArray.size_extract]; omega) ((HB1.out.trans (HBL.out.mono HB1.out.size)).trans (hV.mono (HB1.out.trans (HBL.out.mono HB1.out.size)).size))
                rw [HPJ.out, ← HEV.out] at this
                exact this)
              have HKK := hid (fun (V : World) (hV : Below wr.heap.size wr V) => show V.cell? ⟨w.heap.size, 0, none⟩ = some (.int .i64 k) ∧ V.cell? ⟨w.heap.size, 1, none⟩ = some (.slice a n c) ∧ Below wr.heap.size wr V from by
                obtain ⟨⟨z0, z1⟩, _⟩ := HBX.out V ((HB1.out.trans (HBL.out.mono HB1.out.size)).trans (hV.mono (HB1.out.trans (HBL.out.mono HB1.out.size)).size))
                exact ⟨z0, z1, hV⟩)
              clear HEP HEV
              go_wp2
              go_region_held3 (fun V => V.cell? ⟨w.heap.size, 0, none⟩ = some (.int .i64 k) ∧ V.cell? ⟨w.heap.size, 1, none⟩ = some (.slice a n c) ∧ Below wr.heap.size wr V)
                (first | with_reducible exact HKK.out _ hbZ)
                (first | (go_at_call 78; refine (HCALL.out _ hbZ).mono ?_; rintro e wq ⟨rfl, hb3⟩; have hbZ := hbZ.trans (hb3.mono hbZ.size)))
              all_goals
                have HBD := hid (HBL.out.trans (hbZ.mono hszC))
                have HGD := hid (HG.out.below hbZ)
                clear HCALL hcelli hcellj s0 s1 HKK hb3 hbZ
                cases E with
                | true =>
                  obtain ⟨g, cg, k1, k2, k3, k4, k5⟩ := grid_cell HGD.out (by decide) (fill_rect N f i j) hlt hltj
                  have HS := hid (k5 1)
                  have HFP := hid (fill_put (f := f) hlt hltj (u := 1) (by rw [HFV.out]; rfl))
                  clear k5
                  go_wp2
                  go_roundw
                  case rel => exact ⟨j + 1, by omega, by go_num, hid (by rw [← HFP.out]; exact HS.out.1), hid (HBD.out.grown HS.out.2 (HBD.out.size) (fun k hk => by injection hk with hk; omega))⟩
                  case measure => simp [intOf]; omega
                | false =>
                  have HFS := hid (fill_skip (N := N) (f := f) (i := i) (j := j) (by rw [HFV.out]; rfl))
                  go_wp2
                  go_roundw
                  case rel => exact ⟨j + 1, by omega, by go_num, hid (by rw [← HFS.out]; exact HGD.out), HBD⟩
                  case measure => simp [intOf]; omega
            · have HEP := hid (show E = false from by rw [HEP.out, decide_eq_false hxy]; rfl)
              have HFS := hid (fill_skip (N := N) (f := f) (i := i) (j := j) (by rw [HFV.out, HEP.out]; rfl))
              have h1 : ((97 + (x : Int)) == (97 + (y : Int))) = false := by simp; omega
              have h3 : decide ((x : Int) = (y : Int)) = false := decide_eq_false (by omega)
              go_wp2
              go_quiet (fail)
              have HBD := hid (below_drewN HBL.out nq)
              have HGD := hid (HG.out.below (below_drewN (Below.refl _ _) nq))
              go_wp2
              go_roundw
              case rel => exact ⟨j + 1, by omega, by go_num, hid (by rw [← HFS.out]; exact HGD.out), HBD⟩
              case measure => simp [intOf]; omega
          · obtain rfl : j = N := by omega
            have HFN := hid (fill_next j f i)
            go_wp2
            go_roundw
            case rel => exact ⟨i + 1, by omega, by go_num, hid (by rw [← HFN.out]; exact HG.out), HBL⟩
            case measure => simp [intOf]; omega
      · obtain rfl : i = N := by omega
        have HBW := hid (HBX.out _ (HB1.out.trans (HBL.out.mono HB1.out.size))).2
        have HGB := hid (HG.out.base (HBX.out _ HB1.out).2.size)
        go_wp2
        go_ret2
        exact ⟨_, rfl, fun _ => HGB.out, HBW.out⟩
end Go.Proofs.YtpfeflhcbcgbfaaGreatDoor
namespace Go.Proofs.YtpfeflhcbcgbfaaGreatDoor
open Go.RowKit

theorem ba_ext {a b : ByteArray} (h : a.data.toList = b.data.toList) : a = b := ByteArray.ext (Array.toList_inj.1 h)
theorem ba_app (a b : ByteArray) : (a ++ b).data.toList = a.data.toList ++ b.data.toList := by rw [ByteArray.data_append, Array.toList_append]
theorem line_c (B g c n : Nat) (xs : List ByteArray) (w : World) (hn : xs.length = n) (hown : w.ownsRow B 9 1 (.slice (some ⟨g, 0, none⟩) n c) n (strVals xs)) (hlim : n ≤ 1000000000) (hlen : (Lib.join (xs.map dlj) [32]).length ≤ 1000000000) :
    Calls Tryz.prog 31 #[.slice (some ⟨g, 0, none⟩) n c] w fun e w' => e = .returned (.string (joinV xs ⟨#[32]⟩)) ∧ Below w.heap.size w w' := by
  go_enter Tryz.func31, Tryz.ntmps31
  go_wp2_with fail
  refine (implJoin_c B g c n xs ⟨#[32]⟩ _ hn hown hlim hlen).mono ?_
  rintro e w1 ⟨rfl, hb⟩
  go_wp2
  go_ret
  exact ⟨rfl, hb⟩
def cntL (f : Nat → Int) (lo j : Nat) : List Int := (List.range' lo j).map f
theorem cntL_len (f : Nat → Int) (lo j : Nat) : (cntL f lo j).length = j := by simp [cntL]
theorem cntL_succ (f : Nat → Int) (lo j : Nat) : intVals (cntL f lo (j + 1)) = intVals (cntL f lo j) ++ [.int .i64 (f (lo + j))] := by
  unfold cntL
  rw [List.range'_1_concat, List.map_append]
  simp [intVals]
theorem cntL_mem {f : Nat → Int} {lo j : Nat} {x : Int} (h : x ∈ cntL f lo j) : ∃ i, lo ≤ i ∧ i < lo + j ∧ x = f i := by
  unfold cntL at h
  obtain ⟨i, hi, rfl⟩ := List.mem_map.1 h
  rw [List.mem_range'_1] at hi
  exact ⟨i, hi.1, hi.2, rfl⟩
set_option maxHeartbeats 2000000 in
set_option maxRecDepth 100000 in
theorem counted_c (lo hi m : Nat) (F : FuncId) (cap : Value) (f : Nat → Int) (w : World) (hm : hi + 1 = lo + m) (hh : hi ≤ 1000)
    (hF : ∀ (i : Nat) (V : World), lo ≤ i → i < lo + m → Below w.heap.size w V → Calls Tryz.prog F #[.int .i64 i, cap] V fun e w' => e = .returned (.int .i64 (f i)) ∧ Below V.heap.size V w')
    (hE : ∀ x w, (callFunc F #[x, cap]).run Tryz.prog w = .ok (.enter F #[x, cap]) w) (hf : ∀ i, lo ≤ i → i < lo + m → I64 (f i)) (ht : TabW w) :
    Calls Tryz.prog 26 #[.int .i64 lo, .int .i64 hi, .func (.func F) #[] #[cap]] w fun e w' => e = .returned (.string (joinV ((cntL f lo m).map fmtB) ⟨#[44]⟩)) ∧ Below w.heap.size w w' := by
  have HF := hid hF
  have HNB := hid (fun (a : Option Addr) (c : Nat) (V : World) (hV : Below w.heap.size w V) (hr : RowAt V a m (intVals (cntL f lo m))) => impl_numbers_c a m c (cntL f lo m) ⟨#[44]⟩ V hr (fun x hx => by obtain ⟨i, h1, h2, rfl⟩ := cntL_mem hx; exact hf i h1 h2) rfl (by omega) (tab_below ht hV (Nat.le_refl _)))
  obtain ⟨jv, hjv⟩ : ∃ jv, jv = joinV ((cntL f lo m).map fmtB) ⟨#[44]⟩ := ⟨_, rfl⟩
  rw [← hjv] at HNB
  rw [← hjv]
  have HS := hid (fun j => cntL_succ f lo j)
  have hb0 : Below w.heap.size w (w.alloc (.cells #[] 3)) := (Below.refl _ _).alloc (Nat.le_refl _) _
  have HO0 := hid (owns_lit3 (w := w) (base := w.heap.size) (e := 3) #[] [] rfl (Nat.le_refl _) (by unfold maxLen; simp))
  clear hF hf ht hjv
  go_enter Tryz.func26, Tryz.ntmps26
  go_wp2
  go_loopw [7, 8] (fun v i wr => ∃ j g c : Nat, j ≤ m ∧ i = .int .i64 ((lo + j : Nat) : Int) ∧ v = .slice (some ⟨g, 0, none⟩) j c ∧ wr.ownsRow w.heap.size 3 1 (.slice (some ⟨g, 0, none⟩) j c) j (intVals (cntL f lo j)) ∧ Below w.heap.size w wr) (fun _ i _ => lo + m - (intOf i).toNat)
  case atStart => exact ⟨0, w.heap.size, 0, by omega, rfl, rfl, HO0.out, hb0⟩
  case round =>
    clear HO0 hb0
    obtain ⟨j, g, c, hj, rfl, rfl, hown, hbel⟩ := hrel
    have HG := hid (hown.lt g rfl)
    obtain ⟨q, hq⟩ : ∃ q, q = lo + j := ⟨_, rfl⟩
    by_cases hlt : j < m
    · have hqi : (q : Int) ≤ (hi : Int) := by omega
      have HFJ := hid (HF.out (lo + j) wr (by omega) (by omega) hbel)
      have HSJ := hid (HS.out j)
      have HO := hid hown
      rw [← hq] at HFJ HSJ
      rw [← hq]
      obtain ⟨y, hy⟩ : ∃ y, y = f q := ⟨_, rfl⟩
      rw [← hy] at HFJ HSJ
      have HQ := hid hq
      clear hown hy hq
      go_wp2_with fail
      refine HFJ.out.mono ?_
      rintro e w1 ⟨rfl, hb1⟩
      have hU := (owns_below HO.out hb1).alloc (.cells #[.int .i64 y] 3)
      have hbel1 := hbel.trans (hb1.mono hbel.size)
      go_wp2_with (first | (at_builtin; go_must (refine wpList_appN rfl _ _ 39 rfl w.heap.size 3 (.int .i64 0) 8 Tryz.underlying39 infoIntZ rfl g c j (intVals (cntL f lo j)) hU rfl w1.heap.size 0 1 1 [.int .i64 y] rfl rfl (by intro q u hq; match q, hq with | 0, hq => simp at hq; subst hq; simp) (by intro u hu; simp at hu; subst hu; rfl) (by omega) (by unfold maxLen; omega) (by have := hbel1.size; simp; omega) ?_); intro g2 c3 w2 hown2 hgr2 hb2 hlt2'))
      have hb3 : Below w.heap.size w w2 := (hbel1.alloc hbel1.size _).grown hgr2 (by have := hbel1.size; simp; omega) (by rintro k ⟨⟩; exact HG.out.1)
      go_roundw
      case rel => exact ⟨j + 1, g2, c3, by omega, by have := HQ.out; go_num, rfl, by rw [HSJ.out]; exact hown2, hb3⟩
      case measure => have := HQ.out; simp [intOf]; omega
    · obtain rfl : j = m := by omega
      have hqi : ¬ ((q : Int) ≤ (hi : Int)) := by omega
      rw [← hq]
      obtain ⟨ar, cr, he, hrr⟩ := owns_rowAt hown (by omega)
      simp only [Value.slice.injEq, true_and] at he
      obtain ⟨rfl, rfl⟩ := he
      have HR := hid hrr
      clear hown hrr hq
      go_wp2_with fail
      refine (HNB.out _ _ _ hbel HR.out).mono ?_
      rintro e w3 ⟨rfl, hb3⟩
      have hb4 := hbel.trans (hb3.mono hbel.size)
      go_wp2
      go_ret
      exact ⟨rfl, hb4⟩
end Go.Proofs.YtpfeflhcbcgbfaaGreatDoor
namespace Go.Proofs.YtpfeflhcbcgbfaaGreatDoor
open Go.RowKit
noncomputable def conV (ss : List ByteArray) (k : Nat) : Bool := decide ((stL ss k).length ≠ 0) && noZero (reachOf (gM ss k) (stL ss k).length)
theorem gM_mat {ss : List ByteArray} {k : Nat} (hk : k ≤ 3) (h : (stL ss k).length ≠ 0) : isMat (gM ss k) = true := by
  have hR := gM_rect ss k
  have h9 := stL_len (ss := ss) hk
  unfold isMat
  rw [hR.len, Bool.and_eq_true, inB_iff, List.all_eq_true]
  refine ⟨fun r hr => ?_, by omega, by omega⟩
  unfold rowOk
  rw [Bool.and_eq_true, decide_eq_true_iff, List.all_eq_true]
  refine ⟨hR.row r hr, fun x hx => ?_⟩
  unfold gM fillT at hr
  obtain ⟨p, _, rfl⟩ := List.mem_map.1 hr
  obtain ⟨q, _, rfl⟩ := List.mem_map.1 hx
  have hb := gF_bit ss k (stL ss k) p q
  rw [inB_iff]
  split <;> omega
theorem gM_irr {ss : List ByteArray} {k : Nat} (hk : k ≤ 3) (h : (stL ss k).length ≠ 0) : isIrr (gM ss k) = noZero (reachOf (gM ss k) (stL ss k).length) := by
  unfold isIrr
  rw [gM_mat hk h, (gM_rect ss k).len, Bool.true_and]
set_option maxHeartbeats 1000000 in
theorem spec_IsConnected_c (k : Nat) (a : Option Addr) (n c : Nat) (ss : List ByteArray) (w : World) (hr : RowAt w a n (strVals ss)) (hok : okShB k ss = true) :
    Calls Tryz.prog 23 #[.agg #[.int .i64 k, .slice a n c]] w fun e w' => e = .returned (.bool (conV ss k)) ∧ Below w.heap.size w w' := by
  have hk := (okSh_facts hok).1
  have hB := (Below.refl w.heap.size w).alloc (Nat.le_refl _) (.cells #[.int .i64 k, .slice a n c] 27)
  have HG := hid (spec_GraphOf_c k a n c ss _ (hr.below hB (Nat.le_refl _)) hok)
  have HLEN := hid (stL_len (ss := ss) hk.2)
  have HIR := hid (fun (g : Option Addr) (c : Nat) (V : World) (h : TabAt V g (stL ss k).length (gM ss k)) => spec_IsIrreducible_c g (stL ss k).length c (gM ss k) V h)
  have HMI := hid (fun h => gM_irr (ss := ss) hk.2 h)
  have HRECT := hid (gM_rect ss k)
  have HB := hid hB
  unfold GraPost at HG
  unfold conV
  obtain ⟨M, hM⟩ : ∃ M, M = gM ss k := ⟨_, rfl⟩
  obtain ⟨N, hN⟩ : ∃ N, N = (stL ss k).length := ⟨_, rfl⟩
  rw [← hM, ← hN] at HG HRECT HIR HMI
  rw [← hN] at HLEN
  rw [← hM, ← hN]
  clear hB hr hok hk hN hM
  go_enter Tryz.func23, Tryz.ntmps23
  go_wp2_with fail
  refine HG.out.mono ?_
  rintro e w3 ⟨v, rfl, hgr, hb3⟩
  have HB3 := hid (HB.out.trans (hb3.mono HB.out.size))
  by_cases hN0 : N = 0
  · have hdN : decide (N ≠ 0) = false := by rw [hN0]; rfl
    rw [hdN]
    go_wp2
    go_ret
    exact ⟨ret_bool (by rw [hdN]; rfl), HB3.out⟩
  · have hdN : decide (N ≠ 0) = true := decide_eq_true hN0
    rw [hdN]
    have hN9 := HLEN.out
    have hTG := hgr hN0
    obtain ⟨gv, cv, rfl, _, _⟩ := grid_form hTG HRECT.out.len (by omega)
    have HIM := hid (HIR.out _ cv _ (grid_tab hTG HRECT.out (by omega) (by omega)))
    have HMI1 := HMI.out hN0
    rw [HMI1] at HIM
    clear hgr hTG HIR HG HMI HMI1 hb3
    go_wp2_with fail
    refine HIM.out.mono ?_
    rintro e w5 ⟨rfl, hb5⟩
    have HB5 := hid (HB3.out.trans (hb5.mono HB3.out.size))
    go_wp2
    go_ret
    exact ⟨ret_bool (by rw [hdN]; rfl), HB5.out⟩
set_option maxHeartbeats 1000000 in
theorem impl_IsConnected_c (k : Nat) (a : Option Addr) (n c : Nat) (ss : List ByteArray) (w : World) (hr : RowAt w a n (strVals ss)) (hok : okShB k ss = true) (hm : MaxW w) :
    Calls Tryz.prog 35 #[.agg #[.int .i64 k, .slice a n c]] w fun e w' => e = .returned (.bool (conV ss k)) ∧ Below w.heap.size w w' := by
  have hk := (okSh_facts hok).1
  have hB := (Below.refl w.heap.size w).alloc (Nat.le_refl _) (.cells #[.int .i64 k, .slice a n c] 27)
  have HG := hid (impl_GraphOf_c k a n c ss _ (hr.below hB (Nat.le_refl _)) hok (max_below hm hB (Nat.le_refl _)))
  have HLEN := hid (stL_len (ss := ss) hk.2)
  have HRECT := hid (gM_rect ss k)
  have HIR := hid (fun (g : Option Addr) (c : Nat) (V : World) (h : TabAt V g (stL ss k).length (gM ss k)) (h1 : 1 ≤ (stL ss k).length) => impl_isIrreducible_c g (stL ss k).length c (gM ss k) V h (gM_rect ss k) h1 (stL_len hk.2) (fun p q hp hq => (gM_bit ss k p q hp hq).1))
  have HB := hid hB
  unfold GraPost at HG
  unfold conV
  obtain ⟨M, hM⟩ : ∃ M, M = gM ss k := ⟨_, rfl⟩
  obtain ⟨N, hN⟩ : ∃ N, N = (stL ss k).length := ⟨_, rfl⟩
  rw [← hM, ← hN] at HG HRECT HIR
  rw [← hN] at HLEN
  rw [← hM, ← hN]
  clear hB hr hok hk hN hM hm
  go_enter Tryz.func35, Tryz.ntmps35
  go_wp2_with fail
  refine HG.out.mono ?_
  rintro e w3 ⟨v, rfl, hgr, hb3⟩
  have HB3 := hid (HB.out.trans (hb3.mono HB.out.size))
  by_cases hN0 : N = 0
  · have hdN : decide (N ≠ 0) = false := by rw [hN0]; rfl
    rw [hdN]
    go_wp2
    go_ret
    exact ⟨ret_bool (by rw [hdN]; rfl), HB3.out⟩
  · have hdN : decide (N ≠ 0) = true := decide_eq_true hN0
    rw [hdN]
    have hN9 := HLEN.out
    have hTG := hgr hN0
    obtain ⟨gv, cv, rfl, _, _⟩ := grid_form hTG HRECT.out.len (by omega)
    have HIM := hid (HIR.out _ cv _ (grid_tab hTG HRECT.out (by omega) (by omega)) (by omega))
    clear hgr hTG HIR HG hb3
    go_wp2_with fail
    refine HIM.out.mono ?_
    rintro e w5 ⟨rfl, hb5⟩
    have HB5 := hid (HB3.out.trans (hb5.mono HB3.out.size))
    go_wp2
    go_ret
    exact ⟨ret_bool (by rw [hdN]; rfl), HB5.out⟩
end Go.Proofs.YtpfeflhcbcgbfaaGreatDoor
namespace Go.Proofs.YtpfeflhcbcgbfaaGreatDoor
open Go.RowKit

def dotB (x : ByteArray) : ByteArray := if x.size = 0 then ⟨#[46]⟩ else x
theorem dotB_size (x : ByteArray) : (dotB x).size ≤ x.size + 1 := by
  unfold dotB
  split
  · show 1 ≤ _; omega
  · omega
def wtxt (xs : List ByteArray) : ByteArray := if xs.length = 0 then ⟨#[45]⟩ else joinV (xs.map dotB) ⟨#[32]⟩
theorem dots_len (xs : List ByteArray) : Lib.lens ((xs.map dotB).map dlj) ≤ xs.length + sizes xs := by
  induction xs with
  | nil => simp [Lib.lens]
  | cons x xs ih =>
    have h := dotB_size x
    simp only [Lib.lens, List.map_cons, List.sum_cons, List.length_cons, sizes, dlj] at ih ⊢
    rw [size_list]
    omega
theorem join_len (L : List (List UInt8)) (sep : List UInt8) : (Lib.join L sep).length ≤ sep.length * L.length + Lib.lens L := by
  match L with
  | [] => simp [Lib.join_nil]
  | x :: r =>
    rw [Lib.join_cons, List.length_append, Lib.joinTail_length]
    have : sep.length * (r.length + 1) = sep.length * r.length + sep.length := Nat.mul_succ _ _
    simp only [Lib.lens, List.map_cons, List.sum_cons, List.length_cons]
    omega
theorem words_len (xs : List ByteArray) : (Lib.join ((xs.map dotB).map dlj) [32]).length ≤ 2 * xs.length + sizes xs := by
  have h1 := join_len ((xs.map dotB).map dlj) [32]
  have h2 := dots_len xs
  simp at h1
  simp at h2
  simp
  omega
def dots (xs : List ByteArray) (j : Nat) : List ByteArray := (xs.take j).map dotB
theorem dots_succ {xs : List ByteArray} {j : Nat} {x : ByteArray} (h : xs[j]? = some x) : strVals (dots xs (j + 1)) = strVals (dots xs j) ++ [.string (dotB x)] := by
  simp [dots, strVals, List.take_add_one, h]
end Go.Proofs.YtpfeflhcbcgbfaaGreatDoor
namespace Go.Proofs.YtpfeflhcbcgbfaaGreatDoor
open Go.RowKit
noncomputable def cwI (ss : List ByteArray) (k n : Nat) : Int := cwV ss k n
def ocI (ss : List ByteArray) (k n : Nat) : Int := (((List.range (k ^ n)).filter (oV ss k n)).length : Int)
theorem ocI_bd {ss : List ByteArray} {k n : Nat} (hk : k ≤ 3) (hn : n ≤ 6) : 0 ≤ ocI ss k n ∧ ocI ss k n ≤ 6561 := by
  unfold ocI
  have h1 := List.length_filter_le (oV ss k n) (List.range (k ^ n))
  rw [List.length_range] at h1
  have h2 := pow_small hk (show n ≤ 8 by omega)
  exact ⟨by omega, by omega⟩
def yesB (b : Bool) : ByteArray := if b then ⟨#[121, 101, 115]⟩ else ⟨#[110, 111]⟩
theorem yesB_size (b : Bool) : (yesB b).size ≤ 3 := by cases b <;> decide
noncomputable def wdT (ss : List ByteArray) (k : Nat) : ByteArray := joinV ((cntL (cwI ss k) 0 7).map fmtB) ⟨#[44]⟩
def orT (ss : List ByteArray) (k : Nat) : ByteArray := joinV ((cntL (ocI ss k) 1 5).map fmtB) ⟨#[44]⟩
def z_words : ByteArray := ⟨#[119, 111, 114, 100, 115]⟩
def z_states : ByteArray := ⟨#[115, 116, 97, 116, 101, 115]⟩
def z_conn : ByteArray := ⟨#[99, 111, 110, 110, 101, 99, 116, 101, 100]⟩
def z_orb : ByteArray := ⟨#[111, 114, 98, 105, 116, 115]⟩
def dshL (a b c d : ByteArray) : List ByteArray := [z_words, a, z_states, b, z_conn, c, z_orb, d]
def dshJ (a b c d : ByteArray) : ByteArray := joinV (dshL a b c d) ⟨#[32]⟩
theorem ba_extZ {a b : ByteArray} (h : a.data.toList = b.data.toList) : a = b := ByteArray.ext (Array.toList_inj.1 h)
theorem ba_appZ (a b : ByteArray) : (a ++ b).data.toList = a.data.toList ++ b.data.toList := by rw [ByteArray.data_append, Array.toList_append]
theorem dshJ_eq (a b c d : ByteArray) : dshJ a b c d = ⟨#[119, 111, 114, 100, 115, 32]⟩ ++ a ++ ⟨#[32, 115, 116, 97, 116, 101, 115, 32]⟩ ++ b ++ ⟨#[32, 99, 111, 110, 110, 101, 99, 116, 101, 100, 32]⟩ ++ c ++ ⟨#[32, 111, 114, 98, 105, 116, 115, 32]⟩ ++ d := by
  apply ba_extZ
  simp [dshJ, dshL, joinV, Lib.join, dlj, ba_appZ, z_words, z_states, z_conn, z_orb]
theorem fmtB_leZ {x : Int} (h : I64 x) : (fmtB x).size ≤ 21 := by
  have := itoa_le h
  have h3 : (fmtB x).size = (Lib.itoa x).length := by simp [fmtB, ByteArray.size]
  omega
theorem joinV_sizeZ (xs : List ByteArray) (sep : ByteArray) : (joinV xs sep).size = (Lib.join (xs.map dlj) sep.data.toList).length := by simp [joinV, ByteArray.size]
theorem cwI_i64 {ss : List ByteArray} {k n : Nat} (hk : k ≤ 3) (hn : n ≤ 6) : I64 (cwI ss k n) := by
  have := cwV_bd (ss := ss) hk hn
  unfold cwI
  exact ⟨by omega, by omega⟩
theorem ocI_i64 {ss : List ByteArray} {k n : Nat} (hk : k ≤ 3) (hn : n ≤ 6) : I64 (ocI ss k n) := by
  have := ocI_bd (ss := ss) hk hn
  exact ⟨by omega, by omega⟩
theorem wdT_size {ss : List ByteArray} {k : Nat} (hk : k ≤ 3) : (wdT ss k).size ≤ 1000 := by
  unfold wdT
  rw [joinV_sizeZ]
  have := nums_join (xs := cntL (cwI ss k) 0 7) (fun x hx => by obtain ⟨i, h1, h2, rfl⟩ := cntL_mem hx; exact cwI_i64 hk (by omega)) (sep := ⟨#[44]⟩) rfl
  rw [cntL_len] at this
  omega
theorem orT_size {ss : List ByteArray} {k : Nat} (hk : k ≤ 3) : (orT ss k).size ≤ 1000 := by
  unfold orT
  rw [joinV_sizeZ]
  have := nums_join (xs := cntL (ocI ss k) 1 5) (fun x hx => by obtain ⟨i, h1, h2, rfl⟩ := cntL_mem hx; exact ocI_i64 hk (by omega)) (sep := ⟨#[44]⟩) rfl
  rw [cntL_len] at this
  omega
theorem numsT_cntZ (f : Nat → Int) (lo m : Nat) (hm : 0 < m) : numsT (cntL f lo m) = joinV ((cntL f lo m).map fmtB) ⟨#[44]⟩ := by
  unfold numsT
  rw [cntL_len, if_neg (by omega)]
noncomputable def dshT (ss : List ByteArray) (k : Nat) : ByteArray := dshJ (wdT ss k) (fmtB ((stL ss k).length : Int)) (yesB (conV ss k)) (orT ss k)
set_option maxHeartbeats 400000 in
theorem l35Yes_c (b : Bool) (w : World) : Calls Tryz.prog 22 #[.bool b] w fun e w' => e = .returned (.string (yesB b)) ∧ w = w' := by
  cases b <;> {
    go_enter Tryz.func22, Tryz.ntmps22
    go_wp2
    go_ret
    exact ⟨rfl, rfl⟩ }
set_option maxHeartbeats 400000 in
theorem yes_c (b : Bool) (w : World) : Calls Tryz.prog 34 #[.bool b] w fun e w' => e = .returned (.string (yesB b)) ∧ w = w' := by
  cases b <;> {
    go_enter Tryz.func34, Tryz.ntmps34
    go_wp2
    go_ret
    exact ⟨rfl, rfl⟩ }
end Go.Proofs.YtpfeflhcbcgbfaaGreatDoor
