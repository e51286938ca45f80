/- The periods of rings: both functions. No condition but the sizes. -/
import Derived.Sort.OwnSortedInts
import Derived.Test.YtccknookhkahbaaGreatIns
import Derived.Test.YtccknookhkahbaaGreatShelf
import Derived.Test.YtccknookhkahbaaGreatHasInt
import Derived.Test.YtccknookhkahbaaGreatAppN
import Derived.Test.YtccknookhkahbaaGreatPerR
import Derived.Test.YtccknookhkahbaaGreatAddI
namespace Go.Proofs.YtccknookhkahbaaGreat
open Go.RowKit Go.Sort Go.Lib

theorem sortI_c (B g cap n : Nat) (zs : List Int) (w : World) (hn : zs.length = n) (hown : w.ownsRow B 3 1 (.slice (some ⟨g, 0, none⟩) n cap) n (intVals zs)) (hlen : n ≤ 1000000) :
    Calls Tryz.prog 39 #[.slice (some ⟨g, 0, none⟩) n cap] w fun e w' => e = .returned (.tuple #[]) ∧ w'.ownsRow B 3 1 (.slice (some ⟨g, 0, none⟩) n cap) n (intVals (zs.mergeSort fun x y => decide (x ≤ y))) ∧ w.grownBy w' (some g) := by
  subst hn
  obtain ⟨cur, hb, hg, h1, h2, h3, h4⟩ := owns_block hown
  refine (Tryz.slices_Sort_int g 0 cap zs w (holds_of_blockI hg h4) (Array.getElem?_eq_some_iff.1 hg).1 (by omega)).mono ?_
  rintro e w' ⟨rfl, q, os, rfl⟩
  exact ⟨rfl, ownsRow_sortedI (by simp) hb hg h1 h2 h3, grownBy_sortedI _⟩
theorem compactI_c (B g cap n : Nat) (zs : List Int) (w : World) (hn : zs.length = n) (hown : w.ownsRow B 3 1 (.slice (some ⟨g, 0, none⟩) n cap) n (intVals zs)) (hlen : n ≤ 1000000) :
    Calls Tryz.prog 40 #[.slice (some ⟨g, 0, none⟩) n cap] w fun e w' => e = .returned (.slice (some ⟨g, 0, none⟩) (compact zs).length cap) ∧ w'.ownsRow B 3 1 (.slice (some ⟨g, 0, none⟩) (compact zs).length cap) (compact zs).length (intVals (compact zs)) ∧ w.grownBy w' (some g) := by
  subst hn
  obtain ⟨cur, hb, hg, h1, h2, h3, h4⟩ := owns_block hown
  have hle := compact_length_le zs
  refine (Tryz.slices_Compact_int g 0 cap zs w (holds_of_blockI hg h4) (by omega) h1).mono ?_
  rintro e w' ⟨rfl, q, rfl⟩
  have ho := ownsRow_sortedI (n := q) (os := #[]) (ss := zs) (ts := compact zs ++ List.replicate (zs.length - (compact zs).length) 0) (by simp; omega) hb hg h1 h2 h3
  have hgr := grownBy_sortedI (w := w) (g := g) (n := q) (os := #[]) (compact zs ++ List.replicate (zs.length - (compact zs).length) 0).toArray
  rw [grow_empty] at ho hgr
  rw [List.map_append] at ho
  exact ⟨rfl, owns_cut ho (by simp [intVals]), hgr⟩
end Go.Proofs.YtccknookhkahbaaGreat
namespace Go.Proofs.YtccknookhkahbaaGreat
open Go.RowKit

theorem intVals_snocR (xs : List Int) (x : Int) : intVals (xs ++ [x]) = intVals xs ++ [.int .i64 x] := by simp [intVals]
def PersPost (o : ByteArray) (n m : Nat) (w : World) (e : Ending) (w' : World) : Prop :=
  ∃ v, e = .returned v ∧ w'.ownsRow w.heap.size 3 1 v (distinctI (tps o n m (2 ^ m))).length (intVals (distinctI (tps o n m (2 ^ m)))) ∧ Below w.heap.size w w'
def NonePost (w : World) (e : Ending) (w' : World) : Prop := ∃ v, e = .returned v ∧ w'.ownsRow w.heap.size 3 1 v 0 (intVals []) ∧ Below w.heap.size w w'
set_option maxHeartbeats 2000000 in
theorem spec_RingPeriods_no (k n : Int) (o : ByteArray) (m : Int) (w : World) (ho : o.size ≤ maxLen) (h : fitsB k n o m = false) :
    Calls Tryz.prog 16 #[.agg #[.int .i64 k, .int .i64 n, .string o], .int .i64 m] w (NonePost w) := by
  have HN := hid (fun w => spec_l33Fits_c k n o m w ho)
  rw [h] at HN
  clear h
  unfold NonePost
  go_enter Tryz.func16, Tryz.ntmps16
  go_wp2_with fail
  refine (HN.out _).mono ?_
  rintro e w1 ⟨rfl, hb1⟩
  have hb : Below w.heap.size w w1 := (((Below.refl _ _).alloc (Nat.le_refl _) _).alloc (by simp) _).trans (hb1.mono (by simp; omega))
  have hown : w1.ownsRow w.heap.size 3 1 (.slice (some ⟨w.heap.size + 1, 0, none⟩) 0 0) 0 [] := owns_base (base := w.heap.size + 1) (owns_below (by simpa using (owns_nil (w.alloc (.cells #[.int .i64 k, .int .i64 n, .string o] 25)) 3)) hb1) (by omega)
  go_wp2
  go_ret
  exact ⟨_, rfl, hown, hb⟩
set_option maxHeartbeats 2000000 in
theorem impl_RingPeriods_no (k n : Int) (o : ByteArray) (m : Int) (w : World) (ho : o.size ≤ maxLen) (h : fitsB k n o m = false) :
    Calls Tryz.prog 12 #[.agg #[.int .i64 k, .int .i64 n, .string o], .int .i64 m] w (NonePost w) := by
  have HN := hid (fun w => impl_areRings_c k n o m w ho)
  rw [h] at HN
  clear h
  unfold NonePost
  go_enter Tryz.func12, Tryz.ntmps12
  go_wp2_with fail
  refine (HN.out _).mono ?_
  rintro e w1 ⟨rfl, hb1⟩
  go_wp2
  go_ret
  exact ⟨_, rfl, ⟨rfl, Or.inl ⟨rfl, rfl⟩⟩, ((Below.refl _ _).alloc (Nat.le_refl _) _).trans (hb1.mono (by simp))⟩
set_option maxHeartbeats 2000000 in
set_option maxRecDepth 100000 in
theorem spec_RingPeriods_yes (n m : Nat) (o : ByteArray) (w : World) (ho : o.size ≤ maxLen) (h : RFit o n m) (hf : fitsB 2 n o m = true) (HTl : Tails o n m) :
    Calls Tryz.prog 16 #[.agg #[.int .i64 2, .int .i64 n, .string o], .int .i64 m] w (PersPost o n m w) := by
  have hps := pow_small (k := 2) (by omega) h.m8
  have HN := hid (fun w => spec_l33Fits_c 2 n o m w ho)
  rw [hf] at HN
  have HX := hid (fun w => spec_l33Next_c n m o w ho h)
  have HK := hid (fun (a : Option Addr) (c : Nat) (w : World) (hr : RowAt w a (2 ^ m) (intVals (nexts o n m (2 ^ m)))) => spec_l33Kept_c (2 ^ m) (nextB o n m) a c w (next_lt h) hps hr)
  have HPR := hid (fun (K : Nat → Bool) (h1 : ∀ i, i < 2 ^ m → AgainN (nextB o n m) i → K i = true) (h2 : ∀ i, i < 2 ^ m → K i = true → hitK (nextB o n m) K (2 ^ m) i = true) => periods_law h HTl h1 h2)
  have HKA := hid (fun (K : Nat → Bool) (h2 : ∀ i, i < 2 ^ m → K i = true → hitK (nextB o n m) K (2 ^ m) i = true) (i : Nat) (hi : i < 2 ^ m) (hk : K i = true) => perOf_spec (keep_again (next_lt h) h2 hi hk))
  have HLT := hid (next_lt h)
  unfold NextsPost at HX
  unfold KeptSPost at HK
  unfold PersPost
  obtain ⟨R, hR⟩ : ∃ R, R = distinctI (tps o n m (2 ^ m)) := ⟨_, rfl⟩
  rw [← hR] at HPR
  rw [← hR]
  obtain ⟨M, hM⟩ : ∃ M, M = 2 ^ m := ⟨_, rfl⟩
  rw [show nexts o n m (2 ^ m) = gRow (nextB o n m) (2 ^ m) from rfl] at HX HK
  obtain ⟨g, hg⟩ : ∃ g, g = nextB o n m := ⟨_, rfl⟩
  rw [← hM] at HX hps HK HPR HLT HKA
  rw [← hg] at HX HK HPR HLT HKA
  clear hM hf h hg hR HTl
  go_enter Tryz.func16, Tryz.ntmps16
  go_wp2_with fail
  refine (HN.out _).mono ?_
  rintro e w1 ⟨rfl, hb1⟩
  have hb1' : Below (w.alloc (.cells #[.int .i64 2, .int .i64 n, .string o] 25)).heap.size (w.alloc (.cells #[.int .i64 2, .int .i64 n, .string o] 25)) w1 := ((Below.refl _ _).alloc (Nat.le_refl _) _).trans (hb1.mono (by simp))
  obtain ⟨⟨hc0, hc1, hc2⟩, _, hzz⟩ := box3 hb1'
  have hbw1 : Below w.heap.size w w1 := ((Below.refl _ _).alloc (Nat.le_refl _) _).trans (hb1'.mono (by simp))
  have hown1 : w1.ownsRow w.heap.size 3 1 (.slice (some ⟨w.heap.size + 1, 0, none⟩) 0 0) 0 [] := owns_base (base := w.heap.size + 1) (owns_below (by simpa using (owns_nil (w.alloc (.cells #[.int .i64 2, .int .i64 n, .string o] 25)) 3)) hb1) (by omega)
  go_wp2_with fail
  refine (HX.out _).mono ?_
  rintro e w2 ⟨v, rfl, hown, hb2⟩
  obtain ⟨a5, c5, rfl, hr5⟩ := owns_rowAt hown (by omega)
  have HR5 := hid hr5
  have hbw2 := bs hbw1 hb2
  have hown2 := owns_below hown1 hb2
  have hown5 := hown
  clear hc0 hc1 hc2 hown hr5 hown1
  go_wp2_with fail
  refine (HK.out _ _ _ HR5.out).mono ?_
  rintro e w3 ⟨v3, K, rfl, hown3, hb3, h1, h2⟩
  have HCN := hid (HPR.out K h1 h2)
  have HPO := hid (HKA.out K h2)
  have HPL := hid (fun i hi (hk : K i = true) => perN_le HLT.out hi (HPO.out i hi hk))
  obtain ⟨a6, c6, rfl, hr6⟩ := owns_rowAt hown3 (by omega)
  have hbw3 := bs hbw2 hb3
  have hown4 := owns_below hown2 hb3
  have hR53 := HR5.out.below hb3 (Nat.le_refl _)
  have hlt5 : ∀ b off, a5 = some ⟨b, off, none⟩ → w.heap.size + 1 < b ∧ b < w3.heap.size := fun b off e => by
    subst e
    have h1 := hown5.lt b rfl
    have h2 := hb3.size
    have h3 := hb1.size
    simp at h3
    omega
  have hlt6 : ∀ b off, a6 = some ⟨b, off, none⟩ → w.heap.size + 1 < b ∧ b < w3.heap.size := fun b off e => by
    subst e
    have h1 := hown3.lt b rfl
    have h2 := hb2.size
    have h3 := hb1.size
    simp at h3
    omega
  have HL5 := hid hlt5
  have HL6 := hid hlt6
  have hs3 : w.heap.size + 1 < w3.heap.size := by
    have h1 := hb1.size
    have h2 := hb2.size
    have h3 := hb3.size
    simp at h1
    omega
  have HADD := hid (fun (B g cap : Nat) (xs : List Int) (x : Int) (w : World) h1 h2 h3 => spec_l32Add_c B g cap xs.length xs x w rfl h1 h2 h3)
  unfold AddPost at HADD
  clear h1 h2 hown2 hown5 hown3 hlt5 hlt6 hb1 hb1' hb2 hb3 HK HX HN HPR HKA
  go_wp2
  go_loopw [5, 8] (fun v i wr => ∃ j gb cb : Nat, j ≤ M ∧ i = .int .i64 j ∧ v = .slice (some ⟨gb, 0, none⟩) (insAll ltI (kps g K j)).length cb ∧ wr.ownsRow w.heap.size 3 1 (.slice (some ⟨gb, 0, none⟩) (insAll ltI (kps g K j)).length cb) (insAll ltI (kps g K j)).length (intVals (insAll ltI (kps g K j))) ∧ (gb = w.heap.size + 1 ∨ w3.heap.size ≤ gb) ∧ RowAt wr a5 M (intVals (gRow g M)) ∧ RowAt wr a6 M (boolVals (rowB K M)) ∧ w3.heap.size ≤ wr.heap.size ∧ Below w.heap.size w wr) (fun _ i _ => M - (intOf i).toNat)
  case atStart => exact ⟨0, w.heap.size + 1, 0, by omega, rfl, rfl, hown4, Or.inl rfl, hR53, hr6, Nat.le_refl _, hbw3⟩
  case round =>
    obtain ⟨j, gb, cb, hj, rfl, rfl, hown, hgb, hrow5, hrow6, hsz, hbel⟩ := hrel
    have hle := Nat.le_trans (insAll_len ordI (kps g K j)) (kps_len g K j)
    have HO := hid hown
    have HG := hid (hown.lt gb rfl)
    have H5 := hid hrow5
    have H6 := hid hrow6
    clear hown hrow5 hrow6
    by_cases hlt : j < M
    · obtain ⟨b5, o5, rfl, hb5, hcl5⟩ := H5.out.at_ (by omega)
      obtain ⟨b6, o6, rfl, hb6, hcl6⟩ := H6.out.at_ (by omega)
      have hc5 := hcl5 j _ (intVals_get (gRow_get hlt))
      have hc6 := hcl6 j _ (rowB_get hlt)
      have HC5 := hid hcl5
      have HGL := hid (fun q => gIt_lt HLT.out (i := j) hlt q)
      clear hcl5 hcl6
      obtain ⟨x0, hx0⟩ : ∃ x0, x0 = g j := ⟨_, rfl⟩
      rw [← hx0] at hc5
      have HX0 := hid hx0
      clear hx0
      cases hk : K j
      · rw [hk] at hc6
        have HST := hid (kps_no (g := g) hk)
        clear hk
        go_wp2
        refine wp_loop_rounds 1 ?_
        rw [rounds_succ]
        go_wp2
        go_roundw
        case rel => exact ⟨j + 1, gb, cb, by omega, by go_num, by rw [HST.out], by rw [HST.out]; exact HO.out, hgb, H5.out, H6.out, hsz, hbel⟩
        case measure => simp [intOf]; omega
      · rw [hk] at hc6
        have HST := hid (kps_yes (g := g) hk)
        have HPJ := hid (HPO.out j hlt hk)
        have hPM := HPL.out j hlt hk
        have hP1 := HPJ.out.1
        obtain ⟨p, hp⟩ : ∃ p, p = perOf g j := ⟨_, rfl⟩
        rw [← hp] at HST HPJ hPM hP1
        have HAj := hid (HADD.out w.heap.size gb cb (insAll ltI (kps g K j)) (p : Int) wr HO.out hbel.size (by omega))
        have HI := hid (show ins ltI (insAll ltI (kps g K j)) (p : Int) = insAll ltI (kps g K (j + 1)) by rw [HST.out, insAll_snoc])
        rw [HI.out] at HAj
        clear hk hp
        go_wp2
        go_loop [9, 10] (fun c x => ∃ q y : Nat, 1 ≤ q ∧ q ≤ p ∧ c = .int .i64 q ∧ x = .int .i64 y ∧ y < M ∧ Hid (y = gIt g j q)) (fun c _ => p - (intOf c).toNat)
        case atStart => exact ⟨1, x0, by omega, by omega, rfl, rfl, by rw [HX0.out]; exact HLT.out _, HX0.out⟩
        case round =>
          obtain ⟨q, y, hq1, hqp, rfl, rfl, hyM, HY⟩ := hrel
          by_cases hqe : q = p
          · have hyj : y = j := by rw [HY.out, hqe]; exact HPJ.out.2.1
            subst hqe
            subst hyj
            go_wp2_with fail
            refine HAj.out.mono ?_
            rintro e w5 ⟨g', c', rfl, hown', hgr, hor⟩
            have hb : Below w.heap.size w w5 := hbel.grown hgr hbel.size (by rintro k ⟨⟩; exact HG.out.1)
            have h5 := (HL5.out b5 o5 rfl)
            have h6 := (HL6.out b6 o6 rfl)
            have hrow5 := H5.out.grown hgr (by rintro b off ⟨⟩; omega)
            have hrow6 := H6.out.grown hgr (by rintro b off ⟨⟩; omega)
            have hs5 := hgr.size
            go_wp2
            go_roundw
            case rel => exact ⟨y + 1, g', c', by omega, by go_num, rfl, hown', by omega, hrow5, hrow6, by omega, hb⟩
            case measure => simp [intOf]; omega
          · have hyj : ¬ (y = j) := fun e => HPJ.out.2.2 q hq1 (by omega) (by rw [← HY.out]; exact e)
            have hyi : ((y : Int) != (j : Int)) = true := by rw [bne_iff_ne]; omega
            have hcy := HC5.out y _ (intVals_get (gRow_get hyM))
            have hg1 : Hid (g y = gIt g j (q + 1)) := by show _ = g _; rw [HY.out]
            obtain ⟨z, hz⟩ : ∃ z, z = g y := ⟨_, rfl⟩
            rw [← hz] at hcy hg1
            have hzM : z < M := by rw [hz]; exact HLT.out _
            clear hz
            go_wp2
            go_round
            case rel => exact ⟨q + 1, z, by omega, by omega, by go_num, rfl, hzM, hg1⟩
            case measure => simp [intOf]; omega
    · obtain rfl : j = M := by omega
      go_wp2
      go_ret
      exact ⟨_, rfl, by rw [← HCN.out]; exact HO.out, hbel⟩
set_option maxHeartbeats 2000000 in
set_option maxRecDepth 100000 in
theorem impl_RingPeriods_yes (n m : Nat) (o : ByteArray) (w : World) (ho : o.size ≤ maxLen) (h : RFit o n m) (hf : fitsB 2 n o m = true) :
    Calls Tryz.prog 12 #[.agg #[.int .i64 2, .int .i64 n, .string o], .int .i64 m] w (PersPost o n m w) := by
  have hps := pow_small (k := 2) (by omega) h.m8
  have HN := hid (fun w => impl_areRings_c 2 n o m w ho)
  rw [hf] at HN
  have HWO := hid (fun w : World => show Calls Tryz.prog 38 #[.int .i64 2, .int .i64 m] w (WordsPost 2 m w) from impl_wordsOf_c 2 m w (by omega) h.m8)
  have HT := hid (fun (i : Nat) (w : World) => show Calls Tryz.prog 29 #[.agg #[.int .i64 2, .int .i64 n, .string o], .string (wdB 2 m i)] w (TailPost (ringB o 2 n) (wAt 2 m i) w) from impl_tail_wd h i w)
  unfold WordsPost at HWO
  unfold PersPost distinctI
  have htl := tps_len o n m (2 ^ m)
  obtain ⟨M, hM⟩ : ∃ M, M = 2 ^ m := ⟨_, rfl⟩
  have hM1 : 1 ≤ M := by rw [hM]; exact Nat.one_le_pow _ _ (by omega)
  rw [← hM] at HWO hps htl
  rw [← hM]
  clear hM hf h
  have HSRT := hid (fun (g cap : Nat) (wr : World) h1 => sortI_c w.heap.size g cap M (tps o n m M) wr htl h1 (by omega))
  obtain ⟨ts, hts⟩ : ∃ ts, ts = (tps o n m M).mergeSort fun x y => decide (x ≤ y) := ⟨_, rfl⟩
  have htsl : ts.length = M := by rw [hts]; simpa using htl
  rw [← hts] at HSRT
  rw [← hts]
  have HCMP := hid (fun (g cap : Nat) (wr : World) h1 => compactI_c w.heap.size g cap M ts wr htsl h1 (by omega))
  obtain ⟨us, hus⟩ : ∃ us, us = Lib.compact ts := ⟨_, rfl⟩
  rw [← hus] at HCMP
  rw [← hus]
  obtain ⟨ul, hul⟩ : ∃ ul, ul = us.length := ⟨_, rfl⟩
  rw [← hul] at HCMP
  rw [← hul]
  clear hts htsl hus hul htl
  go_enter Tryz.func12, Tryz.ntmps12
  go_wp2_with fail
  refine (HN.out _).mono ?_
  rintro e w1 ⟨rfl, hb1⟩
  obtain ⟨⟨hc0, hc1, hc2⟩, _, hzz⟩ := box3 hb1
  have hbw1 : Below w.heap.size w w1 := ((Below.refl _ _).alloc (Nat.le_refl _) _).trans (hb1.mono (by simp))
  have HK0 := hid (fun (V : World) (hV : Below w1.heap.size w1 V) => (⟨(hV.cell (p := ⟨w.heap.size, 0, none⟩) hzz).trans hc0, (hV.cell (p := ⟨w.heap.size, 1, none⟩) hzz).trans hc1, (hV.cell (p := ⟨w.heap.size, 2, none⟩) hzz).trans hc2⟩ : V.cell? ⟨w.heap.size, 0, none⟩ = some (.int .i64 2) ∧ V.cell? ⟨w.heap.size, 1, none⟩ = some (.int .i64 n) ∧ V.cell? ⟨w.heap.size, 2, none⟩ = some (.string o)))
  clear hc0 hc1 hc2 hb1
  go_wp2_with fail
  refine (HWO.out _).mono ?_
  rintro e w2 ⟨v, rfl, hown, hb2⟩
  obtain ⟨a5, c5, rfl, hr5⟩ := owns_rowAt hown (by omega)
  have hlt5 : ∀ b off, a5 = some ⟨b, off, none⟩ → w1.heap.size < b ∧ b < w2.heap.size := fun b off e => by
    subst e
    have h1 := hown.lt b rfl
    simp at h1
    omega
  have hown0 : w2.ownsRow w1.heap.size 3 1 (.slice (some ⟨w1.heap.size, 0, none⟩) 0 0) 0 [] := owns_below (owns_nil w1 _) hb2
  have hbel0 : Below w1.heap.size w1 w2 := ((Below.refl _ _).alloc (Nat.le_refl _) _).trans (hb2.mono (by simp))
  obtain ⟨b5, o5, rfl, hb5, hcl5⟩ := hr5.at_ (by omega)
  have h5 := hlt5 b5 o5 rfl
  have HC5 := hid hcl5
  clear hown hr5 hb2 hlt5 hcl5
  go_wp2
  go_loopw [5, 18] (fun v i wr => ∃ j g c : Nat, j ≤ M ∧ i = .int .i64 j ∧ v = .slice (some ⟨g, 0, none⟩) j c ∧ wr.ownsRow w1.heap.size 3 1 (.slice (some ⟨g, 0, none⟩) j c) j (intVals (tps o n m j)) ∧ (g = w1.heap.size ∨ w2.heap.size ≤ g) ∧ Hid (∀ k x, (strVals (wds 2 m M))[k]? = some x → wr.cell? ⟨b5, o5 + k, none⟩ = some x) ∧ w2.heap.size ≤ wr.heap.size ∧ Below w1.heap.size w1 wr) (fun _ i _ => M - (intOf i).toNat)
  case atStart => exact ⟨0, w1.heap.size, 0, by omega, rfl, rfl, hown0, Or.inl rfl, HC5, Nat.le_refl _, hbel0⟩
  case round =>
    obtain ⟨j, g, c, hj, rfl, rfl, hown, hg, HC, hsz, hbel⟩ := hrel
    have HO := hid hown
    have HG := hid (hown.lt g rfl)
    clear hown
    by_cases hlt : j < M
    · have hcell := HC.out j _ (strVals_get (wds_get hlt))
      obtain ⟨h0, h1, h2⟩ := HK0.out _ hbel
      have HTj := hid (HT.out j)
      unfold TailPost at HTj
      go_wp2_with fail
      refine (HTj.out _).mono ?_
      rintro e w3 ⟨t, p, hT, hle, rfl, hb3⟩
      have HTS := hid (show intVals (tps o n m (j + 1)) = intVals (tps o n m j) ++ [.int .i64 p] by rw [tps_succ, tailP_eq hT, intVals_snocR])
      have hU := (owns_below HO.out hb3).alloc (.cells #[.int .i64 p] 3)
      have hbel3 := hbel.trans (hb3.mono hbel.size)
      have hs3 := hb3.size
      have HC3 := hid (fun k x (hx : (strVals (wds 2 m M))[k]? = some x) => (hb3.cell (p := ⟨b5, o5 + k, none⟩) (show b5 < wr.heap.size by omega)).trans (HC.out k x hx))
      clear hT h0 h1 h2 hcell
      go_wp2_with (first | (at_builtin; go_must (refine wpList_appN rfl _ _ 36 rfl w1.heap.size 3 (.int .i64 0) 8 Tryz.underlying36 infoIntA rfl g c j (intVals (tps o n m j)) hU rfl w3.heap.size 0 1 1 [.int .i64 p] rfl rfl (by intro q u hq; match q, hq with | 0, hq => simp at hq; subst hq; simp) (by intro u hu; simp at hu; subst hu; rfl) (by omega) (by unfold maxLen; omega) (by have := hbel3.size; simp; omega) ?_); intro g2 c2 w4 hown4 hgr4 hb4 hlt4))
      have hb5' : Below w1.heap.size w1 w4 := (hbel3.alloc hbel3.size _).grown hgr4 (by have := hbel3.size; simp; omega) (by rintro k ⟨⟩; exact HG.out.1)
      have hg2 : g2 = w1.heap.size ∨ w2.heap.size ≤ g2 := by
        rcases hb4 with h | h
        · omega
        · simp at h; omega
      have hs4 := hgr4.size
      simp at hs4
      go_roundw
      case rel =>
        refine ⟨j + 1, g2, c2, by omega, by go_num, rfl, by rw [HTS.out]; exact hown4, hg2, fun k x hx => ?_, by omega, hb5'⟩
        refine (World.cell?_of_block (a := ⟨b5, o5 + k, none⟩) (hgr4.block b5 (by simp; omega) (fun e => by injection e with e; omega))).trans ?_
        refine Eq.trans ?_ (HC3.out k x hx)
        exact ((Below.refl w3.heap.size w3).alloc (Nat.le_refl _) _).cell (p := ⟨b5, o5 + k, none⟩) (by show b5 < w3.heap.size; omega)
      case measure => simp [intOf]; omega
    · obtain rfl : j = M := by omega
      go_wp2_with fail
      refine (HSRT.out g c wr (owns_base (base' := w.heap.size) HO.out hbw1.size)).mono ?_
      rintro e w3 ⟨rfl, ho3, hgr3⟩
      go_wp2_with fail
      refine (HCMP.out g c w3 ho3).mono ?_
      rintro e w4 ⟨rfl, ho4, hgr4⟩
      have hgw : w.heap.size ≤ g := Nat.le_trans hbw1.size HG.out.1
      have hbA : Below w.heap.size w wr := hbw1.trans (hbel.mono hbw1.size)
      have hb3 : Below w.heap.size w w3 := hbA.grown hgr3 hbA.size (by rintro k ⟨⟩; exact hgw)
      have hb4 : Below w.heap.size w w4 := hb3.grown hgr4 hb3.size (by rintro k ⟨⟩; exact hgw)
      go_wp2
      go_ret
      exact ⟨_, rfl, ho4, hb4⟩
end Go.Proofs.YtccknookhkahbaaGreat
