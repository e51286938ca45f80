/- Words of a shift counted, the reference's way. Conditions: a shift that is one, in memory, short words. -/
import Derived.Test.YtpfeflhcbcgbfaaGreatDoorGraS
import Derived.Test.YtpfeflhcbcgbfaaGreatDoorLen
namespace Go.Proofs.YtpfeflhcbcgbfaaGreatDoor
open Go.RowKit
/-- Rows times the table, and the table times columns. -/
def vS (M : List (List Int)) (N : Nat) : Nat → Nat → Int | 0, _ => 1 | t + 1, q => sumTo (fun p => vS M N t p * at2 M p q) N
def vI (M : List (List Int)) (N : Nat) : Nat → Nat → Int | 0, _ => 1 | t + 1, i => sumTo (fun j => at2 M i j * vI M N t j) N
theorem vSI_step (M : List (List Int)) (N t s : Nat) : sumTo (fun q => vS M N (t + 1) q * vI M N s q) N = sumTo (fun p => vS M N t p * vI M N (s + 1) p) N := by
  have e1 : sumTo (fun q => vS M N (t + 1) q * vI M N s q) N = sumTo (fun q => sumTo (fun p => vS M N t p * at2 M p q * vI M N s q) N) N := sumTo_congr fun q _ => (sumTo_mul _ _ _).symm
  have e2 : sumTo (fun p => vS M N t p * vI M N (s + 1) p) N = sumTo (fun p => sumTo (fun q => vS M N t p * at2 M p q * vI M N s q) N) N := sumTo_congr fun p _ => by
    rw [show vI M N (s + 1) p = sumTo (fun j => at2 M p j * vI M N s j) N from rfl, ← sumTo_mul2]
    exact sumTo_congr fun q _ => (Int.mul_assoc _ _ _).symm
  rw [e1, e2, sumTo_comm]
theorem vSI_all (M : List (List Int)) (N : Nat) : ∀ t s, sumTo (fun q => vS M N t q * vI M N s q) N = sumTo (vI M N (t + s)) N
  | 0, s => by rw [Nat.zero_add]; exact sumTo_congr fun q _ => by show (1 : Int) * _ = _; omega
  | t + 1, s => by rw [vSI_step, vSI_all M N t (s + 1)]; congr 2; omega
theorem vSI (M : List (List Int)) (N t : Nat) : sumTo (vS M N t) N = sumTo (vI M N t) N := by
  have := vSI_all M N t 0
  rw [Nat.add_zero] at this
  rw [← this]
  exact sumTo_congr fun q _ => by show _ = _ * (1 : Int); omega
theorem vS_bd {M : List (List Int)} {N : Nat} (hN : N ≤ 9) (hM : ∀ p q, p < N → q < N → 0 ≤ at2 M p q ∧ at2 M p q ≤ 1) : ∀ (t q : Nat), q < N → 0 ≤ vS M N t q ∧ vS M N t q ≤ (9 ^ t : Nat)
  | 0, q, _ => ⟨by show (0 : Int) ≤ 1; omega, by show (1 : Int) ≤ _; simp⟩
  | t + 1, q, hq => by
    have h := sumTo_bd (f := fun p => vS M N t p * at2 M p q) (n := N) (B := (9 ^ t : Nat) * 1) (fun p hp => prod_bd (vS_bd hN hM t p hp) (hM p q hp hq)) N (Nat.le_refl _)
    refine ⟨h.1, Int.le_trans h.2 ?_⟩
    rw [Int.mul_one, Nat.pow_succ, Nat.mul_comm, Int.natCast_mul]
    exact Int.mul_le_mul_of_nonneg_right (by omega) (Int.natCast_nonneg _)
theorem vI_bd {M : List (List Int)} {N : Nat} (hN : N ≤ 9) (hM : ∀ p q, p < N → q < N → 0 ≤ at2 M p q ∧ at2 M p q ≤ 1) : ∀ (t q : Nat), q < N → 0 ≤ vI M N t q ∧ vI M N t q ≤ (9 ^ t : Nat)
  | 0, q, _ => ⟨by show (0 : Int) ≤ 1; omega, by show (1 : Int) ≤ _; simp⟩
  | t + 1, q, hq => by
    have h := sumTo_bd (f := fun p => at2 M q p * vI M N t p) (n := N) (B := 1 * (9 ^ t : Nat)) (fun p hp => prod_bd (hM q p hq hp) (vI_bd hN hM t p hp)) N (Nat.le_refl _)
    refine ⟨h.1, Int.le_trans h.2 ?_⟩
    rw [Int.one_mul, Nat.pow_succ, Nat.mul_comm, Int.natCast_mul]
    exact Int.mul_le_mul_of_nonneg_right (by omega) (Int.natCast_nonneg _)
theorem pow9 {t : Nat} (h : t ≤ 4) : (9 ^ t : Nat) ≤ 6561 := Nat.le_trans (Nat.pow_le_pow_right (by omega) h) (by decide)
def rowV (f : Nat → Int) (N : Nat) : List Int := (List.range N).map f
theorem rowV_len (f : Nat → Int) (N : Nat) : (rowV f N).length = N := by simp [rowV]
theorem rowV_at (f : Nat → Int) {N q : Nat} (h : q < N) : at0 (rowV f N) q = f q := at0_get (by simp [rowV, h])
theorem rowV_ext {f g : Nat → Int} {N : Nat} (h : ∀ q, q < N → f q = g q) : rowV f N = rowV g N := by
  unfold rowV
  exact List.map_congr_left fun q hq => h q (List.mem_range.1 hq)
theorem mul_row (M : List (List Int)) {N : Nat} (hM : M.length = N) (t : Nat) : muOf [rowV (vS M N t) N] M N = [rowV (vS M N (t + 1)) N] := by
  unfold muOf
  show [(List.range N).map fun q => mulTo [rowV (vS M N t) N] M 0 q M.length] = _
  congr 1
  refine rowV_ext fun q _ => ?_
  unfold mulTo
  rw [hM]
  refine sumTo_congr fun p hp => ?_
  rw [show at2 [rowV (vS M N t) N] 0 p = at0 (rowV (vS M N t) N) p from rfl, rowV_at _ hp]
/-- A row being made: done ahead of a place, a number there, zeros behind. -/
def mkR (N : Nat) (g : Nat → Int) (i : Nat) (u : Int) : List Int := (List.range N).map fun p => if p < i then g p else if p = i then u else 0
theorem mkR_len (N : Nat) (g : Nat → Int) (i : Nat) (u : Int) : (mkR N g i u).length = N := by simp [mkR]
theorem mkR_at {N : Nat} {g : Nat → Int} {i : Nat} {u : Int} (h : i < N) : (mkR N g i u)[i]? = some u := by simp [mkR, h]
theorem mkR_set (N : Nat) (g : Nat → Int) (i : Nat) (u u' : Int) : (mkR N g i u).set i u' = mkR N g i u' := by
  refine List.ext_getElem? fun p => ?_
  rw [List.getElem?_set, mkR_len]
  by_cases hp : p < N
  · have h1 : ∀ v, (mkR N g i v)[p]? = some (if p < i then g p else if p = i then v else 0) := fun v => by simp [mkR, hp]
    rw [h1, h1]
    by_cases h : i = p
    · subst h
      rw [if_pos rfl, if_pos hp, if_neg (by omega), if_pos rfl]
    · rw [if_neg h]
      by_cases h2 : p < i
      · rw [if_pos h2, if_pos h2]
      · rw [if_neg h2, if_neg h2, if_neg (fun e => h e.symm), if_neg (fun e => h e.symm)]
  · have h1 : ∀ v, (mkR N g i v)[p]? = none := fun v => List.getElem?_eq_none (by rw [mkR_len]; omega)
    rw [h1, h1]
    split
    · rw [if_neg (by omega)]
    · rfl
theorem mkR_next (N : Nat) (g : Nat → Int) (i : Nat) : mkR N g i (g i) = mkR N g (i + 1) 0 := by
  unfold mkR
  refine List.map_congr_left fun p _ => ?_
  by_cases h : p < i
  · rw [if_pos h, if_pos (by omega)]
  · rw [if_neg h]
    by_cases h2 : p = i
    · subst h2
      rw [if_pos rfl, if_pos (by omega)]
    · rw [if_neg h2, if_neg (by omega)]
      split <;> rfl
theorem mkR_zero (N : Nat) (g : Nat → Int) : mkR N g 0 0 = List.replicate N 0 := by
  refine List.ext_getElem (by simp [mkR]) fun p h1 h2 => ?_
  simp [mkR]
theorem mkR_end (N : Nat) (g : Nat → Int) : mkR N g N 0 = rowV g N := by
  unfold mkR rowV
  refine List.map_congr_left fun p hp => ?_
  rw [if_pos (List.mem_range.1 hp)]
/-- How many words there are. -/
noncomputable def cwV (ss : List ByteArray) (k n : Nat) : Int := if n < 2 then (((List.range (k ^ n)).filter (inL ss k n)).length : Int) else sumTo (vS (gM ss k) (stL ss k).length (n - 2)) (stL ss k).length
theorem inL_none {ss : List ByteArray} {k n i : Nat} (h : (stL ss k).length = 0) : inL ss k n i = false := by
  unfold inL inLV
  rw [List.length_map, if_pos h]
theorem cwV_none {ss : List ByteArray} {k n : Nat} (h : (stL ss k).length = 0) : cwV ss k n = 0 := by
  unfold cwV
  split
  · rw [List.filter_eq_nil_iff.2 fun i _ => by rw [inL_none h]; simp]
    rfl
  · rw [h]
    rfl
theorem cwV_bd {ss : List ByteArray} {k n : Nat} (hk : k ≤ 3) (hn : n ≤ 6) : 0 ≤ cwV ss k n ∧ cwV ss k n ≤ 100000 := by
  unfold cwV
  split
  · have h1 := List.length_filter_le (inL ss k n) (List.range (k ^ n))
    rw [List.length_range] at h1
    have h2 := pow_small hk (show n ≤ 8 by omega)
    exact ⟨by omega, by omega⟩
  · have h := sumTo_bd (f := vS (gM ss k) (stL ss k).length (n - 2)) (n := (stL ss k).length) (fun q hq => vS_bd (stL_len hk) (fun p q hp hq => gM_bit ss k p q hp hq) (n - 2) q hq) _ (Nat.le_refl _)
    have h3 := pow9 (show n - 2 ≤ 4 by omega)
    have h4 := stL_len (ss := ss) hk
    have h5 : ((stL ss k).length : Int) * ((9 ^ (n - 2) : Nat) : Int) ≤ 9 * 6561 := Int.mul_le_mul (by omega) (Int.ofNat_le.2 h3) (Int.natCast_nonneg _) (by omega)
    exact ⟨h.1, by omega⟩
end Go.Proofs.YtpfeflhcbcgbfaaGreatDoor
namespace Go.Proofs.YtpfeflhcbcgbfaaGreatDoor
open Go.RowKit
theorem tab_one {w : World} {gr : Option Addr} {N cr : Nat} {r : List Int} (h : RowAt w gr N (intVals r)) (hl : r.length = N) : TabAt (w.alloc (.cells #[.slice gr N cr] 39)) (some ⟨w.heap.size, 0, none⟩) 1 [r] := by
  have hb : Below w.heap.size w (w.alloc (.cells #[.slice gr N cr] 39)) := (Below.refl _ _).alloc (Nat.le_refl _) _
  refine ⟨[.slice gr N cr], ⟨rfl, by omega, fun _ => ⟨w.heap.size, 0, rfl, by simp, fun q x hx => ?_⟩⟩, rfl, fun i x r' hx hr => ?_⟩
  · match q, hx with
    | 0, hx =>
      simp at hx
      subst hx
      exact (World.cell?_alloc_at _ _ _ _ rfl).trans rfl
  · match i, hx, hr with
    | 0, hx, hr =>
      simp at hx hr
      subst hx hr
      exact ⟨gr, cr, by rw [hl], by rw [hl]; exact h.below hb (Nat.le_refl _)⟩
set_option maxHeartbeats 8000000 in
set_option maxRecDepth 100000 in
theorem spec_CountWords_c (k nn : Nat) (a : Option Addr) (n c : Nat) (ss : List ByteArray) (w : World) (hr : RowAt w a n (strVals ss)) (hok : okShB k ss = true) (hnn : nn ≤ 6) :
    Calls Tryz.prog 17 #[.agg #[.int .i64 k, .slice a n c], .int .i64 nn] w fun e w' => e = .returned (.int .i64 (cwV ss k nn)) ∧ Below w.heap.size w w' := by
  obtain ⟨hk, hl8, hsw, _⟩ := okSh_facts hok
  have hln : ss.length = n := by simpa [strVals] using hr.len
  obtain ⟨W2, hW2⟩ : ∃ W2, W2 = w.alloc (.cells #[.int .i64 k, .slice a n c] 27) := ⟨_, rfl⟩
  have hB : Below w.heap.size w W2 := by rw [hW2]; exact (Below.refl _ _).alloc (Nat.le_refl _) _
  have hsz : W2.heap.size = w.heap.size + 1 := by rw [hW2]; simp
  have hbx : BoxC W2 w.heap.size #[.int .i64 k, .slice a n c] := by rw [hW2]; exact BoxC.new _ _ _
  have HIS := hid (spec_IsShift_ok k a n c ss W2 (hr.below hB (Nat.le_refl _)) hok)
  have HLI := hid (fun w => l1In_c (nn : Int) 0 20 w)
  rw [inB_t (show (0 : Int) ≤ (nn : Int) ∧ (nn : Int) ≤ 20 by omega)] at HLI
  have HGR := hid (fun (V : World) (hV : Below W2.heap.size W2 V) => spec_GraphOf_c k a n c ss V (hr.below (hB.trans (hV.mono (by omega))) (Nat.le_refl _)) hok)
  have HLA := hid (fun (V : World) (hV : Below W2.heap.size W2 V) => spec_LanguageOf_c k nn a n c ss V (hr.below (hB.trans (hV.mono (by omega))) (Nat.le_refl _)) hok (by omega))
  have HBX := hid (fun (V : World) (hV : Below W2.heap.size W2 V) => show (V.cell? ⟨w.heap.size, 0, none⟩ = some (.int .i64 k) ∧ V.cell? ⟨w.heap.size, 1, none⟩ = some (.slice a n c)) ∧ Below w.heap.size w V from ⟨⟨(hbx.below hV).cell 0, (hbx.below hV).cell 1⟩, hB.trans (hV.mono (by omega))⟩)
  have HLEN := hid (stL_len (ss := ss) hk.2)
  have HC0 := hid (fun h => cwV_none (ss := ss) (k := k) (n := nn) h)
  have HC1 := hid (fun h : nn < 2 => show cwV ss k nn = (((List.range (k ^ nn)).filter (inL ss k nn)).length : Int) from if_pos h)
  have HC2 := hid (fun h : ¬ nn < 2 => show cwV ss k nn = sumTo (vS (gM ss k) (stL ss k).length (nn - 2)) (stL ss k).length from if_neg h)
  have HRECT := hid (gM_rect ss k)
  have HBIT := hid (fun p q hp hq => gM_bit ss k p q hp hq)
  have HBD := hid (fun (t q : Nat) (hq : q < (stL ss k).length) => vS_bd (stL_len (ss := ss) hk.2) (fun p q hp hq => gM_bit ss k p q hp hq) t q hq)
  have hcn := List.length_filter_le (inL ss k nn) (List.range (k ^ nn))
  rw [List.length_range] at hcn
  have hps := pow_small hk.2 (show nn ≤ 8 by omega)
  unfold GraPost at HGR
  unfold KeptPost at HLA
  obtain ⟨M, hM⟩ : ∃ M, M = gM ss k := ⟨_, rfl⟩
  obtain ⟨N, hN⟩ : ∃ N, N = (stL ss k).length := ⟨_, rfl⟩
  obtain ⟨d, hd⟩ : ∃ d, d = ((List.range (k ^ nn)).filter (inL ss k nn)).length := ⟨_, rfl⟩
  obtain ⟨R, hR⟩ : ∃ R, R = cwV ss k nn := ⟨_, rfl⟩
  rw [← hM, ← hN] at HGR HRECT HBIT HBD HC2
  rw [← hN] at HLEN HC0
  rw [← hd] at HC1 HLA hcn
  rw [← hR] at HC0 HC1 HC2
  rw [← hR]
  have hd9 : d ≤ 6561 := by omega
  have HML := hid (HRECT.out.len)
  have HB := hid hB
  have q0 := hbx.cell 0
  have q1 := hbx.cell 1
  clear hr hB hbx hok hsw hln hN hM hd hR hk hcn hps
  go_enter Tryz.func17, Tryz.ntmps17
  go_wp2_with (rw [← hW2])
  first | rw [← hW2] | skip
  clear hW2
  refine HIS.out.mono ?_
  rintro e w1 ⟨rfl, hb1⟩
  obtain ⟨⟨s0, s1⟩, _⟩ := HBX.out _ hb1
  have HGR1 := hid (HGR.out w1 hb1)
  have HB1 := hid hb1
  clear q0 q1 hb1 HIS HGR
  go_wp2_with (go_at_call 58; refine (HLI.out _).mono ?_; rintro e w' ⟨rfl, rfl⟩)
  refine HGR1.out.mono ?_
  rintro e w3 ⟨v, rfl, hgr, hb3⟩
  have hb3' := HB1.out.trans (hb3.mono HB1.out.size)
  obtain ⟨⟨t0, t1⟩, hbw3⟩ := HBX.out _ hb3'
  have HB3 := hid hb3'
  have HBW3 := hid hbw3
  have HGR3 := hid hgr
  clear s0 s1 hb3 hb3' hbw3 hgr HGR1
  by_cases hN0 : N = 0
  · have HR0 := hid (HC0.out hN0)
    have hdN : decide (N ≠ 0) = false := by rw [hN0]; rfl
    rw [hdN]
    go_wp2
    go_ret
    exact ⟨by rw [HR0.out]; rfl, HBW3.out⟩
  · have hdN : decide (N ≠ 0) = true := decide_eq_true hN0
    rw [hdN]
    by_cases hn2 : nn < 2
    · have HR1 := hid (HC1.out hn2)
      have hn2i : (nn : Int) < 2 := by omega
      have HL3 := hid (HLA.out w3 HB3.out)
      clear HLA HGR3
      go_wp2_with fail
      refine HL3.out.mono ?_
      rintro e w5 ⟨v5, rfl, hown5, hb5⟩
      obtain ⟨g5, c5, rfl, _⟩ := owns_rowAt hown5 (by omega)
      have HB5 := hid (HBW3.out.trans (hb5.mono HBW3.out.size))
      clear hown5 hb5
      go_wp2
      go_ret
      exact ⟨by rw [HR1.out]; rfl, HB5.out⟩
    · have HR2 := hid (HC2.out hn2)
      have hn2i : ¬ ((nn : Int) < 2) := by omega
      have hN9 := HLEN.out
      have hTG := HGR3.out hN0
      obtain ⟨gv, cv, rfl, _, _⟩ := grid_form hTG HML.out (by omega)
      have HTB := hid (grid_tab hTG HRECT.out (by omega) (by omega))
      have HO0 := hid (owns_lit3 (w := w3) (base := w3.heap.size) (e := 3) #[] [] rfl (Nat.le_refl _) (by unfold maxLen; simp))
      have HE0 := hid (show Below w3.heap.size w3 (w3.alloc (.cells #[] 3)) from (Below.refl _ _).alloc (Nat.le_refl _) _)
      have HVS := hid (fun j : Nat => show intVals (rowV (vS M N 0) (j + 1)) = intVals (rowV (vS M N 0) j) ++ [.int .i64 1] from by simp [rowV, List.range_succ, intVals, vS])
      clear hTG HGR3 HLA t0 t1
      go_wp2
      go_loopw [7, 8] (fun v i wr => ∃ j : Nat, j ≤ N ∧ i = .int .i64 j ∧ wr.ownsRow w3.heap.size 3 1 v j (intVals (rowV (vS M N 0) j)) ∧ Below w3.heap.size w3 wr) (fun _ i _ => N - (intOf i).toNat)
      case atStart => exact ⟨0, by omega, rfl, HO0.out, HE0.out⟩
      case round =>
        clear HO0 HE0
        obtain ⟨j, hj, rfl, hown, hbel⟩ := hrel
        by_cases hlt : j < N
        · have hji : (j : Int) < (N : Int) := by omega
          have HVJ := hid (HVS.out j)
          go_wp2_with (first | (at_builtin; go_must (refine wpList_app4 rfl _ _ 39 rfl w3.heap.size 3 (.int .i64 0) 8 Tryz.underlying39 infoIntZ rfl _ j _ _ hown rfl rfl rfl (by omega) (by unfold maxLen; omega) hbel.size ?_); intro v' w8 hown8 hgr8 _))
          have HO8 := hid hown8
          have HB8 := hid (hbel.grown hgr8 hbel.size (fun k hk => (hown.lt k hk).1))
          clear hown8 hgr8 hown hbel
          go_roundw
          case rel => exact ⟨j + 1, by omega, by go_num, by rw [HVJ.out]; exact HO8.out, HB8.out⟩
          case measure => simp [intOf]; omega
        · obtain rfl : j = N := by omega
          have HOW := hid hown
          have HBL := hid hbel
          clear hown hbel
          go_wp2
          go_loopw [7, 9] (fun v i wr => ∃ t : Nat, t + 2 ≤ nn ∧ i = .int .i64 ((t + 2 : Nat) : Int) ∧ wr.ownsRow w3.heap.size 3 1 v j (intVals (rowV (vS M j t) j)) ∧ Below w3.heap.size w3 wr) (fun _ i _ => nn - (intOf i).toNat)
          case atStart => exact ⟨0, by omega, rfl, HOW.out, HBL.out⟩
          case round =>
            clear HOW HBL
            obtain ⟨t, ht, rfl, hown, hbel⟩ := hrel
            by_cases hlt2 : t + 2 < nn
            · obtain ⟨u, hu⟩ : ∃ u, u = t + 2 := ⟨_, rfl⟩
              have HU := hid hu
              have hui : (u : Int) < (nn : Int) := by omega
              rw [← hu]
              obtain ⟨gr, cr, rfl, hrow⟩ := owns_rowAt hown (by omega)
              have HT1 := hid (tab_one (cr := cr) hrow (rowV_len _ _))
              have hA2 : Below w3.heap.size w3 (wr.alloc (.cells #[.slice gr j cr] 39)) := hbel.alloc hbel.size _
              have HMU := hid (spec_l4Times_c (some ⟨wr.heap.size, 0, none⟩) (some ⟨gv, 0, none⟩) 1 j 1 cv j [rowV (vS M j t) j] M ((9 ^ t : Nat) : Int) 1 _ HT1.out (HTB.out.below hA2 (Nat.le_refl _))
                (fun r hr => by simp at hr; subst hr; rw [rowV_len]; omega) (fun r hr => by rw [HRECT.out.row r hr]; omega)
                (fun i q hi hq => by
                  obtain rfl : i = 0 := by omega
                  rw [show at2 [rowV (vS M j t) j] 0 q = at0 (rowV (vS M j t) j) q from rfl, rowV_at _ hq]
                  exact HBD.out t q hq)
                (fun p q hp hq => HBIT.out p q hp hq)
                (by
                  have h3 := pow9 (show t ≤ 4 by omega)
                  have h5 : (j : Int) * (((9 ^ t : Nat) : Int) * 1) ≤ 9 * 6561 := by
                    rw [Int.mul_one]
                    exact Int.mul_le_mul (by omega) (Int.ofNat_le.2 h3) (Int.natCast_nonneg _) (by omega)
                  omega) (by omega) (by omega))
              rw [mul_row M HML.out t] at HMU
              unfold GridPost at HMU
              have HA2 := hid hA2
              have HBL := hid hbel
              have hsB := hbel.size
              clear hown hbel hA2 hu hrow HT1
              go_wp2_with fail
              refine HMU.out.mono ?_
              rintro e w5 ⟨v5, rfl, hg5, hb5⟩
              have hb5' := HA2.out.trans (hb5.mono HA2.out.size)
              obtain ⟨vs, ho5, hrs5⟩ := hg5
              obtain ⟨x, hx⟩ := get_some (l := vs) (n := 0) (by rw [ho5.1]; simp)
              have hr5 := hrs5.own 0 x (rowV (vS M j (t + 1)) j) hx rfl
              rw [rowV_len] at hr5
              obtain ⟨g6, c6, rfl, _, _⟩ := own_form ho5 (by simp)
              have hcx := (ho5.cellAt 0 (by simp)).trans hx
              have HO6 := hid (owns_base (base' := w3.heap.size) hr5 (by have := HA2.out.size; omega))
              have HB5 := hid hb5'
              clear ho5 hrs5 hr5 hx hb5 hb5' HMU HA2 HBL
              go_wp2
              go_roundw
              case rel => exact ⟨t + 1, by have := HU.out; omega, by have := HU.out; go_num, HO6.out, HB5.out⟩
              case measure => have := HU.out; simp [intOf]; omega
            · obtain ⟨u, hu⟩ : ∃ u, u = t + 2 := ⟨_, rfl⟩
              have hui : ¬ ((u : Int) < (nn : Int)) := by omega
              have htn : t = nn - 2 := by omega
              rw [← hu]
              obtain ⟨gr, cr, rfl, hrow⟩ := owns_rowAt hown (by omega)
              have HRW := hid hrow
              have HBL := hid (HBW3.out.trans (hbel.mono HBW3.out.size))
              have HVB := hid (fun q hq => HBD.out t q hq)
              have h69 := pow9 (show t ≤ 4 by omega)
              have HSB := hid (fun (q : Nat) (hq : q ≤ j) => sumTo_bd (f := vS M j t) (n := j) (B := 6561) (fun p hp => ⟨(HBD.out t p hp).1, Int.le_trans (HBD.out t p hp).2 (Int.ofNat_le.2 h69)⟩) q hq)
              have HRR := hid (show R = sumTo (vS M j t) j by rw [HR2.out, htn])
              clear hown hbel hrow hu h69 htn
              go_wp2
              go_loop [10, 11] (fun x i => ∃ q : Nat, q ≤ j ∧ i = .int .i64 q ∧ x = .int .i64 (sumTo (vS M j t) q)) (fun _ i => j - (intOf i).toNat)
              case atStart => exact ⟨0, by omega, rfl, rfl⟩
              case round =>
                obtain ⟨q, hq, rfl, rfl⟩ := hrel
                by_cases hlt3 : q < j
                · have hqi : (q : Int) < (j : Int) := by omega
                  obtain ⟨b, off, rfl, hb, hc⟩ := HRW.out.at_ (by omega)
                  have hcell := hc q (.int .i64 (vS M j t q)) (intVals_get (by simp [rowV, hlt3]))
                  have h1 := HSB.out q hq
                  have h2 := HSB.out (q + 1) hlt3
                  have HE := hid (show sumTo (vS M j t) (q + 1) = sumTo (vS M j t) q + vS M j t q from rfl)
                  rw [HE.out] at h2
                  have h3 := (HVB.out q hlt3).1
                  obtain ⟨x, hx⟩ : ∃ x, x = vS M j t q := ⟨_, rfl⟩
                  obtain ⟨y, hy⟩ : ∃ y, y = sumTo (vS M j t) q := ⟨_, rfl⟩
                  rw [← hx] at hcell h2 h3 HE
                  rw [← hy] at h1 h2 HE
                  rw [← hy]
                  have hu : x + y ≤ 4611686018427387904 := by omega
                  have hu0 := h1.1
                  have hu1 := h1.2
                  clear hx hy h1 h2 hc
                  go_wp2
                  go_round
                  case rel => exact ⟨q + 1, by omega, by go_num, by rw [HE.out]⟩
                  case measure => simp [intOf]; omega
                · obtain rfl : q = j := by omega
                  go_wp2
                  go_ret
                  exact ⟨by rw [HRR.out]; rfl, HBL.out⟩
end Go.Proofs.YtpfeflhcbcgbfaaGreatDoor
