/- Labelled graphs: the labelled graph of sets, the program's function. Conditions: the arcs lie in memory. -/
import Derived.Test.YtpfeflhcbcgbfaaDoorNamN
import Derived.Test.YtpfeflhcbcgbfaaDoorResC
import Derived.Test.YtpfeflhcbcgbfaaDoorTrimE
import Derived.Test.YtpfeflhcbcgbfaaDoorLabZ
import Derived.Test.YtpfeflhcbcgbfaaDoorSynF
namespace Go.Proofs.YtpfeflhcbcgbfaaDoor
open Go.RowKit

theorem rsK_few {G : List (Nat × Nat × Nat)} {L full K : Nat} (hK : K ≤ (rsK G L full K).1.length) : (rsK G L full K).2.length ≤ K * L := by
  rw [(nxK_all K hK).2]
  refine arcsRows_len (fun r hr => ?_) K
  obtain ⟨i, hi⟩ := List.mem_iff_getElem?.1 hr
  rcases nxK_rows (G := G) (L := L) (full := full) K i with h | ⟨q, h, hq⟩
  · exact absurd (hi.symm.trans h) (Option.some_ne_none r)
  · rw [← Option.some.inj (h.symm.trans hi)]; exact hq
theorem rsX_few (G : List (Nat × Nat × Nat)) (k set : Nat) (st : RsS) (x : Nat) : (rsX G k set st x).2.length ≤ st.2.length + x := by
  have := arcsRow_len k (nxX G k set st x) x
  rw [rsX_arcs, List.length_append]
  omega
theorem rsLet_zero {G : List (Nat × Nat × Nat)} {k set x : Nat} {st : RsS} (h : stp G set x = 0) : rsLet G k set x st = st := by unfold rsLet; rw [if_pos h]
theorem rsLet_old {G : List (Nat × Nat × Nat)} {k set x : Nat} {st : RsS} (h : ¬ stp G set x = 0) (hm : stp G set x ∈ st.1) : rsLet G k set x st = (st.1, st.2 ++ [(k, posOf (stp G set x) st.1, x)]) := by unfold rsLet; rw [if_neg h, if_pos hm]
theorem rsLet_new {G : List (Nat × Nat × Nat)} {k set x : Nat} {st : RsS} (h : ¬ stp G set x = 0) (hm : stp G set x ∉ st.1) : rsLet G k set x st = (st.1 ++ [stp G set x], st.2 ++ [(k, st.1.length, x)]) := by unfold rsLet; rw [if_neg h, if_neg hm]
set_option maxHeartbeats 8000000 in
set_option maxRecDepth 100000 in
theorem impl_ResolveLabels_yes (L S : Nat) (a : Option Addr) (n c : Nat) (G : List (Nat × Nat × Nat)) (w : World) (hr : RowAt w a (n * 3) (arcVals (arcN G))) (hn : n ≤ 1000000) (h : labsB L S (arcN G) = true) (hG : LabG L S G) :
    Calls Tryd.prog 25 #[.agg #[.int .i64 L, .int .i64 S, .slice a n c]] w (ResoPost L S G w) := by
  obtain ⟨W2, hW2⟩ : ∃ W2, W2 = (w.alloc (.cells #[.int .i64 L, .int .i64 S, .slice a n c] 29)).alloc (.cells #[.int .i64 0, .int .i64 0, .slice none 0 0] 29) := ⟨_, rfl⟩
  have hs2 : W2.heap.size = w.heap.size + 1 + 1 := by rw [hW2]; simp
  have HBX := hid (fun (V : World) (hV : Below W2.heap.size W2 V) => show BoxC V w.heap.size #[.int .i64 L, .int .i64 S, .slice a n c] ∧ BoxC V (w.heap.size + 1) #[.int .i64 0, .int .i64 0, .slice none 0 0] ∧ Below w.heap.size w V from by
    rw [hW2] at hV
    obtain ⟨⟨c0, f0⟩, ⟨c1, f1⟩, h4, h5⟩ := box2 hV
    exact ⟨⟨by omega, c0, f0⟩, ⟨h4, c1, f1⟩, h5⟩)
  have HT := hid (fun (W : World) (hW : Below w.heap.size w W) => impl_TrimLabels_yes L S a n c G W (hr.below hW (Nat.le_refl _)) hn h hG)
  unfold TrimPost LabsMay labV at HT
  obtain ⟨HX0, HX1, hbw⟩ := HBX.out W2 (Below.refl _ _)
  obtain ⟨p0, p1, p2⟩ := HX0.c3.1
  have HGL := hid hG
  have HAL := hid (show G.length = n from by have := hr.len; rw [arcVals_len, arcN_len] at this; omega)
  have hlaw : Maps.Keyed Tryd.prog 3 := Maps.int_keyed Tryd.underlying3
  have hmm := @run_makeMap Tryd.prog
  clear hr h HX0 HX1 hG
  unfold ResoPost LabsMay labV
  go_enter Tryd.func25, Tryd.ntmps25
  go_wp2_with (rw [← hW2])
  first | rw [← hW2] | skip
  refine (HT.out _ hbw).mono ?_
  rintro e w1 ⟨K, hK, g1, c1, rfl, ho1, hb1⟩
  obtain ⟨HX0, HX1, hbw1⟩ := HBX.out w1 hb1
  obtain ⟨⟨r0, r1, r2⟩, f0, f1, f2⟩ := HX1.c3
  have HTK := hid hK
  have HB1 := hid hb1
  have HO1 := hid ho1
  cases hto : trimO K S G with
  | none =>
    have HN := hid (resOf_none (L := L) hto)
    clear hto hW2 p0 p1 p2 hb1 ho1
    simp only [Option.isSome_none, Option.getD_none, List.length_nil]
    have HX5 := HX1.alloc (.cells #[.int .i64 0, .int .i64 0, .slice g1 0 c1] 29)
    obtain ⟨⟨r0, r1, r2⟩, f0, f1, f2⟩ := HX5.c3
    have hbw5 := hbw1.alloc hbw1.size (.cells #[.int .i64 0, .int .i64 0, .slice g1 0 c1] 29)
    obtain ⟨W5, hW5⟩ : ∃ W5, W5 = w1.alloc (.cells #[.int .i64 0, .int .i64 0, .slice g1 0 c1] 29) := ⟨_, rfl⟩
    rw [← hW5] at r0 r1 r2 f0 f1 f2 hbw5
    have HW5 := hid hW5
    clear hW5 HX5
    go_upto_region 2 with fail
    first | rw [← HW5.out] | trace_state
    go_wp2
    refine bodyPost_ret (v := .tuple #[.agg #[.int .i64 0, .int .i64 0, .slice none 0 0], .bool false]) (by simp [results, Tryd.results25, go_sem, r0, r1, r2]) rfl ⟨K, HTK.out, ?_⟩
    rw [HN.out]
    exact labsMay_none ((((hbw5.setCell (by show w.heap.size ≤ w.heap.size + 1; omega) _).setCell (by show w.heap.size ≤ w.heap.size + 1; omega) _).setCell (by show w.heap.size ≤ w.heap.size + 1; omega) _))
  | some p =>
    obtain ⟨s, A⟩ := p
    have HRO := hid (resOf_some (L := L) hto)
    have hHA : LabG L s A ∧ A.length ≤ n := by
      unfold trimO at hto
      by_cases h0 : numTo K S = 0
      · rw [if_pos h0] at hto; cases hto
      · rw [if_neg h0] at hto
        injection hto with hto
        injection hto with e1 e2
        subst e1 e2
        exact ⟨keepG_lab HGL.out h0, by rw [← HAL.out]; exact keepG_len K G⟩
    obtain ⟨hGA, hAn⟩ := hHA
    have hA12 := hGA.s12
    have hL3 := hGA.k3
    simp only [hto, Option.getD_some] at ho1
    have hra := owns_rowAt3 ho1 (by show A.length * 3 ≤ _; omega)
    have HG2 := hid hGA
    have h4096 := two_pow12 hA12
    obtain ⟨F, hF⟩ : ∃ F, F = 2 ^ s - 1 := ⟨_, rfl⟩
    have hfN : 0 < F ∧ F < 2 ^ s := by
      have := Nat.pow_le_pow_right (n := 2) (by omega) hGA.s1
      omega
    have HLTN := hid (fun (set x : Nat) => show stp A set x < 2 ^ s from stp_lt hGA)
    have HOK := hid (fun k => rsK_ok (G := A) (L := L) hfN HLTN.out k)
    have HALL := hid (fun (V : World) => impl_all_c L s (.slice g1 A.length c1) V hA12)
    rw [← hF] at HALL
    simp only [Option.isSome_some, Option.getD_some, if_true]
    have hbw5 := hbw1.alloc hbw1.size (.cells #[.int .i64 L, .int .i64 s, .slice g1 A.length c1] 29)
    have hb5 : Below w1.heap.size w1 (w1.alloc (.cells #[.int .i64 L, .int .i64 s, .slice g1 A.length c1] 29)) := (Below.refl _ _).alloc (Nat.le_refl _) _
    have hTB := BoxC.new w1 #[.int .i64 L, .int .i64 s, .slice g1 A.length c1] 29
    obtain ⟨W5, hW5⟩ : ∃ W5, W5 = w1.alloc (.cells #[.int .i64 L, .int .i64 s, .slice g1 A.length c1] 29) := ⟨_, rfl⟩
    rw [← hW5] at hbw5 hb5 hTB
    have HST := hid (fun (W : World) (set x : Nat) (hW : Below W5.heap.size W5 W) (h1 : set < 4096) (h2 : x < 1000) => impl_step_c L s g1 A.length c1 A set x W (hra.below (bs hb5 hW) (Nat.le_refl _)) hGA h1 h2 (by omega))
    have HW5 := hid hW5
    have HTB := hid hTB
    have HX15 := hid (HX1.below hb5)
    have HRP := hid (fun (st : RsS) (h : resAll A L F = st) => HRO.out.trans (resP_if hF h))
    have HRN := hid (fun (j : Nat) (hj4 : j ≤ 4096) (hj : 12 < (rsK A L F j).1.length) => show resOf K S G L = none from HRO.out.trans (by show resO A L (2 ^ s - 1) = none; rw [← hF]; exact resO_none hfN HLTN.out hj4 hj))
    clear HRO hW5 HX0 HX1 hF hto hW2 p0 p1 p2 hb1 ho1 hra hGA r0 r1 r2 f0 f1 f2
    go_wp2_with fail
    first | rw [← HW5.out] | trace_state
    refine (HALL.out _).mono ?_
    rintro e w6 ⟨rfl, hb6⟩
    obtain ⟨W7, hW7⟩ : ∃ W7, W7 = w6.alloc (.cells #[.int .i64 F] 3) := ⟨_, rfl⟩
    obtain ⟨W8, hW8⟩ : ∃ W8, W8 = W7.alloc (.map #[] 0) := ⟨_, rfl⟩
    have hb67 : Below w6.heap.size w6 W7 := by rw [hW7]; exact (Below.refl _ _).alloc (Nat.le_refl _) _
    have hb78 : Below W7.heap.size W7 W8 := by rw [hW8]; exact (Below.refl _ _).alloc (Nat.le_refl _) _
    have HB58 := hid (bs hb6 (bs hb67 hb78))
    obtain ⟨⟨q0, q1, q2⟩, _⟩ := (HTB.out.below HB58.out).c3
    have hz7 : W7.heap.size = w6.heap.size + 1 := by rw [hW7]; simp
    have hz8 : W8.heap.size = w6.heap.size + 1 + 1 := by rw [hW8]; simp; omega
    have HOW := hid (show W8.ownsRow W5.heap.size 3 1 (.slice (some ⟨w6.heap.size, 0, none⟩) 1 1) 1 (intVals (natI [F])) from by
      have h1 := owns_lit3 (w := w6) (base := w6.heap.size) (e := 3) #[.int .i64 F] (intVals (natI [F])) rfl (Nat.le_refl _) (by unfold maxLen; simp)
      rw [← hW7] at h1
      exact owns_base (owns_below h1 hb78) hb6.size)
    have HMP := hid (show W8.ownsMap Tryd.prog 3 (plainElem (H := Unit) Tryd.prog 3) (w6.heap.size + 1) 0 (nameD []) from by
      have h1 := World.ownsMap_made W7 Tryd.prog 3 (plainElem (H := Unit) Tryd.prog 3)
      rw [hz7, ← hW8] at h1
      exact h1)
    rw [hW8, hW7] at q0 q1 q2
    have HW8 := hid (hW8.trans (by rw [hW7]))
    have hs6 := hb6.size
    clear hW8 hW7 hb67 hb78 hb6
    go_wp2_with fail
    first | rw [← HW8.out] | trace_state
    refine (HALL.out _).mono ?_
    rintro e w9 ⟨rfl, hb9⟩
    have hkF : keyOf Tryd.prog 3 (.int .i64 (F : Int)) = some (.int .i64 (F : Int)) := Maps.keyOf_int_mk Tryd.underlying3 (wf_small F (by omega))
    obtain ⟨w10, hrun, hown10, hgr10⟩ := (owns_map_below HMP.out hb9).update hlaw Tryd.underlying74 (by unfold maxLen; omega) hkF (plainElem_int Tryd.underlying3 (show (Lit.int .i64 0).wf = true by decide))
    have hb59 := HB58.out.trans (hb9.mono HB58.out.size)
    have hb510 := hb59.grown hgr10 hb59.size (by rintro q ⟨⟩; omega)
    obtain ⟨⟨q0, q1, q2⟩, _⟩ := (HTB.out.below hb510).c3
    have h910 := hgr10.size
    have h89 := hb9.size
    obtain ⟨W11, hW11⟩ : ∃ W11, W11 = w10.alloc (.cells #[.int .i64 L, .int .i64 0, .slice none 0 0] 29) := ⟨_, rfl⟩
    obtain ⟨bO, hbO⟩ : ∃ bO, bO = w10.heap.size := ⟨_, rfl⟩
    have hx15 := HX15.out.lt
    have hws := hbw5.size
    have HQ0 := hid (show NameM w W5 W11 (w.heap.size + 1) (w6.heap.size + 1) bO #[.int .i64 0, .int .i64 0, .slice none 0 0] (.int .i64 L) (.int .i64 0) (.slice (some ⟨w6.heap.size, 0, none⟩) 1 1) [F] [F] (.slice none 0 0) 0 (arcVals (arcN [])) from by
      have hb11 : Below w10.heap.size w10 W11 := by rw [hW11]; exact (Below.refl _ _).alloc (Nat.le_refl _) _
      have hb5b := hb510.trans (hb11.mono hb510.size)
      refine ⟨hbw5.trans (hb5b.mono hbw5.size), hb5b, by omega, HX15.out.below hb5b, by rw [hW11, hbO]; exact BoxC.new _ _ _, owns_below ((owns_below HOW.out hb9).kept hgr10 (Or.inr (by simp [Value.ownBlock]))) hb11, by simp [Value.ownBlock]; omega, ?_, World.ownsRow_nil _ _ _ _⟩
      have e : nameD [F] = (nameD []).put (.int .i64 (F : Int)) (.lit (.int .i64 0)) := nameD_snoc [] F
      rw [e]
      exact owns_map_below hown10 hb11)
    have HW11 := hid hW11
    have HBO := hid hbO
    clear hW11 hbO hown10 hgr10 hb9 hkF HOW HMP
    go_upto_region 8 with fail
    first | rw [← HW11.out, ← HBO.out] | trace_state
    clear hrun q0 q1 q2
    obtain ⟨mb, hmb⟩ : ∃ mb, mb = w6.heap.size + 1 := ⟨_, rfl⟩
    rw [← hmb] at HQ0
    rw [← hmb]
    have HB4 := hid hx15
    clear h910 h89 hx15 hws hz7 hz8 hs6 hmb hb59 hb510 HB58 HBX HT
    go_wp2
    go_loopw [6, 9] (fun sv' i wr => ∃ (K : Nat) (sv v : Value), Hid (sv = sv') ∧ i = .int .i64 K ∧ Hid (K ≤ (rsK A L F K).1.length) ∧ Hid ((rsK A L F K).1.length ≤ 12) ∧ NameM w W5 wr (w.heap.size + 1) mb bO #[.int .i64 0, .int .i64 0, .slice none 0 0] (.int .i64 L) (.int .i64 0) sv (rsK A L F K).1 (rsK A L F K).1 v (rsK A L F K).2.length (arcVals (arcN (rsK A L F K).2))) (fun _ i _ => 13 - (intOf i).toNat)
    case atStart => exact ⟨0, _, _, hid rfl, rfl, hid (Nat.zero_le _), hid (show 1 ≤ 12 by omega), HQ0.out⟩
    case round =>
      clear HQ0
      obtain ⟨K', sv, v, hsv, rfl, HKL, HK12, HQ⟩ := hrel
      have hsv := hsv.out
      subst hsv
      have hok := (HOK.out K').1
      by_cases hlt : K' < (rsK A L F K').1.length
      · obtain ⟨set, hset⟩ := get_some hlt
        have hsn := (hok.pos set (List.mem_of_getElem? hset)).2
        have HXS := hid (fun x (hx : x ≤ L) => hok.xs (G := A) (set := set) hlt (HLTN.out set) x hx)
        have HSTEP := hid (rsK_step hset)
        have HSET := hid hset
        have HFEW := hid (rsK_few HKL.out)
        obtain ⟨st, hst⟩ : ∃ st, st = rsK A L F K' := ⟨_, rfl⟩
        rw [← hst] at HXS HSTEP HSET hlt HKL HK12 HQ HFEW
        obtain ⟨sg, sc, hsf⟩ := slice_form HQ.sets
        have HQH := hid HQ
        obtain ⟨q, hq⟩ : ∃ q, q = st.1.length := ⟨_, rfl⟩
        have HQE := hid hq
        rw [← hq] at hlt hsf HK12
        have hKq : (K' : Int) < (q : Int) := by omega
        have hq12 := HK12.out
        obtain ⟨⟨q0, q1, q2⟩, _⟩ := (HTB.out.below HQ.bel5).c3
        clear hst hok hset hq HQ
        subst hsf
        go_wp2
        go_loopw [6, 40] (fun a4 i wr => ∃ (x : Nat) (sv v : Value), x ≤ L ∧ i = .int .i64 x ∧ Hid (sv = a4) ∧ NameM w W5 wr (w.heap.size + 1) mb bO #[.int .i64 0, .int .i64 0, .slice none 0 0] (.int .i64 L) (.int .i64 0) sv (rsX A K' set st x).1 (rsX A K' set st x).1 v (rsX A K' set st x).2.length (arcVals (arcN (rsX A K' set st x).2))) (fun _ i _ => L - (intOf i).toNat)
        case atStart => exact ⟨0, _, _, by omega, rfl, hid rfl, HQH.out⟩
        case round =>
          clear HQH q0 q1 q2
          obtain ⟨x, sv1, v1, hx, rfl, hs4, HQ⟩ := hrel
          have hs4 := hs4.out
          subst hs4
          obtain ⟨hok1, l1, hl1⟩ := HXS.out x hx
          have hset1 : (rsX A K' set st x).1[K']? = some set := by rw [hl1, List.getElem?_append_left (by rw [← HQE.out]; exact hlt)]; exact HSET.out
          have hxf := rsX_few A K' set st x
          have hl15 : (rsX A K' set st x).1.length ≤ 4096 := by have := hok1.few; omega
          by_cases hltx : x < L
          · have hrow0 := HQ.sets
            obtain ⟨gs, cs, hform, _, _⟩ := own_form hrow0 (List.length_pos_of_mem (List.mem_of_getElem? hset1))
            have hcs : wr.cell? ⟨gs, K', none⟩ = some (.int .i64 set) := by
              rw [hform] at hrow0
              exact (hrow0.cellAt K' (by have := (List.getElem?_eq_some_iff.1 hset1).1; omega)).trans (intVals_get (natI_get hset1))
            have hgl : gs < wr.heap.size := by rw [hform] at hrow0; exact (hrow0.lt _ rfl).2
            have hKl : K' < (rsX A K' set st x).1.length := (List.getElem?_eq_some_iff.1 hset1).1
            have HRX := hid (show rsX A K' set st (x + 1) = rsLet A K' set x (rsX A K' set st x) from rfl)
            have HZ := hid (fun h => rsLet_zero (G := A) (k := K') (set := set) (x := x) (st := rsX A K' set st x) h)
            have HO := hid (fun h hm => rsLet_old (G := A) (k := K') (set := set) (x := x) (st := rsX A K' set st x) h hm)
            have HNW := hid (fun h hm => rsLet_new (G := A) (k := K') (set := set) (x := x) (st := rsX A K' set st x) h hm)
            have HND := hid hok1.new
            have HARL := hid (show (rsX A K' set st x).2.length ≤ 1000 from by
              have h1 := HFEW.out
              have h2 : K' * L ≤ 12 * 3 := Nat.mul_le_mul (by omega) hL3
              omega)
            obtain ⟨s1, hs1⟩ : ∃ s1, s1 = rsX A K' set st x := ⟨_, rfl⟩
            rw [← hs1] at HQ hform HRX HZ HO HNW HND HARL hKl hl15
            obtain ⟨q1, hq1⟩ : ∃ q1, q1 = s1.1.length := ⟨_, rfl⟩
            have HQ1 := hid hq1
            rw [← hq1] at hform hKl hl15
            subst hform
            have hKq1 : (K' : Int) < (q1 : Int) := by omega
            have hxL : (x : Int) < (L : Int) := by omega
            have hTBr := HTB.out.below HQ.bel5
            obtain ⟨⟨p0, p1, p2⟩, _⟩ := hTBr.c3
            have HSS := hid (HST.out wr.drew set x HQ.bel5.drew (by omega) (by omega))
            have HTO := hid (show stp A set x < 2 ^ s from HLTN.out set x)
            obtain ⟨tz, hto⟩ : ∃ tz, tz = stp A set x := ⟨_, rfl⟩
            rw [← hto] at HSS HTO HZ HO HNW
            have HQH := hid HQ
            have hbZ : Below wr.heap.size wr wr.drew := (Below.refl _ _).drew
            have HKK := hid (fun (V : World) (hV : Below wr.heap.size wr V) => show V.cell? ⟨w1.heap.size, 0, none⟩ = some (.int .i64 L) ∧ V.cell? ⟨w1.heap.size, 1, none⟩ = some (.int .i64 s) ∧ V.cell? ⟨w1.heap.size, 2, none⟩ = some (.slice g1 A.length c1) ∧ V.cell? ⟨gs, K', none⟩ = some (.int .i64 set) ∧ Below wr.heap.size wr V from by
              obtain ⟨⟨z0, z1, z2⟩, _⟩ := (hTBr.below hV).c3
              exact ⟨z0, z1, z2, (hV.cell (p := ⟨gs, K', none⟩) hgl).trans hcs, hV⟩)
            clear hto hs1 hq1 hrow0 HQ hok1 hl1 hset1 hxf hTBr
            go_wp2
            go_region_held3 (fun V => V.cell? ⟨w1.heap.size, 0, none⟩ = some (.int .i64 L) ∧ V.cell? ⟨w1.heap.size, 1, none⟩ = some (.int .i64 s) ∧ V.cell? ⟨w1.heap.size, 2, none⟩ = some (.slice g1 A.length c1) ∧ V.cell? ⟨gs, K', none⟩ = some (.int .i64 set) ∧ Below wr.heap.size wr V)
              (first | with_reducible exact HKK.out _ hbZ)
              (first | (go_at_call 53; refine HSS.out.mono ?_; rintro e w3 ⟨rfl, hb3⟩; have hbZ := hbZ.trans (hb3.mono hbZ.size)))
            have HQ3 := hid (HQH.out.below hbZ)
            clear HKK HSS p0 p1 p2 hcs hb3 hgl HQH
            by_cases h0 : tz = 0
            · have hE := hid (HRX.out.trans (HZ.out h0))
              clear HZ HO HNW HTO
              subst h0
              go_wp2
              go_roundw
              case rel => exact ⟨x + 1, _, v1, by omega, by go_num, hid rfl, by rw [hE.out]; exact HQ3.out⟩
              case measure => simp [intOf] <;> omega
            · have hz1 : ((tz : Int) == 0) = false := by simp [h0]
              have htz6 : tz ≤ 1000000 := by have := HTO.out; omega
              obtain ⟨u, hlk⟩ := look_name_ok hlaw Tryd.underlying3 Tryd.underlying74 Tryd.underlying3 (zeroInt w3) HQ3.out.map htz6
              have hszA : bO + 1 ≤ w3.heap.size := HQ3.out.b3.lt
              by_cases hm : tz ∈ s1.1
              · rw [decide_eq_true hm] at hlk
                have hl2 := look_name hlaw Tryd.underlying3 Tryd.underlying74 Tryd.underlying3 (zeroInt w3) HQ3.out.map htz6 HND.out hm
                have hE := hid (HRX.out.trans (HO.out h0 hm))
                obtain ⟨pp, hpp⟩ : ∃ pp, pp = posOf tz s1.1 := ⟨_, rfl⟩
                rw [← hpp] at hl2 hE
                obtain ⟨⟨_, _, o2⟩, _, _, f2⟩ := HQ3.out.b3.c3
                clear HZ HO HNW HTO hm hpp h0
                go_wp2_with (first
                  | (at_builtin
                     go_must (refine wpList_appA2 rfl _ _ 27 rfl (bO + 1) 53 Tryd.underlying27 infoArc v1 _ _ _ _ _ HQ3.out.own rfl w3.heap.size rfl rfl (by have := HARL.out; omega) hszA ?_)
                     intro g8 c8 w8 hown8 hgr8
                     obtain ⟨⟨_, _, y8⟩, _, _, z8⟩ := (HQ3.out.b3.keep hgr8 (fun e => by have := (HQ3.out.own.lt _ e).1; omega)).c3))
                have HQ8 := hid (HQ3.out.arc hown8 hgr8)
                go_roundw
                case rel => exact ⟨x + 1, _, _, by omega, by go_num, hid rfl, by rw [hE.out, List.length_append, arcN_snoc, arcVals_snoc]; exact HQ8.out⟩
                case measure => simp [intOf] <;> omega
              · rw [decide_eq_false hm] at hlk
                have hE := hid (HRX.out.trans (HNW.out h0 hm))
                rw [← HQ1.out] at hE
                obtain ⟨w4, hrun, hown4, hgr4⟩ := HQ3.out.map.update hlaw Tryd.underlying74 (by rw [← HQ1.out]; unfold maxLen; omega) (Maps.keyOf_int_mk Tryd.underlying3 (wf_small tz htz6)) (plainElem_int Tryd.underlying3 (wf_small q1 (by omega)))
                have HQ4 := hid (HQ3.out.put (s := tz) (by rw [← HQ1.out] at hown4 ⊢; exact hown4) hgr4)
                have HS0 := hid (show w4.ownsRow W5.heap.size 3 1 (.slice (some ⟨gs, 0, none⟩) q1 cs) q1 (intVals (natI s1.1)) from by
                  have h1 := HQ4.out.sets
                  rw [← HQ1.out] at h1
                  exact h1)
                have hsz5 : W5.heap.size ≤ w4.heap.size := HQ4.out.bel5.size
                have HNM := hid hm
                have HND2 := hid (show (s1.1 ++ [tz]).Nodup from List.nodup_append.2 ⟨HND.out, by simp, fun a ha b hb => by simp at hb; subst hb; exact fun e => hm (e ▸ ha)⟩)
                clear HZ HO HNW HTO h0 hown4 hgr4 hm
                go_wp2_with (first
                  | (at_builtin
                     refine wpList_appN2 rfl _ _ 41 rfl W5.heap.size 3 Tryd.underlying41 infoIntZ _ q1 _ (tz : Int) HS0.out rfl rfl (by omega) hsz5 ?_
                     intro g7 c7 w7 hown7 hgr7 hor7
                     have HQ7 := hid (HQ4.out.app (s := tz) (sv' := .slice (some ⟨g7, 0, none⟩) (q1 + 1) c7) (by rw [← HQ1.out]; exact hown7) hgr7 (lies_of hor7))
                     have hl2 := look_name hlaw Tryd.underlying3 Tryd.underlying74 Tryd.underlying3 (zeroInt w7) HQ7.out.map htz6 HND2.out (by simp)
                     rw [posOf_last HNM.out, ← HQ1.out] at hl2
                     obtain ⟨⟨_, _, o2⟩, _, _, f2⟩ := HQ7.out.b3.c3
                     have hszB : bO + 1 ≤ w7.heap.size := HQ7.out.b3.lt)
                  | (at_builtin
                     go_must (refine wpList_appA2 rfl _ _ 27 rfl (bO + 1) 53 Tryd.underlying27 infoArc v1 _ _ _ _ _ HQ7.out.own rfl w7.heap.size rfl rfl (by have := HARL.out; omega) hszB ?_)
                     intro g8 c8 w8 hown8 hgr8
                     obtain ⟨⟨_, _, y8⟩, _, _, z8⟩ := (HQ7.out.b3.keep hgr8 (fun e => by have := (HQ7.out.own.lt _ e).1; omega)).c3))
                have HQ8 := hid (HQ7.out.arc hown8 hgr8)
                go_roundw
                case rel => exact ⟨x + 1, _, _, by omega, by go_num, hid rfl, by rw [hE.out, List.length_append, arcN_snoc, arcVals_snoc]; exact HQ8.out⟩
                case measure => simp [intOf] <;> omega
          · obtain rfl : x = L := by omega
            obtain ⟨sg2, sc2, hsf2⟩ := slice_form HQ.sets
            have HQH := hid HQ
            have HL2 := hid hl1
            obtain ⟨q2, hq2⟩ : ∃ q2, q2 = (rsX A K' set st x).1.length := ⟨_, rfl⟩
            have HQ2 := hid hq2
            rw [← hq2] at hsf2 hl15
            obtain ⟨⟨r0, r1, r2⟩, f0, f1, f2⟩ := HQ.b1.c3
            clear HQ hl1 hset1 hok1 hq2 hxf
            subst hsf2
            by_cases h12 : q2 ≤ 12
            · have h12i : ¬ (12 < (q2 : Int)) := by omega
              go_wp2
              go_roundw
              case rel => exact ⟨K' + 1, _, v1, hid rfl, by go_num, hid (by rw [HSTEP.out, HL2.out, List.length_append, ← HQE.out]; omega), hid (by rw [HSTEP.out, ← HQ2.out]; exact h12), by rw [HSTEP.out]; exact HQH.out⟩
              case measure => simp [intOf]; omega
            · have h12i : (12 < (q2 : Int)) := by omega
              go_wp2
              have hordH := HQH.out.ord
              refine bodyPost_ret (v := .tuple #[.agg #[.int .i64 0, .int .i64 0, .slice none 0 0], .bool false]) (by simp [results, Tryd.results25, go_sem, r0, r1, r2]) rfl ⟨K, HTK.out, ?_⟩
              rw [HRN.out (K' + 1) (by omega) (by rw [HSTEP.out, ← HQ2.out]; omega)]
              exact labsMay_none (((HQH.out.bel.setCell (by show w.heap.size ≤ w.heap.size + 1; omega) _).setCell (by show w.heap.size ≤ w.heap.size + 1; omega) _).setCell (by show w.heap.size ≤ w.heap.size + 1; omega) _)
      · have hKe : (rsK A L F K').1.length = K' := by have := HKL.out; omega
        have hk12 : K' ≤ 12 := by have := HK12.out; omega
        have hall := resAll_at (G := A) (L := L) (full := F) (k := K') (by omega) (by omega)
        have HRQ := hid (HRP.out _ hall)
        obtain ⟨sg, sc, hsf⟩ := slice_form HQ.sets
        obtain ⟨gq, cq, hvf⟩ := slice_form HQ.own
        have HKE := hid hKe
        rw [hKe] at hsf
        have HQH := hid HQ
        obtain ⟨⟨o0, o1, o2⟩, k0, k1, k2⟩ := HQ.b3.c3
        obtain ⟨⟨r0, r1, r2⟩, f0, f1, f2⟩ := HQ.b1.c3
        have hordH := HQH.out.ord
        have hne1 : ¬ (bO = w.heap.size + 1) := by omega
        have hne2 : ¬ (w.heap.size + 1 = bO) := by omega
        clear HQ hok hlt hall hKe
        subst hsf
        subst hvf
        go_wp2
        refine bodyPost_ret (v := .tuple #[.agg #[.int .i64 L, .int .i64 K', .slice gq (rsK A L F K').2.length cq], .bool true]) (by simp [results, Tryd.results25, go_sem, r0, r1, r2]) rfl ⟨K, HTK.out, ?_⟩
        rw [HRQ.out, HKE.out, if_pos hk12]
        have h1 := HQH.out.set1 (.int .i64 K')
        exact ⟨gq, cq, rfl, owns_base (own_setB (own_setB (own_setB h1.own (by omega) _ _) (by omega) _ _) (by omega) _ _) (by omega), ((h1.bel.setCell (by show w.heap.size ≤ w.heap.size + 1; omega) _).setCell (by show w.heap.size ≤ w.heap.size + 1; omega) _).setCell (by show w.heap.size ≤ w.heap.size + 1; omega) _⟩
end Go.Proofs.YtpfeflhcbcgbfaaDoor
