/- Labelled graphs: the labelled graph of sets, the reference's function. Conditions: the arcs lie in memory. -/
import Derived.Test.YtpfeflhcbcgbfaaDoorResB
import Derived.Test.YtpfeflhcbcgbfaaDoorTrimC
import Derived.Test.YtpfeflhcbcgbfaaDoorLab
namespace Go.Proofs.YtpfeflhcbcgbfaaDoor
open Go.RowKit

def resP (L : Nat) (p : Nat × List (Nat × Nat × Nat)) : Option (Nat × List (Nat × Nat × Nat)) := resO p.2 L (2 ^ p.1 - 1)
def resOf (K : Nat → Bool) (S : Nat) (G : List (Nat × Nat × Nat)) (L : Nat) : Option (Nat × List (Nat × Nat × Nat)) := (trimO K S G).bind (resP L)
def ResoPost (L S : Nat) (G : List (Nat × Nat × Nat)) (w : World) (e : Ending) (w' : World) : Prop :=
  ∃ K : Nat → Bool, (∀ i, i < S → (K i = true ↔ LivesG G S i)) ∧ LabsMay L (resOf K S G L) w e w'
theorem bind_at {α β : Type} {o : Option α} {p : α} {f : α → Option β} (h : o = some p) : o.bind f = f p := by subst h; rfl
theorem bind_no {α β : Type} {o : Option α} {f : α → Option β} (h : o = none) : o.bind f = none := by subst h; rfl
theorem resOf_none {K : Nat → Bool} {S L : Nat} {G : List (Nat × Nat × Nat)} (h : trimO K S G = none) : resOf K S G L = none := bind_no h
theorem resOf_some {K : Nat → Bool} {S L : Nat} {G : List (Nat × Nat × Nat)} {p : Nat × List (Nat × Nat × Nat)} (h : trimO K S G = some p) : resOf K S G L = resP L p := bind_at h
theorem resP_if {L s F : Nat} {A : List (Nat × Nat × Nat)} {st : RsS} (hF : F = 2 ^ s - 1) (h : resAll A L F = st) : resP L (s, A) = if st.1.length ≤ 12 then some (st.1.length, st.2) else none := by
  subst hF
  exact resO_if h
/-- The boxes of the result and of the graph under way, and its arcs. -/
structure KeepR (T3 : TypeId) (w w6 wr : World) (bR bO D : Nat) (A1 : Array Value) (x0 x1 : Value) (v : Value) (m : Nat) (A : List Value) : Prop where
  bel : Below w.heap.size w wr
  bel6 : Below w6.heap.size w6 wr
  ord : w.heap.size ≤ bR ∧ bR < bO ∧ bO < D ∧ w6.heap.size ≤ bO
  sz : D ≤ wr.heap.size
  b1 : BoxC wr bR A1
  b3 : BoxC wr bO #[x0, x1, v]
  own : wr.ownsRow D T3 3 v m A
section
variable {T3 : TypeId} {w w6 wr w' : World} {bR bO D m : Nat} {A1 : Array Value} {A : List Value} {x0 x1 v : Value}
theorem KeepR.below (h : KeepR T3 w w6 wr bR bO D A1 x0 x1 v m A) (hb : Below wr.heap.size wr w') : KeepR T3 w w6 w' bR bO D A1 x0 x1 v m A :=
  ⟨h.bel.trans (hb.mono h.bel.size), h.bel6.trans (hb.mono h.bel6.size), h.ord, Nat.le_trans h.sz hb.size, h.b1.below hb, h.b3.below hb, owns_below h.own hb⟩
theorem KeepR.app {w1 : World} {v' : Value} {m' : Nat} {A' : List Value} (h : KeepR T3 w w6 wr bR bO D A1 x0 x1 v m A) (hb : Below D wr w1) (ho1 : w1.ownsRow D T3 3 v' m' A') : KeepR T3 w w6 (w1.setCell ⟨bO, 2, none⟩ v') bR bO D A1 x0 x1 v' m' A' := by
  have ho := h.ord
  have hb2 : Below w.heap.size w w1 := h.bel.trans (hb.mono (by omega))
  have hb3 : Below w6.heap.size w6 w1 := h.bel6.trans (hb.mono (by omega))
  exact ⟨hb2.setCell (by show w.heap.size ≤ bO; omega) _, hb3.setCell (by show w6.heap.size ≤ bO; omega) _, ho, by simpa using Nat.le_trans h.sz hb.size, (h.b1.at_ hb (by omega)).other (by omega) _, (h.b3.at_ hb (by omega)).set2 _, own_setB ho1 (by omega) _ _⟩
theorem KeepR.set1 (h : KeepR T3 w w6 wr bR bO D A1 x0 x1 v m A) (u : Value) : KeepR T3 w w6 (wr.setCell ⟨bO, 1, none⟩ u) bR bO D A1 x0 u v m A := by
  have ho := h.ord
  exact ⟨h.bel.setCell (by show w.heap.size ≤ bO; omega) _, h.bel6.setCell (by show w6.heap.size ≤ bO; omega) _, ho, by simpa using h.sz, h.b1.other (by omega) _, h.b3.set1 _, own_setB h.own (by omega) _ _⟩
end
set_option maxHeartbeats 4000000 in
set_option maxRecDepth 100000 in
theorem spec_ResolveLabels_yes (L S : Nat) (a : Option Addr) (n c : Nat) (G : List (Nat × Nat × Nat)) (w : World) (hr : RowAt w a (n * 3) (arcVals (arcN G))) (hn : n ≤ 1000000) (h : labsB L S (arcN G) = true) (hG : LabG L S G) :
    Calls Tryd.prog 15 #[.agg #[.int .i64 L, .int .i64 S, .slice a n c]] w (ResoPost L S G w) := by
  obtain ⟨W2, hW2⟩ : ∃ W2, W2 = (w.alloc (.cells #[.int .i64 L, .int .i64 S, .slice a n c] 29)).alloc (.cells #[.int .i64 0, .int .i64 0, .slice none 0 0] 29) := ⟨_, rfl⟩
  have hs2 : W2.heap.size = w.heap.size + 1 + 1 := by rw [hW2]; simp
  have HBX := hid (fun (V : World) (hV : Below W2.heap.size W2 V) => show BoxC V w.heap.size #[.int .i64 L, .int .i64 S, .slice a n c] ∧ BoxC V (w.heap.size + 1) #[.int .i64 0, .int .i64 0, .slice none 0 0] ∧ Below w.heap.size w V from by
    rw [hW2] at hV
    obtain ⟨⟨c0, f0⟩, ⟨c1, f1⟩, h4, h5⟩ := box2 hV
    exact ⟨⟨by omega, c0, f0⟩, ⟨h4, c1, f1⟩, h5⟩)
  have HT := hid (fun (W : World) (hW : Below w.heap.size w W) => spec_TrimLabels_yes L S a n c G W (hr.below hW (Nat.le_refl _)) hn h hG)
  unfold TrimPost LabsMay labV at HT
  obtain ⟨HX0, HX1, hbw⟩ := HBX.out W2 (Below.refl _ _)
  obtain ⟨p0, p1, p2⟩ := HX0.c3.1
  have HGL := hid hG
  have HAL := hid (show G.length = n from by have := hr.len; rw [arcVals_len, arcN_len] at this; omega)
  clear hr h HX0 HX1 hG
  unfold ResoPost LabsMay labV
  go_enter Tryd.func15, Tryd.ntmps15
  go_wp2_with (rw [← hW2])
  first | rw [← hW2] | skip
  refine (HT.out _ hbw).mono ?_
  rintro e w1 ⟨K, hK, g1, c1, rfl, ho1, hb1⟩
  obtain ⟨HX0, HX1, hbw1⟩ := HBX.out w1 hb1
  obtain ⟨⟨r0, r1, r2⟩, f0, f1, f2⟩ := HX1.c3
  have HTK := hid hK
  have HB1 := hid hb1
  have HO1 := hid ho1
  cases hto : trimO K S G with
  | none =>
    have HN := hid (resOf_none (L := L) hto)
    clear hto hW2 p0 p1 p2 hb1 ho1
    simp only [Option.isSome_none, Option.getD_none, List.length_nil]
    have HX5 := HX1.alloc (.cells #[.int .i64 0, .int .i64 0, .slice g1 0 c1] 29)
    obtain ⟨⟨r0, r1, r2⟩, f0, f1, f2⟩ := HX5.c3
    have hbw5 := hbw1.alloc hbw1.size (.cells #[.int .i64 0, .int .i64 0, .slice g1 0 c1] 29)
    obtain ⟨W5, hW5⟩ : ∃ W5, W5 = w1.alloc (.cells #[.int .i64 0, .int .i64 0, .slice g1 0 c1] 29) := ⟨_, rfl⟩
    rw [← hW5] at r0 r1 r2 f0 f1 f2 hbw5
    have HW5 := hid hW5
    clear hW5 HX5
    go_upto_region 2 with fail
    first | rw [← HW5.out] | trace_state
    go_wp2
    refine bodyPost_ret (v := .tuple #[.agg #[.int .i64 0, .int .i64 0, .slice none 0 0], .bool false]) (by simp [results, Tryd.results15, go_sem, r0, r1, r2]) rfl ⟨K, HTK.out, ?_⟩
    rw [HN.out]
    exact labsMay_none ((((hbw5.setCell (by show w.heap.size ≤ w.heap.size + 1; omega) _).setCell (by show w.heap.size ≤ w.heap.size + 1; omega) _).setCell (by show w.heap.size ≤ w.heap.size + 1; omega) _))
  | some p =>
    obtain ⟨s, A⟩ := p
    have HRO := hid (resOf_some (L := L) hto)
    have hHA : LabG L s A ∧ A.length ≤ n := by
      unfold trimO at hto
      by_cases h0 : numTo K S = 0
      · rw [if_pos h0] at hto; cases hto
      · rw [if_neg h0] at hto
        injection hto with hto
        injection hto with e1 e2
        subst e1 e2
        exact ⟨keepG_lab HGL.out h0, by rw [← HAL.out]; exact keepG_len K G⟩
    obtain ⟨hGA, hAn⟩ := hHA
    have hA12 := hGA.s12
    have hL3 := hGA.k3
    simp only [hto, Option.getD_some] at ho1
    have hra := owns_rowAt3 ho1 (by show A.length * 3 ≤ _; omega)
    have HSE := hid (fun (W : World) (hW : Below w1.heap.size w1 W) => l15Sets_c L s g1 A.length c1 A W (hra.below hW (Nat.le_refl _)) hGA (by omega))
    unfold ResPost at HSE
    have HG2 := hid hGA
    clear hto hW2 p0 p1 p2 hb1 ho1 hra hGA
    simp only [Option.isSome_some, Option.getD_some, if_true]
    have hbw5 := hbw1.alloc hbw1.size (.cells #[.int .i64 L, .int .i64 s, .slice g1 A.length c1] 29)
    have hb5 : Below w1.heap.size w1 (w1.alloc (.cells #[.int .i64 L, .int .i64 s, .slice g1 A.length c1] 29)) := (Below.refl _ _).alloc (Nat.le_refl _) _
    obtain ⟨W5, hW5⟩ : ∃ W5, W5 = w1.alloc (.cells #[.int .i64 L, .int .i64 s, .slice g1 A.length c1] 29) := ⟨_, rfl⟩
    rw [← hW5] at hbw5 hb5
    have HW5 := hid hW5
    have HX05 := hid (HX0.below hb5)
    have HX15 := hid (HX1.below hb5)
    have HSE5 := hid (HSE.out W5 hb5)
    have hfa := resAll_facts (G := A) (L := L) (full := 2 ^ s - 1) (N := 2 ^ s) (by have := Nat.pow_le_pow_right (n := 2) (by omega) HG2.out.s1; omega) (fun set x => stp_lt HG2.out) (two_pow12 hA12)
    obtain ⟨F, hF⟩ : ∃ F, F = 2 ^ s - 1 := ⟨_, rfl⟩
    rw [← hF] at HSE5 hfa
    obtain ⟨st, hst⟩ : ∃ st, st = resAll A L F := ⟨_, rfl⟩
    have HRP := hid (HRO.out.trans (resP_if hF hst.symm))
    rw [← hst] at HSE5 hfa
    obtain ⟨M, hM⟩ : ∃ M, M = st.1.length := ⟨_, rfl⟩
    rw [← hM] at HSE5 hfa HRP
    obtain ⟨rows, hrows⟩ : ∃ rows, rows = nxK A L F M := ⟨_, rfl⟩
    rw [← hrows] at HSE5 hfa
    obtain ⟨hM4, hrl, hac, hrw⟩ := hfa
    have HAC := hid hac
    have HRW := hid hrw
    have HRL := hid hrl
    clear hst hF hM hrows hac hrw hrl HRO hW5 HX0 HX1
    go_wp2_with fail
    first | rw [← HW5.out] | skip
    refine HSE5.out.mono ?_
    rintro e w6 ⟨sv, nv, rfl, hos, hgn, hb6⟩
    obtain ⟨sg, sc, rfl⟩ := slice_form hos
    obtain ⟨an, cn, hnv, htn⟩ := grid_tabAt hgn (by rw [HRL.out]; omega) (fun r hr => by rw [HRW.out r hr]; omega)
    rw [HRL.out] at hnv htn
    subst hnv
    have HTN := hid htn
    have hbw6 := hbw5.trans (hb6.mono hbw5.size)
    have HX06 := hid (HX05.out.below hb6)
    have HX16 := hid (HX15.out.below hb6)
    have HBW6 := hid hbw6
    obtain ⟨⟨r0, r1, r2⟩, f0, f1, f2⟩ := HX16.out.c3
    obtain ⟨⟨p0, p1, p2⟩, _⟩ := HX06.out.c3
    clear hos hgn htn hb6 HSE5 HSE HT hbw5 hbw1 hb5
    by_cases h12 : M ≤ 12
    · have HRP := hid (HRP.out.trans (if_pos h12))
      have hMi : ¬ (12 < (M : Int)) := by omega
      obtain ⟨W7, hW7⟩ : ∃ W7, W7 = w6.alloc (.cells #[.int .i64 L, .int .i64 M, .slice none 0 0] 29) := ⟨_, rfl⟩
      obtain ⟨bO, hbO⟩ : ∃ bO, bO = w6.heap.size := ⟨_, rfl⟩
      have hws := HBW6.out.size
      have hl1 := HX16.out.lt
      have HQ0 := hid (show KeepR 53 w w6 W7 (w.heap.size + 1) bO (bO + 1) #[.int .i64 0, .int .i64 0, .slice none 0 0] (.int .i64 L) (.int .i64 M) (.slice none 0 0) 0 (arcVals (arcN [])) from by
        have hz7 : W7.heap.size = bO + 1 := by rw [hW7, hbO]; simp
        have hb7 : Below w6.heap.size w6 W7 := by rw [hW7]; exact (Below.refl _ _).alloc (Nat.le_refl _) _
        exact ⟨HBW6.out.trans (hb7.mono HBW6.out.size), hb7, by omega, by omega, HX16.out.below hb7, by rw [hW7, hbO]; exact BoxC.new _ _ _, World.ownsRow_nil _ _ _ _⟩)
      have HW7 := hid hW7
      have hbOe := hid hbO
      clear hW7
      go_upto_region 8 with fail
      first | rw [← HW7.out, ← hbOe.out] | trace_state
      clear p0 p1 p2 r0 r1 r2 f0 f1 f2 hbO
      go_wp2
      go_loopw [9] (fun i wr => ∃ (k : Nat) (v : Value), k ≤ M ∧ i = .int .i64 k ∧ KeepR 53 w w6 wr (w.heap.size + 1) bO (bO + 1) #[.int .i64 0, .int .i64 0, .slice none 0 0] (.int .i64 L) (.int .i64 M) v (arcsRows rows k).length (arcVals (arcN (arcsRows rows k)))) (fun i _ => M - (intOf i).toNat)
      case atStart => exact ⟨0, _, by omega, rfl, HQ0.out⟩
      case round =>
        clear HQ0
        obtain ⟨k, v, hk, rfl, HQ⟩ := hrel
        by_cases hlt : k < M
        · obtain ⟨row, hrow⟩ := get_some (l := rows) (n := k) (by rw [HRL.out]; exact hlt)
          have hrl := HRW.out row (List.mem_of_getElem? hrow)
          have HROW := hid hrow
          have hki : (k : Int) < (M : Int) := by omega
          have HQH := hid HQ
          obtain ⟨tb, toff, ta, tc, he, htb, htc, htr⟩ := tab_row HTN.out hlt hrow
          subst he
          rw [hrl] at htc htr
          have HTC := hid (fun (V : World) (hV : Below w6.heap.size w6 V) => show V.cell? ⟨tb, toff + k, none⟩ = some (.slice ta L tc) from (hV.cell (p := ⟨tb, toff + k, none⟩) htb).trans htc)
          have HTR := hid (fun (V : World) (hV : Below w6.heap.size w6 V) => htr.below hV (Nat.le_refl _))
          have HRS := hid (show arcsRows rows (k + 1) = arcsRows rows k ++ arcsRow k row L from by rw [arcsRows_succ, List.getD_eq_getElem?_getD, hrow]; show _ ++ arcsRow k row row.length = _; rw [hrl])
          clear hrow htc htr HQ
          go_wp2
          go_loopw [10] (fun i wr => ∃ (x : Nat) (v : Value), x ≤ L ∧ i = .int .i64 x ∧ KeepR 53 w w6 wr (w.heap.size + 1) bO (bO + 1) #[.int .i64 0, .int .i64 0, .slice none 0 0] (.int .i64 L) (.int .i64 M) v (arcsRows rows k ++ arcsRow k row x).length (arcVals (arcN (arcsRows rows k ++ arcsRow k row x)))) (fun i _ => L - (intOf i).toNat)
          case atStart => exact ⟨0, _, by omega, rfl, by rw [show arcsRow k row 0 = [] from rfl, List.append_nil]; exact HQH.out⟩
          case round =>
            clear HQH
            obtain ⟨x, v, hx, rfl, HQ⟩ := hrel
            have htc := HTC.out wr HQ.bel6
            by_cases hltx : x < L
            · obtain ⟨z, hz⟩ := get_some (l := row) (n := x) (by rw [hrl]; exact hltx)
              obtain ⟨rb, ro, hte, hrb, hrc⟩ := (HTR.out w6 (Below.refl _ _)).at_ (by omega)
              subst hte
              have HZC := hid (fun (V : World) (hV : Below w6.heap.size w6 V) => show V.cell? ⟨rb, ro + x, none⟩ = some (.int .i64 z) from (hV.cell (p := ⟨rb, ro + x, none⟩) hrb).trans (hrc x _ (intVals_get hz)))
              have hzc := HZC.out wr HQ.bel6
              have HQH := hid HQ
              have hxi : (x : Int) < (L : Int) := by omega
              have HSU := hid (show arcsRow k row (x + 1) = arcsRow k row x ++ (if 0 ≤ z then [(k, z.toNat, x)] else []) from by rw [arcsRow_succ, List.getD_eq_getElem?_getD, hz]; rfl)
              obtain ⟨AR, hAR⟩ : ∃ AR, AR = arcsRows rows k ++ arcsRow k row x := ⟨_, rfl⟩
              rw [← hAR] at HQH
              have HAR := hid hAR
              have hARl : AR.length ≤ 1000 := by
                have h1 := arcsRows_len HRW.out k
                have h2 := arcsRow_len k row x
                have h3 : k * L ≤ 12 * 3 := Nat.mul_le_mul (by omega) hL3
                rw [HAR.out, List.length_append]
                omega
              clear hz hrc HQ hAR
              by_cases hz0 : 0 ≤ z
              · have HSU := hid (HSU.out.trans (by rw [if_pos hz0]))
                have hzd : decide (0 ≤ z) = true := decide_eq_true hz0
                obtain ⟨⟨o0, o1, o2⟩, f0, f1, f2⟩ := HQH.out.b3.c3
                go_wp2_with fail
                obtain ⟨S', hSd⟩ : ∃ S' : World → Prop, S' = fun V => V.cell? ⟨bO, 2, none⟩ = some v ∧ V.cell? ⟨tb, toff + k, none⟩ = some (.slice (some ⟨rb, ro, none⟩) L tc) ∧ V.cell? ⟨rb, ro + x, none⟩ = some (.int .i64 z) := ⟨_, rfl⟩
                have HSO := hid (show ∀ V, S' V → V.cell? ⟨bO, 2, none⟩ = some v ∧ V.cell? ⟨tb, toff + k, none⟩ = some (.slice (some ⟨rb, ro, none⟩) L tc) ∧ V.cell? ⟨rb, ro + x, none⟩ = some (.int .i64 z) from fun V hV => by rw [hSd] at hV; exact hV)
                have HSG := hid (show ∀ V, Below (bO + 1) wr.drew V → S' V from fun V hb => by
                  have ho := HQH.out.ord
                  have hb6 := HQH.out.bel6.drew.trans (hb.mono (by omega))
                  obtain ⟨⟨_, _, z2⟩, _⟩ := ((HQH.out.b3.below (Below.refl _ _).drew).at_ hb (by omega)).c3
                  rw [hSd]; exact ⟨z2, HTC.out V hb6, HZC.out V hb6⟩)
                have hszA : bO + 1 ≤ wr.drew.heap.size := HQH.out.sz
                have hS0 : S' wr.drew := HSG.out _ (Below.refl _ _)
                have hS1' : S' (wr.drew.alloc (.cells #[.int .i64 k, .int .i64 z, .int .i64 x] 53)) := HSG.out _ ((Below.refl _ _).alloc hszA _)
                have HOWN := hid (owns_below HQH.out.own (Below.refl _ _).drew)
                clear hSd
                refine wp_region_T (S := S') 15 (by kernel_rfl) ?_
                (refine wpAnyT_take (i := 0) (v := ?v0) rfl (by kernel_rfl) (by kernel_rfl) (by kernel_rfl) (by kernel_rfl) (fun _ _ _ h => h) (Or.inl ⟨by rfl, ?y0⟩) (by assumption) ?r0; case y0 => (intro V hSw; have hSw := HSO.out V hSw; go_split_ands; go_simp; first | done | with_reducible rfl); try simp only [Act.put, List.setIfInBounds_toArray, List.set_cons_zero, List.set_cons_succ])
                (refine wpAnyT_take (i := 1) (v := ?v1) rfl (by kernel_rfl) (by kernel_rfl) (by kernel_rfl) (by kernel_rfl) (fun _ _ _ h => h) (Or.inl ⟨by rfl, ?y1⟩) (by assumption) ?r1; case y1 => (intro V hSw; have hSw := HSO.out V hSw; go_split_ands; go_simp; first | done | with_reducible rfl); try simp only [Act.put, List.setIfInBounds_toArray, List.set_cons_zero, List.set_cons_succ])
                (refine wpAnyT_take (i := 2) (v := ?v2) rfl (by kernel_rfl) (by kernel_rfl) (by kernel_rfl) (by kernel_rfl) (fun _ _ _ h => h) (Or.inl ⟨by rfl, ?y2⟩) (by assumption) ?r2; case y2 => (intro V hSw; have hSw := HSO.out V hSw; go_split_ands; go_simp; first | done | with_reducible rfl); try simp only [Act.put, List.setIfInBounds_toArray, List.set_cons_zero, List.set_cons_succ])
                (refine wpAnyT_take (i := 3) (v := ?v3) rfl (by kernel_rfl) (by kernel_rfl) (by kernel_rfl) (by kernel_rfl) (fun _ _ _ h => h) (Or.inl ⟨by rfl, ?y3⟩) (by assumption) ?r3; case y3 => (intro V hSw; have hSw := HSO.out V hSw; go_split_ands; go_simp; first | done | with_reducible rfl); try simp only [Act.put, List.setIfInBounds_toArray, List.set_cons_zero, List.set_cons_succ])
                (refine wpAnyT_take (i := 4) (v := ?v4) rfl (by kernel_rfl) (by kernel_rfl) (by kernel_rfl) (by kernel_rfl) (fun _ _ _ h => h) (Or.inl ⟨by rfl, ?y4⟩) (by assumption) ?r4; case y4 => (intro V hSw; have hSw := HSO.out V hSw; go_split_ands; go_simp; first | done | with_reducible rfl); try simp only [Act.put, List.setIfInBounds_toArray, List.set_cons_zero, List.set_cons_succ])
                (refine wpAnyT_take (i := 5) (v := ?v5) rfl (by kernel_rfl) (by kernel_rfl) (by kernel_rfl) (by kernel_rfl) (fun _ _ _ h => h) (Or.inl ⟨by rfl, ?y5⟩) (by assumption) ?r5; case y5 => (intro V hSw; have hSw := HSO.out V hSw; go_split_ands; go_simp; first | done | with_reducible rfl); try simp only [Act.put, List.setIfInBounds_toArray, List.set_cons_zero, List.set_cons_succ])
                (refine wpAnyT_take (i := 6) (v := ?v6) rfl (by kernel_rfl) (by kernel_rfl) (by kernel_rfl) (by kernel_rfl) (fun _ _ _ h => h) (Or.inl ⟨by rfl, ?y6⟩) (by assumption) ?r6; case y6 => (intro V hSw; have hSw := HSO.out V hSw; go_split_ands; go_simp; first | done | with_reducible rfl); try simp only [Act.put, List.setIfInBounds_toArray, List.set_cons_zero, List.set_cons_succ])
                (refine wpAnyT_take (i := 7) (v := ?v7) rfl (by kernel_rfl) (by kernel_rfl) (by kernel_rfl) (by kernel_rfl) (fun _ _ _ h => h) (Or.inl ⟨by rfl, ?y7⟩) (by assumption) ?r7; case y7 => (intro V hSw; have hSw := HSO.out V hSw; go_split_ands; go_simp; first | done | with_reducible rfl); try simp only [Act.put, List.setIfInBounds_toArray, List.set_cons_zero, List.set_cons_succ])
                (refine wpAnyT_take (i := 8) (v := ?v8) rfl (by kernel_rfl) (by kernel_rfl) (by kernel_rfl) (by kernel_rfl) (fun _ _ _ h => h) (Or.inl ⟨by rfl, ?y8⟩) (by assumption) ?r8; case y8 => (intro V hSw; have hSw := HSO.out V hSw; go_split_ands; go_simp; first | done | with_reducible rfl); try simp only [Act.put, List.setIfInBounds_toArray, List.set_cons_zero, List.set_cons_succ])
                (refine wpAnyT_take (i := 9) (v := ?v9) rfl (by kernel_rfl) (by kernel_rfl) (by kernel_rfl) (by kernel_rfl) (fun _ _ _ h => h) (Or.inl ⟨by rfl, ?y9⟩) (by assumption) ?r9; case y9 => (intro V hSw; have hSw := HSO.out V hSw; go_split_ands; go_simp; first | done | with_reducible rfl); try simp only [Act.put, List.setIfInBounds_toArray, List.set_cons_zero, List.set_cons_succ])
                (refine wpAnyT_take (i := 10) (v := ?v10) rfl (by kernel_rfl) (by kernel_rfl) (by kernel_rfl) (by kernel_rfl) (fun _ _ _ h => h) (Or.inl ⟨by rfl, ?y10⟩) (by assumption) ?r10; case y10 => (intro V hSw; have hSw := HSO.out V hSw; go_split_ands; go_simp; first | done | with_reducible rfl); try simp only [Act.put, List.setIfInBounds_toArray, List.set_cons_zero, List.set_cons_succ])
                (refine wpAnyT_take (i := 11) (v := ?v11) rfl (by kernel_rfl) (by kernel_rfl) (by kernel_rfl) (by kernel_rfl) (fun _ _ _ h => h) (Or.inl ⟨by rfl, ?y11⟩) (by assumption) ?r11; case y11 => (intro V hSw; have hSw := HSO.out V hSw; go_split_ands; go_simp; first | done | with_reducible rfl); try simp only [Act.put, List.setIfInBounds_toArray, List.set_cons_zero, List.set_cons_succ])
                refine wpAnyT_step (i := 12) rfl (by kernel_rfl) (by decide) (fun K hK => ?_)
                go_simp
                refine hK.out _ _ hS1' ?_
                clear hK K
                try simp only [Act.put, List.setIfInBounds_toArray, List.set_cons_zero, List.set_cons_succ]
                refine wpAnyT_step (i := 13) rfl (by kernel_rfl) (by decide) (fun K hK => ?_)
                refine step_appA (by rfl) _ _ 27 (by rfl) (bO + 1) 53 Tryd.underlying27 infoArc v _ _ _ _ _ HOWN.out (by rfl) (by rfl) (by omega) hszA ?_
                intro g8 c8 w8 hown8 hbel8 hgr8
                refine hK.out _ _ (HSG.out _ hbel8) ?_
                clear hK K
                try simp only [Act.put, List.setIfInBounds_toArray, List.set_cons_zero, List.set_cons_succ]
                have hS6 := HSG.out _ hbel8
                have hQ8 := (HQH.out.below (Below.refl _ _).drew).app hbel8 hown8
                obtain ⟨⟨_, _, z2⟩, _, _, z3⟩ := ((HQH.out.b3.below (Below.refl _ _).drew).at_ hbel8 (Nat.lt_succ_self _)).c3
                have HQ8 := hid hQ8
                clear hQ8 hown8 hgr8
                (refine wpAnyT_take (i := 14) (v := ?v14) rfl (by kernel_rfl) (by kernel_rfl) (by kernel_rfl) (by kernel_rfl) (fun _ _ _ h => h) (Or.inl ⟨by rfl, ?y14⟩) (by assumption) ?r14; case y14 => (intro V hSw; have hSw := HSO.out V hSw; go_split_ands; go_simp; first | done | with_reducible rfl); try simp only [Act.put, List.setIfInBounds_toArray, List.set_cons_zero, List.set_cons_succ])
                refine wpAnyT_last rfl (by kernel_rfl) (by kernel_rfl) (fun K hK => ?_)
                go_simp
                refine hK.out _ _ ?_
                clear hK K
                have HZN := hid (show (z.toNat : Int) = z from by omega)
                go_wp2
                go_roundw
                case rel => exact ⟨x + 1, .slice (some ⟨g8, 0, none⟩) (AR.length + 1) c8, by omega, by go_num, by rw [HSU.out, ← List.append_assoc, ← HAR.out, List.length_append, arcN_snoc, arcVals_snoc, HZN.out]; exact HQ8.out⟩
                case measure => simp [intOf]; omega
              · have HSU := hid (HSU.out.trans (by rw [if_neg hz0, List.append_nil]))
                have hzd : decide (0 ≤ z) = false := decide_eq_false hz0
                go_wp2
                go_roundw
                case rel => exact ⟨x + 1, v, by omega, by go_num, by rw [HSU.out, ← HAR.out]; exact HQH.out⟩
                case measure => simp [intOf]; omega
            · obtain rfl : x = L := by omega
              have HQH := hid HQ
              clear HQ
              go_wp2
              go_roundw
              case rel => exact ⟨k + 1, v, by omega, by go_num, by rw [HRS.out]; exact HQH.out⟩
              case measure => simp [intOf]; omega
        · obtain rfl : k = M := by omega
          obtain ⟨⟨o0, o1, o2⟩, _⟩ := HQ.b3.c3
          obtain ⟨⟨r0, r1, r2⟩, f0, f1, f2⟩ := HQ.b1.c3
          have HQH := hid HQ
          obtain ⟨gq, cq, rfl⟩ := slice_form HQ.own
          clear HQ
          go_wp2
          have hordH := HQH.out.ord
          refine bodyPost_ret (v := .tuple #[.agg #[.int .i64 L, .int .i64 k, .slice gq (arcsRows rows k).length cq], .bool true]) (by simp [results, Tryd.results15, go_sem, r0, r1, r2]) rfl ⟨K, HTK.out, ?_⟩
          rw [HRP.out, HAC.out]
          exact ⟨gq, cq, rfl, owns_base (own_setB (own_setB (own_setB HQH.out.own (by omega) _ _) (by omega) _ _) (by omega) _ _) (by omega), ((HQH.out.bel.setCell (by show w.heap.size ≤ w.heap.size + 1; omega) _).setCell (by show w.heap.size ≤ w.heap.size + 1; omega) _).setCell (by show w.heap.size ≤ w.heap.size + 1; omega) _⟩
    · have HRP := hid (HRP.out.trans (if_neg h12))
      have hMi : (12 < (M : Int)) := by omega
      go_wp2
      refine bodyPost_ret (v := .tuple #[.agg #[.int .i64 0, .int .i64 0, .slice none 0 0], .bool false]) (by simp [results, Tryd.results15, go_sem, r0, r1, r2]) rfl ⟨K, HTK.out, ?_⟩
      rw [HRP.out]
      exact labsMay_none (((HBW6.out.setCell (by show w.heap.size ≤ w.heap.size + 1; omega) _).setCell (by show w.heap.size ≤ w.heap.size + 1; omega) _).setCell (by show w.heap.size ≤ w.heap.size + 1; omega) _)
end Go.Proofs.YtpfeflhcbcgbfaaDoor
