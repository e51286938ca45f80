/- Labelled graphs: the sets that are reached, the reference's function. Conditions: a valid labelled graph. -/
import Derived.Test.YtpfeflhcbcgbfaaDoorResA
import Derived.Test.YtpfeflhcbcgbfaaDoorSynF
namespace Go.Proofs.YtpfeflhcbcgbfaaDoor
open Go.RowKit

/-- A number appended, and where it lies. -/
theorem wpList_appN2 {P : Program} {wr : World} {ops : Array Oper} {rest : List Oper} {o : Oper} {a : Act} {Q : Exit → Act → World → Prop}
    (hg : o.guard = none) (s x : Operand) (t : TypeId) (hop : o.op = Op.call { callee := Callee.builtin Builtin.append, args := #[s, x], argTypes := #[t, t] })
    (B : Nat) (e : TypeId) (h1 : P.underlying t = some (.slice e)) (hinfo : (P.info? e).map (fun i => (i.zero, i.size, i.bytes)) = some (some (.int .i64 0), 1, 8))
    (v : Value) (m : Nat) (xs : List Value) (u : Int) (hown : wr.ownsRow B e 1 v m xs) (hs : a.eval s = v) (hx : a.eval x = .slice (some ⟨wr.heap.size, 0, none⟩) 1 1)
    (hlim : m ≤ 1048576) (hB : B ≤ wr.heap.size)
    (hK : ∀ g' c' w1, w1.ownsRow B e 1 (.slice (some ⟨g', 0, none⟩) (m + 1) c') (m + 1) (xs ++ [.int .i64 u]) → wr.grownBy w1 v.ownBlock → (v.ownBlock = some g' ∨ wr.heap.size ≤ g') → wpList P ops Q rest (a.put o.dst (.slice (some ⟨g', 0, none⟩) (m + 1) c')) w1) :
    wpList P ops Q (o :: rest) a (wr.alloc (.cells #[.int .i64 u] e)) := by
  obtain ⟨i, hi, hz, hz1, hz2⟩ := info_parts hinfo
  refine wpList_append_lies _ hg s x t hop B e i _ 1 8 h1 hi hz hz1 hz2 rfl (by decide) v m xs hs (hown.alloc _) ⟨wr.heap.size, 0, none⟩ 1 1 [.int .i64 u] hx rfl ?_ (by intro y hy; simp at hy; subst hy; rfl) (by omega) (by unfold maxLen; omega) (by omega) (by simp; omega) (wr.heap.size + 1) (by simp) ?_
  · intro j y hj
    match j, hj with
    | 0, hj =>
      simp at hj; subst hj
      show (wr.alloc (.cells #[.int .i64 u] e)).cell? _ = _
      simp [Addr.add]
  · intro g cap w1 hown' hgrow hor _
    refine hK g cap w1 hown' (grown_trans (World.grownBy_alloc _ _ _) hgrow) ?_
    rcases hor with h | h
    · exact .inl h
    · exact .inr (by omega)
def ResPost (sets : List Nat) (rows : List (List Int)) (w : World) (e : Ending) (w' : World) : Prop :=
  ∃ sv nv, e = .returned (.tuple #[sv, nv]) ∧ w'.ownsRow w.heap.size 3 1 sv sets.length (intVals (natI sets)) ∧ TGrid 41 3 w' w.heap.size nv rows ∧ Below w.heap.size w w'
theorem replace0 {T0 : TypeId} {w w1 : World} {base : Nat} {v v' : Value} {vs : List Value} {r : List Int} {rows : List (List Int)} {x : Int} (h : TRows T0 w base (v :: vs) (r :: rows))
    (ho : w1.ownsRow base T0 1 v' (r.length + 1) (intVals (r ++ [x]))) (hg : w.grownBy w1 v.ownBlock) (hor : ∀ g, v'.ownBlock = some g → v.ownBlock = some g ∨ w.heap.size ≤ g) : TRows T0 w1 base (v' :: vs) ((r ++ [x]) :: rows) :=
  h.replace (i := 0) rfl rfl ho hg hor
theorem replaceL {T0 : TypeId} {w w1 : World} {base : Nat} {v v' : Value} {vs : List Value} {r : List Int} {rows : List (List Int)} {x : Int} (h : TRows T0 w base (vs ++ [v]) (rows ++ [r]))
    (ho : w1.ownsRow base T0 1 v' (r.length + 1) (intVals (r ++ [x]))) (hg : w.grownBy w1 v.ownBlock) (hor : ∀ g, v'.ownBlock = some g → v.ownBlock = some g ∨ w.heap.size ≤ g) : TRows T0 w1 base (vs ++ [v']) (rows ++ [r ++ [x]]) := by
  have hl : vs.length = rows.length := by have := h.len; simpa using this
  have := h.replace (i := vs.length) (by simp) (by rw [hl]; simp) ho hg hor
  rw [List.set_append_right _ _ (Nat.le_refl _), Nat.sub_self, hl, List.set_append_right _ _ (Nat.le_refl _), Nat.sub_self] at this
  exact this
theorem lies_of {w : World} {g n c : Nat} {v : Value} (h : v.ownBlock = some g ∨ w.heap.size ≤ g) : ∀ q, (Value.slice (some ⟨g, 0, none⟩) n c).ownBlock = some q → v.ownBlock = some q ∨ w.heap.size ≤ q := fun q hq => by
  have e : g = q := by
    simp only [Value.ownBlock, Option.some.injEq] at hq
    exact hq
  rw [← e]; exact h
theorem own0 {T0 : TypeId} {w : World} {base : Nat} {v : Value} {vs : List Value} {r : List Int} {rows : List (List Int)} (h : TRows T0 w base (v :: vs) (r :: rows)) : w.ownsRow base T0 1 v r.length (intVals r) := h.own 0 v r rfl rfl
theorem ownL {T0 : TypeId} {w : World} {base : Nat} {v : Value} {vs : List Value} {r : List Int} {rows : List (List Int)} (h : TRows T0 w base (vs ++ [v]) (rows ++ [r])) : w.ownsRow base T0 1 v r.length (intVals r) := by
  have hl : vs.length = rows.length := by have := h.len; simpa using this
  exact h.own vs.length v r (by simp) (by rw [hl]; simp)
set_option maxHeartbeats 8000000 in
set_option maxRecDepth 100000 in
theorem l15Sets_c (L S : Nat) (a : Option Addr) (n c : Nat) (G : List (Nat × Nat × Nat)) (w : World) (hr : RowAt w a (n * 3) (arcVals (arcN G))) (hG : LabG L S G) (hn : n ≤ 1048576) :
    Calls Tryd.prog 38 #[.agg #[.int .i64 L, .int .i64 S, .slice a n c]] w (ResPost (resAll G L (2 ^ S - 1)).1 (nxK G L (2 ^ S - 1) (resAll G L (2 ^ S - 1)).1.length) w) := by
  have HST := hid (fun (W : World) (set x : Nat) (hW : Below w.heap.size w W) (h1 : set < 4096) (h2 : x < 1000) => l14Step_c L S a n c G set x W (hr.below hW (Nat.le_refl _)) hG h1 h2 hn)
  have HBX := hid (fun (V : World) (hV : Below (w.heap.size + 1) (w.alloc (.cells #[.int .i64 L, .int .i64 S, .slice a n c] 29)) V) => lab_box hV)
  obtain ⟨W2, hW2⟩ : ∃ W2, W2 = w.alloc (.cells #[.int .i64 L, .int .i64 S, .slice a n c] 29) := ⟨_, rfl⟩
  have hB : Below w.heap.size w W2 := by rw [hW2]; exact (Below.refl _ _).alloc (Nat.le_refl _) _
  have hsz : W2.heap.size = w.heap.size + 1 := by rw [hW2]; simp
  rw [← hW2, ← hsz] at HBX
  have h4096 := two_pow12 hG.s12
  have hp1 : 1 ≤ 2 ^ S := Nat.two_pow_pos S
  have hp2 : 2 ≤ 2 ^ S := by have := Nat.pow_le_pow_right (n := 2) (by omega) hG.s1; simpa using this
  have HLTN := hid (fun (set x : Nat) => show stp G set x < 2 ^ S from stp_lt hG)
  have hL3 := hG.k3
  have hS12 := hG.s12
  have hwu : IntKind.u64.wrap (S : Int) = (S : Int) := IntWalk.u64_in _ (by omega)
  have hmin : min S 64 = S := by omega
  obtain ⟨F, hF⟩ : ∃ F, F = 2 ^ S - 1 := ⟨_, rfl⟩
  obtain ⟨N, hN⟩ : ∃ N, N = 2 ^ S := ⟨_, rfl⟩
  rw [← hF]
  rw [← hN] at hp1 hp2 h4096 HLTN
  have hFN1 : F = N - 1 := by rw [hF, hN]
  clear hF
  have hfN : 0 < F ∧ F < N := by omega
  have HOK := hid (fun k => rsK_ok (G := G) (L := L) hfN HLTN.out k)
  obtain ⟨⟨p0, p1, p2⟩, _⟩ := HBX.out W2 (Below.refl _ _)
  have hwN : IntKind.i64.wrap (F : Int) = (F : Int) := IntWalk.i64_in _ (by omega)
  unfold ResPost
  have hsh : ∀ j, j = S → wrap64 (wrap64 (2 ^ j) - 1) = (F : Int) := fun j hj => by subst hj; rw [pow_less12a j (by omega), hFN1, hN]
  clear hr hG hN hFN1
  go_enter Tryd.func38, Tryd.ntmps38
  go_wp2_with (rw [← hW2])
  first | rw [← hW2] | skip
  have H0 := hid (show (((W2.alloc (.cells #[.int .i64 F] 3)).alloc (.cells #[] 41)).ownsRow W2.heap.size 41 1 (.slice (some ⟨w.heap.size + 1 + 1, 0, none⟩) 0 0) 0 []) ∧ TRows 3 ((W2.alloc (.cells #[.int .i64 F] 3)).alloc (.cells #[] 41)) W2.heap.size [.slice (some ⟨w.heap.size + 1, 0, none⟩) 1 1] [natI [F]] ∧ Below W2.heap.size W2 ((W2.alloc (.cells #[.int .i64 F] 3)).alloc (.cells #[] 41)) from by
    have hb1 : Below W2.heap.size W2 (W2.alloc (.cells #[.int .i64 F] 3)) := (Below.refl _ _).alloc (Nat.le_refl _) _
    have hb2 : Below (W2.alloc (.cells #[.int .i64 F] 3)).heap.size (W2.alloc (.cells #[.int .i64 F] 3)) ((W2.alloc (.cells #[.int .i64 F] 3)).alloc (.cells #[] 41)) := (Below.refl _ _).alloc (Nat.le_refl _) _
    refine ⟨?_, TRows.one (owns_below ?_ hb2), bs hb1 hb2⟩
    · have := owns_lit3 (w := W2.alloc (.cells #[.int .i64 F] 3)) (base := W2.heap.size) (e := 41) #[] [] rfl hb1.size (by unfold maxLen; simp)
      have hz : (W2.alloc (.cells #[.int .i64 F] 3)).heap.size = w.heap.size + 1 + 1 := by simp; omega
      rw [hz] at this
      exact this
    · have := owns_lit3 (w := W2) (base := W2.heap.size) (e := 3) #[.int .i64 F] (intVals (natI [F])) rfl (Nat.le_refl _) (by unfold maxLen; simp)
      rw [hsz] at this ⊢
      exact this)
  obtain ⟨W3, hW3⟩ : ∃ W3, W3 = (W2.alloc (.cells #[.int .i64 F] 3)).alloc (.cells #[] 41) := ⟨_, rfl⟩
  rw [← hW3] at H0
  rw [← hW3]
  have HB := hid hB
  clear hW3 hW2 p0 p1 p2 hB hsh hwu hmin
  go_loopw [4, 5, 6] (fun sv' nv' i wr => ∃ (K : Nat) (vs : List Value) (sv nv : Value), Hid (sv = sv') ∧ Hid (nv = nv') ∧ i = .int .i64 K ∧ Hid (K ≤ (rsK G L F K).1.length) ∧ Hid ((nxK G L F K).length = K) ∧ wr.ownsRow W2.heap.size 41 1 nv K vs ∧ TRows 3 wr W2.heap.size (sv :: vs) (natI (rsK G L F K).1 :: nxK G L F K) ∧ Below W2.heap.size W2 wr) (fun _ _ i _ => 4097 - (intOf i).toNat)
  case atStart => exact ⟨0, [], _, _, hid rfl, hid rfl, rfl, hid (Nat.zero_le _), hid rfl, H0.out.1, H0.out.2.1, H0.out.2.2⟩
  case round =>
    clear H0
    obtain ⟨K, vs, sv, nv, hsv4, hnv5, rfl, HKL, HNL, ho, hT, hbel⟩ := hrel
    have hsv4 := hsv4.out
    have hnv5 := hnv5.out
    subst hsv4 hnv5
    have hok := (HOK.out K).1
    have hfew := hok.few
    have hvl : vs.length = K := by have := hT.len; rw [List.length_cons, List.length_cons, HNL.out] at this; omega
    obtain ⟨sg, sc, hsv⟩ := slice_form (own0 hT)
    rw [natI_len] at hsv
    have HSV := hid hsv
    by_cases hlt : K < (rsK G L F K).1.length
    · obtain ⟨set, hset⟩ := get_some hlt
      have hsn := (hok.pos set (List.mem_of_getElem? hset)).2
      have HXS := hid (fun x (hx : x ≤ L) => hok.xs (G := G) (set := set) hlt (HLTN.out set) x hx)
      have HSTEP := hid (rsK_step hset)
      have HNSTEP := hid (nxK_step hset)
      have HSET := hid hset
      obtain ⟨st, hst⟩ : ∃ st, st = rsK G L F K := ⟨_, rfl⟩
      obtain ⟨rows, hrows⟩ : ∃ rows, rows = nxK G L F K := ⟨_, rfl⟩
      rw [← hst] at HXS HSTEP hT HSET hlt hsv HNSTEP HKL HSV hfew
      rw [← hrows] at hT HNSTEP HNL
      have HOUT := hid ho
      have HT := hid hT
      have HBB := hid hbel
      obtain ⟨q, hq⟩ : ∃ q, q = st.1.length := ⟨_, rfl⟩
      rw [← hq] at hsv hlt hfew
      have HQ0 := hid hq
      have hKq : (K : Int) < (q : Int) := by omega
      have hKe : K < 4096 := by omega
      clear hst hrows hok ho hT hbel hset hq
      subst hsv
      go_wp2
      have HT1 := hid (show TRows 3 (wr.alloc (.cells #[] 3)) W2.heap.size (.slice sg q sc :: vs ++ [.slice (some ⟨wr.heap.size, 0, none⟩) 0 0]) (natI st.1 :: rows ++ [[]]) from by
        have := TRows.snoc HT.out HBB.out.size [] #[] rfl (by unfold maxLen; simp)
        exact this)
      have HO1 := hid (owns_below HOUT.out ((Below.refl _ _).alloc (Nat.le_refl _) (.cells #[] 3)))
      have HB1 := hid (HBB.out.alloc HBB.out.size (.cells #[] 3))
      go_loopw [4, 7, 8] (fun a4 a7 i wr => ∃ (x : Nat) (sv' rv' : Value), x ≤ L ∧ i = .int .i64 x ∧ Hid (sv' = a4) ∧ Hid (rv' = a7) ∧ wr.ownsRow W2.heap.size 41 1 nv K vs ∧ TRows 3 wr W2.heap.size (sv' :: vs ++ [rv']) (natI (rsX G K set st x).1 :: rows ++ [nxX G K set st x]) ∧ Below W2.heap.size W2 wr) (fun _ _ i _ => L - (intOf i).toNat)
      case atStart => exact ⟨0, _, _, by omega, rfl, hid rfl, hid rfl, HO1.out, HT1.out, HB1.out⟩
      case round =>
        clear HO1 HT1 HB1
        obtain ⟨x, sv1, rv1, hx, rfl, hs4, hs7, ho, hT, hbel⟩ := hrel
        have hs4 := hs4.out
        have hs7 := hs7.out
        subst hs4 hs7
        have HXX := HXS.out x hx
        obtain ⟨hok1, l1, hl1⟩ := HXX
        have hfew1 := hok1.few
        have hl1' := hid hl1
        have hnew1 := hok1.new
        obtain ⟨g1, d1, hs1⟩ := slice_form (own0 hT)
        rw [natI_len] at hs1
        have hset1 : (rsX G K set st x).1[K]? = some set := by rw [hl1, List.getElem?_append_left (by rw [← HQ0.out]; exact hlt)]; exact HSET.out
        have hsc : wr.cell? ⟨0, 0, none⟩ = wr.cell? ⟨0, 0, none⟩ := rfl
        by_cases hltx : x < L
        · have hrow0 := own0 hT
          rw [natI_len] at hrow0
          obtain ⟨gs, cs, hform, _, _⟩ := own_form hrow0 (List.length_pos_of_mem (List.mem_of_getElem? hset1))
          have hcs : wr.cell? ⟨gs, K, none⟩ = some (.int .i64 set) := by
            rw [hform] at hrow0
            exact (hrow0.cellAt K (by have := (List.getElem?_eq_some_iff.1 hset1).1; omega)).trans (intVals_get (natI_get hset1))
          have hgl : gs < wr.heap.size := by rw [hform] at hrow0; exact (hrow0.lt _ rfl).2
          have HQ := hid (show (rsX G K set st x).1.length < 4097 from by omega)
          have hKl : K < (rsX G K set st x).1.length := (List.getElem?_eq_some_iff.1 hset1).1
          have HNX := hid (nxX_succ G K set st x)
          have HRX := hid (show rsX G K set st (x + 1) = rsLet G K set x (rsX G K set st x) from rfl)
          obtain ⟨s1, hs1e⟩ : ∃ s1, s1 = rsX G K set st x := ⟨_, rfl⟩
          rw [← hs1e] at hT hform HNX HRX hKl HQ hnew1
          have HFORM := hid hform
          subst hform
          obtain ⟨q1, hq1⟩ : ∃ q1, q1 = s1.1.length := ⟨_, rfl⟩
          have HQ1 := hid hq1
          rw [← hq1] at hKl HQ hT
          rw [← hq1]
          have hq4 := HQ.out
          have hKq1 : (K : Int) < (q1 : Int) := by omega
          have hxL : (x : Int) < (L : Int) := by omega
          obtain ⟨⟨p0, p1, p2⟩, hz, hbw⟩ := HBX.out wr hbel
          have HSS := hid (HST.out wr.drew set x hbw.drew (by omega) (by omega))
          have HTO := hid (show stp G set x < N from HLTN.out set x)
          have HDEF := hid (show nxOf G set x s1.1 = if stp G set x = 0 then -1 else if stp G set x ∈ s1.1 then ((posOf (stp G set x) s1.1 : Nat) : Int) else ((s1.1.length : Nat) : Int) from rfl)
          have HLDEF := hid (rsLet_sets G K set x s1)
          obtain ⟨tz, hto⟩ : ∃ tz, tz = stp G set x := ⟨_, rfl⟩
          rw [← hto] at HSS HTO HDEF HLDEF
          have HNW := hid hnew1
          have HOUT1 := hid ho
          have HTT := hid hT
          have HBL := hid hbel
          have hbZ : Below wr.heap.size wr wr.drew := (Below.refl _ _).drew
          have HKK := hid (fun (V : World) (hV : Below wr.heap.size wr V) => show V.cell? ⟨w.heap.size, 0, none⟩ = some (.int .i64 L) ∧ V.cell? ⟨w.heap.size, 1, none⟩ = some (.int .i64 S) ∧ V.cell? ⟨w.heap.size, 2, none⟩ = some (.slice a n c) ∧ V.cell? ⟨gs, K, none⟩ = some (.int .i64 set) ∧ Below wr.heap.size wr V from by
            obtain ⟨⟨q0, q1, q2⟩, _⟩ := HBX.out V (HBL.out.trans (hV.mono HBL.out.size))
            exact ⟨q0, q1, q2, (hV.cell (p := ⟨gs, K, none⟩) hgl).trans hcs, hV⟩)
          clear hto hs1e hq1 hrow0 hnew1 ho hT hbel hok1 hl1 hset1 hfew1 hsc hs1
          go_wp2
          go_region_held3 (fun V => V.cell? ⟨w.heap.size, 0, none⟩ = some (.int .i64 L) ∧ V.cell? ⟨w.heap.size, 1, none⟩ = some (.int .i64 S) ∧ V.cell? ⟨w.heap.size, 2, none⟩ = some (.slice a n c) ∧ V.cell? ⟨gs, K, none⟩ = some (.int .i64 set) ∧ Below wr.heap.size wr V)
            (first | with_reducible exact HKK.out _ hbZ)
            (first | (go_at_call 36; refine HSS.out.mono ?_; rintro e w3 ⟨rfl, hb3⟩; have hbZ := hbZ.trans (hb3.mono hbZ.size)))
          have HT3 := hid (HTT.out.below hbZ)
          have HO3 := hid (owns_below HOUT1.out hbZ)
          have HB3 := hid (HBL.out.trans (hbZ.mono HBL.out.size))
          have hszB : W2.heap.size ≤ w3.heap.size := HB3.out.size
          have HTL := HT3
          clear HKK HSS p0 p1 p2 hcs hb3 hbw hgl
          by_cases h0 : tz = 0
          · have HDV := hid (HDEF.out.trans (if_pos h0))
            have HLD := hid (HLDEF.out.trans (if_pos h0))
            have hq0 : (0 : Int) < (q1 : Int) := by omega
            clear HDEF HLDEF HNW HTO HSET
            subst h0
            go_wp2
            refine wp_loop_rounds 1 ?_
            rw [rounds_succ]
            go_wp2_with (first | (at_builtin; go_must (refine wpList_appN2 rfl _ _ 41 rfl W2.heap.size 3 Tryd.underlying41 infoIntZ _ _ _ (-1) (ownL (HT3.out)) rfl rfl (by rw [nxX_len]; omega) hszB ?_); intro g8 c8 w8 hown8 hgr8 hor8))
            have HT8 := hid (replaceL (v' := .slice (some ⟨g8, 0, none⟩) ((nxX G K set st x).length + 1) c8) (x := (-1)) HT3.out (by simpa [intVals] using hown8) hgr8 (lies_of hor8))
            have HO8 := hid (HO3.out.kept hgr8 (owns_ne HO3.out (ownL HT3.out) (by decide)))
            have HB8 := hid (HB3.out.grown hgr8 hszB (fun k hk => ((ownL HT3.out).lt k hk).1))
            clear hown8 hgr8 hor8
            go_roundw
            case rel => exact ⟨x + 1, (.slice (some ⟨gs, 0, none⟩) q1 cs), .slice (some ⟨g8, 0, none⟩) ((nxX G K set st x).length + 1) c8, by omega, by go_num, hid rfl, hid rfl, HO8.out, by rw [HNX.out, HRX.out, HLD.out, HDV.out]; skip; exact HT8.out, HB8.out⟩
            case measure => simp [intOf] <;> omega
          · have hz1 : (0 : Int) < (tz : Int) := by omega
            have HCJ := hid (fun (j y : Nat) (hj : s1.1[j]? = some y) => show w3.cell? ⟨gs, j, none⟩ = some (.int .i64 y) from by
              have h1 := own0 HT3.out
              rw [natI_len, ← HQ1.out] at h1
              exact (h1.cellAt j (by have := (List.getElem?_eq_some_iff.1 hj).1; rw [HQ1.out]; omega)).trans (intVals_get (natI_get hj)))
            have HDV := hid (HDEF.out.trans (if_neg h0))
            have HLD := hid (HLDEF.out.trans (if_neg h0))
            have HEND := hid (show lastTo s1.1 tz q1 = if tz ∈ s1.1 then ((posOf tz s1.1 : Nat) : Int) else -1 from by rw [HQ1.out]; exact lastTo_end HNW.out)
            have HPL := hid (fun h : tz ∈ s1.1 => show posOf tz s1.1 < q1 from by rw [HQ1.out]; exact posOf_lt h)
            have HLS := hid (fun (j y : Nat) (hj : s1.1[j]? = some y) => show lastTo s1.1 tz (j + 1) = if y = tz then (j : Int) else lastTo s1.1 tz j from by
              show (if s1.1[j]? = some tz then (j : Int) else lastTo s1.1 tz j) = _
              rw [hj]
              by_cases e : y = tz
              · rw [if_pos (by rw [e]), if_pos e]
              · rw [if_neg (by simpa using e), if_neg e])
            clear HDEF HLDEF HNW HSET
            go_wp2
            go_loop [10, 11] (fun at_ i => ∃ j : Nat, j ≤ q1 ∧ i = .int .i64 j ∧ at_ = .int .i64 (lastTo s1.1 tz j)) (fun _ i => q1 - (intOf i).toNat)
            case atStart => exact ⟨0, by omega, rfl, rfl⟩
            case round =>
              obtain ⟨j, hj, rfl, rfl⟩ := hrel
              by_cases hlj : j < q1
              · obtain ⟨y, hy⟩ := get_some (l := s1.1) (n := j) (by rw [← HQ1.out]; exact hlj)
                have hyc := HCJ.out j y hy
                have HLJ := hid (HLS.out j y hy)
                have hji : (j : Int) < (q1 : Int) := by omega
                obtain ⟨A, hA⟩ : ∃ A, A = lastTo s1.1 tz j := ⟨_, rfl⟩
                rw [← hA] at HLJ
                rw [← hA]
                clear hy hA
                by_cases e : y = tz
                · have ge : ((y : Int) == (tz : Int)) = true := by simp [e]
                  have HLJ := hid (HLJ.out.trans (if_pos e))
                  clear e
                  go_wp2
                  go_round
                  case rel => exact ⟨j + 1, by omega, by go_num, by rw [HLJ.out]⟩
                  case measure => simp [intOf]; omega
                · have ge : ((y : Int) == (tz : Int)) = false := by simp; omega
                  have HLJ := hid (HLJ.out.trans (if_neg e))
                  clear e
                  go_wp2
                  go_round
                  case rel => exact ⟨j + 1, by omega, by go_num, by rw [HLJ.out]⟩
                  case measure => simp [intOf]; omega
              · obtain rfl : j = q1 := by omega
                by_cases hm : tz ∈ s1.1
                · have HDV := hid (HDV.out.trans (if_pos hm))
                  have HLD := hid (HLD.out.trans (if_pos hm))
                  have HEND := hid (HEND.out.trans (if_pos hm))
                  have hpl := HPL.out hm
                  obtain ⟨p, hp⟩ : ∃ p, p = posOf tz s1.1 := ⟨_, rfl⟩
                  rw [HEND.out, ← hp]
                  rw [← hp] at HDV hpl
                  clear HEND HPL HLS HCJ hm hp
                  go_wp2_with (first | (at_builtin; go_must (refine wpList_appN2 rfl _ _ 41 rfl W2.heap.size 3 Tryd.underlying41 infoIntZ _ _ _ (Nat.cast p) (ownL (HT3.out)) rfl rfl (by rw [nxX_len]; omega) hszB ?_); intro g8 c8 w8 hown8 hgr8 hor8))
                  have HT8 := hid (replaceL (v' := .slice (some ⟨g8, 0, none⟩) ((nxX G K set st x).length + 1) c8) (x := (Nat.cast p)) HT3.out (by simpa [intVals] using hown8) hgr8 (lies_of hor8))
                  have HO8 := hid (HO3.out.kept hgr8 (owns_ne HO3.out (ownL HT3.out) (by decide)))
                  have HB8 := hid (HB3.out.grown hgr8 hszB (fun k hk => ((ownL HT3.out).lt k hk).1))
                  clear hown8 hgr8 hor8
                  go_roundw
                  case rel => exact ⟨x + 1, (.slice (some ⟨gs, 0, none⟩) j cs), .slice (some ⟨g8, 0, none⟩) ((nxX G K set st x).length + 1) c8, by omega, by go_num, hid rfl, hid rfl, HO8.out, by rw [HNX.out, HRX.out, HLD.out, HDV.out]; skip; exact HT8.out, HB8.out⟩
                  case measure => simp [intOf] <;> omega
                · have HDV := hid (HDV.out.trans (if_neg hm))
                  have HLD := hid (HLD.out.trans (if_neg hm))
                  have HEND := hid (HEND.out.trans (if_neg hm))
                  rw [HEND.out]
                  rw [← HQ1.out] at HDV
                  have HS0 := hid (show w3.ownsRow W2.heap.size 3 1 (.slice (some ⟨gs, 0, none⟩) j cs) j (intVals (natI s1.1)) from by
                    have h1 := own0 HT3.out
                    rw [natI_len, ← HQ1.out] at h1
                    exact h1)
                  clear HEND HPL HLS HCJ hm
                  go_wp2_with (first | (at_builtin; refine wpList_appN2 rfl _ _ 41 rfl W2.heap.size 3 Tryd.underlying41 infoIntZ _ j _ (tz : Int) HS0.out rfl rfl (by omega) hszB ?_; intro g7 c7 w7 hown7 hgr7 hor7; have HT7 : Hid (TRows 3 w7 W2.heap.size (.slice (some ⟨g7, 0, none⟩) (j + 1) c7 :: vs ++ [rv1]) ((natI s1.1 ++ [(tz : Int)]) :: rows ++ [nxX G K set st x])) := hid (replace0 (v' := .slice (some ⟨g7, 0, none⟩) (j + 1) c7) (x := (tz : Int)) HT3.out (by rw [natI_len, ← HQ1.out]; simpa [intVals] using hown7) hgr7 (lies_of hor7)); have HO7 := hid (HO3.out.kept hgr7 (owns_ne HO3.out HS0.out (by decide))); have HB7 := hid (HB3.out.grown hgr7 hszB (fun k hk => (HS0.out.lt k hk).1)); have hszB7 : W2.heap.size ≤ w7.heap.size := HB7.out.size) | (at_builtin; go_must (refine wpList_appN2 rfl _ _ 41 rfl W2.heap.size 3 Tryd.underlying41 infoIntZ _ _ _ (Nat.cast j) (ownL (HT7.out)) rfl rfl (by rw [nxX_len]; omega) hszB7 ?_); intro g8 c8 w8 hown8 hgr8 hor8))
                  have HT8 := hid (replaceL (v' := .slice (some ⟨g8, 0, none⟩) ((nxX G K set st x).length + 1) c8) (x := (Nat.cast j)) HT7.out (by simpa [intVals] using hown8) hgr8 (lies_of hor8))
                  have HO8 := hid (HO7.out.kept hgr8 (owns_ne HO7.out (ownL HT7.out) (by decide)))
                  have HB8 := hid (HB7.out.grown hgr8 hszB7 (fun k hk => ((ownL HT7.out).lt k hk).1))
                  clear hown8 hgr8 hor8 hown7 hgr7 hor7
                  go_roundw
                  case rel => exact ⟨x + 1, (.slice (some ⟨g7, 0, none⟩) (j + 1) c7), .slice (some ⟨g8, 0, none⟩) ((nxX G K set st x).length + 1) c8, by omega, by go_num, hid rfl, hid rfl, HO8.out, by rw [HNX.out, HRX.out, HLD.out, HDV.out]; rw [natI_snoc]; exact HT8.out, HB8.out⟩
                  case measure => simp [intOf] <;> omega
        · obtain rfl : x = L := by omega
          obtain ⟨gr, cr, hrv⟩ := slice_form (ownL hT)
          rw [nxX_len] at hrv
          have HL0 := hid (show x ≤ 3 from hL3)
          have HRV := hid hrv
          have hoh := hid ho
          have hTh := hid hT
          have hbh := hid hbel
          have hszB : W2.heap.size ≤ wr.heap.size := hbel.size
          obtain ⟨⟨p0, p1, p2⟩, _⟩ := HBX.out wr hbel
          subst hrv
          clear ho hT hbel hs1 hsc hnew1 hset1 hl1 hfew1
          go_wp2_with (first | (at_builtin; go_must (refine wpList_appg rfl _ _ 59 rfl W2.heap.size 41 (.slice none 0 0) 24 Tryd.underlying59 infoInts rfl _ K vs _ hoh.out rfl rfl rfl (by omega) (by unfold maxLen; omega) hszB ?_); intro v9 w9 hown9 hgr9))
          have HT9 := hid (hTh.out.kept hoh.out (by decide) hgr9)
          have HB9 := hid (hbh.out.grown hgr9 hszB (fun k hk => (hoh.out.lt k hk).1))
          go_roundw
          case rel => exact ⟨K + 1, vs ++ [.slice gr x cr], sv1, v9, hid rfl, hid rfl, by go_num, hid (by rw [HSTEP.out, hl1'.out, List.length_append, ← HQ0.out]; omega), hid (by rw [HNSTEP.out, List.length_append, HNL.out]; rfl), hown9, by rw [HSTEP.out, HNSTEP.out]; exact HT9.out, HB9.out⟩
          case measure => simp [intOf]; omega
    · have hKe : (rsK G L F K).1.length = K := by have := HKL.out; omega
      have hall := hid (resAll_at (G := G) (L := L) (full := F) (k := K) (by omega) (by omega))
      have HT := hid hT
      have HO := hid ho
      have HBB := hid hbel
      have HB9 := hid (HB.out.trans (hbel.mono HB.out.size))
      have hsw := HB.out.size
      rw [hKe] at hsv
      have HKE := hid hKe
      clear hT ho hbel hok hfew hlt hKe hvl
      subst hsv
      go_wp2
      go_ret2
      refine ⟨_, _, rfl, ?_, ⟨vs, ?_, ?_⟩, HB9.out⟩
      · rw [hall.out]
        have h1 := own0 HT.out
        rw [natI_len] at h1
        exact owns_base h1 hsw
      · rw [hall.out, HKE.out, HNL.out]
        exact owns_base HO.out hsw
      · rw [hall.out, HKE.out]
        have h1 := HT.out.tail
        exact ⟨h1.len, fun i x r hx hr => owns_base (h1.own i x r hx hr) hsw, h1.apart⟩
end Go.Proofs.YtpfeflhcbcgbfaaDoor
