/- Labelled graphs: the shortest word to one state, the reference's way. Conditions: a resolving labelled graph, its arcs in memory. -/
import Derived.Test.YtpfeflhcbcgbfaaDoorSynF
import Derived.Test.YtpfeflhcbcgbfaaDoorResB
import Derived.Test.YtpfeflhcbcgbfaaDoorLabT
import Derived.Test.YtpfeflhcbcgbfaaDoorAppK
import Derived.Test.YtpfeflhcbcgbfaaDoorAll
namespace Go.Proofs.YtpfeflhcbcgbfaaDoor
open Go.RowKit

def setsY (ys : List (Nat × List UInt8)) : List Nat := ys.map (·.1)
def wdsY (ys : List (Nat × List UInt8)) : List ByteArray := ys.map fun p => ⟨p.2.toArray⟩
theorem setsY_len (ys : List (Nat × List UInt8)) : (setsY ys).length = ys.length := by simp [setsY]
theorem wdsY_len (ys : List (Nat × List UInt8)) : (wdsY ys).length = ys.length := by simp [wdsY]
theorem setsY_get {ys : List (Nat × List UInt8)} {k : Nat} {p : Nat × List UInt8} (h : ys[k]? = some p) : (setsY ys)[k]? = some p.1 := by simp [setsY, h]
theorem wdsY_get {ys : List (Nat × List UInt8)} {k : Nat} {p : Nat × List UInt8} (h : ys[k]? = some p) : (wdsY ys)[k]? = some ⟨p.2.toArray⟩ := by simp [wdsY, h]
theorem setsY_snoc (ys : List (Nat × List UInt8)) (p : Nat × List UInt8) : intVals (natI (setsY (ys ++ [p]))) = intVals (natI (setsY ys)) ++ [.int .i64 ((p.1 : Nat) : Int)] := by simp [setsY, natI, intVals]
theorem wdsY_snoc (ys : List (Nat × List UInt8)) (p : Nat × List UInt8) : strVals (wdsY (ys ++ [p])) = strVals (wdsY ys) ++ [.string ⟨p.2.toArray⟩] := by simp [wdsY, strVals]
def synV (o : Option (List UInt8)) : Value := .tuple #[.string ⟨(o.getD []).toArray⟩, .bool o.isSome]
/-- Whether a set is nothing, or among the first sets. -/
def knoTo (zs : List Nat) (z j : Nat) : Bool := decide (z = 0 ∨ z ∈ zs.take j)
theorem knoTo_zero (zs : List Nat) (z : Nat) : knoTo zs z 0 = decide (z = 0) := by simp [knoTo]
theorem knoTo_succ {zs : List Nat} {z j y : Nat} (h : zs[j]? = some y) : knoTo zs z (j + 1) = (knoTo zs z j || decide (y = z)) := by
  unfold knoTo
  rw [List.take_add_one, h, Bool.eq_iff_iff, Bool.or_eq_true, decide_eq_true_iff, decide_eq_true_iff, decide_eq_true_iff]
  simp only [Option.toList_some, List.mem_append, List.mem_singleton]
  constructor
  · rintro (h | h | h)
    · exact .inl (.inl h)
    · exact .inl (.inr h)
    · exact .inr h.symm
  · rintro ((h | h) | h)
    · exact .inl h
    · exact .inr (.inl h)
    · exact .inr (.inr h.symm)
theorem knoTo_end {zs : List Nat} {z n : Nat} (h : zs.length = n) : knoTo zs z n = decide (z = 0 ∨ z ∈ zs) := by
  unfold knoTo
  rw [List.take_of_length_le (by omega)]
theorem syLet_known {G : List (Nat × Nat × Nat)} {p : Nat × List UInt8} {x : Nat} {ys : List (Nat × List UInt8)} (h : decide (stp G p.1 x = 0 ∨ stp G p.1 x ∈ setsY ys) = true) : syLet G p x ys = ys := by
  unfold syLet
  exact if_pos (of_decide_eq_true h)
theorem syLet_new {G : List (Nat × Nat × Nat)} {p : Nat × List UInt8} {x : Nat} {ys : List (Nat × List UInt8)} (h : decide (stp G p.1 x = 0 ∨ stp G p.1 x ∈ setsY ys) = false) : syLet G p x ys = ys ++ [(stp G p.1 x, p.2 ++ [letB x])] := by
  unfold syLet
  exact if_neg (of_decide_eq_false h)
theorem str_snoc (l : List UInt8) (c : UInt8) : (⟨l.toArray⟩ : ByteArray) ++ ⟨#[c]⟩ = ⟨(l ++ [c]).toArray⟩ := by
  apply ByteArray.ext
  rw [ByteArray.data_append]
  simp
theorem syX_succ (G : List (Nat × Nat × Nat)) (p : Nat × List UInt8) (ys : List (Nat × List UInt8)) (x : Nat) : syX G p ys (x + 1) = syLet G p x (syX G p ys x) := rfl
/-- The two rows of the search. -/
structure SyRows (T1 T2 : TypeId) (B : Nat) (W2 wr : World) (gs cs gw cw : Nat) (ys : List (Nat × List UInt8)) (n : Nat) : Prop where
  len : ys.length = n
  bel : Below B W2 wr
  sets : wr.ownsRow B T1 1 (.slice (some ⟨gs, 0, none⟩) n cs) n (intVals (natI (setsY ys)))
  words : wr.ownsRow B T2 1 (.slice (some ⟨gw, 0, none⟩) n cw) n (strVals (wdsY ys))
theorem SyRows.below {T1 T2 : TypeId} {B n gs cs gw cw : Nat} {W2 wr w' : World} {ys : List (Nat × List UInt8)} (h : SyRows T1 T2 B W2 wr gs cs gw cw ys n) (hb : Below wr.heap.size wr w') (hB : B ≤ wr.heap.size) : SyRows T1 T2 B W2 w' gs cs gw cw ys n :=
  ⟨h.len, h.bel.trans (hb.mono hB), owns_below h.sets hb, owns_below h.words hb⟩
theorem spec_ShortestSync_no (L S : Int) (a : Option Addr) (n c : Nat) (A : List (Int × Int × Int)) (w : World) (hr : RowAt w a (n * 3) (arcVals A)) (hn : n ≤ 1048576) (h : resolvB L S A = false) :
    Calls Tryd.prog 13 #[.agg #[.int .i64 L, .int .i64 S, .slice a n c]] w fun e w' => e = .returned (synV none) ∧ Below w.heap.size w w' := by
  have HBX := hid (fun (V : World) (hV : Below (w.heap.size + 1) (w.alloc (.cells #[.int .i64 L, .int .i64 S, .slice a n c] 29)) V) => lab_box hV)
  obtain ⟨W2, hW2⟩ : ∃ W2, W2 = w.alloc (.cells #[.int .i64 L, .int .i64 S, .slice a n c] 29) := ⟨_, rfl⟩
  have hB : Below w.heap.size w W2 := by rw [hW2]; exact (Below.refl _ _).alloc (Nat.le_refl _) _
  have hsz : W2.heap.size = w.heap.size + 1 := by rw [hW2]; simp
  rw [← hW2, ← hsz] at HBX
  have HI := hid (fun (W : World) (hW : Below w.heap.size w W) => spec_IsResolving_c L S a n c A W (hr.below hW (Nat.le_refl _)) hn)
  rw [h] at HI
  obtain ⟨⟨p0, p1, p2⟩, _⟩ := HBX.out W2 (Below.refl _ _)
  have HB := hid hB
  clear hr hB h
  go_enter Tryd.func13, Tryd.ntmps13
  go_wp2_with (rw [← hW2])
  first | rw [← hW2] | skip
  clear hW2
  refine (HI.out _ HB.out).mono ?_
  rintro e w1 ⟨rfl, hb1⟩
  go_wp2
  go_ret2
  exact ⟨rfl, HB.out.trans (hb1.mono HB.out.size)⟩
set_option maxHeartbeats 8000000 in
set_option maxRecDepth 100000 in
theorem spec_ShortestSync_yes (L S : Nat) (a : Option Addr) (n c : Nat) (G : List (Nat × Nat × Nat)) (w : World) (hr : RowAt w a (n * 3) (arcVals (arcN G))) (hG : LabG L S G) (hn : n ≤ 1048576) (h : resolvB L S (arcN G) = true) :
    Calls Tryd.prog 13 #[.agg #[.int .i64 L, .int .i64 S, .slice a n c]] w fun e w' => e = .returned (synV (syO G L (2 ^ S - 1))) ∧ Below w.heap.size w w' := by
  have HST := hid (fun (W : World) (set x : Nat) (hW : Below w.heap.size w W) (h1 : set < 4096) (h2 : x < 1000) => l14Step_c L S a n c G set x W (hr.below hW (Nat.le_refl _)) hG h1 h2 hn)
  have HI := hid (fun (W : World) (hW : Below w.heap.size w W) => spec_IsResolving_c L S a n c (arcN G) W (hr.below hW (Nat.le_refl _)) hn)
  rw [h] at HI
  have HBX := hid (fun (V : World) (hV : Below (w.heap.size + 1) (w.alloc (.cells #[.int .i64 L, .int .i64 S, .slice a n c] 29)) V) => lab_box hV)
  obtain ⟨W2, hW2⟩ : ∃ W2, W2 = w.alloc (.cells #[.int .i64 L, .int .i64 S, .slice a n c] 29) := ⟨_, rfl⟩
  have hB : Below w.heap.size w W2 := by rw [hW2]; exact (Below.refl _ _).alloc (Nat.le_refl _) _
  have hsz : W2.heap.size = w.heap.size + 1 := by rw [hW2]; simp
  rw [← hW2, ← hsz] at HBX
  have h4096 := two_pow12 hG.s12
  have hp1 : 1 ≤ 2 ^ S := Nat.two_pow_pos S
  have hp2 : 2 ≤ 2 ^ S := by have := Nat.pow_le_pow_right (n := 2) (by omega) hG.s1; simpa using this
  have HLTN := hid (fun (set x : Nat) => show stp G set x < 2 ^ S from stp_lt hG)
  have hL1 := hG.k1
  have hL3 := hG.k3
  have hS12 := hG.s12
  have hwu : IntKind.u64.wrap (S : Int) = (S : Int) := IntWalk.u64_in _ (by omega)
  have hmin : min S 64 = S := by omega
  obtain ⟨F, hF⟩ : ∃ F, F = 2 ^ S - 1 := ⟨_, rfl⟩
  obtain ⟨N, hN⟩ : ∃ N, N = 2 ^ S := ⟨_, rfl⟩
  rw [← hF]
  rw [← hN] at hp1 hp2 h4096 HLTN
  have hFN1 : F = N - 1 := by rw [hF, hN]
  clear hF
  have hfN : 0 < F ∧ F < N := by omega
  have HOK := hid (fun k => (syK_ok (G := G) (L := L) hfN HLTN.out k).1)
  have HSO := hid (fun (k : Nat) (p : Nat × List UInt8) (hk : k ≤ 4096) => syO_some (L := L) (k := k) (p := p) hfN HLTN.out hk)
  have HSN := hid (fun (k : Nat) (hk : k ≤ 4096) => syO_none (G := G) (L := L) (full := F) (k := k) hk)
  have hwN : IntKind.i64.wrap (F : Int) = (F : Int) := IntWalk.i64_in _ (by omega)
  have hsh : ∀ j, j = S → wrap64 (wrap64 (2 ^ j) - 1) = (F : Int) := fun j hj => by subst hj; rw [pow_less12a j (by omega), hFN1, hN]
  obtain ⟨⟨p0, p1, p2⟩, _⟩ := HBX.out W2 (Below.refl _ _)
  have HB := hid hB
  clear hr hB h hG hN hFN1
  go_enter Tryd.func13, Tryd.ntmps13
  go_wp2_with (rw [← hW2])
  first | rw [← hW2] | skip
  clear hW2
  refine (HI.out _ HB.out).mono ?_
  rintro e w1 ⟨rfl, hb1⟩
  have HB1 := hid hb1
  clear p0 p1 p2 hb1
  obtain ⟨⟨p0, p1, p2⟩, _⟩ := HBX.out w1 HB1.out
  have hsz1 := HB1.out.size
  have H0 := hid (show SyRows 3 9 W2.heap.size W2 ((w1.alloc (.cells #[.int .i64 F] 3)).alloc (.cells #[.string ⟨#[]⟩] 9)) w1.heap.size 1 (w1.alloc (.cells #[.int .i64 F] 3)).heap.size 1 (syK G L F 0) 1 from by
    have hb1 : Below w1.heap.size w1 (w1.alloc (.cells #[.int .i64 F] 3)) := (Below.refl _ _).alloc (Nat.le_refl _) _
    have hb2 : Below (w1.alloc (.cells #[.int .i64 F] 3)).heap.size (w1.alloc (.cells #[.int .i64 F] 3)) ((w1.alloc (.cells #[.int .i64 F] 3)).alloc (.cells #[.string ⟨#[]⟩] 9)) := (Below.refl _ _).alloc (Nat.le_refl _) _
    exact ⟨rfl, HB1.out.trans ((bs hb1 hb2).mono hsz1), owns_below (owns_base (owns_lit3 (w := w1) (base := w1.heap.size) (e := 3) #[.int .i64 F] _ rfl (Nat.le_refl _) (by unfold maxLen; simp)) hsz1) hb2, owns_base (owns_lit3 (w := w1.alloc (.cells #[.int .i64 F] 3)) (base := (w1.alloc (.cells #[.int .i64 F] 3)).heap.size) (e := 9) #[.string ⟨#[]⟩] _ rfl (Nat.le_refl _) (by unfold maxLen; simp)) (Nat.le_trans hsz1 hb1.size)⟩)
  have hz1 : (w1.alloc (.cells #[.int .i64 F] 3)).heap.size = w1.heap.size + 1 := by simp
  rw [hz1] at H0
  go_wp2
  clear p0 p1 p2 hsh hwu hmin hwN hz1
  go_loopw [4, 5, 6] (fun a4 a5 i wr => ∃ (K m gs cs gw cw : Nat), Hid (.slice (some ⟨gs, 0, none⟩) m cs = a4) ∧ Hid (.slice (some ⟨gw, 0, none⟩) m cw = a5) ∧ i = .int .i64 K ∧ Hid (K ≤ m) ∧ Hid (SyRows 3 9 W2.heap.size W2 wr gs cs gw cw (syK G L F K) m) ∧ Hid (∀ (j : Nat) (q : Nat × List UInt8), j < K → (syK G L F K)[j]? = some q → onlyB q.1 = false)) (fun _ _ i _ => 4097 - (intOf i).toNat)
  case atStart => exact ⟨0, 1, _, _, _, _, hid rfl, hid rfl, rfl, hid (Nat.zero_le _), hid H0.out, hid (fun j q hj _ => by omega)⟩
  case round =>
    clear H0
    obtain ⟨K, m, gs, cs, gw, cw, hsv4, hsv5, rfl, HKL, HR, HNO⟩ := hrel
    have hsv4 := hsv4.out
    have hsv5 := hsv5.out
    subst hsv4 hsv5
    have hKL := HKL.out
    have hfew : m ≤ N := by rw [← HR.out.len]; exact (HOK.out K).few
    by_cases hlt : K < m
    · have hKi : (K : Int) < (m : Int) := by omega
      obtain ⟨q, hq⟩ := get_some (l := syK G L F K) (n := K) (by rw [HR.out.len]; exact hlt)
      have hqp := (HOK.out K).pos q (List.mem_of_getElem? hq)
      have hq4 : q.1 < 4096 := by omega
      have hq6 : q.1 < 1000000 := by omega
      have HSTEP := hid (syK_step hq)
      have HSY := hid (fun (hp : onlyB q.1 = true) => HSO.out K q (by omega) hq hp HNO.out)
      have HNX := hid (fun (hp : onlyB q.1 = false) (Y : List (Nat × List UInt8)) (hY : ∃ l, Y = syK G L F K ++ l) => show ∀ (j : Nat) (p : Nat × List UInt8), j < K + 1 → Y[j]? = some p → onlyB p.1 = false from fun j p hj hp2 => by
        obtain ⟨l, rfl⟩ := hY
        rw [List.getElem?_append_left (by rw [HR.out.len]; omega)] at hp2
        rcases Nat.lt_or_ge j K with h | h
        · exact HNO.out j p h hp2
        · obtain rfl : j = K := by omega
          rw [hq] at hp2
          injection hp2 with hp2
          rw [← hp2]; exact hp)
      have HXS := hid (fun (h16 : q.2.length < 16) => (HOK.out K).xs (G := G) (p := q) h16 (HLTN.out q.1))
      have hc1 := (HR.out.sets.cellAt K (by omega)).trans (intVals_get (natI_get (setsY_get hq)))
      have hc2 := (HR.out.words.cellAt K (by omega)).trans (strVals_get (wdsY_get hq))
      have HQ := hid hq
      have HWL := hid (show ((⟨q.2.toArray⟩ : ByteArray)).size = q.2.length by simp [ByteArray.size])
      obtain ⟨Y, hY⟩ : ∃ Y, Y = syK G L F K := ⟨_, rfl⟩
      rw [← hY] at HR HSTEP HNX HXS HQ
      have HYD := hid hY
      have HON := hid (fun (W : World) => l16Only_c q.1 W hq6)
      obtain ⟨b, hb⟩ : ∃ b, b = onlyB q.1 := ⟨_, rfl⟩
      rw [← hb] at HON HSY HNX
      obtain ⟨set, hset⟩ : ∃ set, set = q.1 := ⟨_, rfl⟩
      rw [← hset] at HON hc1 hq4 hq6
      obtain ⟨u, hu⟩ : ∃ u : ByteArray, u = ⟨q.2.toArray⟩ := ⟨_, rfl⟩
      rw [← hu] at hc2 HWL
      have HU := hid hu
      have HSET := hid hset
      clear hq hY hb hset hqp HNO HSO hu
      go_wp2_with fail
      refine (HON.out _).mono ?_
      rintro e w9 ⟨⟨r, rfl, hr⟩, rfl⟩
      cases b with
      | true =>
        have hr0 : decide (0 ≤ r) = true := hr.symm
        have HV := hid (HSY.out rfl)
        have HBF := hid (HB.out.trans (HR.out.bel.mono HB.out.size))
        clear HSY HNX HXS hr
        go_wp2
        go_ret2
        refine ⟨?_, HBF.out⟩
        rw [HV.out, HU.out]
        rfl
      | false =>
        have hr0 : decide (0 ≤ r) = false := hr.symm
        have HNXF := hid (HNX.out rfl)
        clear HNX
        have hbz := HR.out.bel.size
        obtain ⟨⟨p0, p1, p2⟩, _⟩ := HBX.out w9 HR.out.bel
        clear HSY hr
        by_cases h16 : q.2.length < 16
        · have HSTEP := hid (HSTEP.out.trans (if_pos h16))
          have HXS := hid (HXS.out h16)
          have hu16 : (u.size : Int) < 16 := by have := HWL.out; omega
          go_wp2
          go_loopw [4, 5, 7] (fun a4 a5 i wr => ∃ (x m' gs cs gw cw : Nat), x ≤ L ∧ i = .int .i64 x ∧ Hid (.slice (some ⟨gs, 0, none⟩) m' cs = a4) ∧ Hid (.slice (some ⟨gw, 0, none⟩) m' cw = a5) ∧ Hid (SyRows 3 9 W2.heap.size W2 wr gs cs gw cw (syX G q Y x) m')) (fun _ _ i _ => L - (intOf i).toNat)
          case atStart => exact ⟨0, m, gs, cs, gw, cw, by omega, rfl, hid rfl, hid rfl, HR⟩
          case round =>
            clear p0 p1 p2 hc1 hc2
            obtain ⟨x, m', gs', cs', gw', cw', hx, rfl, hs4, hs5, HR1⟩ := hrel
            have hs4 := hs4.out
            have hs5 := hs5.out
            subst hs4 hs5
            obtain ⟨hok1, l1, hl1⟩ := HXS.out x
            have hm' : m' ≤ N := by rw [← HR1.out.len]; exact hok1.few
            have hmm : m ≤ m' := by rw [← HR1.out.len, hl1, List.length_append, HR.out.len]; omega
            have hqx : (syX G q Y x)[K]? = some q := by rw [hl1, List.getElem?_append_left (by rw [HR.out.len]; omega)]; exact HQ.out
            have hKm : K < m' := by omega
            have HPF := hid (show ∃ l, syX G q Y x = Y ++ l from ⟨l1, hl1⟩)
            have hc1 := (HR1.out.sets.cellAt K (by omega)).trans (intVals_get (natI_get (setsY_get hqx)))
            have hc2 := (HR1.out.words.cellAt K (by omega)).trans (strVals_get (wdsY_get hqx))
            rw [← HSET.out] at hc1
            rw [← HU.out] at hc2
            have hKi' : (K : Int) < (m' : Int) := by omega
            have hgs : gs' < wr.heap.size := (HR1.out.sets.lt _ rfl).2
            have hbz1 := HR1.out.bel.size
            obtain ⟨⟨p0, p1, p2⟩, _, hbw⟩ := HBX.out wr HR1.out.bel
            by_cases hltx : x < L
            · have hxi : (x : Int) < (L : Int) := by omega
              have HSS := hid (HST.out wr.drew set x hbw.drew (by omega) (by omega))
              have HTO := hid (show stp G set x < N from HLTN.out set x)
              have HKN := hid (show ∀ ys : List (Nat × List UInt8), decide (stp G set x = 0 ∨ stp G set x ∈ setsY ys) = true → syLet G q x ys = ys from fun ys h => syLet_known (by rw [← HSET.out]; exact h))
              have HNW := hid (show ∀ ys : List (Nat × List UInt8), decide (stp G set x = 0 ∨ stp G set x ∈ setsY ys) = false → syLet G q x ys = ys ++ [(stp G set x, q.2 ++ [letB x])] from fun ys h => by rw [syLet_new (by rw [← HSET.out]; exact h), ← HSET.out])
              have HXX := hid (syX_succ G q Y x)
              obtain ⟨tz, hto⟩ : ∃ tz, tz = stp G set x := ⟨_, rfl⟩
              rw [← hto] at HSS HTO HKN HNW
              obtain ⟨ys, hys⟩ : ∃ ys, ys = syX G q Y x := ⟨_, rfl⟩
              rw [← hys] at HR1 HXX HPF
              have hbZ : Below wr.heap.size wr wr.drew := (Below.refl _ _).drew
              have HKK := hid (fun (V : World) (hV : Below wr.heap.size wr V) => show V.cell? ⟨w.heap.size, 0, none⟩ = some (.int .i64 L) ∧ V.cell? ⟨w.heap.size, 1, none⟩ = some (.int .i64 S) ∧ V.cell? ⟨w.heap.size, 2, none⟩ = some (.slice a n c) ∧ V.cell? ⟨gs', K, none⟩ = some (.int .i64 set) ∧ Below wr.heap.size wr V from by
                obtain ⟨⟨q0, q1, q2⟩, _⟩ := HBX.out V (HR1.out.bel.trans (hV.mono hbz1))
                exact ⟨q0, q1, q2, (hV.cell (p := ⟨gs', K, none⟩) hgs).trans hc1, hV⟩)
              clear hto hys hok1 hl1 hqx
              go_wp2
              go_region_held3 (fun V => V.cell? ⟨w.heap.size, 0, none⟩ = some (.int .i64 L) ∧ V.cell? ⟨w.heap.size, 1, none⟩ = some (.int .i64 S) ∧ V.cell? ⟨w.heap.size, 2, none⟩ = some (.slice a n c) ∧ V.cell? ⟨gs', K, none⟩ = some (.int .i64 set) ∧ Below wr.heap.size wr V)
                (first | with_reducible exact HKK.out _ hbZ)
                (first | (go_at_call 36; refine HSS.out.mono ?_; rintro e w3 ⟨rfl, hb3⟩; have hbZ := hbZ.trans (hb3.mono hbZ.size)))
              have HR3 := hid (HR1.out.below hbZ hbz1)
              have hc2' := (hbZ.cell (p := ⟨gw', K, none⟩) (HR1.out.words.lt _ rfl).2).trans hc2
              clear HKK HSS p0 p1 p2 hc1 hb3 hbw hc2 HR1
              obtain ⟨w4, rfl⟩ : ∃ w4, w4 = w3 := ⟨_, rfl⟩
              obtain ⟨b0, hb0⟩ : ∃ b0, b0 = decide (tz = 0) := ⟨_, rfl⟩
              have hzb : ((tz : Int) == 0) = b0 := by
                rw [hb0]
                by_cases e : tz = 0
                · subst e; rfl
                · rw [decide_eq_false e]; simp; omega
              have HB0 := hid (show knoTo (setsY ys) tz 0 = b0 from by rw [knoTo_zero, hb0])
              clear hb0
              go_wp2
              go_loop [9, 10] (fun kn i => ∃ j : Nat, j ≤ m' ∧ i = .int .i64 j ∧ kn = .bool (knoTo (setsY ys) tz j)) (fun _ i => m' - (intOf i).toNat)
              case atStart => exact ⟨0, by omega, rfl, by rw [HB0.out]⟩
              case round =>
                obtain ⟨j, hj, rfl, rfl⟩ := hrel
                by_cases hlj : j < m'
                · have hji : (j : Int) < (m' : Int) := by omega
                  obtain ⟨y, hy⟩ := get_some (l := setsY ys) (n := j) (by rw [setsY_len, HR3.out.len]; exact hlj)
                  have hyc := (HR3.out.sets.cellAt j (by omega)).trans (intVals_get (natI_get hy))
                  have HS := hid (knoTo_succ (z := tz) hy)
                  obtain ⟨b, hb⟩ : ∃ b, b = knoTo (setsY ys) tz j := ⟨_, rfl⟩
                  rw [← hb] at HS
                  rw [← hb]
                  clear hy hb
                  cases b with
                  | true =>
                    have HS2 := hid (show knoTo (setsY ys) tz (j + 1) = true from HS.out)
                    clear HS
                    go_wp2
                    go_round
                    case rel => exact ⟨j + 1, by omega, by go_num, by rw [HS2.out]⟩
                    case measure => simp [intOf] <;> omega
                  | false =>
                    by_cases e : y = tz
                    · have ge : ((y : Int) == (tz : Int)) = true := by simp [e]
                      have HS2 := hid (show knoTo (setsY ys) tz (j + 1) = true from by rw [HS.out, decide_eq_true e]; rfl)
                      clear HS e
                      go_wp2
                      go_round
                      case rel => exact ⟨j + 1, by omega, by go_num, by rw [HS2.out]⟩
                      case measure => simp [intOf] <;> omega
                    · have ge : ((y : Int) == (tz : Int)) = false := by simp; omega
                      have HS2 := hid (show knoTo (setsY ys) tz (j + 1) = false from by rw [HS.out, decide_eq_false e]; rfl)
                      clear HS e
                      go_wp2
                      go_round
                      case rel => exact ⟨j + 1, by omega, by go_num, by rw [HS2.out]⟩
                      case measure => simp [intOf] <;> omega
                · obtain rfl : j = m' := by omega
                  have HEND := hid (knoTo_end (zs := setsY ys) (z := tz) (n := j) (by rw [setsY_len, HR3.out.len]))
                  obtain ⟨b, hb⟩ : ∃ b, b = decide (tz = 0 ∨ tz ∈ setsY ys) := ⟨_, rfl⟩
                  have HK1 := hid (HKN.out ys)
                  have HN1 := hid (HNW.out ys)
                  rw [← hb] at HEND HK1 HN1
                  rw [HEND.out]
                  clear hb HKN HNW
                  cases b with
                  | true =>
                    have HX2 := hid (show syX G q Y (x + 1) = ys from by rw [HXX.out]; exact HK1.out rfl)
                    clear HK1 HN1 HXX
                    go_wp2
                    go_roundw
                    case rel => exact ⟨x + 1, j, gs', cs', gw', cw', by omega, by go_num, hid rfl, hid rfl, hid (by rw [HX2.out]; exact HR3.out)⟩
                    case measure => simp [intOf] <;> omega
                  | false =>
                    have HX2 := hid (show syX G q Y (x + 1) = ys ++ [(tz, q.2 ++ [letB x])] from by rw [HXX.out]; exact HN1.out rfl)
                    clear HK1 HN1 HXX
                    have hszB : W2.heap.size ≤ w4.heap.size := HR3.out.bel.size
                    have HU3 := hid (HR3.out.sets.alloc (.cells #[.int .i64 (tz : Int)] 3))
                    go_wp2_with (first | (at_builtin; go_must (refine wpList_appN rfl _ _ 41 rfl W2.heap.size 3 (.int .i64 0) 8 Tryd.underlying41 infoIntZ rfl gs' cs' j _ HU3.out rfl w4.heap.size 0 1 1 [.int .i64 (tz : Int)] rfl rfl (by intro q u hq; match q, hq with | 0, hq => simp at hq; subst hq; simp) (by intro u hu; simp at hu; subst hu; rfl) (by omega) (by unfold maxLen; omega) (by simp; omega) ?_); intro g6 c6 w6 hown6 hgr6 hor6 hlt6))
                    have hb6 : Below W2.heap.size W2 w6 := (HR3.out.bel.alloc hszB _).grown hgr6 (by simp; omega) (by rintro k ⟨⟩; exact (HU3.out.lt _ rfl).1)
                    have hwo6 := (HR3.out.words.alloc (.cells #[.int .i64 (tz : Int)] 3)).kept hgr6 (owns_ne (HR3.out.words.alloc (.cells #[.int .i64 (tz : Int)] 3)) HU3.out (by decide))
                    have HS6 := hid hown6
                    have HW6 := hid hwo6
                    have HB6 := hid hb6
                    have hlenY : ys.length = j := HR3.out.len
                    have hgw6 : gw' < w6.heap.size := (hwo6.lt _ rfl).2
                    have hc6 : w6.cell? ⟨gw', K, none⟩ = some (.string u) := (hwo6.cellAt K (by omega)).trans (by
                      obtain ⟨l2, hl2⟩ := HPF.out
                      rw [HU.out]
                      exact strVals_get (wdsY_get (by rw [hl2, List.getElem?_append_left (by rw [HR.out.len]; omega)]; exact HQ.out)))
                    have hszB6 := hb6.size
                    have hx3 : x < 3 := by omega
                    have hex := abc_at hx3
                    have hw1 : IntKind.i64.wrap ((x : Int) + 1) = (x : Int) + 1 := IntWalk.i64_in _ (by omega)
                    have hw2 : ((x : Int) + 1).toNat = x + 1 := by omega
                    have hbx1 : (x : Int) ≤ (x : Int) + 1 := by omega
                    have hbx2 : (x : Int) + 1 ≤ 3 := by omega
                    have huz : ¬ (9223372036854775807 < u.size + 1) := by omega
                    have HVAL := hid (show u ++ ⟨#[letB x]⟩ = ⟨(q.2 ++ [letB x]).toArray⟩ from by rw [HU.out, str_snoc])
                    obtain ⟨S', hSd⟩ : ∃ S' : World → Prop, S' = fun V => V.cell? ⟨gw', K, none⟩ = some (.string u) := ⟨_, rfl⟩
                    have HSO := hid (show ∀ V, S' V → V.cell? ⟨gw', K, none⟩ = some (.string u) from fun V hV => by rw [hSd] at hV; exact hV)
                    have HSG := hid (show ∀ V, V.cell? ⟨gw', K, none⟩ = some (.string u) → S' V from fun V hV => by rw [hSd]; exact hV)
                    have hS0 : S' w6.drew := HSG.out _ hc6
                    have hS1' : S' (w6.drew.alloc (.cells #[.string (u ++ ⟨#[letB x]⟩)] 9)) := HSG.out _ (((Below.refl w6.drew.heap.size w6.drew).alloc (Nat.le_refl _) _).cell (p := ⟨gw', K, none⟩) hgw6 |>.trans hc6)
                    have HWV := hid ((owns_below HW6.out (Below.refl _ _).drew).alloc (.cells #[.string (u ++ ⟨#[letB x]⟩)] 9))
                    have HSV := hid ((owns_below HS6.out (Below.refl _ _).drew).alloc (.cells #[.string (u ++ ⟨#[letB x]⟩)] 9))
                    have HBV := hid (HB6.out.drew.alloc (show W2.heap.size ≤ w6.drew.heap.size from hszB6) (.cells #[.string (u ++ ⟨#[letB x]⟩)] 9))
                    have HCV := hid (show (w6.drew.alloc (.cells #[.string (u ++ ⟨#[letB x]⟩)] 9)).cell? ⟨w6.heap.size, 0, none⟩ = some (.string (u ++ ⟨#[letB x]⟩)) from World.cell?_alloc_at _ _ _ _ rfl)
                    clear hSd hown6 hgr6 hor6 hlt6 hwo6 hb6 HU3 HR3
                    refine wp_region_T (S := S') 12 (by kernel_rfl) ?_
                    (refine wpAnyT_take (i := 0) (v := ?v0) rfl (by kernel_rfl) (by kernel_rfl) (by kernel_rfl) (by kernel_rfl) (fun _ _ _ h => h) (Or.inl ⟨by rfl, ?y0⟩) (by assumption) ?r0; case y0 => (intro V hSw; have hSw := HSO.out V hSw; go_split_ands; go_simp; first | done | with_reducible rfl); try simp only [Act.put, List.setIfInBounds_toArray, List.set_cons_zero, List.set_cons_succ])
                    (refine wpAnyT_take (i := 1) (v := ?v1) rfl (by kernel_rfl) (by kernel_rfl) (by kernel_rfl) (by kernel_rfl) (fun _ _ _ h => h) (Or.inl ⟨by rfl, ?y1⟩) (by assumption) ?r1; case y1 => (intro V hSw; have hSw := HSO.out V hSw; go_split_ands; go_simp; first | done | with_reducible rfl); try simp only [Act.put, List.setIfInBounds_toArray, List.set_cons_zero, List.set_cons_succ])
                    (refine wpAnyT_take (i := 2) (v := ?v2) rfl (by kernel_rfl) (by kernel_rfl) (by kernel_rfl) (by kernel_rfl) (fun _ _ _ h => h) (Or.inl ⟨by rfl, ?y2⟩) (by assumption) ?r2; case y2 => (intro V hSw; have hSw := HSO.out V hSw; go_split_ands; go_simp; first | done | with_reducible rfl); try simp only [Act.put, List.setIfInBounds_toArray, List.set_cons_zero, List.set_cons_succ])
                    (refine wpAnyT_take (i := 3) (v := ?v3) rfl (by kernel_rfl) (by kernel_rfl) (by kernel_rfl) (by kernel_rfl) (fun _ _ _ h => h) (Or.inl ⟨by rfl, ?y3⟩) (by assumption) ?r3; case y3 => (intro V hSw; have hSw := HSO.out V hSw; go_split_ands; go_simp; first | done | with_reducible rfl); try simp only [Act.put, List.setIfInBounds_toArray, List.set_cons_zero, List.set_cons_succ])
                    (refine wpAnyT_take (i := 4) (v := ?v4) rfl (by kernel_rfl) (by kernel_rfl) (by kernel_rfl) (by kernel_rfl) (fun _ _ _ h => h) (Or.inl ⟨by rfl, ?y4⟩) (by assumption) ?r4; case y4 => (intro V hSw; have hSw := HSO.out V hSw; go_split_ands; go_simp; first | done | with_reducible rfl); try simp only [Act.put, List.setIfInBounds_toArray, List.set_cons_zero, List.set_cons_succ])
                    (refine wpAnyT_take (i := 5) (v := ?v5) rfl (by kernel_rfl) (by kernel_rfl) (by kernel_rfl) (by kernel_rfl) (fun _ _ _ h => h) (Or.inl ⟨by rfl, ?y5⟩) (by assumption) ?r5; case y5 => (intro V hSw; have hSw := HSO.out V hSw; go_split_ands; go_simp; first | done | with_reducible rfl); try simp only [Act.put, List.setIfInBounds_toArray, List.set_cons_zero, List.set_cons_succ])
                    (refine wpAnyT_take (i := 6) (v := ?v6) rfl (by kernel_rfl) (by kernel_rfl) (by kernel_rfl) (by kernel_rfl) (fun _ _ _ h => h) (Or.inl ⟨by rfl, ?y6⟩) (by assumption) ?r6; case y6 => (intro V hSw; have hSw := HSO.out V hSw; go_split_ands; go_simp; first | done | with_reducible rfl); try simp only [Act.put, List.setIfInBounds_toArray, List.set_cons_zero, List.set_cons_succ])
                    (refine wpAnyT_take (i := 7) (v := ?v7) rfl (by kernel_rfl) (by kernel_rfl) (by kernel_rfl) (by kernel_rfl) (fun _ _ _ h => h) (Or.inl ⟨by rfl, ?y7⟩) (by assumption) ?r7; case y7 => (intro V hSw; have hSw := HSO.out V hSw; go_split_ands; go_simp; first | done | with_reducible rfl); try simp only [Act.put, List.setIfInBounds_toArray, List.set_cons_zero, List.set_cons_succ])
                    (refine wpAnyT_take (i := 8) (v := ?v8) rfl (by kernel_rfl) (by kernel_rfl) (by kernel_rfl) (by kernel_rfl) (fun _ _ _ h => h) (Or.inl ⟨by rfl, ?y8⟩) (by assumption) ?r8; case y8 => (intro V hSw; have hSw := HSO.out V hSw; go_split_ands; go_simp; first | done | with_reducible rfl); try simp only [Act.put, List.setIfInBounds_toArray, List.set_cons_zero, List.set_cons_succ])
                    (refine wpAnyT_take (i := 9) (v := ?v9) rfl (by kernel_rfl) (by kernel_rfl) (by kernel_rfl) (by kernel_rfl) (fun _ _ _ h => h) (Or.inl ⟨by rfl, ?y9⟩) (by assumption) ?r9; case y9 => (intro V hSw; have hSw := HSO.out V hSw; go_split_ands; go_simp; first | done | with_reducible rfl); try simp only [Act.put, List.setIfInBounds_toArray, List.set_cons_zero, List.set_cons_succ])
                    refine wpAnyT_step (i := 10) rfl (by kernel_rfl) (by decide) (fun K' hK => ?_)
                    go_simp
                    refine hK.out _ _ hS1' ?_
                    clear hK K'
                    try simp only [Act.put, List.setIfInBounds_toArray, List.set_cons_zero, List.set_cons_succ]
                    refine wpAnyT_step (i := 11) rfl (by kernel_rfl) (by decide) (fun K' hK => ?_)
                    refine step_appK (by rfl) _ _ 42 (by rfl) W2.heap.size 9 (.string ByteArray.empty) 16 Tryd.underlying42 infoStr3 rfl gw' j cw' _ _ HWV.out (by rfl) w6.heap.size (by rfl) HCV.out rfl (by omega) (by unfold maxLen; omega) HBV.out.size ?_
                    intro g7 c7 w7 hown7 hgr7 hor7 hcl7
                    refine hK.out _ _ (HSG.out _ (hcl7 K _ ?_)) ?_
                    · obtain ⟨l2, hl2⟩ := HPF.out
                      rw [HU.out]
                      exact strVals_get (wdsY_get (by rw [hl2, List.getElem?_append_left (by rw [HR.out.len]; omega)]; exact HQ.out))
                    clear hK K'
                    try simp only [Act.put, List.setIfInBounds_toArray, List.set_cons_zero, List.set_cons_succ]
                    have hS6 := HSV.out.kept hgr7 (owns_ne HSV.out HWV.out (by decide))
                    have HB7 := HBV.out.grown hgr7 HBV.out.size (by rintro k ⟨⟩; exact (HWV.out.lt _ rfl).1)
                    have HR7 := hid (show SyRows 3 9 W2.heap.size W2 w7 g6 c6 g7 c7 (ys ++ [(tz, q.2 ++ [letB x])]) (j + 1) from ⟨by rw [List.length_append, hlenY]; rfl, HB7, by rw [setsY_snoc]; exact hS6, by rw [wdsY_snoc, ← HVAL.out]; exact hown7⟩)
                    clear hS6 HB7 hown7 hgr7 hor7 hcl7
                    refine wpAnyT_last rfl (by kernel_rfl) (by kernel_rfl) (fun K' hK => ?_)
                    go_simp
                    refine hK.out _ _ ?_
                    clear hK K'
                    go_wp2
                    go_roundw
                    case rel => exact ⟨x + 1, j + 1, g6, c6, g7, c7, by omega, by go_num, hid rfl, hid rfl, hid (by rw [HX2.out]; exact HR7.out)⟩
                    case measure => simp [intOf] <;> omega
            · obtain rfl : x = L := by omega
              have HNX2 := hid (HNXF.out _ HPF.out)
              have hx0 : ¬ ((x : Int) < (x : Int)) := by omega
              go_wp2
              go_roundw
              case rel => exact ⟨K + 1, m', gs', cs', gw', cw', hid rfl, hid rfl, by go_num, hid (by omega), hid (by rw [HSTEP.out]; exact HR1.out), hid (by rw [HSTEP.out]; exact HNX2.out)⟩
              case measure => simp [intOf] <;> omega
        · have HSTEP := hid (HSTEP.out.trans (if_neg h16))
          have hu16 : ¬ ((u.size : Int) < 16) := by have := HWL.out; omega
          have hL0 : (0 : Int) < (L : Int) := by omega
          have HNX2 := hid (HNXF.out Y ⟨[], by simp⟩)
          clear HXS HNXF
          go_wp2
          refine wp_loop_rounds 1 ?_
          rw [rounds_succ]
          go_wp2
          go_roundw
          case rel => exact ⟨K + 1, m, gs, cs, gw, cw, hid rfl, hid rfl, by go_num, hid (by omega), hid (by rw [HSTEP.out]; exact HR.out), hid (by rw [HSTEP.out]; exact HNX2.out)⟩
          case measure => simp [intOf] <;> omega
    · obtain rfl : K = m := by omega
      have HV := hid (HSN.out K (by omega) (by rw [HR.out.len]; exact Nat.le_refl _) HNO.out)
      have HBF := hid (HB.out.trans (HR.out.bel.mono HB.out.size))
      go_wp2
      go_ret2
      exact ⟨by rw [HV.out]; rfl, HBF.out⟩
end Go.Proofs.YtpfeflhcbcgbfaaDoor
