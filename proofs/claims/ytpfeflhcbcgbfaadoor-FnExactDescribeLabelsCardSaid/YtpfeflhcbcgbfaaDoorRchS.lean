/- Labelled graphs: the program's search through the sets, with the function that ends it. Conditions: a labelled graph, its arcs in memory, two boxes of the caller's. -/
import Derived.Deep.Upon
import Derived.Test.YtpfeflhcbcgbfaaDoorSetM
import Derived.Test.YtpfeflhcbcgbfaaDoorSynS
import Derived.Test.YtpfeflhcbcgbfaaDoorSynF
import Derived.Test.YtpfeflhcbcgbfaaDoorNamN
namespace Go.Proofs.YtpfeflhcbcgbfaaDoor
open Go.RowKit

def stepV (zs : List (Nat × Value)) : List Value := zs.flatMap fun z => [.int .i64 (z.1 : Int), z.2]
theorem stepV_len (zs : List (Nat × Value)) : (stepV zs).length = zs.length * 2 := by
  induction zs with
  | nil => rfl
  | cons p ys ih => simp only [stepV, List.flatMap_cons, List.length_append, List.length_cons, List.length_nil] at ih ⊢; omega
theorem stepV_snoc (zs : List (Nat × Value)) (z : Nat × Value) : stepV (zs ++ [z]) = stepV zs ++ [.int .i64 (z.1 : Int), z.2] := by simp [stepV]
theorem stepV_get {z : Nat × Value} : ∀ {zs : List (Nat × Value)} {k : Nat}, zs[k]? = some z → (stepV zs)[k * 2]? = some (.int .i64 (z.1 : Int)) ∧ (stepV zs)[k * 2 + 1]? = some z.2
  | [], k, h => by simp at h
  | q :: ys, 0, h => by
    simp at h
    subst h
    exact ⟨rfl, rfl⟩
  | q :: ys, k + 1, h => by
    have ih := stepV_get (zs := ys) (k := k) (by simpa using h)
    have e : stepV (q :: ys) = .int .i64 (q.1 : Int) :: q.2 :: stepV ys := by simp [stepV]
    rw [e, show (k + 1) * 2 = k * 2 + 1 + 1 by omega]
    exact ⟨ih.1, ih.2⟩
theorem byteVals_snoc (l : List UInt8) (c : UInt8) : byteVals (l ++ [c]) = byteVals l ++ [.int .u8 (c.toNat : Int)] := by simp [byteVals]
theorem byteVals_one' (l : List UInt8) : ∀ u ∈ byteVals l, u.oneCell' = true := by
  intro u hu
  obtain ⟨x, _, rfl⟩ := List.mem_map.1 hu
  rfl
/-- A set and its word appended. -/
theorem wpList_appZ {P : Program} {wr : World} {ops : Array Oper} {rest : List Oper} {o : Oper} {a : Act} {Q : Exit → Act → World → Prop}
    (hg : o.guard = none) (s x : Operand) (t : TypeId) (hop : o.op = Op.call { callee := Callee.builtin Builtin.append, args := #[s, x], argTypes := #[t, t] })
    (B : Nat) (e : TypeId) (bytes : Nat) (h1 : P.underlying t = some (.slice e)) (hinfo : (P.info? e).map (fun i => (i.zero, i.size, i.bytes)) = some (some (.agg #[.int .i64 0, .slice none 0 0]), 2, bytes))
    (v : Value) (m : Nat) (zs : List (Nat × Value)) (z : Nat × Value) (hz1 : z.2.oneCell' = true) (hown : wr.ownsRow B e 2 v m (stepV zs)) (hs : a.eval s = v) (hx : a.eval x = .slice (some ⟨wr.heap.size, 0, none⟩) 1 1)
    (hlim : (m + 1) * bytes ≤ 140737488355328) (hlim2 : (m + 1) * 2 ≤ maxLen) (hB : B ≤ wr.heap.size)
    (hK : ∀ g' c' w1, w1.ownsRow B e 2 (.slice (some ⟨g', 0, none⟩) (m + 1) c') (m + 1) (stepV (zs ++ [z])) → wr.grownBy w1 v.ownBlock → wpList P ops Q rest (a.put o.dst (.slice (some ⟨g', 0, none⟩) (m + 1) c')) w1) :
    wpList P ops Q (o :: rest) a (wr.alloc (.cells #[.int .i64 (z.1 : Int), z.2] e)) := by
  obtain ⟨i, hi, hz, hzz, hz2⟩ := info_parts hinfo
  refine wpList_append_lies _ hg s x t hop B e i _ 2 bytes h1 hi hz hzz hz2 rfl (by decide) v m (stepV zs) hs (hown.alloc _) ⟨wr.heap.size, 0, none⟩ 1 1 [.int .i64 (z.1 : Int), z.2] hx rfl ?_ (by intro u hu; simp at hu; rcases hu with rfl | rfl; rfl; exact hz1) (by omega) (by omega) hlim (by simp; omega) (wr.heap.size + 1) (by simp) ?_
  · intro j y hj
    have ha : (⟨wr.heap.size, 0, none⟩ : Addr).add j = ⟨wr.heap.size, j, none⟩ := by
      unfold Addr.add
      split
      · rename_i h0; subst h0; rfl
      · simp
    rw [ha, World.cell?_alloc_at _ _ _ _ rfl]
    rw [← hj]
    simp
  · intro g c w1 hown' hgrow _ _
    exact hK g c w1 (by rw [stepV_snoc]; exact hown') (grown_trans (World.grownBy_alloc _ _ _) hgrow)
/-- A word's bytes appended to a new slice. -/
theorem wpList_appW {P : Program} {wr : World} {ops : Array Oper} {rest : List Oper} {o : Oper} {a : Act} {Q : Exit → Act → World → Prop}
    (hg : o.guard = none) (s x : Operand) (t : TypeId) (hop : o.op = Op.call { callee := Callee.builtin Builtin.append, args := #[s, x], argTypes := #[t, t] })
    (B : Nat) (e : TypeId) (h1 : P.underlying t = some (.slice e)) (hinfo : (P.info? e).map (fun i => (i.zero, i.size, i.bytes)) = some (some (.int .u8 0), 1, 1))
    (g0 : Nat) (hown : wr.ownsRow B e 1 (.slice (some ⟨g0, 0, none⟩) 0 0) 0 []) (hs : a.eval s = .slice (some ⟨g0, 0, none⟩) 0 0) (xv : Value) (n : Nat) (us : List Value) (hx : a.eval x = xv) (hxo : wr.ownsRow B e 1 xv n us) (hu : ∀ u ∈ us, u.oneCell' = true) (hn : n ≤ 1000000) (hB : B ≤ wr.heap.size)
    (hK : ∀ g' c' w1, w1.ownsRow B e 1 (.slice (some ⟨g', 0, none⟩) n c') n us → wr.grownBy w1 (some g0) → (g' = g0 ∨ wr.heap.size ≤ g') → g' < w1.heap.size → wpList P ops Q rest (a.put o.dst (.slice (some ⟨g', 0, none⟩) n c')) w1) :
    wpList P ops Q (o :: rest) a wr := by
  have hl := hxo.1
  rcases hxo.2 with ⟨rfl, rfl⟩ | ⟨g, cap, cur, rfl, hb, hgh, h3, h4, h5, h6⟩
  · obtain rfl : us = [] := List.eq_nil_of_length_eq_zero (by simpa using hl)
    obtain ⟨i, hi, hz, hz1, hz2⟩ := info_parts hinfo
    refine wpList_plain hg fun K hK' => ?_
    have hr := run_append_nothing (P := P) wr t t o.type e i h1 hi (some ⟨g0, 0, none⟩) 0 0 (Nat.le_refl _) (.slice none 0 0) (Src.ofNil wr h1 0)
    unfold Oper.wp execOp
    simp only [hop, resolve, invoke, builtin, Sem.run_bind, Sem.run_pure, Result.andThen_ok, List.map_toArray, List.map_cons, List.map_nil, hs, hx, hr]
    exact hK' _ _ (hK g0 0 wr hown ⟨rfl, rfl, rfl, Nat.le_refl _, fun _ _ _ => rfl⟩ (.inl rfl) (hown.lt _ rfl).2)
  · have hl' : us.length = n := by simpa using hl
    have hcell : ∀ (j : Nat) (u : Value), us[j]? = some u → wr.cell? ⟨g, 0 + j, none⟩ = some u := by
      intro j u hj
      rw [Nat.zero_add]
      exact (hxo.cellAt j (by have := (List.getElem?_eq_some_iff.1 hj).1; omega)).trans hj
    refine wpList_appN hg s x t hop B e (.int .u8 0) 1 h1 hinfo rfl g0 0 0 [] hown hs g 0 n cap us hx hl' hcell hu (by omega) (by unfold maxLen; omega) hB ?_
    intro g' c' w1 ho hgr hor hlt
    rw [Nat.zero_add] at ho
    have := hK g' c' w1 (by simpa using ho) hgr hor hlt
    rw [Nat.zero_add]
    exact this
end Go.Proofs.YtpfeflhcbcgbfaaDoor
namespace Go.Proofs.YtpfeflhcbcgbfaaDoor
open Go.RowKit

theorem zeroBoolR (w : World) : (zeroValue 4).run Tryd.prog w = .ok (.bool false) w := by kernel_rfl
theorem infoStepR : (Tryd.prog.info? 90).map (fun i => (i.zero, i.size, i.bytes)) = some (some (.agg #[.int .i64 0, .slice none 0 0]), 2, 32) := by kernel_rfl
theorem infoByteR : (Tryd.prog.info? 5).map (fun i => (i.zero, i.size, i.bytes)) = some (some (.int .u8 0), 1, 1) := by kernel_rfl
/-- Where the search stands in the memory: the list of sets and words, the map of sets seen. -/
structure ReM (W1 : World) (B mb : Nat) (ys : List (Nat × List UInt8)) (zs : List (Nat × Value)) (v : Value) (m : Nat) (wr : World) : Prop where
  len : ys.length = m
  fst : zs.map (·.1) = setsY ys
  wds : ∀ (i : Nat) (p : Nat × List UInt8) (z : Nat × Value), ys[i]? = some p → zs[i]? = some z → wr.ownsRow B 5 1 z.2 p.2.length (byteVals p.2)
  list : wr.ownsRow B 90 2 v m (stepV zs)
  map : wr.ownsMap Tryd.prog 3 (plainElem Tryd.prog 4) mb m (setD (setsY ys))
  bel : Below B W1 wr
theorem ReM.below {W1 : World} {B mb m : Nat} {ys : List (Nat × List UInt8)} {zs : List (Nat × Value)} {v : Value} {wr w' : World} (h : ReM W1 B mb ys zs v m wr) (hb : Below wr.heap.size wr w') (hB : B ≤ wr.heap.size) : ReM W1 B mb ys zs v m w' :=
  ⟨h.len, h.fst, fun i p z hp hz => owns_below (h.wds i p z hp hz) hb, owns_below h.list hb, owns_map_below h.map hb, h.bel.trans (hb.mono hB)⟩
theorem ReM.at_ {W1 : World} {B mb m : Nat} {ys : List (Nat × List UInt8)} {zs : List (Nat × Value)} {v : Value} {wr : World} (h : ReM W1 B mb ys zs v m wr) {i : Nat} {p : Nat × List UInt8} (hp : ys[i]? = some p) : ∃ z, zs[i]? = some (p.1, z) ∧ wr.ownsRow B 5 1 z p.2.length (byteVals p.2) := by
  have h1 := congrArg (fun l => l[i]?) h.fst
  simp only [List.getElem?_map, setsY, hp, Option.map_some] at h1
  cases hz : zs[i]? with
  | none => rw [hz] at h1; cases h1
  | some z =>
    rw [hz] at h1
    simp only [Option.map_some, Option.some.injEq] at h1
    exact ⟨z.2, by rw [← h1], h.wds i p z hp hz⟩
/-- What the search leaves: with a word found it has put that and 'true' into the caller's boxes. -/
def RePost (bw bf : Nat) (o : Option (List UInt8)) (w : World) (e : Ending) (w' : World) : Prop :=
  e = .returned (.tuple #[]) ∧ match o with
    | none => Below w.heap.size w w'
    | some l => ∃ V, Below w.heap.size w V ∧ w' = (V.setCell ⟨bw, 0, none⟩ (.string ⟨l.toArray⟩)).setCell ⟨bf, 0, none⟩ (.bool true)
theorem rePost_some {bw bf : Nat} {l : List UInt8} {w V : World} (h : Below w.heap.size w V) {o : Option (List UInt8)} (ho : o = some l) : RePost bw bf o w (.returned (.tuple #[])) ((V.setCell ⟨bw, 0, none⟩ (.string ⟨l.toArray⟩)).setCell ⟨bf, 0, none⟩ (.bool true)) := by
  subst ho
  exact ⟨rfl, V, h, rfl⟩
theorem rePost_none {bw bf : Nat} {w V : World} (h : Below w.heap.size w V) {o : Option (List UInt8)} (ho : o = none) : RePost bw bf o w (.returned (.tuple #[])) V := by
  subst ho
  exact ⟨rfl, h⟩
set_option maxHeartbeats 8000000 in
set_option maxRecDepth 100000 in
theorem reachSets_c (L S : Nat) (a : Option Addr) (n c bw bf : Nat) (G : List (Nat × Nat × Nat)) (w : World) (hr : RowAt w a (n * 3) (arcVals (arcN G))) (hG : LabG L S G) (hn : n ≤ 1048576) (hcw : w.cell? ⟨bw, 0, none⟩ = some (.string ⟨#[]⟩)) (hfw : w.frozen? ⟨bw, 0, none⟩ = false) (hcf : w.cell? ⟨bf, 0, none⟩ = some (.bool false)) (hff : w.frozen? ⟨bf, 0, none⟩ = false) (hbw : bw < w.heap.size) (hbf : bf < w.heap.size) (hwf : ¬ (bw = bf)) :
    Calls Tryd.prog 48 #[.agg #[.int .i64 L, .int .i64 S, .slice a n c], .int .i64 16, .func (.func 49) #[] #[.pointer (some ⟨bw, 0, none⟩), .pointer (some ⟨bf, 0, none⟩)]] w (RePost bw bf (syO G L (2 ^ S - 1)) w) := by
  have HST := hid (fun (W : World) (set x : Nat) (hW : Below w.heap.size w W) (h1 : set < 4096) (h2 : x < 1000) => impl_step_c L S a n c G set x W (hr.below hW (Nat.le_refl _)) hG h1 h2 hn)
  have HALL := hid (fun (W : World) => impl_all_c (L : Int) S (.slice a n c) W hG.s12)
  have HBX := hid (fun (V : World) (hV : Below (w.heap.size + 1) (w.alloc (.cells #[.int .i64 L, .int .i64 S, .slice a n c] 29)) V) => lab_box hV)
  obtain ⟨W2, hW2⟩ : ∃ W2, W2 = w.alloc (.cells #[.int .i64 L, .int .i64 S, .slice a n c] 29) := ⟨_, rfl⟩
  have hB : Below w.heap.size w W2 := by rw [hW2]; exact (Below.refl _ _).alloc (Nat.le_refl _) _
  have hsz : W2.heap.size = w.heap.size + 1 := by rw [hW2]; simp
  rw [← hW2, ← hsz] at HBX
  have HBF := hid (fun (V : World) (hV : Below w.heap.size w V) => show V.cell? ⟨bw, 0, none⟩ = some (.string ⟨#[]⟩) ∧ V.frozen? ⟨bw, 0, none⟩ = false ∧ V.cell? ⟨bf, 0, none⟩ = some (.bool false) ∧ V.frozen? ⟨bf, 0, none⟩ = false from
    ⟨(hV.cell (p := ⟨bw, 0, none⟩) hbw).trans hcw, (hV.frozen (p := ⟨bw, 0, none⟩) hbw).trans hfw, (hV.cell (p := ⟨bf, 0, none⟩) hbf).trans hcf, (hV.frozen (p := ⟨bf, 0, none⟩) hbf).trans hff⟩)
  have h4096 := two_pow12 hG.s12
  have hp1 : 1 ≤ 2 ^ S := Nat.two_pow_pos S
  have hp2 : 2 ≤ 2 ^ S := by have := Nat.pow_le_pow_right (n := 2) (by omega) hG.s1; simpa using this
  have HLTN := hid (fun (set x : Nat) => show stp G set x < 2 ^ S from stp_lt hG)
  have hL1 := hG.k1
  have hL3 := hG.k3
  have hS12 := hG.s12
  obtain ⟨F, hF⟩ : ∃ F, F = 2 ^ S - 1 := ⟨_, rfl⟩
  obtain ⟨N, hN⟩ : ∃ N, N = 2 ^ S := ⟨_, rfl⟩
  rw [← hF] at HALL
  rw [← hF]
  rw [← hN] at hp1 hp2 h4096 HLTN
  have hFN1 : F = N - 1 := by rw [hF, hN]
  clear hF
  have hfN : 0 < F ∧ F < N := by omega
  have HOK := hid (fun k => (syK_ok (G := G) (L := L) hfN HLTN.out k).1)
  have HSO := hid (fun (k : Nat) (p : Nat × List UInt8) (hk : k ≤ 4096) => syO_some (L := L) (k := k) (p := p) hfN HLTN.out hk)
  have HSN := hid (fun (k : Nat) (hk : k ≤ 4096) => syO_none (G := G) (L := L) (full := F) (k := k) hk)
  obtain ⟨⟨p0, p1, p2⟩, _⟩ := HBX.out W2 (Below.refl _ _)
  have HB := hid hB
  have hmm := @run_makeMap Tryd.prog
  have hlaw : Maps.Keyed Tryd.prog 3 := Maps.int_keyed Tryd.underlying3
  have hkF : keyOf Tryd.prog 3 (.int .i64 (F : Int)) = some (.int .i64 (F : Int)) := Maps.keyOf_int_mk Tryd.underlying3 (wf_small F (by omega))
  clear hr hB hG hN hFN1 hcw hfw hcf hff
  go_enter Tryd.func48, Tryd.ntmps48
  go_wp2_with (rw [← hW2])
  first | rw [← hW2] | skip
  clear hW2
  refine (HALL.out W2).mono ?_
  rintro e w1 ⟨rfl, hb1⟩
  obtain ⟨W4, hW4⟩ : ∃ W4, W4 = w1.alloc (.cells #[.int .i64 F, .slice none 0 0] 90) := ⟨_, rfl⟩
  obtain ⟨W5, hW5⟩ : ∃ W5, W5 = W4.alloc (.map #[] 0) := ⟨_, rfl⟩
  have hb4 : Below w1.heap.size w1 W4 := by rw [hW4]; exact (Below.refl _ _).alloc (Nat.le_refl _) _
  have hb5 : Below W4.heap.size W4 W5 := by rw [hW5]; exact (Below.refl _ _).alloc (Nat.le_refl _) _
  have hz4 : W4.heap.size = w1.heap.size + 1 := by rw [hW4]; simp
  have HB1 := hid hb1
  have HB5 := hid (hb1.trans ((bs hb4 hb5).mono hb1.size))
  have HL5 := hid (show W5.ownsRow W2.heap.size 90 2 (.slice (some ⟨w1.heap.size, 0, none⟩) 1 1) 1 (stepV [(F, .slice none 0 0)]) from by
    have h1 : W4.ownsRow w1.heap.size 90 2 (.slice (some ⟨w1.heap.size, 0, none⟩) 1 1) 1 [.int .i64 (F : Int), .slice none 0 0] := by
      rw [hW4]
      have := World.ownsRow_lit (base := w1.heap.size) (e := 90) (size := 2) w1 #[.int .i64 (F : Int), .slice none 0 0] 1 (Nat.le_refl _) (by unfold maxLen; simp) (by simp)
      simpa using this
    exact owns_below (owns_base h1 hb1.size) hb5)
  have HM5 := hid (show W5.ownsMap Tryd.prog 3 (plainElem (H := Unit) Tryd.prog 4) W4.heap.size 0 (.map []) from by
    rw [hW5]; exact World.ownsMap_made W4 Tryd.prog 3 (plainElem (H := Unit) Tryd.prog 4))
  have HW4 := hid hW4
  have HW5 := hid hW5
  have HZ4 := hid hz4
  clear p0 p1 p2 hb1 hb4 hb5 hW4 hW5 hz4
  obtain ⟨⟨p0, p1, p2⟩, _⟩ := HBX.out W5 HB5.out
  go_upto_region 2 with fail
  rw [← HW4.out]
  rw [HW5.out] at p0 p1 p2
  go_wp2_with fail
  rw [← HW5.out]
  refine (HALL.out W5).mono ?_
  rintro e w6 ⟨rfl, hb6⟩
  rw [← HW5.out] at p0 p1 p2
  have HB6 := hid (HB5.out.trans (hb6.mono HB5.out.size))
  have hm6 := owns_map_below HM5.out hb6
  have hl6 := owns_below HL5.out hb6
  have HMB := hid (show W2.heap.size ≤ W4.heap.size from by have := HB1.out.size; have := HZ4.out; omega)
  obtain ⟨mb, hmb⟩ : ∃ mb, mb = W4.heap.size := ⟨_, rfl⟩
  rw [← hmb] at hm6 HMB
  have HLK := hid (own_map_neN hl6 hm6)
  have HM6 := hid hm6
  have HL6 := hid hl6
  clear HM5 HL5 hm6 hl6 hb6 p0 p1 p2 hmm
  first | rw [← hmb] | skip
  clear hmb
  go_wp2_with (first | (refine wpList_insert_own _ rfl _ _ _ 92 rfl 3 4 hlaw Tryd.underlying92 (plainElem (H := Unit) Tryd.prog 4) mb 0 _ rfl HM6.out (by unfold maxLen; omega) (.int .i64 (F : Int)) (.bool true) _ rfl rfl hkF _ _ (plainElem_bool Tryd.underlying4 true) ?_; intro w7 hown7 hgr7))
  have H0 := hid (show ReM W2 W2.heap.size mb (syK G L F 0) [(F, .slice none 0 0)] (.slice (some ⟨w1.heap.size, 0, none⟩) 1 1) 1 w7 from by
    refine ⟨rfl, rfl, fun i p z hp hz => ?_, HL6.out.kept hgr7 (.inr HLK.out), hown7, (HB6.out).grown hgr7 HB6.out.size (by rintro k ⟨⟩; exact HMB.out)⟩
    match i, hp, hz with
    | 0, hp, hz =>
      simp [syK] at hp hz
      subst hp hz
      exact World.ownsRow_nil _ _ _ _)
  clear hown7 hgr7 HM6 HL6 HLK HW4 HW5 HZ4 HB1 HB5 HB6 hkF
  go_loopw [6, 8] (fun a6 i wr => ∃ (K m gs cs : Nat) (zs : List (Nat × Value)), Hid (.slice (some ⟨gs, 0, none⟩) m cs = a6) ∧ i = .int .i64 K ∧ Hid (K ≤ m) ∧ Hid (ReM W2 W2.heap.size mb (syK G L F K) zs (.slice (some ⟨gs, 0, none⟩) m cs) m wr) ∧ Hid (∀ (j : Nat) (q : Nat × List UInt8), j < K → (syK G L F K)[j]? = some q → onlyB q.1 = false)) (fun _ i _ => 4097 - (intOf i).toNat)
  case atStart => exact ⟨0, 1, _, _, _, hid rfl, rfl, hid (Nat.zero_le _), H0, hid (fun j q hj _ => by omega)⟩
  case round =>
    clear H0
    obtain ⟨K, m, gs, cs, zs, hsv, rfl, HKL, HR, HNO⟩ := hrel
    have hsv := hsv.out
    subst hsv
    have hKL := HKL.out
    have hfew : m ≤ N := by rw [← HR.out.len]; exact (HOK.out K).few
    by_cases hlt : K < m
    · have hKi : (K : Int) < (m : Int) := by omega
      obtain ⟨q, hq⟩ := get_some (l := syK G L F K) (n := K) (by rw [HR.out.len]; exact hlt)
      have hqp := (HOK.out K).pos q (List.mem_of_getElem? hq)
      have hq4 : q.1 < 4096 := by omega
      have hq16 := hqp.2.2
      have HSTEP := hid (syK_step hq)
      have HSY := hid (fun (hp : onlyB q.1 = true) => HSO.out K q (by omega) hq hp HNO.out)
      have HNX := hid (fun (hp : onlyB q.1 = false) (Y : List (Nat × List UInt8)) (hY : ∃ l, Y = syK G L F K ++ l) => show ∀ (j : Nat) (p : Nat × List UInt8), j < K + 1 → Y[j]? = some p → onlyB p.1 = false from fun j p hj hp2 => by
        obtain ⟨l, rfl⟩ := hY
        rw [List.getElem?_append_left (by rw [HR.out.len]; omega)] at hp2
        rcases Nat.lt_or_ge j K with h | h
        · exact HNO.out j p h hp2
        · obtain rfl : j = K := by omega
          rw [hq] at hp2
          injection hp2 with hp2
          rw [← hp2]; exact hp)
      have HXS := hid (fun (h16 : q.2.length < 16) => (HOK.out K).xs (G := G) (p := q) h16 (HLTN.out q.1))
      obtain ⟨z, hz, hzo⟩ := HR.out.at_ hq
      obtain ⟨g1, c1, rfl⟩ := slice_form hzo
      have hc1 := (HR.out.list.cellAt (K * 2) (by omega)).trans (stepV_get hz).1
      have hc2 := (HR.out.list.cellAt (K * 2 + 1) (by omega)).trans (stepV_get hz).2
      have HQ := hid hq
      obtain ⟨Y, hY⟩ : ∃ Y, Y = syK G L F K := ⟨_, rfl⟩
      rw [← hY] at HR HSTEP HNX HXS HQ
      obtain ⟨b, hb⟩ : ∃ b, b = onlyB q.1 := ⟨_, rfl⟩
      rw [← hb] at HSY HNX
      have HBQ := hid hb.symm
      have hbz := HR.out.bel.size
      have hgs : gs < wr.heap.size := (HR.out.list.lt _ rfl).2
      have hbwG : ¬ (bw = gs) := by have := (HR.out.list.lt gs rfl).1; omega
      have hbfG : ¬ (bf = gs) := by have := (HR.out.list.lt gs rfl).1; omega
      obtain ⟨⟨p0, p1, p2⟩, _, hbelw⟩ := HBX.out wr HR.out.bel
      have HBW := hid hbelw
      clear hq hY hqp HNO HSO hz hb hbelw
      have HRW := hid (show ∀ V, Below wr.heap.size wr V → RowAt V g1 q.2.length (byteVals q.2) from fun V hV => by
        obtain ⟨a', c', he, hra⟩ := owns_rowAt (owns_below hzo hV) (by omega)
        simp only [Value.slice.injEq, true_and] at he
        obtain ⟨rfl, rfl⟩ := he
        exact hra)
      have HZO := hid hzo
      have HCC := hid (fun (V : World) (hV : Below wr.heap.size wr V) => show V.cell? ⟨gs, K * 2, none⟩ = some (.int .i64 (q.1 : Nat)) ∧ V.cell? ⟨gs, K * 2 + 1, none⟩ = some (.slice g1 q.2.length c1) from ⟨(hV.cell (p := ⟨gs, K * 2, none⟩) hgs).trans hc1, (hV.cell (p := ⟨gs, K * 2 + 1, none⟩) hgs).trans hc2⟩)
      have HVB := hid (show Below w.heap.size w wr.drew from HBW.out.drew)
      have HBV := hid (HBF.out wr.drew HVB.out)
      have hK0 := HCC.out wr.drew (Below.refl _ _).drew
      obtain ⟨set, hset⟩ : ∃ set, set = q.1 := ⟨_, rfl⟩
      obtain ⟨nl, hnl⟩ : ∃ nl, nl = q.2.length := ⟨_, rfl⟩
      rw [← hset] at HBQ hc1 HCC hK0 hq4
      rw [← hnl] at HRW hc2 HCC hK0 HSTEP HXS hq16
      have HSET := hid hset
      have HNL := hid hnl
      clear hzo hset hnl
      cases b with
      | true =>
        have HV := hid (HSY.out rfl)
        have HCALL := hid (syn_see_yes set g1 nl c1 q.2 bw bf _ _ wr.drew hq4 HBQ.out (HRW.out _ (Below.refl _ _).drew) HBV.out.1 HBV.out.2.1 HBV.out.2.2.1 HBV.out.2.2.2 hwf)
        have hS2 : ∀ x y : Value, ((wr.drew.setCell ⟨bw, 0, none⟩ x).setCell ⟨bf, 0, none⟩ y).cell? ⟨gs, K * 2, none⟩ = some (.int .i64 set) ∧ ((wr.drew.setCell ⟨bw, 0, none⟩ x).setCell ⟨bf, 0, none⟩ y).cell? ⟨gs, K * 2 + 1, none⟩ = some (.slice g1 nl c1) := fun x y => by
          refine ⟨?_, ?_⟩
          · rw [World.cell?_setCell_other _ _ _ _ (fun e => hbfG (by injection e)), World.cell?_setCell_other _ _ _ _ (fun e => hbwG (by injection e))]
            exact hK0.1
          · rw [World.cell?_setCell_other _ _ _ _ (fun e => hbfG (by injection e)), World.cell?_setCell_other _ _ _ _ (fun e => hbwG (by injection e))]
            exact hK0.2
        have HS2 := hid (show ∀ (V : World) (x y : Value), V = (wr.drew.setCell ⟨bw, 0, none⟩ x).setCell ⟨bf, 0, none⟩ y → V.cell? ⟨gs, K * 2, none⟩ = some (.int .i64 set) ∧ V.cell? ⟨gs, K * 2 + 1, none⟩ = some (.slice g1 nl c1) from fun V x y h => by rw [h]; exact hS2 x y)
        clear hS2 HSY HNX HXS HSTEP HCC
        go_wp2
        go_region_held3 (fun V => V.cell? ⟨gs, K * 2, none⟩ = some (.int .i64 set) ∧ V.cell? ⟨gs, K * 2 + 1, none⟩ = some (.slice g1 nl c1))
          (first | with_reducible exact hK0 | with_reducible exact hS9)
          (first | (go_at_call 49; refine HCALL.out.mono ?_; rintro e w9 ⟨rfl, hw9⟩; have hS9 := HS2.out w9 _ _ hw9; have HW9 := hid hw9; clear hw9))
        go_wp2
        rw [HW9.out]
        refine bodyPost_ret (v := .tuple #[]) (by simp [results, Tryd.results48, go_sem]) rfl (rePost_some HVB.out HV.out)
      | false =>
        have HNXF := hid (HNX.out rfl)
        have hbZ : Below wr.heap.size wr wr.drew := (Below.refl _ _).drew
        have HCALL := hid (fun (V : World) (hV : Below w.heap.size w V) => syn_see_no set (.slice g1 nl c1) bw bf V hq4 HBQ.out (HBF.out V hV).2.2.1)
        have HVB2 := hid (fun (V : World) (hV : Below wr.heap.size wr V) => show Below w.heap.size w V from HBW.out.trans (hV.mono HBW.out.size))
        clear HSY HNX
        go_wp2
        go_region_held3 (fun V => V.cell? ⟨gs, K * 2, none⟩ = some (.int .i64 set) ∧ V.cell? ⟨gs, K * 2 + 1, none⟩ = some (.slice g1 nl c1))
          (first | with_reducible exact HCC.out _ hbZ)
          (first | (go_at_call 49; refine (HCALL.out _ (HVB2.out _ hbZ)).mono ?_; rintro e w9 ⟨rfl, hb9⟩; have hbZ := hbZ.trans (hb9.mono hbZ.size)))
        have HR9 := hid (HR.out.below hbZ hbz)
        have hZ9 := HZO.out
        have HZ9 := hid (owns_below HZO.out hbZ)
        obtain ⟨hc1, hc2⟩ := HCC.out w9 hbZ
        obtain ⟨⟨p0, p1, p2⟩, _, hbelw9⟩ := HBX.out w9 HR9.out.bel
        clear HCC HCALL HVB2 HRW hZ9 HZO HR hb9 hK0 HVB HBV
        by_cases h16 : nl < 16
        · have HSTEP := hid (HSTEP.out.trans (if_pos h16))
          have HXS := hid (HXS.out h16)
          have hn16 : ((nl : Int) == 16) = false := by simp; omega
          go_wp2
          go_loopw [6, 47] (fun a6 i wr => ∃ (x m' gs cs : Nat) (zs : List (Nat × Value)), x ≤ L ∧ i = .int .i64 x ∧ Hid (.slice (some ⟨gs, 0, none⟩) m' cs = a6) ∧ Hid (ReM W2 W2.heap.size mb (syX G q Y x) zs (.slice (some ⟨gs, 0, none⟩) m' cs) m' wr)) (fun _ i _ => L - (intOf i).toNat)
          case atStart => exact ⟨0, m, gs, cs, zs, by omega, rfl, hid rfl, HR9⟩
          case round =>
            clear p0 p1 p2 hc1 hc2 hgs hbwG hbfG hbelw9 HZ9
            obtain ⟨x, m', gs', cs', zs', hx, rfl, hs6, HR1⟩ := hrel
            have hs6 := hs6.out
            subst hs6
            obtain ⟨hok1, l1, hl1⟩ := HXS.out x
            have hm' : m' ≤ N := by rw [← HR1.out.len]; exact hok1.few
            have hmm : m ≤ m' := by rw [← HR1.out.len, hl1, List.length_append, HR9.out.len]; omega
            have hqx : (syX G q Y x)[K]? = some q := by rw [hl1, List.getElem?_append_left (by rw [HR9.out.len]; omega)]; exact HQ.out
            have HPF := hid (show ∃ l, syX G q Y x = Y ++ l from ⟨l1, hl1⟩)
            obtain ⟨z, hz, hzo⟩ := HR1.out.at_ hqx
            obtain ⟨g2, c2, rfl⟩ := slice_form hzo
            have hc1 := (HR1.out.list.cellAt (K * 2) (by omega)).trans (stepV_get hz).1
            have hc2 := (HR1.out.list.cellAt (K * 2 + 1) (by omega)).trans (stepV_get hz).2
            rw [← HSET.out] at hc1
            rw [← HNL.out] at hc2 hzo
            have hKi' : (K : Int) < (m' : Int) := by omega
            have hgs : gs' < wr.heap.size := (HR1.out.list.lt _ rfl).2
            have hbz1 := HR1.out.bel.size
            obtain ⟨⟨p0, p1, p2⟩, _, hbw1⟩ := HBX.out wr HR1.out.bel
            by_cases hltx : x < L
            · have hxi : (x : Int) < (L : Int) := by omega
              have HSS := hid (fun (V : World) (hV : Below wr.heap.size wr V) => HST.out V set x (hbw1.trans (hV.mono hbw1.size)) hq4 (by omega))
              have HTO := hid (show stp G set x < N from HLTN.out set x)
              have HKN := hid (show ∀ ys : List (Nat × List UInt8), decide (stp G set x = 0 ∨ stp G set x ∈ setsY ys) = true → syLet G q x ys = ys from fun ys h => syLet_known (by rw [← HSET.out]; exact h))
              have HNW := hid (show ∀ ys : List (Nat × List UInt8), decide (stp G set x = 0 ∨ stp G set x ∈ setsY ys) = false → syLet G q x ys = ys ++ [(stp G set x, q.2 ++ [letB x])] from fun ys h => by rw [syLet_new (by rw [← HSET.out]; exact h), ← HSET.out])
              have HXX := hid (syX_succ G q Y x)
              obtain ⟨tz, hto⟩ : ∃ tz, tz = stp G set x := ⟨_, rfl⟩
              rw [← hto] at HSS HTO HKN HNW
              have htzN : tz < N := HTO.out
              obtain ⟨ys, hys⟩ : ∃ ys, ys = syX G q Y x := ⟨_, rfl⟩
              rw [← hys] at HR1 HXX HPF
              have hbZ : Below wr.heap.size wr wr.drew := (Below.refl _ _).drew
              have HKK := hid (fun (V : World) (hV : Below wr.heap.size wr V) => show V.cell? ⟨w.heap.size, 0, none⟩ = some (.int .i64 L) ∧ V.cell? ⟨w.heap.size, 1, none⟩ = some (.int .i64 S) ∧ V.cell? ⟨w.heap.size, 2, none⟩ = some (.slice a n c) ∧ V.cell? ⟨gs', K * 2, none⟩ = some (.int .i64 set) ∧ V.cell? ⟨gs', K * 2 + 1, none⟩ = some (.slice g2 nl c2) ∧ Below wr.heap.size wr V from by
                obtain ⟨⟨q0, q1, q2⟩, _⟩ := HBX.out V (HR1.out.bel.trans (hV.mono hbz1))
                exact ⟨q0, q1, q2, (hV.cell (p := ⟨gs', K * 2, none⟩) hgs).trans hc1, (hV.cell (p := ⟨gs', K * 2 + 1, none⟩) hgs).trans hc2, hV⟩)
              have HZO := hid hzo
              clear hto hys hok1 hl1 hqx hz hzo
              go_wp2
              go_region_held3 (fun V => V.cell? ⟨w.heap.size, 0, none⟩ = some (.int .i64 L) ∧ V.cell? ⟨w.heap.size, 1, none⟩ = some (.int .i64 S) ∧ V.cell? ⟨w.heap.size, 2, none⟩ = some (.slice a n c) ∧ V.cell? ⟨gs', K * 2, none⟩ = some (.int .i64 set) ∧ V.cell? ⟨gs', K * 2 + 1, none⟩ = some (.slice g2 nl c2) ∧ Below wr.heap.size wr V)
                (first | with_reducible exact HKK.out _ hbZ)
                (first | (go_at_call 53; refine (HSS.out _ hbZ).mono ?_; rintro e w3 ⟨rfl, hb3⟩; have hbZ := hbZ.trans (hb3.mono hbZ.size)))
              have HR3 := hid (HR1.out.below hbZ hbz1)
              have HZ3 := hid (owns_below HZO.out hbZ)
              obtain ⟨_, _, _, _, hc2, _⟩ := HKK.out w3 hbZ
              have hgs3 : gs' < w3.heap.size := Nat.lt_of_lt_of_le hgs hbZ.size
              clear HKK HSS p0 p1 p2 hc1 hb3 hbw1 HR1 HZO hgs
              by_cases h0 : tz = 0
              · have HX2 := hid (show syX G q Y (x + 1) = ys from by rw [HXX.out]; exact HKN.out ys (decide_eq_true (.inl h0)))
                subst h0
                go_wp2
                go_roundw
                case rel => exact ⟨x + 1, m', gs', cs', zs', by omega, by go_num, hid rfl, hid (by rw [HX2.out]; exact HR3.out)⟩
                case measure => simp [intOf] <;> omega
              · have htz : (0 : Int) < (tz : Int) := by omega
                have hlk := look_set hlaw Tryd.underlying3 Tryd.underlying92 Tryd.underlying4 (zeroBoolR w3) HR3.out.map (s := tz) (by omega)
                by_cases hmem : tz ∈ setsY ys
                · rw [decide_eq_true hmem] at hlk
                  have HX2 := hid (show syX G q Y (x + 1) = ys from by rw [HXX.out]; exact HKN.out ys (decide_eq_true (.inr hmem)))
                  clear hmem HKN HNW
                  go_wp2
                  go_roundw
                  case rel => exact ⟨x + 1, m', gs', cs', zs', by omega, by go_num, hid rfl, hid (by rw [HX2.out]; exact HR3.out)⟩
                  case measure => simp [intOf] <;> omega
                · rw [decide_eq_false hmem] at hlk
                  have HX2 := hid (show syX G q Y (x + 1) = ys ++ [(tz, q.2 ++ [letB x])] from by rw [HXX.out]; exact HNW.out ys (decide_eq_false (by intro h; rcases h with h | h; exact h0 h; exact hmem h)))
                  clear hmem HKN HNW
                  have hm3 := HR3.out.map
                  obtain ⟨w4, hrun, hown4, hgr4⟩ := hm3.update hlaw Tryd.underlying92 (by unfold maxLen; omega) (Maps.keyOf_int_mk Tryd.underlying3 (wf_small tz (by omega))) (plainElem_bool Tryd.underlying4 true)
                  have hBw3 : W2.heap.size ≤ w3.heap.size := HR3.out.bel.size
                  have hb4 : Below W2.heap.size w3 w4 := (Below.refl _ _).grown hgr4 hBw3 (by rintro z ⟨⟩; exact HMB.out)
                  have hBw4 : W2.heap.size ≤ w4.heap.size := Nat.le_trans hBw3 hb4.size
                  have HL4 := hid (HR3.out.list.kept hgr4 (.inr (own_map_neN HR3.out.list hm3)))
                  have HD4 := hid (fun (i : Nat) (p : Nat × List UInt8) (z : Nat × Value) (hp : ys[i]? = some p) (hz : zs'[i]? = some z) => (HR3.out.wds i p z hp hz).kept hgr4 (.inr (own_map_neN (HR3.out.wds i p z hp hz) hm3)))
                  have HZ4 := hid (HZ3.out.kept hgr4 (.inr (own_map_neN HZ3.out hm3)))
                  have HM4 := hid hown4
                  have HB4 := hid (HR3.out.bel.trans hb4)
                  have hgs4 : gs' < w4.heap.size := (HL4.out.lt _ rfl).2
                  have hmbg : ¬ (gs' = mb) := fun e => own_map_neN HL4.out HM4.out (by rw [e]; rfl)
                  have hc24 : w4.cell? ⟨gs', K * 2 + 1, none⟩ = some (.slice g2 nl c2) := (hgr4.cell_far ⟨gs', K * 2 + 1, none⟩ hgs3 (by simpa using hmbg)).trans hc2
                  have hc25 : (w4.alloc (.cells #[] 5)).cell? ⟨gs', K * 2 + 1, none⟩ = some (.slice g2 nl c2) := ((Below.refl w4.heap.size w4).alloc (Nat.le_refl _) _).cell (p := ⟨gs', K * 2 + 1, none⟩) hgs4 |>.trans hc24
                  have HN5 := hid (owns_lit3 (w := w4) (base := W2.heap.size) (e := 5) #[] [] rfl hBw4 (by unfold maxLen; simp))
                  have HZ5 := hid (HZ4.out.alloc (.cells #[] 5))
                  have hB5 : W2.heap.size ≤ (w4.alloc (.cells #[] 5)).heap.size := by simp; omega
                  have HF3 := hid (show ys.length = m' from HR3.out.len)
                  have HF4 := hid HR3.out.fst
                  have hmod : (97 + (x : Int)) % 256 = 97 + (x : Int) := by omega
                  clear hm3 hown4 hb4 hgr4 hc2 HR3 HZ3
                  go_wp2_with (first | (at_builtin; refine wpList_appW rfl _ _ 56 rfl W2.heap.size 5 Tryd.underlying56 infoByteR w4.heap.size HN5.out rfl (.slice g2 nl c2) nl (byteVals q.2) rfl HZ5.out (byteVals_one' _) (by omega) hB5 ?_; intro g6 c6 w6 hown6 hgr6 hor6 hlt6; have hb6 : Below w4.heap.size w4 w6 := ((Below.refl _ _).alloc (Nat.le_refl _) _).grown hgr6 (by simp) (by rintro k ⟨⟩; exact Nat.le_refl _); have hb6s := hb6.size; have hg6 : w4.heap.size ≤ g6 := (by rcases hor6 with h | h; omega; simp at h; omega); have HO6 := hid (hown6.alloc (.cells #[.int .u8 (97 + (x : Int))] 5))) | (at_builtin; refine wpList_appN rfl _ _ 56 rfl W2.heap.size 5 (.int .u8 0) 1 Tryd.underlying56 infoByteR rfl g6 c6 nl (byteVals q.2) HO6.out rfl w6.heap.size 0 1 1 [.int .u8 (97 + (x : Int))] rfl rfl (by intro q u hq; match q, hq with | 0, hq => simp at hq; subst hq; simp) (by intro u hu; simp at hu; subst hu; rfl) (by omega) (by unfold maxLen; omega) (by simp; omega) ?_; intro g7 c7 w7 hown7 hgr7 hor7 hlt7; have hb7 : Below w4.heap.size w4 w7 := (hb6.alloc hb6s _).grown hgr7 (by simp; omega) (by rintro k ⟨⟩; exact hg6); have hb7s := hb7.size; have HL7 := hid (owns_below HL4.out hb7)) | (at_builtin; go_must (refine wpList_appZ rfl _ _ 91 rfl W2.heap.size 90 32 Tryd.underlying91 infoStepR _ m' zs' (tz, .slice (some ⟨g7, 0, none⟩) (nl + 1) c7) rfl HL7.out rfl rfl (by omega) (by unfold maxLen; omega) (by omega) ?_); intro g8 c8 w8 hown8 hgr8))
                  have hm7 := owns_map_below HM4.out hb7
                  have hmn : some mb ≠ (Value.slice (some ⟨gs', 0, none⟩) m' cs').ownBlock := fun e => own_map_neN HL7.out hm7 e.symm
                  have hw7 : w7.ownsRow W2.heap.size 5 1 (.slice (some ⟨g7, 0, none⟩) (nl + 1) c7) (q.2 ++ [letB x]).length (byteVals (q.2 ++ [letB x])) := by
                    rw [byteVals_snoc, List.length_append, ← HNL.out, show (((letB x).toNat : Nat) : Int) = 97 + (x : Int) from letB_nat (by omega)]
                    exact hown7
                  have HR8 := hid (show ReM W2 W2.heap.size mb (ys ++ [(tz, q.2 ++ [letB x])]) (zs' ++ [(tz, .slice (some ⟨g7, 0, none⟩) (nl + 1) c7)]) (.slice (some ⟨g8, 0, none⟩) (m' + 1) c8) (m' + 1) w8 from by
                    refine ⟨by rw [List.length_append, HF3.out]; rfl, by rw [List.map_append, HF4.out]; simp [setsY], fun i p z hp hz => ?_, hown8, ?_, (HB4.out.trans (hb7.mono hBw4)).grown hgr8 (by omega) (by rintro k hk; exact (HL7.out.lt k hk).1)⟩
                    · have hzl : zs'.length = m' := by have := congrArg List.length HF4.out; simpa [setsY, HF3.out] using this
                      have hyl : ys.length = m' := HF3.out
                      rcases Nat.lt_or_ge i m' with h | h
                      · rw [List.getElem?_append_left (by omega)] at hp hz
                        have ho := owns_below (HD4.out i p z hp hz) hb7
                        exact ho.kept hgr8 (owns_ne2 ho HL7.out (by decide))
                      · have hil := (List.getElem?_eq_some_iff.1 hp).1
                        rw [List.length_append, HF3.out] at hil
                        obtain rfl : i = m' := by simp at hil; omega
                        rw [List.getElem?_append_right (by omega), HF3.out, Nat.sub_self] at hp
                        rw [List.getElem?_append_right (by omega), hzl, Nat.sub_self] at hz
                        simp at hp hz
                        subst hp hz
                        exact hw7.kept hgr8 (owns_ne2 hw7 HL7.out (by decide))
                    · have hmp := grown_map hm7 hgr8 hmn
                      have e : setsY (ys ++ [(tz, q.2 ++ [letB x])]) = setsY ys ++ [tz] := by simp [setsY]
                      rw [e, setD_snoc]
                      exact hmp)
                  clear hm7 hmn hw7 hown8 hgr8 hown7 hgr7 hown6 hgr6
                  go_roundw
                  case rel => exact ⟨x + 1, m' + 1, g8, c8, _, by omega, by go_num, hid rfl, hid (by rw [HX2.out]; exact HR8.out)⟩
                  case measure => simp [intOf] <;> omega
            · obtain rfl : x = L := by omega
              have HNX2 := hid (HNXF.out _ HPF.out)
              have hx0 : ¬ ((x : Int) < (x : Int)) := by omega
              go_wp2
              go_roundw
              case rel => exact ⟨K + 1, m', gs', cs', zs', hid rfl, by go_num, hid (by omega), hid (by rw [HSTEP.out]; exact HR1.out), hid (by rw [HSTEP.out]; exact HNX2.out)⟩
              case measure => simp [intOf] <;> omega
        · have HSTEP := hid (HSTEP.out.trans (if_neg h16))
          obtain rfl : nl = 16 := by omega
          have HNX2 := hid (HNXF.out Y ⟨[], by simp⟩)
          clear HXS HNXF
          go_wp2
          go_roundw
          case rel => exact ⟨K + 1, m, gs, cs, zs, hid rfl, by go_num, hid (by omega), hid (by rw [HSTEP.out]; exact HR9.out), hid (by rw [HSTEP.out]; exact HNX2.out)⟩
          case measure => simp [intOf] <;> omega
    · obtain rfl : K = m := by omega
      have HV := hid (HSN.out K (by omega) (by rw [HR.out.len]; exact Nat.le_refl _) HNO.out)
      have HBE := hid (HB.out.trans (HR.out.bel.mono HB.out.size))
      go_wp2
      refine bodyPost_ret (v := .tuple #[]) (by simp [results, Tryd.results48, go_sem]) rfl (rePost_none HBE.out HV.out)
end Go.Proofs.YtpfeflhcbcgbfaaDoor
