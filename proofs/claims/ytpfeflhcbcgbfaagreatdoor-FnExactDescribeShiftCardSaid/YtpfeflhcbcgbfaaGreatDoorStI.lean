/- Shifts: the states of a shift, the program's way. Conditions: a shift, its words in memory; the cell of MaxLen. -/
import Derived.Test.YtpfeflhcbcgbfaaGreatDoorTrimA
import Derived.Test.YtpfeflhcbcgbfaaGreatDoorSrc
import Derived.Test.YtpfeflhcbcgbfaaGreatDoorResA
import Derived.Test.YtpfeflhcbcgbfaaGreatDoorShfA
import Derived.Test.YtpfeflhcbcgbfaaGreatDoorFiltM
import Derived.Test.YtpfeflhcbcgbfaaGreatDoorLively
import Derived.Test.YtpfeflhcbcgbfaaGreatDoorBoxC
namespace Go.Proofs.YtpfeflhcbcgbfaaGreatDoor
open Go.RowKit

theorem pow_less12a : ∀ S : Nat, S < 13 → wrap64 (wrap64 (2 ^ S) - 1) = ((2 ^ S - 1 : Nat) : Int) := by decide +kernel
end Go.Proofs.YtpfeflhcbcgbfaaGreatDoor
namespace Go.Proofs.YtpfeflhcbcgbfaaGreatDoor
open Go.RowKit

/-- A number appended, and where it lies. -/
theorem wpList_appN2 {P : Program} {wr : World} {ops : Array Oper} {rest : List Oper} {o : Oper} {a : Act} {Q : Exit → Act → World → Prop}
    (hg : o.guard = none) (s x : Operand) (t : TypeId) (hop : o.op = Op.call { callee := Callee.builtin Builtin.append, args := #[s, x], argTypes := #[t, t] })
    (B : Nat) (e : TypeId) (h1 : P.underlying t = some (.slice e)) (hinfo : (P.info? e).map (fun i => (i.zero, i.size, i.bytes)) = some (some (.int .i64 0), 1, 8))
    (v : Value) (m : Nat) (xs : List Value) (u : Int) (hown : wr.ownsRow B e 1 v m xs) (hs : a.eval s = v) (hx : a.eval x = .slice (some ⟨wr.heap.size, 0, none⟩) 1 1)
    (hlim : m ≤ 1048576) (hB : B ≤ wr.heap.size)
    (hK : ∀ g' c' w1, w1.ownsRow B e 1 (.slice (some ⟨g', 0, none⟩) (m + 1) c') (m + 1) (xs ++ [.int .i64 u]) → wr.grownBy w1 v.ownBlock → (v.ownBlock = some g' ∨ wr.heap.size ≤ g') → wpList P ops Q rest (a.put o.dst (.slice (some ⟨g', 0, none⟩) (m + 1) c')) w1) :
    wpList P ops Q (o :: rest) a (wr.alloc (.cells #[.int .i64 u] e)) := by
  obtain ⟨i, hi, hz, hz1, hz2⟩ := info_parts hinfo
  refine wpList_append_lies _ hg s x t hop B e i _ 1 8 h1 hi hz hz1 hz2 rfl (by decide) v m xs hs (hown.alloc _) ⟨wr.heap.size, 0, none⟩ 1 1 [.int .i64 u] hx rfl ?_ (by intro y hy; simp at hy; subst hy; rfl) (by omega) (by unfold maxLen; omega) (by omega) (by simp; omega) (wr.heap.size + 1) (by simp) ?_
  · intro j y hj
    match j, hj with
    | 0, hj =>
      simp at hj; subst hj
      show (wr.alloc (.cells #[.int .i64 u] e)).cell? _ = _
      simp [Addr.add]
  · intro g cap w1 hown' hgrow hor _
    refine hK g cap w1 hown' (grown_trans (World.grownBy_alloc _ _ _) hgrow) ?_
    rcases hor with h | h
    · exact .inl h
    · exact .inr (by omega)
def ResPost (sets : List Nat) (rows : List (List Int)) (w : World) (e : Ending) (w' : World) : Prop :=
  ∃ sv nv, e = .returned (.tuple #[sv, nv]) ∧ w'.ownsRow w.heap.size 3 1 sv sets.length (intVals (natI sets)) ∧ TGrid 39 3 w' w.heap.size nv rows ∧ Below w.heap.size w w'
theorem replace0 {T0 : TypeId} {w w1 : World} {base : Nat} {v v' : Value} {vs : List Value} {r : List Int} {rows : List (List Int)} {x : Int} (h : TRows T0 w base (v :: vs) (r :: rows))
    (ho : w1.ownsRow base T0 1 v' (r.length + 1) (intVals (r ++ [x]))) (hg : w.grownBy w1 v.ownBlock) (hor : ∀ g, v'.ownBlock = some g → v.ownBlock = some g ∨ w.heap.size ≤ g) : TRows T0 w1 base (v' :: vs) ((r ++ [x]) :: rows) :=
  h.replace (i := 0) rfl rfl ho hg hor
theorem replaceL {T0 : TypeId} {w w1 : World} {base : Nat} {v v' : Value} {vs : List Value} {r : List Int} {rows : List (List Int)} {x : Int} (h : TRows T0 w base (vs ++ [v]) (rows ++ [r]))
    (ho : w1.ownsRow base T0 1 v' (r.length + 1) (intVals (r ++ [x]))) (hg : w.grownBy w1 v.ownBlock) (hor : ∀ g, v'.ownBlock = some g → v.ownBlock = some g ∨ w.heap.size ≤ g) : TRows T0 w1 base (vs ++ [v']) (rows ++ [r ++ [x]]) := by
  have hl : vs.length = rows.length := by have := h.len; simpa using this
  have := h.replace (i := vs.length) (by simp) (by rw [hl]; simp) ho hg hor
  rw [List.set_append_right _ _ (Nat.le_refl _), Nat.sub_self, hl, List.set_append_right _ _ (Nat.le_refl _), Nat.sub_self] at this
  exact this
theorem lies_of {w : World} {g n c : Nat} {v : Value} (h : v.ownBlock = some g ∨ w.heap.size ≤ g) : ∀ q, (Value.slice (some ⟨g, 0, none⟩) n c).ownBlock = some q → v.ownBlock = some q ∨ w.heap.size ≤ q := fun q hq => by
  have e : g = q := by
    simp only [Value.ownBlock, Option.some.injEq] at hq
    exact hq
  rw [← e]; exact h
theorem own0 {T0 : TypeId} {w : World} {base : Nat} {v : Value} {vs : List Value} {r : List Int} {rows : List (List Int)} (h : TRows T0 w base (v :: vs) (r :: rows)) : w.ownsRow base T0 1 v r.length (intVals r) := h.own 0 v r rfl rfl
theorem ownL {T0 : TypeId} {w : World} {base : Nat} {v : Value} {vs : List Value} {r : List Int} {rows : List (List Int)} (h : TRows T0 w base (vs ++ [v]) (rows ++ [r])) : w.ownsRow base T0 1 v r.length (intVals r) := by
  have hl : vs.length = rows.length := by have := h.len; simpa using this
  exact h.own vs.length v r (by simp) (by rw [hl]; simp)
end Go.Proofs.YtpfeflhcbcgbfaaGreatDoor
namespace Go.Proofs.YtpfeflhcbcgbfaaGreatDoor
open Go.RowKit

def rowT (ss : List ByteArray) (k i j : Nat) : List Int := ((List.range j).filter fun t => eP ss k i ((pairL ss k).getD t 0)).map fun (t : Nat) => ((t : Nat) : Int)
theorem rowT_yes {ss : List ByteArray} {k i j q : Nat} (hq : (pairL ss k)[j]? = some q) (h : eP ss k i q = true) : rowT ss k i (j + 1) = rowT ss k i j ++ [(j : Int)] := by
  unfold rowT
  rw [List.range_succ, List.filter_append, List.map_append]
  simp [List.getD_eq_getElem?_getD, hq, h]
theorem rowT_no {ss : List ByteArray} {k i j q : Nat} (hq : (pairL ss k)[j]? = some q) (h : eP ss k i q = false) : rowT ss k i (j + 1) = rowT ss k i j := by
  unfold rowT
  rw [List.range_succ, List.filter_append, List.map_append]
  simp [List.getD_eq_getElem?_getD, hq, h]
theorem rowT_len (ss : List ByteArray) (k i j : Nat) : (rowT ss k i j).length ≤ j := by
  unfold rowT
  rw [List.length_map]
  have := List.length_filter_le (fun t => eP ss k i ((pairL ss k).getD t 0)) (List.range j)
  rwa [List.length_range] at this
theorem rows_take {ss : List ByteArray} {k t i : Nat} (h : (pairL ss k)[t]? = some i) : (pairRows ss k).take (t + 1) = (pairRows ss k).take t ++ [rowT ss k i (pairL ss k).length] := by
  rw [List.take_add_one]
  congr 1
  unfold pairRows
  rw [List.getElem?_map, h]
  rfl
theorem rows_len (ss : List ByteArray) (k : Nat) : (pairRows ss k).length = (pairL ss k).length := by simp [pairRows]
theorem pairL_len {ss : List ByteArray} {k : Nat} (hk : k ≤ 3) : (pairL ss k).length ≤ 9 := by
  have h1 := List.length_filter_le (okP ss k) (List.range (k ^ 2))
  rw [List.length_range] at h1
  have h2 : k ^ 2 ≤ 3 ^ 2 := Nat.pow_le_pow_left hk 2
  unfold pairL
  omega
/-- The two letters of a pair. -/
theorem pair_bytes {k i : Nat} (hk : 1 ≤ k ∧ k ≤ 3) (hi : i < k ^ 2) : wAt k 2 i = [letB (i / k), letB (i % k)] := by
  have h1 : i / k < k := by
    rw [Nat.pow_two] at hi
    exact Nat.div_lt_of_lt_mul hi
  simp [wAt, Nat.mod_eq_of_lt h1]
theorem pair_get0 {k i : Nat} (hk : 1 ≤ k ∧ k ≤ 3) (hi : i < k ^ 2) (h : 0 < (wdB k 2 i).size) : ((wdB k 2 i)[0].toNat : Int) = 97 + ((i / k : Nat) : Int) := by
  have hb := byte_at (wdB k 2 i) 0 h
  rw [wdB_list, pair_bytes hk hi] at hb
  simp only [List.getElem?_cons_zero, Option.some.injEq] at hb
  rw [← hb]
  have h1 : i / k < k := by
    rw [Nat.pow_two] at hi
    exact Nat.div_lt_of_lt_mul hi
  exact letB_nat (by omega)
theorem pair_get1 {k i : Nat} (hk : 1 ≤ k ∧ k ≤ 3) (hi : i < k ^ 2) (h : 1 < (wdB k 2 i).size) : ((wdB k 2 i)[1].toNat : Int) = 97 + ((i % k : Nat) : Int) := by
  have hb := byte_at (wdB k 2 i) 1 h
  rw [wdB_list, pair_bytes hk hi] at hb
  simp only [List.getElem?_cons_succ, List.getElem?_cons_zero, Option.some.injEq] at hb
  rw [← hb]
  have : i % k < k := Nat.mod_lt _ (by omega)
  exact letB_nat (by omega)
theorem pair_join {k i j : Nat} (hk : 1 ≤ k ∧ k ≤ 3) (hj : j < k ^ 2) : (wdB k 2 i ++ (wdB k 2 j).extract 1 2).data.toList = pairW k i ++ [letB (j % k)] := by
  rw [ByteArray.data_append, Array.toList_append, wdB_list]
  have h1 : ((wdB k 2 j).extract 1 2).data.toList = [letB (j % k)] := by
    have h2 : ((wdB k 2 j).extract 1 2).data.toList = ((wdB k 2 j).data.toList.drop 1).take 1 := by
      simp [ByteArray.data_extract, Array.toList_extract, List.extract_eq_take_drop]
    rw [h2, wdB_list, pair_bytes hk hj]
    rfl
  rw [h1]
  rfl
theorem stWords (ss : List ByteArray) (k : Nat) : kp (okP ss k) k 2 (k ^ 2) = (pairL ss k).map (wdB k 2) := rfl
theorem kpL_yes {ss : List ByteArray} {k s i : Nat} {PL : List Nat} (h : PL[s]? = some i) (hl : livB ss k i = true) : (PL.take (s + 1)).filter (livB ss k) = (PL.take s).filter (livB ss k) ++ [i] := by
  rw [List.take_add_one, h, List.filter_append]
  simp [hl]
theorem kpL_no {ss : List ByteArray} {k s i : Nat} {PL : List Nat} (h : PL[s]? = some i) (hl : livB ss k i = false) : (PL.take (s + 1)).filter (livB ss k) = (PL.take s).filter (livB ss k) := by
  rw [List.take_add_one, h, List.filter_append]
  simp [hl]
def StPost (ss : List ByteArray) (k : Nat) (w : World) (e : Ending) (w' : World) : Prop := ∃ v, e = .returned v ∧ w'.ownsRow w.heap.size 9 1 v (stL ss k).length (strVals ((stL ss k).map (wdB k 2))) ∧ Below w.heap.size w w'
set_option maxHeartbeats 8000000 in
set_option maxRecDepth 100000 in
theorem impl_states_c (k : Nat) (a : Option Addr) (n c : Nat) (ss : List ByteArray) (w : World) (hr : RowAt w a n (strVals ss)) (hk : 1 ≤ k ∧ k ≤ 3) (hn : n ≤ 1048576) (hm : MaxW w) :
    Calls Tryz.prog 114 #[.agg #[.int .i64 k, .slice a n c]] w (StPost ss k w) := by
  obtain ⟨W2, hW2⟩ : ∃ W2, W2 = w.alloc (.cells #[.int .i64 k, .slice a n c] 27) := ⟨_, rfl⟩
  have hB : Below w.heap.size w W2 := by rw [hW2]; exact (Below.refl _ _).alloc (Nat.le_refl _) _
  have hsz : W2.heap.size = w.heap.size + 1 := by rw [hW2]; simp
  have hbx : BoxC W2 w.heap.size #[.int .i64 k, .slice a n c] := by rw [hW2]; exact BoxC.new _ _ _
  have HBX := hid (fun (V : World) (hV : Below W2.heap.size W2 V) => show (V.cell? ⟨w.heap.size, 0, none⟩ = some (.int .i64 k) ∧ V.cell? ⟨w.heap.size, 1, none⟩ = some (.slice a n c)) ∧ Below w.heap.size w V from ⟨⟨(hbx.below hV).cell 0, (hbx.below hV).cell 1⟩, hB.trans (hV.mono (by omega))⟩)
  have HAV := hid (fun (V : World) (wd : ByteArray) (hwd : wd.size ≤ 1048576) (hV : Below w.heap.size w V) => avoids_c (k : Int) a n c ss wd V (hr.below hV (Nat.le_refl _)) hwd hn (max_below hm hV (Nat.le_refl _)))
  have HFI := hid (fun (V : World) (hV : Below W2.heap.size W2 V) => filteredM_c k 2 78 (.agg #[.int .i64 k, .slice a n c]) (okP ss k) V hk (by omega) (fun i V2 _ hV2 => by
    have := HAV.out V2 (wdB k 2 i) (by rw [wdB_size]; omega) (hB.trans ((hV.trans (hV2.mono hV.size)).mono hB.size))
    rw [wdB_list] at this
    exact this) (fun x w => Tryz.call78 _ w))
  unfold KeptPost at HFI
  rw [stWords] at HFI
  have hM9 := pairL_len (ss := ss) hk.2
  have HLG := hid (fun (t i : Nat) (h : (pairL ss k)[t]? = some i) => pairL_get h)
  obtain ⟨PL, hPL⟩ : ∃ PL, PL = pairL ss k := ⟨_, rfl⟩
  obtain ⟨M, hMd⟩ : ∃ M, M = ((List.range (k ^ 2)).filter (okP ss k)).length := ⟨_, rfl⟩
  have hML : PL.length = M := by rw [hPL, hMd]; rfl
  rw [← hMd, ← hPL] at HFI
  rw [← hPL] at hM9 HLG
  have HPL := hid hPL
  have HB := hid hB
  clear hr hB hm hMd hbx hPL
  go_enter Tryz.func114, Tryz.ntmps114
  obtain ⟨⟨p0, p1⟩, _⟩ := HBX.out W2 (Below.refl _ _)
  go_wp2_with (rw [← hW2])
  first | rw [← hW2] | skip
  clear hW2
  refine (HFI.out W2 (Below.refl _ _)).mono ?_
  rintro e w1 ⟨v, rfl, hown, hb1⟩
  obtain ⟨gw, cw, rfl⟩ := slice_form hown
  have hra : RowAt w1 gw M (strVals (PL.map (wdB k 2))) := by
    obtain ⟨a', c', he, hra⟩ := owns_rowAt hown (by omega)
    simp only [Value.slice.injEq, true_and] at he
    obtain ⟨rfl, rfl⟩ := he
    exact hra
  have HRA := hid hra
  have HB1 := hid hb1
  have HV := hid (fun (V : World) (hV : Below w1.heap.size w1 V) => HBX.out V (HB1.out.trans (hV.mono HB1.out.size)))
  have HAV1 := hid (fun (V : World) (wd : ByteArray) (hwd : wd.size ≤ 1048576) (hV : Below w1.heap.size w1 V) => HAV.out V wd hwd (HV.out V hV).2)
  obtain ⟨PR, hPR⟩ : ∃ PR, PR = pairRows ss k := ⟨_, rfl⟩
  have HROWS := hid (fun (t i : Nat) (h : PL[t]? = some i) => show PR.take (t + 1) = PR.take t ++ [rowT ss k i M] from by
    rw [hPR, rows_take (by rw [← HPL.out]; exact h), ← HPL.out, hML])
  have HPR := hid hPR
  have hMn : M ≤ 9 := by rw [← hML]; exact hM9
  have HML := hid hML
  have HO0 := hid (owns_lit3 (w := w1) (base := w1.heap.size) (e := 39) #[] [] rfl (Nat.le_refl _) (by unfold maxLen; simp))
  have HT0 := hid (show TRows 3 (w1.alloc (.cells #[] 39)) w1.heap.size [] (PR.take 0) from TRows.nils 3 _ _ 0)
  have HE0 := hid (show Below w1.heap.size w1 (w1.alloc (.cells #[] 39)) from (Below.refl _ _).alloc (Nat.le_refl _) _)
  clear hown hb1 hra hPR hML HFI p0 p1
  go_wp2
  go_loopw [4, 21] (fun nv i wr => ∃ (t : Nat) (vs : List Value), t ≤ M ∧ i = .int .i64 t ∧ wr.ownsRow w1.heap.size 39 1 nv t vs ∧ TRows 3 wr w1.heap.size vs (PR.take t) ∧ Below w1.heap.size w1 wr) (fun _ i _ => M - (intOf i).toNat)
  case atStart => exact ⟨0, [], by omega, rfl, HO0.out, HT0.out, HE0.out⟩
  case round =>
    clear HO0 HT0 HE0
    obtain ⟨t, vs, ht, rfl, hown, hT, hbel⟩ := hrel
    by_cases hlt : t < M
    · have hti : (t : Int) < (M : Int) := by omega
      obtain ⟨i, hi⟩ := get_some (l := PL) (n := t) (by rw [HML.out]; exact hlt)
      obtain ⟨b, off, rfl, hb, hc⟩ := HRA.out.at_ (by omega)
      have hcell := (hbel.cell (p := ⟨b, off + t, none⟩) hb).trans (hc t (.string (wdB k 2 i)) (by simp [strVals, hi]))
      have hik := (HLG.out t i hi).1
      have hus : (wdB k 2 i).size = 2 := wdB_size k 2 i
      have hu1 := pair_get1 hk hik (by rw [hus]; omega)
      have HRW := hid (HROWS.out t i hi)
      have HCW := hid (fun (V : World) (hV : Below w1.heap.size w1 V) (j q : Nat) (hq : PL[j]? = some q) => show V.cell? ⟨b, off + j, none⟩ = some (.string (wdB k 2 q)) from (hV.cell (p := ⟨b, off + j, none⟩) hb).trans (hc j (.string (wdB k 2 q)) (by simp [strVals, hq])))
      have HJ := hid (fun (q : Nat) (hq : q < k ^ 2) => pair_join (i := i) hk hq)
      obtain ⟨u, hu⟩ : ∃ u, u = wdB k 2 i := ⟨_, rfl⟩
      have HO := hid hown
      have HTT := hid hT
      have HBL := hid hbel
      have hszB := hbel.size
      have HT1 := hid (show TRows 3 (wr.alloc (.cells #[] 3)) w1.heap.size (vs ++ [.slice (some ⟨wr.heap.size, 0, none⟩) 0 0]) (PR.take t ++ [rowT ss k i 0]) from TRows.snoc HTT.out hszB [] #[] rfl (by unfold maxLen; simp))
      have HO1 := hid (owns_below HO.out ((Below.refl _ _).alloc (Nat.le_refl _) (.cells #[] 3)))
      have HB2 := hid (HBL.out.alloc hszB (.cells #[] 3))
      clear hown hT hbel hi hc
      go_wp2
      go_loopw [7, 28] (fun a7 i' wr => ∃ (j : Nat) (rv : Value), j ≤ M ∧ i' = .int .i64 j ∧ Hid (rv = a7) ∧ wr.ownsRow w1.heap.size 39 1 u4 t vs ∧ TRows 3 wr w1.heap.size (vs ++ [rv]) (PR.take t ++ [rowT ss k i j]) ∧ Below w1.heap.size w1 wr) (fun _ i' _ => M - (intOf i').toNat)
      case atStart => exact ⟨0, _, by omega, rfl, hid rfl, HO1.out, HT1.out, HB2.out⟩
      case round =>
        clear HO1 HT1 HB2 hcell
        obtain ⟨j, rv, hj, rfl, hrv, ho, hT, hbel⟩ := hrel
        have hrv := hrv.out
        subst hrv
        have hrl := rowT_len ss k i j
        obtain ⟨gr, cr, hrs⟩ := slice_form (ownL hT)
        subst hrs
        by_cases hltj : j < M
        · have hji : (j : Int) < (M : Int) := by omega
          obtain ⟨q, hq⟩ := get_some (l := PL) (n := j) (by rw [HML.out]; exact hltj)
          have hqk := (HLG.out j q hq).1
          have hcell := HCW.out wr hbel j q hq
          have hvs : (wdB k 2 q).size = 2 := wdB_size k 2 q
          have hv0 := pair_get0 hk hqk (by rw [hvs]; omega)
          have HPJ := hid (HJ.out q hqk)
          have HYES := hid (fun h : eP ss k i q = true => rowT_yes (i := i) (by rw [← HPL.out]; exact hq) h)
          have HNO := hid (fun h : eP ss k i q = false => rowT_no (i := i) (by rw [← HPL.out]; exact hq) h)
          have HEP := hid (show eP ss k i q = (decide (i % k = q / k) && avB ss (pairW k i ++ [letB (q % k)])) from rfl)
          have HO2 := hid ho
          have HT2 := hid hT
          have HB3 := hid hbel
          have hszC := hbel.size
          obtain ⟨v, hv⟩ : ∃ v, v = wdB k 2 q := ⟨_, rfl⟩
          obtain ⟨x, hx⟩ : ∃ x, x = i % k := ⟨_, rfl⟩
          obtain ⟨y, hy⟩ : ∃ y, y = q / k := ⟨_, rfl⟩
          obtain ⟨E, hE⟩ : ∃ E, E = eP ss k i q := ⟨_, rfl⟩
          have huz : ¬ (9223372036854775807 < (wdB k 2 i).size + 1) := by omega
          rw [← hE] at HEP HYES HNO
          rw [← hx] at hu1 HEP
          rw [← hy] at hv0 HEP
          clear hE ho hT hbel hq hx hy
          by_cases hxy : x = y
          · have HEV := hid (show E = avB ss (pairW k i ++ [letB (q % k)]) from by rw [HEP.out, decide_eq_true hxy]; rfl)
            have HCALL := hid (fun (V : World) (hV : Below wr.heap.size wr V) => show Calls Tryz.prog 78 #[.agg #[.int .i64 k, .slice a n c], .string (wdB k 2 i ++ (wdB k 2 q).extract 1 2)] V fun e w' => e = .returned (.bool E) ∧ Below V.heap.size V w' from by
              have := HAV1.out V (wdB k 2 i ++ (wdB k 2 q).extract 1 2) (by rw [ByteArray.size_append, ByteArray.size_extract]; omega) (HB3.out.trans (hV.mono hszC))
              rw [HPJ.out, ← HEV.out] at this
              exact this)
            have hbZ : Below wr.heap.size wr wr.drew := (Below.refl _ _).drew
            have HKK := hid (fun (V : World) (hV : Below wr.heap.size wr V) => show V.cell? ⟨w.heap.size, 0, none⟩ = some (.int .i64 k) ∧ V.cell? ⟨w.heap.size, 1, none⟩ = some (.slice a n c) ∧ Below wr.heap.size wr V from by
              obtain ⟨⟨z0, z1⟩, _⟩ := HV.out V (HB3.out.trans (hV.mono hszC))
              exact ⟨z0, z1, hV⟩)
            clear HEP HEV
            subst hxy
            have hes : ((wdB k 2 q).extract 1 2).size = 1 := by rw [ByteArray.size_extract, hvs]; rfl
            have huz2 : ¬ (9223372036854775807 < (wdB k 2 i).size + ((wdB k 2 q).extract 1 2).size) := by omega
            go_wp2
            go_region_held3 (fun V => V.cell? ⟨w.heap.size, 0, none⟩ = some (.int .i64 k) ∧ V.cell? ⟨w.heap.size, 1, none⟩ = some (.slice a n c) ∧ Below wr.heap.size wr V)
              (first | with_reducible exact HKK.out _ hbZ)
              (first | (go_at_call 78; refine (HCALL.out _ hbZ).mono ?_; rintro e w3 ⟨rfl, hb3⟩; have hbZ := hbZ.trans (hb3.mono hbZ.size)))
            all_goals
              have HT3 := hid (HT2.out.below hbZ)
              have HO3 := hid (owns_below HO2.out hbZ)
              have HB4 := hid (HB3.out.trans (hbZ.mono hszC))
              have hszD := HB4.out.size
              clear HKK HCALL hb3
              cases E with
              | false =>
                have HN := hid (HNO.out rfl)
                clear HYES HNO
                go_wp2
                go_roundw
                case rel => exact ⟨j + 1, _, by omega, by go_num, hid rfl, HO3.out, by rw [HN.out]; exact HT3.out, HB4.out⟩
                case measure => simp [intOf]; omega
              | true =>
                have HN := hid (HYES.out rfl)
                clear HYES HNO
                go_wp2_with (first | (at_builtin; go_must (refine wpList_appN2 rfl _ _ 39 rfl w1.heap.size 3 Tryz.underlying39 infoIntZ _ _ _ (Nat.cast j) (ownL (HT3.out)) rfl rfl (by omega) hszD ?_); intro g8 c8 w8 hown8 hgr8 hor8))
                have HT8 := hid (replaceL (v' := .slice (some ⟨g8, 0, none⟩) ((rowT ss k i j).length + 1) c8) (x := (Nat.cast j)) HT3.out (by simpa [intVals] using hown8) hgr8 (lies_of hor8))
                have HO8 := hid (HO3.out.kept hgr8 (owns_ne HO3.out (ownL HT3.out) (by decide)))
                have HB8 := hid (HB4.out.grown hgr8 hszD (fun q hq => ((ownL HT3.out).lt q hq).1))
                clear hown8 hgr8 hor8
                go_roundw
                case rel => exact ⟨j + 1, .slice (some ⟨g8, 0, none⟩) ((rowT ss k i j).length + 1) c8, by omega, by go_num, hid rfl, HO8.out, by rw [HN.out]; exact HT8.out, HB8.out⟩
                case measure => simp [intOf]; omega
          · have HEP := hid (show E = false from by rw [HEP.out, decide_eq_false hxy]; rfl)
            have HN := hid (HNO.out HEP.out)
            have h1 : ((x : Int) == (y : Int)) = false := by simp; omega
            have h2 : ((97 + (x : Int)) == (97 + (y : Int))) = false := by simp; omega
            have h3 : decide ((x : Int) = (y : Int)) = false := decide_eq_false (by omega)
            clear HYES HNO
            go_wp2
            go_quiet (fail)
            go_wp2
            go_roundw
            case rel => exact ⟨j + 1, _, by omega, by go_num, hid rfl, HO2.out, by rw [HN.out]; exact HT2.out.below (below_drewN (Below.refl _ _) _), below_drewN HB3.out _⟩
            case measure => simp [intOf]; omega
        · obtain rfl : j = M := by omega
          have HO2 := hid ho
          have HT2 := hid hT
          have HB3 := hid hbel
          have hszC := hbel.size
          clear ho hT hbel
          go_wp2_with (first | (at_builtin; go_must (refine wpList_appg rfl _ _ 31 rfl w1.heap.size 39 (.slice none 0 0) 24 Tryz.underlying31 infoInts rfl u4 t vs _ HO2.out rfl rfl rfl (by omega) (by unfold maxLen; omega) hszC ?_); intro v9 w9 hown9 hgr9))
          have HT9 := hid (HT2.out.kept HO2.out (by decide) hgr9)
          have HB9 := hid (HB3.out.grown hgr9 hszC (fun q hq => (HO2.out.lt q hq).1))
          go_roundw
          case rel => exact ⟨t + 1, _, by omega, by go_num, hown9, by rw [HRW.out]; exact HT9.out, HB9.out⟩
          case measure => simp [intOf]; omega
    · obtain rfl : t = M := by omega
      have hfull : PR.take t = PR := List.take_of_length_le (by rw [HPR.out, rows_len, ← HPL.out, HML.out]; exact Nat.le_refl _)
      rw [hfull] at hT
      have hszE := hbel.size
      have hPRl : PR.length = t := by rw [HPR.out, rows_len, ← HPL.out, HML.out]
      obtain ⟨gN, cN, hnv⟩ := slice_form hown
      have hgrid : TGrid 39 3 wr w1.heap.size u4 PR := ⟨vs, by rw [hPRl]; exact hown, hT⟩
      have hrowl : ∀ (r : List Int), r ∈ PR → r.length ≤ 9 := fun r hr => by
        rw [HPR.out] at hr
        obtain ⟨i, _, rfl⟩ := List.mem_map.1 hr
        have h1 := rowT_len ss k i (pairL ss k).length
        unfold rowT at h1
        rw [← HPL.out, HML.out] at h1
        rw [← HPL.out, HML.out]
        omega
      have hrows : ∀ (i : Nat) (r : List Int), PR[i]? = some r → ∀ x ∈ r, 0 ≤ x ∧ x < (t : Int) := fun i r hr x hx => by
        rw [HPR.out] at hr
        unfold pairRows at hr
        rw [List.getElem?_map, Option.map_eq_some_iff] at hr
        obtain ⟨y, _, rfl⟩ := hr
        obtain ⟨z, hz, rfl⟩ := List.mem_map.1 hx
        have h3 := List.mem_range.1 (List.mem_filter.1 hz).1
        rw [← HPL.out, HML.out] at h3
        omega
      obtain ⟨an, cn, hnv2, htn⟩ := grid_tabAt hgrid (by rw [hPRl]; omega) (fun r hr => by have := hrowl r hr; omega)
      rw [hPRl] at hnv2 htn
      have HLV := hid (fun (V : World) (hV : Below wr.heap.size wr V) => impl_lively_c t PR an cn V (htn.below hV (Nat.le_refl _)) hrows (by omega))
      unfold LivePost at HLV
      have HBE := hid hbel
      have HKP := hid (fun (s i : Nat) (h : PL[s]? = some i) => show LiveG PR t s ↔ livB ss k i = true from by
        rw [HPR.out, livB_iff]
        have h4 := pair_live (ss := ss) (k := k) (s := s) (i := i) (by rw [← HPL.out]; exact h)
        rw [← HPL.out, HML.out] at h4
        exact h4)
      have HST := hid (show stL ss k = (PL.take t).filter (livB ss k) from by rw [stL_of, ← HPL.out, List.take_of_length_le (by rw [HML.out]; exact Nat.le_refl _)])
      have HOU := hid (owns_lit3 (w := wr) (base := w1.heap.size) (e := 9) #[] [] rfl hszE (by unfold maxLen; simp))
      subst hnv2
      have hbo : Below wr.heap.size wr (wr.alloc (.cells #[] 9)) := (Below.refl _ _).alloc (Nat.le_refl _) _
      have HBO := hid hbo
      clear hfull hown hT hbel hPRl hnv hgrid hrowl hrows htn hbo
      go_wp2_with fail
      refine (HLV.out _ HBO.out).mono ?_
      rintro e w4 ⟨v4, K, rfl, ho4, hb4, hK⟩
      have hB4 : Below w1.heap.size w1 w4 := (HBE.out.trans (HBO.out.mono hszE)).trans (hb4.mono (by have := HBO.out.size; omega))
      have hou4 := owns_below HOU.out hb4
      have ho5 := owns_base (base' := w1.heap.size) ho4 (by have := HBO.out.size; omega)
      obtain ⟨ak, ck, rfl⟩ := slice_form ho4
      have hgb : ∃ gb, (0 < t → ak = some ⟨gb, 0, none⟩ ∧ gb < w4.heap.size) ∧ gb ≠ wr.heap.size := by
        by_cases ht0 : 0 < t
        · obtain ⟨g5, c5, he5, hg5, hlt5⟩ := ho4.form ht0
          simp only [Value.slice.injEq, true_and] at he5
          simp at hg5
          exact ⟨g5, fun _ => ⟨he5.1, hlt5⟩, by omega⟩
        · exact ⟨wr.heap.size + 1, fun h => absurd h ht0, by omega⟩
      obtain ⟨gb, hgb, hgne⟩ := hgb
      have HGB := hid hgb
      have HKE := hid (fun (s i : Nat) (hs : s < t) (h : PL[s]? = some i) => show K s = livB ss k i from Bool.eq_iff_iff.2 ((hK s hs).trans (HKP.out s i h)))
      have HO0 := hid hou4
      have HK0 := hid ho5
      have HB4 := hid hB4
      have hn0 := hid (show (Value.slice (some ⟨wr.heap.size, 0, none⟩) 0 0).ownBlock ≠ some gb by simp [Value.ownBlock]; omega)
      clear ho4 hb4 hK hB4 hou4 ho5 hgb hgne HLV HOU HBO
      go_wp2
      go_loopw [10, 60] (fun ov i wr => ∃ s : Nat, s ≤ t ∧ i = .int .i64 s ∧ Hid (wr.ownsRow w1.heap.size 9 1 ov ((PL.take s).filter (livB ss k)).length (strVals (((PL.take s).filter (livB ss k)).map (wdB k 2)))) ∧ Hid (ov.ownBlock ≠ some gb) ∧ Hid (wr.ownsRow w1.heap.size 4 1 (.slice ak t ck) t (boolVals (rowB K t))) ∧ Hid (Below w1.heap.size w1 wr)) (fun _ i _ => t - (intOf i).toNat)
      case atStart => exact ⟨0, by omega, rfl, hid HO0.out, hn0, HK0, HB4⟩
      case round =>
        clear HO0 hn0 HK0 HB4
        obtain ⟨s, hs, rfl, HOW, HNE, HKB, HBQ⟩ := hrel
        obtain ⟨c5, hc5⟩ : ∃ c5, c5 = ((PL.take s).filter (livB ss k)).length := ⟨_, rfl⟩
        have hc59 : c5 ≤ 9 := by
          have h1 := List.length_filter_le (livB ss k) (PL.take s)
          rw [List.length_take] at h1
          omega
        by_cases hlts : s < t
        · have hsi : (s : Int) < (t : Int) := by omega
          obtain ⟨i, hi⟩ := get_some (l := PL) (n := s) (by rw [HML.out]; exact hlts)
          obtain ⟨hak, hgl⟩ := HGB.out (by omega)
          subst hak
          obtain ⟨a6, c6, he6, hr6⟩ := owns_rowAt HKB.out (by omega)
          simp only [Value.slice.injEq, true_and] at he6
          obtain ⟨rfl, rfl⟩ := he6
          obtain ⟨b5, o5, he5, hb5, hcl5⟩ := keep_cell hr6 hlts
          simp only [Option.some.injEq, Addr.mk.injEq, and_true] at he5
          obtain ⟨rfl, rfl⟩ := he5
          have hkc := hcl5 s hlts
          rw [Nat.zero_add] at hkc
          obtain ⟨b, off, rfl, hb, hc⟩ := HRA.out.at_ (by omega)
          have hcell := (HBQ.out.cell (p := ⟨b, off + s, none⟩) hb).trans (hc s (.string (wdB k 2 i)) (by simp [strVals, hi]))
          have HKS := hid (HKE.out s i hlts hi)
          have HY := hid (fun h : livB ss k i = true => kpL_yes (ss := ss) (k := k) hi h)
          have HN := hid (fun h : livB ss k i = false => kpL_no (ss := ss) (k := k) hi h)
          have hszQ := HBQ.out.size
          clear hr6 hcl5 hb hc hi
          rw [HKS.out] at hkc
          obtain ⟨L, hL⟩ : ∃ L, L = livB ss k i := ⟨_, rfl⟩
          rw [← hL] at hkc
          cases L with
          | false =>
            have HN2 := hid (HN.out hL.symm)
            clear HY HN hL
            go_wp2
            go_roundw
            case rel => exact ⟨s + 1, by omega, by go_num, hid (by rw [HN2.out]; exact HOW.out), HNE, HKB, HBQ⟩
            case measure => simp [intOf]; omega
          | true =>
            have HY2 := hid (HY.out hL.symm)
            clear HY HN hL
            have HOW2 := HOW.out
            rw [← hc5] at HOW2
            go_wp2_with (first | (at_builtin; go_must (refine wpList_app3 rfl _ _ 22 rfl w1.heap.size 9 (.string ByteArray.empty) 16 Tryz.underlying22 infoStr3 rfl _ c5 _ _ HOW2 rfl rfl rfl (by omega) (by unfold maxLen; omega) hszQ gb HNE.out hb5 ?_); intro v' w8 hown8 hgr8 hne8))
            have HO8 := hid hown8
            have HK8 := hid (HKB.out.kept hgr8 (Or.inr fun e => HNE.out (by rw [← e]; rfl)))
            have HB8 := hid (HBQ.out.grown hgr8 hszQ (fun k hk => (HOW2.lt k hk).1))
            have HE8 := hid hne8
            clear hown8 hgr8 hne8 HOW2
            go_roundw
            case rel => exact ⟨s + 1, by omega, by go_num, hid (by rw [HY2.out, List.length_append, List.map_append, ← hc5]; simpa [strVals] using HO8.out), HE8, HK8, HB8⟩
            case measure => simp [intOf]; omega
        · obtain rfl : s = t := by omega
          have HFIN := hid (owns_base (base' := w.heap.size) HOW.out (HV.out w1 (Below.refl _ _)).2.size)
          rw [← HST.out] at HFIN
          go_wp2
          go_ret
          exact ⟨_, rfl, HFIN.out, (HV.out wr HBQ.out).2⟩
end Go.Proofs.YtpfeflhcbcgbfaaGreatDoor
