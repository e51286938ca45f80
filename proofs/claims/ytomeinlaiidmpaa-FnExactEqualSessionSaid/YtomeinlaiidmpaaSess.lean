/- A session that came in. No condition. -/
import Derived.Test.YtomeinlaiidmpaaOpenCode
import Derived.Test.YtomeinlaiidmpaaIntsIn
import Derived.Test.YtomeinlaiidmpaaGrid
import Derived.Deep.Slices
import Derived.Deep.Strs
namespace Go.Proofs.Ytomeinlaiidmpaa
open Go.ChangeShapes Go.WideShapes Go.ChangeAt Go.RowKit
open Go.ChangeMaps (open_string shut_string)

/-- What a session says. -/
structure Ses where
  rows : List (List Int)
  l : Int
  ss : List ByteArray
  k : Int
  q : Int
  o : ByteArray
structure SesFit (s : Ses) : Prop where
  rows : s.rows.length * 24 ≤ 140737488355328
  row : ∀ r ∈ s.rows, r.length * 8 ≤ 140737488355328
  ss : s.ss.length * 16 ≤ 140737488355328
  sz : ∀ x ∈ s.ss, x.size ≤ maxLen
  o : s.o.size ≤ maxLen
/-- A session as it reads. -/
def SesAt (W : World) (v : Value) (s : Ses) : Prop :=
  ∃ a c b d, v = .agg #[.slice a s.rows.length c, .int .i64 s.l, .slice b s.ss.length d, .int .i64 s.k, .int .i64 s.q, .string s.o] ∧ TabAt W a s.rows.length s.rows ∧ RowAt W b s.ss.length (strVals s.ss)
theorem SesAt.below {B : Nat} {w w' : World} {v : Value} {s : Ses} (h : SesAt w v s) (hb : Below B w w') (hB : w.heap.size ≤ B) : SesAt w' v s := by
  obtain ⟨a, c, b, d, e, h1, h2⟩ := h
  exact ⟨a, c, b, d, e, h1.below hb hB, h2.below hb hB⟩
def SesIn (W : World) (v : Value) : Prop := ∃ s, SesAt W v s ∧ SesFit s
theorem cellsSliceI : Try.prog.cellsOf 22 = 1 := by kernel_rfl
theorem cellsSliceII : Try.prog.cellsOf 29 = 1 := by kernel_rfl
theorem cellsSliceS : Try.prog.cellsOf 27 = 1 := by kernel_rfl
theorem bytesSliceI : Try.prog.bytesOf 22 = 24 := by kernel_rfl
theorem cellsShift : Try.prog.cellsOf 47 = 2 := by kernel_rfl
theorem cellsInt1 : Try.prog.cellsOf 3 = 1 := by kernel_rfl
theorem cellsSess : Try.prog.cellsOf 51 = 6 := by kernel_rfl
theorem plain_of {W : World} {a : Addr} {v : Value} (h : W.cell? (a.add 0) = some v) : ∃ b off, a = ⟨b, off, none⟩ ∧ b < W.heap.size := by
  obtain ⟨b, off, spot⟩ := a
  have hspot : spot = none := by simpa [Addr.add] using World.cell?_spot h
  subst hspot
  exact ⟨b, off, rfl, by have := World.block_lt_of_cell? W _ h; simpa [Addr.add] using this⟩
theorem weightsAll_mem {H : Type} {P : Program} {e : TypeId} {d : DataW H} {x : Nat} : ∀ {l : List (DataW H)}, d ∈ l → x ∈ d.weights P e → x ∈ DataW.weightsAll P e l
  | a :: r, hd, hx => by
    rw [DataW.weightsAll, List.mem_append]
    rcases List.mem_cons.1 hd with rfl | h
    · exact .inl hx
    · exact .inr (weightsAll_mem h hx)
set_option maxRecDepth 100000 in
theorem ints_in {H : Type} {enc : TypeId × Value → H} {W : World} {v : Value} {fuel : Nat} {y : DataW H × List MemPlace} {ws : List Nat}
    (hf : DataW.trod enc Try.prog W 0 (fun _ => true) true fuel 22 [v] = some y)
    (hm : ∀ x ∈ y.1.weights Try.prog 22, x ∈ ws) (hall : ws.all (· ≤ reachBytes) = true) : ∃ a c xs, v = .slice a xs.length c ∧ RowAt W a xs.length (intVals xs) ∧ xs.length * 8 ≤ 140737488355328 := by
  rcases open_ints Try.underlying22 Try.underlying3 cellsIntV hf with ⟨hcs, hx⟩ | ⟨a, len, cap, zs, hcs, _, hl, hm2, hz, hx, hcell, hwz⟩
  · simp at hcs
    exact ⟨none, 0, [], hcs, ⟨rfl, by simp, fun h => by simp at h⟩, by simp⟩
  · simp at hcs
    subst hx
    simp only [if_true] at hz
    have hre : len * 8 ≤ 140737488351232 := by
      have h1 := hm ((len + (zs.length - len)) * Try.prog.bytesOf 3) (by simp [DataW.weights, Try.underlying22, lits, hz, hl])
      have h2 := List.all_eq_true.1 hall _ h1
      rw [bytesIntV] at h2
      have h2 := of_decide_eq_true h2; simp only [reachBytes] at h2
      omega
    have hl2 : (zs.take len).length = len := by simp; omega
    refine ⟨some a, cap, zs.take len, by rw [hl2]; exact hcs, ?_, by rw [hl2]; omega⟩
    rw [hl2]
    refine ⟨by simp [intVals]; omega, by omega, fun hn => ?_⟩
    obtain ⟨b, off, rfl, hb⟩ := plain_of (hcell 0 (by omega))
    refine ⟨b, off, rfl, hb, fun k x hx => ?_⟩
    have hk : k < len := by
      have := (List.getElem?_eq_some_iff.1 hx).1
      simp [intVals] at this; omega
    have hc := hcell k (by omega)
    rw [add_plain] at hc
    rw [hc]
    simp only [intVals, List.getElem?_map, List.getElem?_take, hk, if_true] at hx
    obtain ⟨s, hs, rfl⟩ := Option.map_eq_some_iff.1 hx
    simp [List.getD, hs]
set_option maxRecDepth 100000 in
theorem strs_in {H : Type} {enc : TypeId × Value → H} {W : World} {v : Value} {fuel : Nat} {y : DataW H × List MemPlace} {ws : List Nat}
    (hf : DataW.trod enc Try.prog W 0 (fun _ => true) true fuel 27 [v] = some y)
    (hm : ∀ x ∈ y.1.weights Try.prog 27, x ∈ ws) (hall : ws.all (· ≤ reachBytes) = true) : ∃ a c ss, v = .slice a ss.length c ∧ RowAt W a ss.length (strVals ss) ∧ ss.length * 16 ≤ 140737488355328 ∧ ∀ s ∈ ss, s.size ≤ maxLen := by
  rcases open_strings Try.underlying27 Try.underlying9 cellsStr hf with ⟨hcs, hx⟩ | ⟨a, len, cap, ss, hcs, _, hl, hm2, hz, hx, hcell, hsz⟩
  · simp at hcs
    exact ⟨none, 0, [], hcs, ⟨rfl, by simp, fun h => by simp at h⟩, by simp, fun s hs => by simp at hs⟩
  · simp at hcs
    subst hx
    simp only [if_true] at hz
    have hre : len * 16 ≤ 140737488351232 := by
      have h1 := hm ((len + (ss.length - len)) * Try.prog.bytesOf 9) (by simp [DataW.weights, Try.underlying27, strs, hz, hl])
      have h2 := List.all_eq_true.1 hall _ h1
      rw [bytesStr] at h2
      have h2 := of_decide_eq_true h2; simp only [reachBytes] at h2
      omega
    have hl2 : (ss.take len).length = len := by simp; omega
    refine ⟨some a, cap, ss.take len, by rw [hl2]; exact hcs, ?_, by rw [hl2]; omega, fun s hs => hsz s (List.mem_of_mem_take hs)⟩
    rw [hl2]
    refine ⟨by simp [strVals]; omega, by omega, fun hn => ?_⟩
    obtain ⟨b, off, rfl, hb⟩ := plain_of (hcell 0 (by omega))
    refine ⟨b, off, rfl, hb, fun k x hx => ?_⟩
    have hk : k < len := by
      have := (List.getElem?_eq_some_iff.1 hx).1
      simp [strVals] at this; omega
    have hc := hcell k (by omega)
    rw [add_plain] at hc
    rw [hc]
    simp only [strVals, List.getElem?_map, List.getElem?_take, hk, if_true] at hx
    obtain ⟨s, hs, rfl⟩ := Option.map_eq_some_iff.1 hx
    simp [List.getD, hs]
set_option maxRecDepth 100000 in
theorem rows_in {H : Type} {enc : TypeId × Value → H} {W : World} {v : Value} {fuel : Nat} {y : DataW H × List MemPlace} {ws : List Nat}
    (hf : DataW.trod enc Try.prog W 0 (fun _ => true) true fuel 29 [v] = some y)
    (hm : ∀ x ∈ y.1.weights Try.prog 29, x ∈ ws) (hall : ws.all (· ≤ reachBytes) = true) : ∃ a c rows, v = .slice a rows.length c ∧ TabAt W a rows.length rows ∧ rows.length * 24 ≤ 140737488355328 ∧ ∀ r ∈ rows, r.length * 8 ≤ 140737488355328 := by
  rcases Go.Deep.open_slice1 Try.underlying29 cellsSliceI hf with ⟨hcs, hx⟩ | ⟨a, len, cap, m, n, V, D, Pl, hcs, _, hl, hm2, hmm, hx, hcell⟩
  · simp at hcs
    exact ⟨none, 0, [], hcs, ⟨[], ⟨rfl, by simp, fun h => by simp at h⟩, rfl, fun i x r hx => by simp at hx⟩, by simp, fun s hs => by simp at hs⟩
  · simp at hcs
    subst hx
    simp only [if_true] at hmm
    subst hmm
    have hre : len * 24 ≤ 140737488351232 := by
      have h1 := hm ((len + (m - len)) * Try.prog.bytesOf 22) (by simp [DataW.weights, Try.underlying29])
      have h2 := List.all_eq_true.1 hall _ h1
      rw [bytesSliceI] at h2
      have h2 := of_decide_eq_true h2; simp only [reachBytes] at h2
      omega
    obtain ⟨Z, hZ⟩ := Go.Deep.choose_lt (α := List Int) (n := len) (p := fun i xs => ∃ a' c', V i = .slice a' xs.length c' ∧ RowAt W a' xs.length (intVals xs) ∧ xs.length * 8 ≤ 140737488355328) (fun i hi => by
      obtain ⟨a', c', xs, h1, h2, h3⟩ := ints_in (ws := ws) (hcell i (by omega)).2 (fun x hx => hm x (by
        simp only [DataW.weights, Try.underlying29]
        exact List.mem_cons_of_mem _ (List.mem_append_left _ (weightsAll_mem (List.mem_map.2 ⟨i, List.mem_range.2 hi, rfl⟩) hx)))) hall
      exact ⟨xs, a', c', h1, h2, h3⟩)
    have hl2 : ((List.range len).map Z).length = len := by simp
    refine ⟨some a, _, (List.range len).map Z, by rw [hl2]; exact hcs, ?_, by rw [hl2]; omega, fun r hr => ?_⟩
    · rw [hl2]
      refine ⟨(List.range len).map V, ⟨by simp, by omega, fun hn => ?_⟩, by simp, fun i x r hx hr => ?_⟩
      · obtain ⟨b, off, rfl, hb⟩ := plain_of (hcell 0 (by omega)).1
        refine ⟨b, off, rfl, hb, fun k x hx => ?_⟩
        have hk : k < len := by simpa using (List.getElem?_eq_some_iff.1 hx).1
        have hc := (hcell k (by omega)).1
        rw [add_plain] at hc
        rw [hc]
        simpa [hk] using hx
      · have hi : i < len := by simpa using (List.getElem?_eq_some_iff.1 hx).1
        simp only [List.getElem?_map, List.getElem?_range hi, Option.map_some, Option.some.injEq] at hx hr
        subst hx hr
        obtain ⟨a', c', h1, h2, _⟩ := hZ i hi
        exact ⟨a', c', h1, h2⟩
    · obtain ⟨i, hi, rfl⟩ := List.mem_map.1 hr
      obtain ⟨_, _, _, _, h3⟩ := hZ i (List.mem_range.1 hi)
      exact h3
set_option maxRecDepth 100000 in
theorem open_sess {H : Type} {enc : TypeId × Value → H} {W : World} {base : Nat} {v : Value} {d : DataW H} {p : List MemPlace} {ws : List Nat}
    (hval : Value.okWide Try.prog W .any base 51 v) (h : DataW.Trod enc Try.prog W 0 (fun _ => true) true 51 v d p)
    (hm : ∀ x ∈ d.weights Try.prog 51, x ∈ ws) (hall : ws.all (· ≤ reachBytes) = true) : SesIn W v := by
  have hu := Try.underlying51
  obtain ⟨cs, rfl, hsz⟩ := okWide_struct hu hval
  rw [cellsSess] at hsz
  obtain ⟨l⟩ := cs
  match l, hsz with
  | [c0, c1, c2, c3, c4, c5], _ =>
  obtain ⟨fuel, hf⟩ := h
  obtain ⟨y0, y1, y2, n, hx, _, h0, h1, h2⟩ := Go.Deep.trod_struct3 hu hf
  simp only [cellsSliceII, cellsShift, cellsLawCode] at h0 h1 h2
  obtain ⟨z0, z1, n1, hx1, _, k0, k1⟩ := Go.ChangeShapes.trod_struct2 Try.underlying47 h1
  obtain ⟨e0, e1, e2, n2, hx2, _, j0, j1, j2⟩ := Go.Deep.trod_struct3 Try.underlying49 h2
  simp [Value.cells, cellsInt1, cellsStr, cellsSliceS] at h0 k0 k1 j0 j1 j2
  obtain ⟨a1, g1, _, _⟩ := DataW.trod_int Try.underlying3 k0
  obtain ⟨a3, g3, _, _⟩ := DataW.trod_int Try.underlying3 j0
  obtain ⟨a4, g4, _, _⟩ := DataW.trod_int Try.underlying3 j1
  obtain ⟨a5, g5, _, w5⟩ := DataW.trod_string Try.underlying9 j2
  simp at g1 g3 g4 g5
  subst g1 g3 g4 g5
  simp only [Prod.mk.injEq] at hx
  obtain ⟨rfl, rfl⟩ := hx
  subst hx1 hx2
  have hm0 : ∀ x ∈ y0.1.weights Try.prog 29, x ∈ ws := fun x hx => hm x (by
    simp only [DataW.weights, hu]
    exact List.mem_append_left _ hx)
  have hm1 : ∀ x ∈ z1.1.weights Try.prog 27, x ∈ ws := fun x hx => hm x (by
    simp only [DataW.weights, hu]
    refine List.mem_append_right _ (List.mem_append_left _ ?_)
    simp only [DataW.weights, Try.underlying47]
    exact List.mem_append_right _ (List.mem_append_left _ hx))
  obtain ⟨a, c, rows, rfl, r1, r2, r3⟩ := rows_in h0 hm0 hall
  obtain ⟨b, e, ss, rfl, s1, s2, s3⟩ := strs_in k1 hm1 hall
  exact ⟨⟨rows, a1, ss, a3, a4, a5⟩, ⟨a, c, b, e, rfl, r1, s1⟩, r2, r3, s2, s3, w5⟩
end Go.Proofs.Ytomeinlaiidmpaa
