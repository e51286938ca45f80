/- Tables that came in: opened. No condition. -/
import Derived.Deep.Slices
import Derived.Deep.Strs
import Derived.Test.YtpfeflhcbcgbfaaGreatDoorLaw2
import Derived.Test.YtpfeflhcbcgbfaaGreatDoorIntsIn
import Derived.Test.YtpfeflhcbcgbfaaGreatDoorGrid
namespace Go.Proofs.YtpfeflhcbcgbfaaGreatDoor
open Go.RowKit

def codeV (k n : Int) (o : ByteArray) : Value := .agg #[.int .i64 k, .int .i64 n, .string o]
theorem box3 {w wr : World} {a b c : Value} {T : TypeId} (h : Below (w.alloc (.cells #[a, b, c] T)).heap.size (w.alloc (.cells #[a, b, c] T)) wr) :
    (wr.cell? ⟨w.heap.size, 0, none⟩ = some a ∧ wr.cell? ⟨w.heap.size, 1, none⟩ = some b ∧ wr.cell? ⟨w.heap.size, 2, none⟩ = some c) ∧
    (wr.frozen? ⟨w.heap.size, 0, none⟩ = false ∧ wr.frozen? ⟨w.heap.size, 1, none⟩ = false ∧ wr.frozen? ⟨w.heap.size, 2, none⟩ = false) ∧ w.heap.size < wr.heap.size := by
  have h' : Below (w.heap.size + 1) (w.alloc (.cells #[a, b, c] T)) wr := by simpa using h
  have hb := box_kept h'
  have hs := h'.size
  simp at hs
  exact ⟨⟨(hb 0).1, (hb 1).1, (hb 2).1⟩, ⟨(hb 0).2, (hb 1).2, (hb 2).2⟩, by omega⟩

/-- The letter of bit i. -/
def bitB (n i : Nat) : UInt8 := if n / 2 ^ i % 2 = 1 then 98 else 97
def ruleOut (n : Nat) (i : Nat) : List UInt8 := (List.range i).map (bitB n)
theorem bit_and : ∀ n : Nat, n < 256 → ∀ i : Nat, i < 8 → bits BinOp.and IntKind.i64 ((n : Int) / 2 ^ i) 1 = ((n / 2 ^ i % 2 : Nat) : Int) := by decide +kernel

theorem infoU8 : (Tryz.prog.info? 5).map (fun i => (i.zero, i.size, i.bytes)) = some (some (.int .u8 0), 1, 1) := by kernel_rfl

theorem ruleOut_succ (n j : Nat) : byteVals (ruleOut n (j + 1)) = byteVals (ruleOut n j) ++ [Value.int .u8 (97 + (n : Int) / 2 ^ j % 2)] := by
  simp only [ruleOut, List.range_succ, List.map_append, byteVals, List.map_cons, List.map_nil]
  congr 3
  unfold bitB
  have h2 : ((n / 2 ^ j % 2 : Nat) : Int) = (n : Int) / 2 ^ j % 2 := by simp
  rw [← h2]
  rcases Nat.mod_two_eq_zero_or_one (n / 2 ^ j) with h | h <;> rw [h] <;> rfl

end Go.Proofs.YtpfeflhcbcgbfaaGreatDoor
namespace Go.Proofs.YtpfeflhcbcgbfaaGreatDoor
open Go.ChangeShapes Go.WideShapes Go.ChangeAt Go.RowKit
open Go.ChangeMaps (open_string shut_string)

/-- A code that came in. -/
def CodeIn (v : Value) : Prop := ∃ k n o, v = .agg #[.int .i64 k, .int .i64 n, .string o] ∧ o.size ≤ maxLen

end Go.Proofs.YtpfeflhcbcgbfaaGreatDoor
namespace Go.Proofs.YtpfeflhcbcgbfaaGreatDoor
open Go.ChangeShapes Go.WideShapes Go.ChangeAt Go.RowKit
open Go.ChangeMaps (open_string shut_string)

/-- What a session says. -/
structure Ses where
  rows : List (List Int)
  l : Int
  ss : List ByteArray
  k : Int
  q : Int
  o : ByteArray
structure SesFit (s : Ses) : Prop where
  rows : s.rows.length * 24 ≤ 140737488355328
  row : ∀ r ∈ s.rows, r.length * 8 ≤ 140737488355328
  ss : s.ss.length * 16 ≤ 140737488355328
  sz : ∀ x ∈ s.ss, x.size ≤ maxLen
  o : s.o.size ≤ maxLen
/-- A session as it reads. -/
def SesAt (W : World) (v : Value) (s : Ses) : Prop :=
  ∃ a c b d, v = .agg #[.slice a s.rows.length c, .int .i64 s.l, .slice b s.ss.length d, .int .i64 s.k, .int .i64 s.q, .string s.o] ∧ TabAt W a s.rows.length s.rows ∧ RowAt W b s.ss.length (strVals s.ss)
theorem SesAt.below {B : Nat} {w w' : World} {v : Value} {s : Ses} (h : SesAt w v s) (hb : Below B w w') (hB : w.heap.size ≤ B) : SesAt w' v s := by
  obtain ⟨a, c, b, d, e, h1, h2⟩ := h
  exact ⟨a, c, b, d, e, h1.below hb hB, h2.below hb hB⟩
def SesIn (W : World) (v : Value) : Prop := ∃ s, SesAt W v s ∧ SesFit s
theorem cellsSliceI : Tryz.prog.cellsOf 39 = 1 := by kernel_rfl
theorem cellsSliceII : Tryz.prog.cellsOf 31 = 1 := by kernel_rfl
theorem cellsSliceS : Tryz.prog.cellsOf 22 = 1 := by kernel_rfl
theorem bytesSliceI : Tryz.prog.bytesOf 39 = 24 := by kernel_rfl
theorem cellsShift : Tryz.prog.cellsOf 24 = 2 := by kernel_rfl
theorem cellsInt1 : Tryz.prog.cellsOf 3 = 1 := by kernel_rfl
theorem plain_of {W : World} {a : Addr} {v : Value} (h : W.cell? (a.add 0) = some v) : ∃ b off, a = ⟨b, off, none⟩ ∧ b < W.heap.size := by
  obtain ⟨b, off, spot⟩ := a
  have hspot : spot = none := by simpa [Addr.add] using World.cell?_spot h
  subst hspot
  exact ⟨b, off, rfl, by have := World.block_lt_of_cell? W _ h; simpa [Addr.add] using this⟩
theorem weightsAll_mem {H : Type} {P : Program} {e : TypeId} {d : DataW H} {x : Nat} : ∀ {l : List (DataW H)}, d ∈ l → x ∈ d.weights P e → x ∈ DataW.weightsAll P e l
  | a :: r, hd, hx => by
    rw [DataW.weightsAll, List.mem_append]
    rcases List.mem_cons.1 hd with rfl | h
    · exact .inl hx
    · exact .inr (weightsAll_mem h hx)
set_option maxRecDepth 100000 in
theorem ints_in {H : Type} {enc : TypeId × Value → H} {W : World} {v : Value} {fuel : Nat} {y : DataW H × List MemPlace} {ws : List Nat}
    (hf : DataW.trod enc Tryz.prog W 0 (fun _ => true) true fuel 39 [v] = some y)
    (hm : ∀ x ∈ y.1.weights Tryz.prog 39, x ∈ ws) (hall : ws.all (· ≤ reachBytes) = true) : ∃ a c xs, v = .slice a xs.length c ∧ RowAt W a xs.length (intVals xs) ∧ xs.length * 8 ≤ 140737488355328 := by
  rcases open_ints Tryz.underlying39 Tryz.underlying3 cellsIntV hf with ⟨hcs, hx⟩ | ⟨a, len, cap, zs, hcs, _, hl, hm2, hz, hx, hcell, hwz⟩
  · simp at hcs
    exact ⟨none, 0, [], hcs, ⟨rfl, by simp, fun h => by simp at h⟩, by simp⟩
  · simp at hcs
    subst hx
    simp only [if_true] at hz
    have hre : len * 8 ≤ 140737488351232 := by
      have h1 := hm ((len + (zs.length - len)) * Tryz.prog.bytesOf 3) (by simp [DataW.weights, Tryz.underlying39, lits, hz, hl])
      have h2 := List.all_eq_true.1 hall _ h1
      rw [bytesIntV] at h2
      have h2 := of_decide_eq_true h2; simp only [reachBytes] at h2
      omega
    have hl2 : (zs.take len).length = len := by simp; omega
    refine ⟨some a, cap, zs.take len, by rw [hl2]; exact hcs, ?_, by rw [hl2]; omega⟩
    rw [hl2]
    refine ⟨by simp [intVals]; omega, by omega, fun hn => ?_⟩
    obtain ⟨b, off, rfl, hb⟩ := plain_of (hcell 0 (by omega))
    refine ⟨b, off, rfl, hb, fun k x hx => ?_⟩
    have hk : k < len := by
      have := (List.getElem?_eq_some_iff.1 hx).1
      simp [intVals] at this; omega
    have hc := hcell k (by omega)
    rw [add_plain] at hc
    rw [hc]
    simp only [intVals, List.getElem?_map, List.getElem?_take, hk, if_true] at hx
    obtain ⟨s, hs, rfl⟩ := Option.map_eq_some_iff.1 hx
    simp [List.getD, hs]
set_option maxRecDepth 100000 in
theorem strs_in {H : Type} {enc : TypeId × Value → H} {W : World} {v : Value} {fuel : Nat} {y : DataW H × List MemPlace} {ws : List Nat}
    (hf : DataW.trod enc Tryz.prog W 0 (fun _ => true) true fuel 22 [v] = some y)
    (hm : ∀ x ∈ y.1.weights Tryz.prog 22, x ∈ ws) (hall : ws.all (· ≤ reachBytes) = true) : ∃ a c ss, v = .slice a ss.length c ∧ RowAt W a ss.length (strVals ss) ∧ ss.length * 16 ≤ 140737488355328 ∧ ∀ s ∈ ss, s.size ≤ maxLen := by
  rcases open_strings Tryz.underlying22 Tryz.underlying9 cellsStr hf with ⟨hcs, hx⟩ | ⟨a, len, cap, ss, hcs, _, hl, hm2, hz, hx, hcell, hsz⟩
  · simp at hcs
    exact ⟨none, 0, [], hcs, ⟨rfl, by simp, fun h => by simp at h⟩, by simp, fun s hs => by simp at hs⟩
  · simp at hcs
    subst hx
    simp only [if_true] at hz
    have hre : len * 16 ≤ 140737488351232 := by
      have h1 := hm ((len + (ss.length - len)) * Tryz.prog.bytesOf 9) (by simp [DataW.weights, Tryz.underlying22, strs, hz, hl])
      have h2 := List.all_eq_true.1 hall _ h1
      rw [bytesStr] at h2
      have h2 := of_decide_eq_true h2; simp only [reachBytes] at h2
      omega
    have hl2 : (ss.take len).length = len := by simp; omega
    refine ⟨some a, cap, ss.take len, by rw [hl2]; exact hcs, ?_, by rw [hl2]; omega, fun s hs => hsz s (List.mem_of_mem_take hs)⟩
    rw [hl2]
    refine ⟨by simp [strVals]; omega, by omega, fun hn => ?_⟩
    obtain ⟨b, off, rfl, hb⟩ := plain_of (hcell 0 (by omega))
    refine ⟨b, off, rfl, hb, fun k x hx => ?_⟩
    have hk : k < len := by
      have := (List.getElem?_eq_some_iff.1 hx).1
      simp [strVals] at this; omega
    have hc := hcell k (by omega)
    rw [add_plain] at hc
    rw [hc]
    simp only [strVals, List.getElem?_map, List.getElem?_take, hk, if_true] at hx
    obtain ⟨s, hs, rfl⟩ := Option.map_eq_some_iff.1 hx
    simp [List.getD, hs]
set_option maxRecDepth 100000 in
theorem rows_in {H : Type} {enc : TypeId × Value → H} {W : World} {v : Value} {fuel : Nat} {y : DataW H × List MemPlace} {ws : List Nat}
    (hf : DataW.trod enc Tryz.prog W 0 (fun _ => true) true fuel 31 [v] = some y)
    (hm : ∀ x ∈ y.1.weights Tryz.prog 31, x ∈ ws) (hall : ws.all (· ≤ reachBytes) = true) : ∃ a c rows, v = .slice a rows.length c ∧ TabAt W a rows.length rows ∧ rows.length * 24 ≤ 140737488355328 ∧ ∀ r ∈ rows, r.length * 8 ≤ 140737488355328 := by
  rcases Go.Deep.open_slice1 Tryz.underlying31 cellsSliceI hf with ⟨hcs, hx⟩ | ⟨a, len, cap, m, n, V, D, Pl, hcs, _, hl, hm2, hmm, hx, hcell⟩
  · simp at hcs
    exact ⟨none, 0, [], hcs, ⟨[], ⟨rfl, by simp, fun h => by simp at h⟩, rfl, fun i x r hx => by simp at hx⟩, by simp, fun s hs => by simp at hs⟩
  · simp at hcs
    subst hx
    simp only [if_true] at hmm
    subst hmm
    have hre : len * 24 ≤ 140737488351232 := by
      have h1 := hm ((len + (m - len)) * Tryz.prog.bytesOf 39) (by simp [DataW.weights, Tryz.underlying31])
      have h2 := List.all_eq_true.1 hall _ h1
      rw [bytesSliceI] at h2
      have h2 := of_decide_eq_true h2; simp only [reachBytes] at h2
      omega
    obtain ⟨Z, hZ⟩ := Go.Deep.choose_lt (α := List Int) (n := len) (p := fun i xs => ∃ a' c', V i = .slice a' xs.length c' ∧ RowAt W a' xs.length (intVals xs) ∧ xs.length * 8 ≤ 140737488355328) (fun i hi => by
      obtain ⟨a', c', xs, h1, h2, h3⟩ := ints_in (ws := ws) (hcell i (by omega)).2 (fun x hx => hm x (by
        simp only [DataW.weights, Tryz.underlying31]
        exact List.mem_cons_of_mem _ (List.mem_append_left _ (weightsAll_mem (List.mem_map.2 ⟨i, List.mem_range.2 hi, rfl⟩) hx)))) hall
      exact ⟨xs, a', c', h1, h2, h3⟩)
    have hl2 : ((List.range len).map Z).length = len := by simp
    refine ⟨some a, _, (List.range len).map Z, by rw [hl2]; exact hcs, ?_, by rw [hl2]; omega, fun r hr => ?_⟩
    · rw [hl2]
      refine ⟨(List.range len).map V, ⟨by simp, by omega, fun hn => ?_⟩, by simp, fun i x r hx hr => ?_⟩
      · obtain ⟨b, off, rfl, hb⟩ := plain_of (hcell 0 (by omega)).1
        refine ⟨b, off, rfl, hb, fun k x hx => ?_⟩
        have hk : k < len := by simpa using (List.getElem?_eq_some_iff.1 hx).1
        have hc := (hcell k (by omega)).1
        rw [add_plain] at hc
        rw [hc]
        simpa [hk] using hx
      · have hi : i < len := by simpa using (List.getElem?_eq_some_iff.1 hx).1
        simp only [List.getElem?_map, List.getElem?_range hi, Option.map_some, Option.some.injEq] at hx hr
        subst hx hr
        obtain ⟨a', c', h1, h2, _⟩ := hZ i hi
        exact ⟨a', c', h1, h2⟩
    · obtain ⟨i, hi, rfl⟩ := List.mem_map.1 hr
      obtain ⟨_, _, _, _, h3⟩ := hZ i (List.mem_range.1 hi)
      exact h3
end Go.Proofs.YtpfeflhcbcgbfaaGreatDoor
namespace Go.Proofs.YtpfeflhcbcgbfaaGreatDoor
open Go.ChangeShapes Go.WideShapes Go.ChangeAt Go.RowKit
open Go.ChangeMaps (open_string shut_string)

/-- A table that came in. -/
def IntssIn (W : World) (v : Value) : Prop := ∃ a c rows, v = .slice a rows.length c ∧ TabAt W a rows.length rows ∧ rows.length * 24 ≤ 140737488355328 ∧ ∀ r ∈ rows, r.length * 8 ≤ 140737488355328
set_option maxRecDepth 100000 in
theorem open_intss {H : Type} {enc : TypeId × Value → H} {W : World} {base : Nat} {v : Value} {d : DataW H} {p : List MemPlace} {ws : List Nat}
    (hval : Value.okWide Tryz.prog W .any base 31 v) (h : DataW.Trod enc Tryz.prog W 0 (fun _ => true) true 31 v d p)
    (hm : ∀ x ∈ d.weights Tryz.prog 31, x ∈ ws) (hall : ws.all (· ≤ reachBytes) = true) : IntssIn W v := by
  obtain ⟨a0, len0, cap0, rfl⟩ := okWide_slice Tryz.underlying31 hval
  obtain ⟨fuel, hf⟩ := h
  exact rows_in (y := (d, p)) hf hm hall
end Go.Proofs.YtpfeflhcbcgbfaaGreatDoor
