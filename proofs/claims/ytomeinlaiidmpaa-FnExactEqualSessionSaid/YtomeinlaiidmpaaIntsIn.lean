/- A slice of ints that came in: opened, copied. No condition. -/
import Derived.Test.YtomeinlaiidmpaaOpen
namespace Go.Proofs.Ytomeinlaiidmpaa
open Go.ChangeShapes Go.WideShapes Go.ChangeAt Go.RowKit
open Go.ChangeMaps (open_string shut_string)

def I64b (x : Int) : Prop := -9223372036854775808 ≤ x ∧ x ≤ 9223372036854775807
def IntsIn (W : World) (v : Value) : Prop := ∃ a n c xs, v = .slice a n c ∧ RowAt W a n (intVals xs) ∧ n * 8 ≤ 140737488355328 ∧ ∀ x ∈ xs, I64b x
theorem cellsIntV : Try.prog.cellsOf 3 = 1 := by kernel_rfl
theorem bytesIntV : Try.prog.bytesOf 3 = 8 := by kernel_rfl
theorem infoIntV : (Try.prog.info? 3).map (fun i => (i.zero, i.size, i.bytes)) = some (some (.int .i64 0), 1, 8) := by kernel_rfl
set_option maxRecDepth 100000 in
theorem open_intsV {H : Type} {enc : TypeId × Value → H} {W : World} {base : Nat} {v : Value} {d : DataW H} {p : List MemPlace} {ws : List Nat}
    (hval : Value.okWide Try.prog W .any base 22 v) (h : DataW.Trod enc Try.prog W 0 (fun _ => true) true 22 v d p)
    (hm : ∀ x ∈ d.weights Try.prog 22, x ∈ ws) (hall : ws.all (· ≤ reachBytes) = true) : IntsIn W v := by
  obtain ⟨a0, len0, cap0, rfl⟩ := okWide_slice Try.underlying22 hval
  obtain ⟨fuel, hf⟩ := h
  rcases open_ints Try.underlying22 Try.underlying3 cellsIntV hf with ⟨hcs, hx⟩ | ⟨a, len, cap, zs, hcs, _, hl, hm2, hz, hx, hcell, hwz⟩
  · simp [Value.cells] at hcs
    obtain ⟨rfl, rfl, rfl⟩ := hcs
    exact ⟨none, 0, 0, [], rfl, ⟨rfl, by omega, fun h => by omega⟩, by omega, fun s hs => by simp at hs⟩
  · simp [Value.cells] at hcs
    obtain ⟨rfl, rfl, rfl⟩ := hcs
    simp only [Prod.mk.injEq] at hx
    obtain ⟨rfl, rfl⟩ := hx
    simp only [if_true] at hz
    have hre : len0 * 8 ≤ 140737488351232 := by
      have h1 := hm ((len0 + (zs.length - len0)) * Try.prog.bytesOf 3) (by simp [DataW.weights, Try.underlying22, lits, hz, hl])
      have h2 := List.all_eq_true.1 hall _ h1
      rw [bytesIntV] at h2
      have h2 := of_decide_eq_true h2; simp only [reachBytes] at h2
      omega
    refine ⟨some a, len0, cap0, zs.take len0, rfl, ⟨by simp [intVals]; omega, by omega, fun hn => ?_⟩, by omega, fun s hs => bounds_i64 (hwz s (List.mem_of_mem_take hs))⟩
    obtain ⟨b, off, spot⟩ := a
    have hspot : spot = none := by simpa [Addr.add] using World.cell?_spot (hcell 0 (by omega))
    subst hspot
    have hb : b < W.heap.size := by
      have := World.block_lt_of_cell? W _ (hcell 0 (by omega))
      simpa [Addr.add] using this
    refine ⟨b, off, rfl, hb, fun k x hx => ?_⟩
    have hk : k < len0 := by
      have := (List.getElem?_eq_some_iff.1 hx).1
      simp [intVals] at this; omega
    have hc := hcell k (by omega)
    rw [add_plain] at hc
    rw [hc]
    simp only [intVals, List.getElem?_map, List.getElem?_take, hk, if_true] at hx
    obtain ⟨s, hs, rfl⟩ := Option.map_eq_some_iff.1 hx
    simp [List.getD, hs]
set_option maxHeartbeats 1000000 in
theorem toIntS_c (a : Option Addr) (n c : Nat) (xs : List Int) (w : World) (hr : RowAt w a n (intVals xs)) (hlim : n * 8 ≤ 140737488355328) :
    Calls Try.prog 77 #[.slice a n c] w fun e w' => ∃ v, e = .returned v ∧ w'.ownsRow w.heap.size 3 1 v n (intVals xs) ∧ Below w.heap.size w w' := by
  obtain ⟨hl, _, hat⟩ := hr
  have HL := hid hl
  have HAT := hid hat
  clear hl hat
  obtain ⟨i, hi, hz, hz1, hz2⟩ := info_parts infoIntV
  go_enter Try.func77, Try.ntmps77
  go_wp2_with (first | (at_make; refine wpList_make_full _ rfl _ _ 22 rfl w.heap.size 3 i (.int .i64 0) 1 Try.underlying22 hi hz hz1 .i64 .i64 _ _ n rfl rfl rfl rfl (by rw [hz2]; omega) (by unfold maxLen; omega) (Nat.le_refl _) ?_; intro w1 hown1 hgr1))
  have hb1 : Below w.heap.size w w1 := (Below.refl _ _).grown hgr1 (Nat.le_refl _) (by intro k h; cases h)
  clear hgr1
  go_loopw [4] (fun i wr => ∃ j : Nat, j ≤ n ∧ i = .int .i64 j ∧ wr.ownsRow w.heap.size 3 1 (.slice (some ⟨w.heap.size, 0, none⟩) n n) n (marked (intVals xs) (madeCells (Value.int .i64 0).cells (n * 1)).toList j) ∧ Below w.heap.size w wr) (fun i _ => n - (intOf i).toNat)
  case atStart => exact ⟨0, by omega, rfl, by rw [marked_zero]; exact hown1, hb1⟩
  case round =>
    obtain ⟨j, hj, rfl, hown, hbel⟩ := hrel
    by_cases hlt : j < n
    · obtain ⟨b1, off1, rfl, hbs, hc1⟩ := HAT.out (by omega)
      clear HAT
      obtain ⟨s, hs⟩ := get_some (l := xs) (n := j) (by have := HL.out; simp [intVals] at this; omega)
      have hcell1 := (hbel.cell (p := ⟨b1, off1 + j, none⟩) hbs).trans (hc1 j _ (intVals_get hs))
      have HS := hid hs
      clear hs hc1
      obtain ⟨u, hu⟩ := get_some (l := marked (intVals xs) (madeCells (Value.int .i64 0).cells (n * 1)).toList j) (n := j) (by rw [hown.1]; omega)
      have hcell : wr.cell? ⟨w.heap.size, j, none⟩ = some u := (hown.cellAt j (by omega)).trans hu
      clear hu
      have hfr := hown.frozenAt j
      go_wp2
      go_roundw
      case rel =>
        have hst := hown.stored j (.int .i64 s)
        rw [marked_step (n := n) (u := .int .i64 s) (by simp [madeCells]) HL.out hlt (intVals_get HS.out)] at hst
        exact ⟨j + 1, by omega, by go_num, hst.1, hbel.grown hst.2 hbel.size (by rintro k ⟨⟩; exact Nat.le_refl _)⟩
      case measure => simp [intOf]; omega
    · obtain rfl : j = n := by omega
      go_wp2
      go_ret
      exact ⟨_, rfl, by rw [← marked_all (xs := (madeCells (Value.int .i64 0).cells (j * 1)).toList) (ms := intVals xs) (by simp [madeCells]) HL.out]; exact hown, hbel⟩
end Go.Proofs.Ytomeinlaiidmpaa
