/- A slice of ints that came in: opened, copied. No condition. -/
import Derived.Test.YtpfeflhcbcgbfaaGreatDoorProg
import GoSem.ClaimJoined
import Derived.KernelRfl
import Derived.ProofKit
import Derived.SizedLaws
import Derived.OpenShut
import Derived.ChangeOld
import Derived.SliceStrings
import Derived.Lib.SmallJoins
import Derived.Test.YtpfeflhcbcgbfaaGreatDoorLaw2
import Derived.Test.YtpfeflhcbcgbfaaGreatDoorRows
namespace Go.Proofs.YtpfeflhcbcgbfaaGreatDoor

def hdr1 : List Char := [104, 97, 114, 110, 101, 115, 115].map Char.ofNat
def hdr2 : List Char := [56, 99, 56, 51, 50, 48, 56, 49, 52, 98, 56, 56, 98, 100, 98, 57, 51, 53, 97, 97, 53, 97, 56, 56, 101, 50, 50, 50, 54, 98, 48, 54, 52, 55, 102, 101, 53, 98, 51, 98, 54, 49, 54, 54, 56, 54, 99, 56, 54, 55, 54, 50, 54, 51, 97, 50, 53, 56, 52, 56, 55, 101, 51, 49].map Char.ofNat
def hdr3 : List Char := [99, 117, 116].map Char.ofNat
def hdr4 : List Char := [97, 116, 32, 108, 111, 111, 112, 46, 101, 120, 97, 109, 112, 108, 101, 47, 103, 48, 51, 49, 48, 51, 47, 108, 97, 119, 115, 46, 70, 110, 69, 120, 97, 99, 116, 68, 101, 115, 99, 114, 105, 98, 101, 83, 104, 105, 102, 116, 32, 108, 111, 111, 112, 46, 101, 120, 97, 109, 112, 108, 101, 47, 103, 48, 51, 49, 48, 51, 47, 108, 97, 119, 115, 46, 70, 110, 69, 120, 97, 99, 116, 68, 101, 115, 99, 114, 105, 98, 101, 77, 97, 116, 114, 105, 120].map Char.ofNat
def blank : Char := Char.ofNat 32
theorem words_one (c : Char) (r w : List Char) (ws : List (List Char)) (hc : c ≠ blank) (h : wordsSigns r = w :: ws) : wordsSigns (c :: r) = (c :: w) :: ws := by
  rw [wordsSigns, h]
  exact hc
theorem words_app : ∀ (w r : List Char), w.all (fun c => !(c == blank)) = true → wordsSigns (w ++ blank :: r) = w :: wordsSigns r
  | [], r, _ => rfl
  | c :: w, r, h => by
    simp only [List.all_cons, Bool.and_eq_true, Bool.not_eq_true', beq_eq_false_iff_ne] at h
    exact words_one _ _ _ _ h.1 (words_app w r h.2)
theorem hdr : Tryz.prog.initOrder = String.ofList (hdr1 ++ blank :: (hdr2 ++ blank :: (hdr3 ++ blank :: hdr4))) := by kernel_rfl
theorem hdrWords : wordsSigns Tryz.prog.initOrder.toList = hdr1 :: hdr2 :: hdr3 :: wordsSigns hdr4 := by
  rw [hdr, String.toList_ofList, words_app _ _ (by kernel_rfl), words_app _ _ (by kernel_rfl), words_app _ _ (by kernel_rfl)]
theorem behind3 (X : List (List Char)) : behindMainWord (hdr1 :: hdr2 :: hdr3 :: X) = hdr3 :: X := by kernel_rfl
theorem hdrBehind : behindMainWord (wordsSigns Tryz.prog.initOrder.toList) = hdr3 :: wordsSigns hdr4 := by rw [hdrWords, behind3]

theorem lifts_gen (P : Program) (c : List Char) (X : List (List Char)) (hb : behindMainWord (wordsSigns P.initOrder.toList) = c :: X)
    (h : (if (stripLifts liftWords (c :: X)).2.head? == some "cut".toList then (stripLifts liftWords (c :: X)).1 else []) = []) : P.headLifts = [] := by
  unfold Program.headLifts
  rw [hb]
  exact h
theorem liftsFinal_gen (P : Program) (c : List Char) (X : List (List Char)) (hb : behindMainWord (wordsSigns P.initOrder.toList) = c :: X) (hl : P.headLifts = [])
    (h : ((c :: X).head? == some "carried".toList && (c :: X).take 3 != ["carried".toList, "gc".toList, "cut".toList]) = false) : P.liftsFinal = false := by
  unfold Program.liftsFinal
  rw [hb, hl]
  simp only [h, Bool.false_or]
  rfl
theorem make_gen (P : Program) (c : List Char) (X : List (List Char)) (hb : behindMainWord (wordsSigns P.initOrder.toList) = c :: X)
    (h1 : (c == "gc".toList || c == "spec".toList) = false) (h2 : (c == "cut".toList || (c == "finals".toList && X.head? == some "cut".toList)) = true) : P.make = some .cut := by
  unfold Program.make
  rw [hb]
  simp only [h1, h2, if_true, Bool.false_eq_true, if_false]
theorem mayEnter_gen (P : Program) (c : List Char) (X : List (List Char)) (hb : behindMainWord (wordsSigns P.initOrder.toList) = c :: X)
    (h : ((stripLifts liftWords (c :: X)).2.head? == some "cut".toList &&
      ((stripLifts liftWords (c :: X)).1.contains "finals" || !P.laysLater) && ((stripLifts liftWords (c :: X)).1.contains "reflectrows" || !P.bearsReflect) &&
      ((stripLifts liftWords (c :: X)).1.contains "reflectrows" || !(stripLifts liftWords (c :: X)).1.contains "leanrows") &&
      P.doorFits (stripLifts liftWords (c :: X)).1) = true) : P.mayEnter = true := by
  unfold Program.mayEnter
  rw [hb]
  simp only [h, Bool.or_true]
theorem strip3 (X : List (List Char)) : stripLifts liftWords (hdr3 :: X) = ([], hdr3 :: X) := by kernel_rfl
theorem isCut : ((hdr3 :: wordsSigns hdr4).head? == some "cut".toList) = true := by
  show ((some hdr3 : Option (List Char)) == some "cut".toList) = true
  kernel_rfl
theorem headHeadLifts : Tryz.prog.headLifts = [] := lifts_gen _ _ _ hdrBehind (by rw [strip3]; exact ite_self _)
theorem headLiftsFinal : Tryz.prog.liftsFinal = false := liftsFinal_gen _ _ _ hdrBehind headHeadLifts (by
  rw [show ((hdr3 :: wordsSigns hdr4).head? == some "carried".toList) = false from by
    show ((some hdr3 : Option (List Char)) == some "carried".toList) = false
    kernel_rfl]
  rfl)
theorem headMake : Tryz.prog.make = some .cut := make_gen _ _ _ hdrBehind (by kernel_rfl) (by
  rw [show (hdr3 == "cut".toList) = true from by kernel_rfl]
  rfl)
theorem noLater : Tryz.prog.laysLater = false := by kernel_rfl
theorem noReflect : Tryz.prog.bearsReflect = false := by kernel_rfl
theorem doorFits0 : Tryz.prog.doorFits [] = true := by kernel_rfl
theorem headMayEnter : Tryz.prog.mayEnter = true := mayEnter_gen _ _ _ hdrBehind (by
  rw [strip3, isCut, noLater, noReflect, doorFits0]
  rfl)
end Go.Proofs.YtpfeflhcbcgbfaaGreatDoor
namespace Go.Proofs.YtpfeflhcbcgbfaaGreatDoor
open Go.ChangeShapes Go.WideShapes Go.ChangeAt Go.RowKit
open Go.ChangeMaps (open_string shut_string)

theorem bs {a b c : World} (h : Below a.heap.size a b) (k : Below b.heap.size b c) : Below a.heap.size a c := h.trans (k.mono h.size)
theorem rowAt_trans {w w' : World} {a : Option Addr} {n : Nat} {xs : List Value} (h : RowAt w a n xs) (hb : Below w.heap.size w w') : RowAt w' a n xs := h.below hb (Nat.le_refl _)
theorem own : ownKnob Tryz.prog.godebug = none := by kernel_rfl
theorem laidOut : laidOutB Tryz.prog = true := by kernel_rfl
theorem cellsStr : Tryz.prog.cellsOf 9 = 1 := by kernel_rfl
theorem bytesStr : Tryz.prog.bytesOf 9 = 16 := by kernel_rfl

/-- A slice of texts that came in. -/
def StrsIn (W : World) (v : Value) : Prop := ∃ a n c ss, v = .slice a n c ∧ RowAt W a n (strVals ss) ∧ n * 16 ≤ 140737488355328 ∧ ∀ s ∈ ss, s.size ≤ maxLen

set_option maxRecDepth 100000 in
theorem open_strs {H : Type} {enc : TypeId × Value → H} {W : World} {base : Nat} {v : Value} {d : DataW H} {p : List MemPlace} {ws : List Nat}
    (hval : Value.okWide Tryz.prog W .any base 22 v) (h : DataW.Trod enc Tryz.prog W 0 (fun _ => true) true 22 v d p)
    (hm : ∀ x ∈ d.weights Tryz.prog 22, x ∈ ws) (hall : ws.all (· ≤ reachBytes) = true) : StrsIn W v := by
  obtain ⟨a0, len0, cap0, rfl⟩ := okWide_slice Tryz.underlying22 hval
  obtain ⟨fuel, hf⟩ := h
  rcases open_strings Tryz.underlying22 Tryz.underlying9 cellsStr hf with ⟨hcs, hx⟩ | ⟨a, len, cap, ss, hcs, _, hl, hm2, hz, hx, hcell, hsz⟩
  · simp [Value.cells] at hcs
    obtain ⟨rfl, rfl, rfl⟩ := hcs
    exact ⟨none, 0, 0, [], rfl, ⟨rfl, by omega, fun h => by omega⟩, by omega, fun s hs => by simp at hs⟩
  · simp [Value.cells] at hcs
    obtain ⟨rfl, rfl, rfl⟩ := hcs
    simp only [Prod.mk.injEq] at hx
    obtain ⟨rfl, rfl⟩ := hx
    simp only [if_true] at hz
    have hre : len0 * 16 ≤ 140737488351232 := by
      have h1 := hm ((len0 + (ss.length - len0)) * Tryz.prog.bytesOf 9) (by simp [DataW.weights, Tryz.underlying22, strs, hz, hl])
      have h2 := List.all_eq_true.1 hall _ h1
      rw [bytesStr] at h2
      have h2 := of_decide_eq_true h2; simp only [reachBytes] at h2
      omega
    refine ⟨some a, len0, cap0, ss.take len0, rfl, ⟨by simp [strVals]; omega, by omega, fun hn => ?_⟩, by omega, fun s hs => hsz s (List.mem_of_mem_take hs)⟩
    obtain ⟨b, off, spot⟩ := a
    have hspot : spot = none := by simpa [Addr.add] using World.cell?_spot (hcell 0 (by omega))
    subst hspot
    have hb : b < W.heap.size := by
      have := World.block_lt_of_cell? W _ (hcell 0 (by omega))
      simpa [Addr.add] using this
    refine ⟨b, off, rfl, hb, fun k x hx => ?_⟩
    have hk : k < len0 := by
      have := (List.getElem?_eq_some_iff.1 hx).1
      simp [strVals] at this; omega
    have hc := hcell k (by omega)
    rw [add_plain] at hc
    rw [hc]
    simp only [strVals, List.getElem?_map, List.getElem?_take, hk, if_true] at hx
    obtain ⟨s, hs, rfl⟩ := Option.map_eq_some_iff.1 hx
    simp [List.getD, hs]
end Go.Proofs.YtpfeflhcbcgbfaaGreatDoor
namespace Go.Proofs.YtpfeflhcbcgbfaaGreatDoor
open Go.ChangeShapes Go.WideShapes Go.ChangeAt Go.RowKit
open Go.ChangeMaps (open_string shut_string)

def I64b (x : Int) : Prop := -9223372036854775808 ≤ x ∧ x ≤ 9223372036854775807
def IntsIn (W : World) (v : Value) : Prop := ∃ a n c xs, v = .slice a n c ∧ RowAt W a n (intVals xs) ∧ n * 8 ≤ 140737488355328 ∧ ∀ x ∈ xs, I64b x
theorem cellsIntV : Tryz.prog.cellsOf 3 = 1 := by kernel_rfl
theorem bytesIntV : Tryz.prog.bytesOf 3 = 8 := by kernel_rfl
theorem infoIntV : (Tryz.prog.info? 3).map (fun i => (i.zero, i.size, i.bytes)) = some (some (.int .i64 0), 1, 8) := by kernel_rfl
set_option maxRecDepth 100000 in
theorem open_intsV {H : Type} {enc : TypeId × Value → H} {W : World} {base : Nat} {v : Value} {d : DataW H} {p : List MemPlace} {ws : List Nat}
    (hval : Value.okWide Tryz.prog W .any base 39 v) (h : DataW.Trod enc Tryz.prog W 0 (fun _ => true) true 39 v d p)
    (hm : ∀ x ∈ d.weights Tryz.prog 39, x ∈ ws) (hall : ws.all (· ≤ reachBytes) = true) : IntsIn W v := by
  obtain ⟨a0, len0, cap0, rfl⟩ := okWide_slice Tryz.underlying39 hval
  obtain ⟨fuel, hf⟩ := h
  rcases open_ints Tryz.underlying39 Tryz.underlying3 cellsIntV hf with ⟨hcs, hx⟩ | ⟨a, len, cap, zs, hcs, _, hl, hm2, hz, hx, hcell, hwz⟩
  · simp [Value.cells] at hcs
    obtain ⟨rfl, rfl, rfl⟩ := hcs
    exact ⟨none, 0, 0, [], rfl, ⟨rfl, by omega, fun h => by omega⟩, by omega, fun s hs => by simp at hs⟩
  · simp [Value.cells] at hcs
    obtain ⟨rfl, rfl, rfl⟩ := hcs
    simp only [Prod.mk.injEq] at hx
    obtain ⟨rfl, rfl⟩ := hx
    simp only [if_true] at hz
    have hre : len0 * 8 ≤ 140737488351232 := by
      have h1 := hm ((len0 + (zs.length - len0)) * Tryz.prog.bytesOf 3) (by simp [DataW.weights, Tryz.underlying39, lits, hz, hl])
      have h2 := List.all_eq_true.1 hall _ h1
      rw [bytesIntV] at h2
      have h2 := of_decide_eq_true h2; simp only [reachBytes] at h2
      omega
    refine ⟨some a, len0, cap0, zs.take len0, rfl, ⟨by simp [intVals]; omega, by omega, fun hn => ?_⟩, by omega, fun s hs => bounds_i64 (hwz s (List.mem_of_mem_take hs))⟩
    obtain ⟨b, off, spot⟩ := a
    have hspot : spot = none := by simpa [Addr.add] using World.cell?_spot (hcell 0 (by omega))
    subst hspot
    have hb : b < W.heap.size := by
      have := World.block_lt_of_cell? W _ (hcell 0 (by omega))
      simpa [Addr.add] using this
    refine ⟨b, off, rfl, hb, fun k x hx => ?_⟩
    have hk : k < len0 := by
      have := (List.getElem?_eq_some_iff.1 hx).1
      simp [intVals] at this; omega
    have hc := hcell k (by omega)
    rw [add_plain] at hc
    rw [hc]
    simp only [intVals, List.getElem?_map, List.getElem?_take, hk, if_true] at hx
    obtain ⟨s, hs, rfl⟩ := Option.map_eq_some_iff.1 hx
    simp [List.getD, hs]
set_option maxHeartbeats 1000000 in
theorem toIntS_c (a : Option Addr) (n c : Nat) (xs : List Int) (w : World) (hr : RowAt w a n (intVals xs)) (hlim : n * 8 ≤ 140737488355328) :
    Calls Tryz.prog 46 #[.slice a n c] w fun e w' => ∃ v, e = .returned v ∧ w'.ownsRow w.heap.size 3 1 v n (intVals xs) ∧ Below w.heap.size w w' := by
  obtain ⟨hl, _, hat⟩ := hr
  have HL := hid hl
  have HAT := hid hat
  clear hl hat
  obtain ⟨i, hi, hz, hz1, hz2⟩ := info_parts infoIntV
  go_enter Tryz.func46, Tryz.ntmps46
  go_wp2_with (first | (at_make; refine wpList_make_full _ rfl _ _ 39 rfl w.heap.size 3 i (.int .i64 0) 1 Tryz.underlying39 hi hz hz1 .i64 .i64 _ _ n rfl rfl rfl rfl (by rw [hz2]; omega) (by unfold maxLen; omega) (Nat.le_refl _) ?_; intro w1 hown1 hgr1))
  have hb1 : Below w.heap.size w w1 := (Below.refl _ _).grown hgr1 (Nat.le_refl _) (by intro k h; cases h)
  clear hgr1
  go_loopw [4] (fun i wr => ∃ j : Nat, j ≤ n ∧ i = .int .i64 j ∧ wr.ownsRow w.heap.size 3 1 (.slice (some ⟨w.heap.size, 0, none⟩) n n) n (marked (intVals xs) (madeCells (Value.int .i64 0).cells (n * 1)).toList j) ∧ Below w.heap.size w wr) (fun i _ => n - (intOf i).toNat)
  case atStart => exact ⟨0, by omega, rfl, by rw [marked_zero]; exact hown1, hb1⟩
  case round =>
    obtain ⟨j, hj, rfl, hown, hbel⟩ := hrel
    by_cases hlt : j < n
    · obtain ⟨b1, off1, rfl, hbs, hc1⟩ := HAT.out (by omega)
      clear HAT
      obtain ⟨s, hs⟩ := get_some (l := xs) (n := j) (by have := HL.out; simp [intVals] at this; omega)
      have hcell1 := (hbel.cell (p := ⟨b1, off1 + j, none⟩) hbs).trans (hc1 j _ (intVals_get hs))
      have HS := hid hs
      clear hs hc1
      obtain ⟨u, hu⟩ := get_some (l := marked (intVals xs) (madeCells (Value.int .i64 0).cells (n * 1)).toList j) (n := j) (by rw [hown.1]; omega)
      have hcell : wr.cell? ⟨w.heap.size, j, none⟩ = some u := (hown.cellAt j (by omega)).trans hu
      clear hu
      have hfr := hown.frozenAt j
      go_wp2
      go_roundw
      case rel =>
        have hst := hown.stored j (.int .i64 s)
        rw [marked_step (n := n) (u := .int .i64 s) (by simp [madeCells]) HL.out hlt (intVals_get HS.out)] at hst
        exact ⟨j + 1, by omega, by go_num, hst.1, hbel.grown hst.2 hbel.size (by rintro k ⟨⟩; exact Nat.le_refl _)⟩
      case measure => simp [intOf]; omega
    · obtain rfl : j = n := by omega
      go_wp2
      go_ret
      exact ⟨_, rfl, by rw [← marked_all (xs := (madeCells (Value.int .i64 0).cells (j * 1)).toList) (ms := intVals xs) (by simp [madeCells]) HL.out]; exact hown, hbel⟩
end Go.Proofs.YtpfeflhcbcgbfaaGreatDoor
