/- A slice of ints that came in: opened, copied. No condition. -/
import Derived.Test.YtpfeflhcbcgbfaaDoorProg
import GoSem.ClaimJoined
import Derived.KernelRfl
import Derived.ProofKit
import Derived.SizedLaws
import Derived.OpenShut
import Derived.ChangeOld
import Derived.SliceStrings
import Derived.Lib.SmallJoins
import Derived.Test.YtpfeflhcbcgbfaaDoorNumber
import Derived.Test.YtpfeflhcbcgbfaaDoorRows
namespace Go.Proofs.YtpfeflhcbcgbfaaDoor

def hdr1 : List Char := [104, 97, 114, 110, 101, 115, 115].map Char.ofNat
def hdr2 : List Char := [48, 97, 49, 57, 49, 48, 48, 56, 55, 102, 52, 56, 51, 102, 50, 99, 55, 56, 101, 98, 100, 53, 48, 97, 55, 55, 54, 49, 55, 98, 53, 57, 100, 51, 100, 48, 53, 56, 101, 56, 52, 100, 49, 48, 48, 101, 101, 97, 48, 56, 53, 53, 101, 102, 52, 101, 101, 48, 49, 51, 52, 52, 51, 48].map Char.ofNat
def hdr3 : List Char := [99, 117, 116].map Char.ofNat
def hdr4 : List Char := [97, 116, 32, 108, 111, 111, 112, 46, 101, 120, 97, 109, 112, 108, 101, 47, 103, 48, 51, 49, 48, 51, 47, 108, 97, 119, 115, 46, 70, 110, 69, 120, 97, 99, 116, 68, 101, 115, 99, 114, 105, 98, 101, 76, 97, 98, 101, 108, 115].map Char.ofNat
def blank : Char := Char.ofNat 32
theorem words_one (c : Char) (r w : List Char) (ws : List (List Char)) (hc : c ≠ blank) (h : wordsSigns r = w :: ws) : wordsSigns (c :: r) = (c :: w) :: ws := by
  rw [wordsSigns, h]
  exact hc
theorem words_app : ∀ (w r : List Char), w.all (fun c => !(c == blank)) = true → wordsSigns (w ++ blank :: r) = w :: wordsSigns r
  | [], r, _ => rfl
  | c :: w, r, h => by
    simp only [List.all_cons, Bool.and_eq_true, Bool.not_eq_true', beq_eq_false_iff_ne] at h
    exact words_one _ _ _ _ h.1 (words_app w r h.2)
theorem hdr : Tryd.prog.initOrder = String.ofList (hdr1 ++ blank :: (hdr2 ++ blank :: (hdr3 ++ blank :: hdr4))) := by kernel_rfl
theorem hdrWords : wordsSigns Tryd.prog.initOrder.toList = hdr1 :: hdr2 :: hdr3 :: wordsSigns hdr4 := by
  rw [hdr, String.toList_ofList, words_app _ _ (by kernel_rfl), words_app _ _ (by kernel_rfl), words_app _ _ (by kernel_rfl)]
theorem behind3 (X : List (List Char)) : behindMainWord (hdr1 :: hdr2 :: hdr3 :: X) = hdr3 :: X := by kernel_rfl
theorem hdrBehind : behindMainWord (wordsSigns Tryd.prog.initOrder.toList) = hdr3 :: wordsSigns hdr4 := by rw [hdrWords, behind3]

theorem lifts_gen (P : Program) (c : List Char) (X : List (List Char)) (hb : behindMainWord (wordsSigns P.initOrder.toList) = c :: X)
    (h : (if (stripLifts liftWords (c :: X)).2.head? == some "cut".toList then (stripLifts liftWords (c :: X)).1 else []) = []) : P.headLifts = [] := by
  unfold Program.headLifts
  rw [hb]
  exact h
theorem liftsFinal_gen (P : Program) (c : List Char) (X : List (List Char)) (hb : behindMainWord (wordsSigns P.initOrder.toList) = c :: X) (hl : P.headLifts = [])
    (h : ((c :: X).head? == some "carried".toList && (c :: X).take 3 != ["carried".toList, "gc".toList, "cut".toList]) = false) : P.liftsFinal = false := by
  unfold Program.liftsFinal
  rw [hb, hl]
  simp only [h, Bool.false_or]
  rfl
theorem make_gen (P : Program) (c : List Char) (X : List (List Char)) (hb : behindMainWord (wordsSigns P.initOrder.toList) = c :: X)
    (h1 : (c == "gc".toList || c == "spec".toList) = false) (h2 : (c == "cut".toList || (c == "finals".toList && X.head? == some "cut".toList)) = true) : P.make = some .cut := by
  unfold Program.make
  rw [hb]
  simp only [h1, h2, if_true, Bool.false_eq_true, if_false]
theorem mayEnter_gen (P : Program) (c : List Char) (X : List (List Char)) (hb : behindMainWord (wordsSigns P.initOrder.toList) = c :: X)
    (h : ((stripLifts liftWords (c :: X)).2.head? == some "cut".toList &&
      ((stripLifts liftWords (c :: X)).1.contains "finals" || !P.laysLater) && ((stripLifts liftWords (c :: X)).1.contains "reflectrows" || !P.bearsReflect) &&
      ((stripLifts liftWords (c :: X)).1.contains "reflectrows" || !(stripLifts liftWords (c :: X)).1.contains "leanrows") &&
      P.doorFits (stripLifts liftWords (c :: X)).1) = true) : P.mayEnter = true := by
  unfold Program.mayEnter
  rw [hb]
  simp only [h, Bool.or_true]
theorem strip3 (X : List (List Char)) : stripLifts liftWords (hdr3 :: X) = ([], hdr3 :: X) := by kernel_rfl
theorem isCut : ((hdr3 :: wordsSigns hdr4).head? == some "cut".toList) = true := by
  show ((some hdr3 : Option (List Char)) == some "cut".toList) = true
  kernel_rfl
theorem headHeadLifts : Tryd.prog.headLifts = [] := lifts_gen _ _ _ hdrBehind (by rw [strip3]; exact ite_self _)
theorem headLiftsFinal : Tryd.prog.liftsFinal = false := liftsFinal_gen _ _ _ hdrBehind headHeadLifts (by
  rw [show ((hdr3 :: wordsSigns hdr4).head? == some "carried".toList) = false from by
    show ((some hdr3 : Option (List Char)) == some "carried".toList) = false
    kernel_rfl]
  rfl)
theorem headMake : Tryd.prog.make = some .cut := make_gen _ _ _ hdrBehind (by kernel_rfl) (by
  rw [show (hdr3 == "cut".toList) = true from by kernel_rfl]
  rfl)
theorem noLater : Tryd.prog.laysLater = false := by kernel_rfl
theorem noReflect : Tryd.prog.bearsReflect = false := by kernel_rfl
theorem doorFits0 : Tryd.prog.doorFits [] = true := by kernel_rfl
theorem headMayEnter : Tryd.prog.mayEnter = true := mayEnter_gen _ _ _ hdrBehind (by
  rw [strip3, isCut, noLater, noReflect, doorFits0]
  rfl)
end Go.Proofs.YtpfeflhcbcgbfaaDoor
namespace Go.Proofs.YtpfeflhcbcgbfaaDoor
open Go.ChangeShapes Go.WideShapes Go.ChangeAt Go.RowKit
open Go.ChangeMaps (open_string shut_string)

theorem bs {a b c : World} (h : Below a.heap.size a b) (k : Below b.heap.size b c) : Below a.heap.size a c := h.trans (k.mono h.size)
theorem rowAt_trans {w w' : World} {a : Option Addr} {n : Nat} {xs : List Value} (h : RowAt w a n xs) (hb : Below w.heap.size w w') : RowAt w' a n xs := h.below hb (Nat.le_refl _)
theorem own : ownKnob Tryd.prog.godebug = none := by kernel_rfl
theorem laidOut : laidOutB Tryd.prog = true := by kernel_rfl
theorem cellsStr : Tryd.prog.cellsOf 9 = 1 := by kernel_rfl
theorem bytesStr : Tryd.prog.bytesOf 9 = 16 := by kernel_rfl

/-- A slice of texts that came in. -/
def StrsIn (W : World) (v : Value) : Prop := ∃ a n c ss, v = .slice a n c ∧ RowAt W a n (strVals ss) ∧ n * 16 ≤ 140737488355328 ∧ ∀ s ∈ ss, s.size ≤ maxLen

set_option maxRecDepth 100000 in
theorem open_strs {H : Type} {enc : TypeId × Value → H} {W : World} {base : Nat} {v : Value} {d : DataW H} {p : List MemPlace} {ws : List Nat}
    (hval : Value.okWide Tryd.prog W .any base 42 v) (h : DataW.Trod enc Tryd.prog W 0 (fun _ => true) true 42 v d p)
    (hm : ∀ x ∈ d.weights Tryd.prog 42, x ∈ ws) (hall : ws.all (· ≤ reachBytes) = true) : StrsIn W v := by
  obtain ⟨a0, len0, cap0, rfl⟩ := okWide_slice Tryd.underlying42 hval
  obtain ⟨fuel, hf⟩ := h
  rcases open_strings Tryd.underlying42 Tryd.underlying9 cellsStr hf with ⟨hcs, hx⟩ | ⟨a, len, cap, ss, hcs, _, hl, hm2, hz, hx, hcell, hsz⟩
  · simp [Value.cells] at hcs
    obtain ⟨rfl, rfl, rfl⟩ := hcs
    exact ⟨none, 0, 0, [], rfl, ⟨rfl, by omega, fun h => by omega⟩, by omega, fun s hs => by simp at hs⟩
  · simp [Value.cells] at hcs
    obtain ⟨rfl, rfl, rfl⟩ := hcs
    simp only [Prod.mk.injEq] at hx
    obtain ⟨rfl, rfl⟩ := hx
    simp only [if_true] at hz
    have hre : len0 * 16 ≤ 140737488351232 := by
      have h1 := hm ((len0 + (ss.length - len0)) * Tryd.prog.bytesOf 9) (by simp [DataW.weights, Tryd.underlying42, strs, hz, hl])
      have h2 := List.all_eq_true.1 hall _ h1
      rw [bytesStr] at h2
      have h2 := of_decide_eq_true h2; simp only [reachBytes] at h2
      omega
    refine ⟨some a, len0, cap0, ss.take len0, rfl, ⟨by simp [strVals]; omega, by omega, fun hn => ?_⟩, by omega, fun s hs => hsz s (List.mem_of_mem_take hs)⟩
    obtain ⟨b, off, spot⟩ := a
    have hspot : spot = none := by simpa [Addr.add] using World.cell?_spot (hcell 0 (by omega))
    subst hspot
    have hb : b < W.heap.size := by
      have := World.block_lt_of_cell? W _ (hcell 0 (by omega))
      simpa [Addr.add] using this
    refine ⟨b, off, rfl, hb, fun k x hx => ?_⟩
    have hk : k < len0 := by
      have := (List.getElem?_eq_some_iff.1 hx).1
      simp [strVals] at this; omega
    have hc := hcell k (by omega)
    rw [add_plain] at hc
    rw [hc]
    simp only [strVals, List.getElem?_map, List.getElem?_take, hk, if_true] at hx
    obtain ⟨s, hs, rfl⟩ := Option.map_eq_some_iff.1 hx
    simp [List.getD, hs]
end Go.Proofs.YtpfeflhcbcgbfaaDoor
namespace Go.Proofs.YtpfeflhcbcgbfaaDoor
open Go.ChangeShapes Go.WideShapes Go.ChangeAt Go.RowKit
open Go.ChangeMaps (open_string shut_string)

def I64b (x : Int) : Prop := -9223372036854775808 ≤ x ∧ x ≤ 9223372036854775807
def IntsIn (W : World) (v : Value) : Prop := ∃ a n c xs, v = .slice a n c ∧ RowAt W a n (intVals xs) ∧ n * 8 ≤ 140737488355328 ∧ ∀ x ∈ xs, I64b x
theorem cellsIntV : Tryd.prog.cellsOf 3 = 1 := by kernel_rfl
theorem bytesIntV : Tryd.prog.bytesOf 3 = 8 := by kernel_rfl
theorem infoIntV : (Tryd.prog.info? 3).map (fun i => (i.zero, i.size, i.bytes)) = some (some (.int .i64 0), 1, 8) := by kernel_rfl
set_option maxRecDepth 100000 in
theorem open_intsV {H : Type} {enc : TypeId × Value → H} {W : World} {base : Nat} {v : Value} {d : DataW H} {p : List MemPlace} {ws : List Nat}
    (hval : Value.okWide Tryd.prog W .any base 41 v) (h : DataW.Trod enc Tryd.prog W 0 (fun _ => true) true 41 v d p)
    (hm : ∀ x ∈ d.weights Tryd.prog 41, x ∈ ws) (hall : ws.all (· ≤ reachBytes) = true) : IntsIn W v := by
  obtain ⟨a0, len0, cap0, rfl⟩ := okWide_slice Tryd.underlying41 hval
  obtain ⟨fuel, hf⟩ := h
  rcases open_ints Tryd.underlying41 Tryd.underlying3 cellsIntV hf with ⟨hcs, hx⟩ | ⟨a, len, cap, zs, hcs, _, hl, hm2, hz, hx, hcell, hwz⟩
  · simp [Value.cells] at hcs
    obtain ⟨rfl, rfl, rfl⟩ := hcs
    exact ⟨none, 0, 0, [], rfl, ⟨rfl, by omega, fun h => by omega⟩, by omega, fun s hs => by simp at hs⟩
  · simp [Value.cells] at hcs
    obtain ⟨rfl, rfl, rfl⟩ := hcs
    simp only [Prod.mk.injEq] at hx
    obtain ⟨rfl, rfl⟩ := hx
    simp only [if_true] at hz
    have hre : len0 * 8 ≤ 140737488351232 := by
      have h1 := hm ((len0 + (zs.length - len0)) * Tryd.prog.bytesOf 3) (by simp [DataW.weights, Tryd.underlying41, lits, hz, hl])
      have h2 := List.all_eq_true.1 hall _ h1
      rw [bytesIntV] at h2
      have h2 := of_decide_eq_true h2; simp only [reachBytes] at h2
      omega
    refine ⟨some a, len0, cap0, zs.take len0, rfl, ⟨by simp [intVals]; omega, by omega, fun hn => ?_⟩, by omega, fun s hs => bounds_i64 (hwz s (List.mem_of_mem_take hs))⟩
    obtain ⟨b, off, spot⟩ := a
    have hspot : spot = none := by simpa [Addr.add] using World.cell?_spot (hcell 0 (by omega))
    subst hspot
    have hb : b < W.heap.size := by
      have := World.block_lt_of_cell? W _ (hcell 0 (by omega))
      simpa [Addr.add] using this
    refine ⟨b, off, rfl, hb, fun k x hx => ?_⟩
    have hk : k < len0 := by
      have := (List.getElem?_eq_some_iff.1 hx).1
      simp [intVals] at this; omega
    have hc := hcell k (by omega)
    rw [add_plain] at hc
    rw [hc]
    simp only [intVals, List.getElem?_map, List.getElem?_take, hk, if_true] at hx
    obtain ⟨s, hs, rfl⟩ := Option.map_eq_some_iff.1 hx
    simp [List.getD, hs]
end Go.Proofs.YtpfeflhcbcgbfaaDoor
