/- The class of a rule's number: both functions. No condition. -/
import Derived.Sort.OwnSortedInts
import Derived.Deep.RegionHeld3
import Derived.Test.YtcmmlldincflkaaDoorIns
import Derived.Test.YtcmmlldincflkaaDoorAppN
import Derived.Test.YtcmmlldincflkaaDoorLaw
import Derived.Test.YtcmmlldincflkaaDoorSrc
import Derived.Test.YtcmmlldincflkaaDoorShelf
import Derived.Test.YtcmmlldincflkaaDoorTail
import Derived.Test.YtcmmlldincflkaaDoorNumber3
import Derived.Test.YtcmmlldincflkaaDoorNumber2
import Derived.Test.YtcmmlldincflkaaDoorOpen
namespace Go.Proofs.YtcmmlldincflkaaDoor
open Go.RowKit

theorem infoIntA : (Tryd.prog.info? 3).map (fun i => (i.zero, i.size, i.bytes)) = some (some (.int .i64 0), 1, 8) := by kernel_rfl
theorem intVals_one (xs : List Int) : ∀ u ∈ intVals xs, u.oneCell' = true := by
  intro u hu
  obtain ⟨x, _, rfl⟩ := List.mem_map.1 hu
  rfl
theorem owns_nil (w : World) (e : Nat) : (w.alloc (.cells #[] e)).ownsRow w.heap.size e 1 (.slice (some ⟨w.heap.size, 0, none⟩) 0 0) 0 [] :=
  ⟨rfl, Or.inr ⟨w.heap.size, 0, #[], rfl, Nat.le_refl _, by show (w.heap.push _)[w.heap.size]? = _; simp, Nat.le_refl _, by unfold maxLen; omega, rfl, rfl⟩⟩
def AddPost (B g : Nat) (xs : List Int) (x : Int) (w : World) (e : Ending) (w' : World) : Prop :=
  ∃ g' c', e = .returned (.slice (some ⟨g', 0, none⟩) (ins ltI xs x).length c') ∧ w'.ownsRow B 3 1 (.slice (some ⟨g', 0, none⟩) (ins ltI xs x).length c') (ins ltI xs x).length (intVals (ins ltI xs x)) ∧ w.grownBy w' (some g) ∧ (g' = g ∨ w.heap.size ≤ g')
end Go.Proofs.YtcmmlldincflkaaDoor
namespace Go.Proofs.YtcmmlldincflkaaDoor
open Go.RowKit

/-- Codes of two letters. -/
def isCode2 (k n : Int) (o : ByteArray) : Bool := isCode k n o && !(k == 3)
theorem code2_facts {k n : Int} {o : ByteArray} (h : isCode2 k n o = true) : ∃ nn : Nat, k = 2 ∧ n = nn ∧ (1 ≤ nn ∧ nn ≤ 4) ∧ 2 ^ nn ≤ 27 ∧ o.size = 2 ^ nn ∧ lets 2 o.data.toList = true ∧ isCode 2 nn o = true := by
  unfold isCode2 at h
  rw [Bool.and_eq_true] at h
  obtain ⟨h1, h2⟩ := h
  obtain ⟨kk, nn, rfl, rfl, hk, hn, hp, ho, hl⟩ := code_facts h1
  have h3 : kk = 2 := by simp at h2; omega
  subst h3
  exact ⟨nn, rfl, rfl, hn, hp, ho, hl, h1⟩
def exC (k n : Int) (o : ByteArray) : Value := codeR (isCode2 k n o) k n (exOut o n.toNat)
end Go.Proofs.YtcmmlldincflkaaDoor
namespace Go.Proofs.YtcmmlldincflkaaDoor
open Go.RowKit Go.Sort Go.Lib

end Go.Proofs.YtcmmlldincflkaaDoor
namespace Go.Proofs.YtcmmlldincflkaaDoor
open Go.RowKit

end Go.Proofs.YtcmmlldincflkaaDoor
namespace Go.Proofs.YtcmmlldincflkaaDoor
open Go.RowKit

end Go.Proofs.YtcmmlldincflkaaDoor
namespace Go.Proofs.YtcmmlldincflkaaDoor
open Go.RowKit

def o0 (n : Nat) : ByteArray := ⟨(ruleOut n 8).toArray⟩
def o1 (n : Nat) : ByteArray := mirOut (o0 n) 2 3
def o2 (n : Nat) : ByteArray := exOut (o0 n) 3
def o3 (n : Nat) : ByteArray := mirOut (o2 n) 2 3
theorem codes_all : ∀ n : Nat, n < 256 → (isCode 2 3 (o0 n) && isCode 2 3 (o1 n) && isCode 2 3 (o2 n) && isCode 2 3 (o3 n) && decide (numOf (o0 n).data.toList 8 = n)) = true := by decide +kernel
theorem codes_ok {n : Nat} (hn : n < 256) : isCode 2 3 (o0 n) = true ∧ isCode 2 3 (o1 n) = true ∧ isCode 2 3 (o2 n) = true ∧ isCode 2 3 (o3 n) = true ∧ numOf (o0 n).data.toList 8 = n := by
  have h := codes_all n hn
  simp only [Bool.and_eq_true, decide_eq_true_eq] at h
  exact ⟨h.1.1.1.1, h.1.1.1.2, h.1.1.2, h.1.2, h.2⟩
/-- The numbers of a rule and its turned ones. -/
def nums (n : Nat) : List Int := [(n : Int), (numOf (o1 n).data.toList 8 : Int), (numOf (o2 n).data.toList 8 : Int), (numOf (o3 n).data.toList 8 : Int)]
def classOf (n : Nat) : List Int := distinctI (nums n)
theorem ins_four (a b c d : Int) : ins ltI (ins ltI (ins ltI (ins ltI [] a) b) c) d = distinctI [a, b, c, d] := insAll_distinctI [a, b, c, d] [a, b, c, d] fun _ => Iff.rfl
theorem class_ins (n : Nat) : ins ltI (ins ltI (ins ltI (ins ltI [] (n : Int)) (numOf (o1 n).data.toList 8 : Int)) (numOf (o2 n).data.toList 8 : Int)) (numOf (o3 n).data.toList 8 : Int) = classOf n :=
  ins_four _ _ _ _
theorem class_len (n : Nat) : 1 ≤ (classOf n).length ∧ (classOf n).length ≤ 4 := by
  constructor
  · have h := ((distinctI_facts (nums n)).2 (n : Int)).2 (by simp [nums])
    exact List.length_pos_of_mem h
  · exact nodup_le _ (nums n) (distinctI_facts _).1 fun x hx => ((distinctI_facts (nums n)).2 x).1 hx
/-- A code of two letters and the width 3 in memory. -/
def Box3 (w : World) (b : Nat) (o : ByteArray) : Prop := w.cell? ⟨b, 0, none⟩ = some (.int .i64 2) ∧ w.cell? ⟨b, 1, none⟩ = some (.int .i64 3) ∧ w.cell? ⟨b, 2, none⟩ = some (.string o) ∧ b < w.heap.size
theorem Box3.below {B : Nat} {w w' : World} {b : Nat} {o : ByteArray} (h : Box3 w b o) (hb : Below B w w') (hB : b < B) : Box3 w' b o :=
  ⟨(hb.cell (p := ⟨b, 0, none⟩) hB).trans h.1, (hb.cell (p := ⟨b, 1, none⟩) hB).trans h.2.1, (hb.cell (p := ⟨b, 2, none⟩) hB).trans h.2.2.1, Nat.lt_of_lt_of_le h.2.2.2 hb.size⟩
theorem Box3.bel {w w' : World} {b : Nat} {o : ByteArray} (h : Box3 w b o) (hb : Below w.heap.size w w') : Box3 w' b o := h.below hb h.2.2.2
theorem Box3.grown {w w' : World} {b g : Nat} {o : ByteArray} (h : Box3 w b o) (hg : w.grownBy w' (some g)) (hne : b ≠ g) : Box3 w' b o :=
  ⟨hg.cell h.1 (fun e => hne (by injection e)), hg.cell h.2.1 (fun e => hne (by injection e)), hg.cell h.2.2.1 (fun e => hne (by injection e)), Nat.lt_of_lt_of_le h.2.2.2 hg.size⟩
/-- A code laid in a new block, and what comes of the memory. -/
theorem stored3 {w w2 : World} {o : ByteArray} {T : TypeId} (h : Below (w.alloc (.cells #[.int .i64 2, .int .i64 3, .string o] T)).heap.size (w.alloc (.cells #[.int .i64 2, .int .i64 3, .string o] T)) w2) :
    Box3 w2 w.heap.size o ∧ Below w.heap.size w w2 := by
  obtain ⟨⟨h0, h1, h2⟩, _, hs⟩ := box3 h
  exact ⟨⟨h0, h1, h2, hs⟩, ((Below.refl _ _).alloc (Nat.le_refl _) _).trans (h.mono (by simp))⟩
end Go.Proofs.YtcmmlldincflkaaDoor
namespace Go.Proofs.YtcmmlldincflkaaDoor
open Go.RowKit

theorem flat7 {a b c d e f g : Prop} (h : (a ∧ b ∧ c) ∧ (d ∧ e ∧ f) ∧ g) : a ∧ b ∧ c ∧ d ∧ e ∧ f ∧ g := ⟨h.1.1, h.1.2.1, h.1.2.2, h.2.1.1, h.2.1.2.1, h.2.1.2.2, h.2.2⟩
/-- A text of 8 letters of two. -/
def P8 : Type := { p : ByteArray // p.size = 8 ∧ lets 2 p.data.toList = true }
theorem mir8 {o : ByteArray} (h : o.size = 8 ∧ lets 2 o.data.toList = true) : (mirOut o 2 3).size = 8 ∧ lets 2 (mirOut o 2 3).data.toList = true := by
  refine ⟨by show (outB (mirB o 2 3) (2 ^ 3)).toArray.size = 8; simp [outB_len], ?_⟩
  show lets 2 (outB (mirB o 2 3) (2 ^ 3)) = true
  unfold lets
  rw [List.all_eq_true]
  intro c hc
  obtain ⟨i, _, rfl⟩ := List.mem_map.1 hc
  have hb := idx_bd (k := 2) (l := (wAt 2 3 i).reverse) (lets_rev (wAt_lets (k := 2) (by omega) 3 i)) (by omega)
  rw [List.length_reverse, wAt_len] at hb
  have hg := give2 (o := o) (q := idxOf 2 (wAt 2 3 i).reverse) h.2 (by rw [h.1]; exact hb)
  unfold mirB
  rcases hg with hg | hg <;> rw [hg] <;> decide
def mirP (p : P8) : P8 := ⟨mirOut p.1 2 3, mir8 p.2⟩
def numP (p : P8) : Int := (numOf p.1.data.toList 8 : Int)
def ClassPost (n : Nat) (w : World) (e : Ending) (w' : World) : Prop :=
  ∃ g c, e = .returned (.slice (some ⟨g, 0, none⟩) (classOf n).length c) ∧ w'.ownsRow w.heap.size 3 1 (.slice (some ⟨g, 0, none⟩) (classOf n).length c) (classOf n).length (intVals (classOf n)) ∧ Below w.heap.size w w'
theorem code_size {o : ByteArray} (h : isCode 2 3 o = true) : o.size ≤ maxLen := by rw [(code8 h).1]; unfold maxLen; omega
def NoClass (w : World) (e : Ending) (w' : World) : Prop := ∃ v, e = .returned v ∧ w'.ownsRow w.heap.size 3 1 v 0 [] ∧ Below w.heap.size w w'
end Go.Proofs.YtcmmlldincflkaaDoor
