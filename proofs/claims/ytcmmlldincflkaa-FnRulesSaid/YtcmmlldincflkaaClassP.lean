/- The class of a rule's number: plain facts, the making of a rule's code. No condition. -/
import Derived.Sort.OwnSortedInts
import Derived.Test.YtcmmlldincflkaaIns
import Derived.Test.YtcmmlldincflkaaShelf
import Derived.Test.YtcmmlldincflkaaHasInt
import Derived.Test.YtcmmlldincflkaaAppN
import Derived.Test.YtcmmlldincflkaaExchS
import Derived.Test.YtcmmlldincflkaaMirrorS
import Derived.Test.YtcmmlldincflkaaNumber3
import Derived.Test.YtcmmlldincflkaaNumber2
import Derived.Test.YtcmmlldincflkaaAddI
import Derived.Test.YtcmmlldincflkaaOpen
namespace Go.Proofs.Ytcmmlldincflkaa
open Go.RowKit Go.Sort Go.Lib

theorem sortI_c (B g cap n : Nat) (zs : List Int) (w : World) (hn : zs.length = n) (hown : w.ownsRow B 3 1 (.slice (some ⟨g, 0, none⟩) n cap) n (intVals zs)) (hlen : n ≤ 1000000) :
    Calls Try.prog 40 #[.slice (some ⟨g, 0, none⟩) n cap] w fun e w' => e = .returned (.tuple #[]) ∧ w'.ownsRow B 3 1 (.slice (some ⟨g, 0, none⟩) n cap) n (intVals (zs.mergeSort fun x y => decide (x ≤ y))) ∧ w.grownBy w' (some g) := by
  subst hn
  obtain ⟨cur, hb, hg, h1, h2, h3, h4⟩ := owns_block hown
  refine (Try.slices_Sort_int g 0 cap zs w (holds_of_blockI hg h4) (Array.getElem?_eq_some_iff.1 hg).1 (by omega)).mono ?_
  rintro e w' ⟨rfl, q, os, rfl⟩
  exact ⟨rfl, ownsRow_sortedI (by simp) hb hg h1 h2 h3, grownBy_sortedI _⟩
theorem compactI_c (B g cap n : Nat) (zs : List Int) (w : World) (hn : zs.length = n) (hown : w.ownsRow B 3 1 (.slice (some ⟨g, 0, none⟩) n cap) n (intVals zs)) (hlen : n ≤ 1000000) :
    Calls Try.prog 41 #[.slice (some ⟨g, 0, none⟩) n cap] w fun e w' => e = .returned (.slice (some ⟨g, 0, none⟩) (compact zs).length cap) ∧ w'.ownsRow B 3 1 (.slice (some ⟨g, 0, none⟩) (compact zs).length cap) (compact zs).length (intVals (compact zs)) ∧ w.grownBy w' (some g) := by
  subst hn
  obtain ⟨cur, hb, hg, h1, h2, h3, h4⟩ := owns_block hown
  have hle := compact_length_le zs
  refine (Try.slices_Compact_int g 0 cap zs w (holds_of_blockI hg h4) (by omega) h1).mono ?_
  rintro e w' ⟨rfl, q, rfl⟩
  have ho := ownsRow_sortedI (n := q) (os := #[]) (ss := zs) (ts := compact zs ++ List.replicate (zs.length - (compact zs).length) 0) (by simp; omega) hb hg h1 h2 h3
  have hgr := grownBy_sortedI (w := w) (g := g) (n := q) (os := #[]) (compact zs ++ List.replicate (zs.length - (compact zs).length) 0).toArray
  rw [grow_empty] at ho hgr
  rw [List.map_append] at ho
  exact ⟨rfl, owns_cut ho (by simp [intVals]), hgr⟩
end Go.Proofs.Ytcmmlldincflkaa
namespace Go.Proofs.Ytcmmlldincflkaa
open Go.RowKit

set_option maxHeartbeats 1000000 in
theorem impl_RuleCode_c (n : Nat) (hn : n < 256) (w : World) :
    Calls Try.prog 6 #[.int .i64 n] w fun e w' => e = .returned (.tuple #[.agg #[.int .i64 2, .int .i64 3, .string ⟨(ruleOut n 8).toArray⟩], .bool true]) ∧ Below w.heap.size w w' := by
  have h1 : (0 : Int) ≤ n := by omega
  have h2 : (n : Int) ≤ 255 := by omega
  go_enter Try.func6, Try.ntmps6
  go_wp2_with fail
  refine (impl_ruleCode_c n hn _).mono ?_
  rintro e w1 ⟨rfl, hb⟩
  obtain ⟨⟨hc0, hc1, hc2⟩, ⟨hf0, hf1, hf2⟩, hz⟩ := box3 hb
  go_wp2
  refine bodyPost_ret (v := .tuple #[.agg #[.int .i64 2, .int .i64 3, .string ⟨(ruleOut n 8).toArray⟩], .bool true]) (by simp [results, Try.results6, go_sem, hc0, hc1, hc2]) rfl ⟨rfl, ?_⟩
  exact ((((Below.refl _ _).alloc (Nat.le_refl _) _).trans (hb.mono (by simp))).setCell (by simp) _).setCell (by simp) _ |>.setCell (by simp) _

set_option maxHeartbeats 1000000 in
theorem impl_RuleCode_no (n : Int) (hn : n < 0 ∨ 255 < n) (w : World) :
    Calls Try.prog 6 #[.int .i64 n] w fun e w' => e = .returned (.tuple #[.agg #[.int .i64 0, .int .i64 0, .string ⟨#[]⟩], .bool false]) ∧ Below w.heap.size w w' := by
  rcases hn with hn | hn
  all_goals
    go_enter Try.func6, Try.ntmps6
    go_wp2
    refine bodyPost_ret (v := .tuple #[.agg #[.int .i64 0, .int .i64 0, .string ⟨#[]⟩], .bool false]) (by simp [results, Try.results6, go_sem]) rfl ⟨rfl, ?_⟩
    exact ((Below.refl _ _).alloc (Nat.le_refl _) _)

set_option maxHeartbeats 1000000 in
theorem spec_RuleCode_no (n : Int) (hn : n < 0 ∨ 255 < n) (w : World) :
    Calls Try.prog 7 #[.int .i64 n] w fun e w' => e = .returned (.tuple #[.agg #[.int .i64 0, .int .i64 0, .string ⟨#[]⟩], .bool false]) ∧ Below w.heap.size w w' := by
  have hin := inB_f (x := n) (lo := 0) (hi := 255) hn
  clear hn
  go_enter Try.func7, Try.ntmps7
  go_wp2_with (go_at_call 29; refine (l1In_c _ _ _ _).mono ?_; rintro e w' ⟨rfl, rfl⟩)
  refine bodyPost_ret (v := .tuple #[.agg #[.int .i64 0, .int .i64 0, .string ⟨#[]⟩], .bool false]) (by simp [results, Try.results7, go_sem]) rfl ⟨rfl, ?_⟩
  exact ((Below.refl _ _).alloc (Nat.le_refl _) _)
def o0 (n : Nat) : ByteArray := ⟨(ruleOut n 8).toArray⟩
def o1 (n : Nat) : ByteArray := mirOut (o0 n) 2 3
def o2 (n : Nat) : ByteArray := exOut (o0 n) 3
def o3 (n : Nat) : ByteArray := mirOut (o2 n) 2 3
theorem codes_all : ∀ n : Nat, n < 256 → (isCode 2 3 (o0 n) && isCode 2 3 (o1 n) && isCode 2 3 (o2 n) && isCode 2 3 (o3 n) && decide (numOf (o0 n).data.toList 8 = n)) = true := by decide +kernel
theorem codes_ok {n : Nat} (hn : n < 256) : isCode 2 3 (o0 n) = true ∧ isCode 2 3 (o1 n) = true ∧ isCode 2 3 (o2 n) = true ∧ isCode 2 3 (o3 n) = true ∧ numOf (o0 n).data.toList 8 = n := by
  have h := codes_all n hn
  simp only [Bool.and_eq_true, decide_eq_true_eq] at h
  exact ⟨h.1.1.1.1, h.1.1.1.2, h.1.1.2, h.1.2, h.2⟩
/-- The numbers of a rule and its turned ones. -/
def nums (n : Nat) : List Int := [(n : Int), (numOf (o1 n).data.toList 8 : Int), (numOf (o2 n).data.toList 8 : Int), (numOf (o3 n).data.toList 8 : Int)]
def classOf (n : Nat) : List Int := distinctI (nums n)
theorem ins_four (a b c d : Int) : ins ltI (ins ltI (ins ltI (ins ltI [] a) b) c) d = distinctI [a, b, c, d] := insAll_distinctI [a, b, c, d] [a, b, c, d] fun _ => Iff.rfl
theorem class_ins (n : Nat) : ins ltI (ins ltI (ins ltI (ins ltI [] (n : Int)) (numOf (o1 n).data.toList 8 : Int)) (numOf (o2 n).data.toList 8 : Int)) (numOf (o3 n).data.toList 8 : Int) = classOf n :=
  ins_four _ _ _ _
theorem class_len (n : Nat) : 1 ≤ (classOf n).length ∧ (classOf n).length ≤ 4 := by
  constructor
  · have h := ((distinctI_facts (nums n)).2 (n : Int)).2 (by simp [nums])
    exact List.length_pos_of_mem h
  · exact nodup_le _ (nums n) (distinctI_facts _).1 fun x hx => ((distinctI_facts (nums n)).2 x).1 hx
/-- A code of two letters and the width 3 in memory. -/
def Box3 (w : World) (b : Nat) (o : ByteArray) : Prop := w.cell? ⟨b, 0, none⟩ = some (.int .i64 2) ∧ w.cell? ⟨b, 1, none⟩ = some (.int .i64 3) ∧ w.cell? ⟨b, 2, none⟩ = some (.string o) ∧ b < w.heap.size
theorem Box3.below {B : Nat} {w w' : World} {b : Nat} {o : ByteArray} (h : Box3 w b o) (hb : Below B w w') (hB : b < B) : Box3 w' b o :=
  ⟨(hb.cell (p := ⟨b, 0, none⟩) hB).trans h.1, (hb.cell (p := ⟨b, 1, none⟩) hB).trans h.2.1, (hb.cell (p := ⟨b, 2, none⟩) hB).trans h.2.2.1, Nat.lt_of_lt_of_le h.2.2.2 hb.size⟩
theorem Box3.bel {w w' : World} {b : Nat} {o : ByteArray} (h : Box3 w b o) (hb : Below w.heap.size w w') : Box3 w' b o := h.below hb h.2.2.2
theorem Box3.grown {w w' : World} {b g : Nat} {o : ByteArray} (h : Box3 w b o) (hg : w.grownBy w' (some g)) (hne : b ≠ g) : Box3 w' b o :=
  ⟨hg.cell h.1 (fun e => hne (by injection e)), hg.cell h.2.1 (fun e => hne (by injection e)), hg.cell h.2.2.1 (fun e => hne (by injection e)), Nat.lt_of_lt_of_le h.2.2.2 hg.size⟩
/-- A code laid in a new block, and what comes of the memory. -/
theorem stored3 {w w2 : World} {o : ByteArray} {T : TypeId} (h : Below (w.alloc (.cells #[.int .i64 2, .int .i64 3, .string o] T)).heap.size (w.alloc (.cells #[.int .i64 2, .int .i64 3, .string o] T)) w2) :
    Box3 w2 w.heap.size o ∧ Below w.heap.size w w2 := by
  obtain ⟨⟨h0, h1, h2⟩, _, hs⟩ := box3 h
  exact ⟨⟨h0, h1, h2, hs⟩, ((Below.refl _ _).alloc (Nat.le_refl _) _).trans (h.mono (by simp))⟩
end Go.Proofs.Ytcmmlldincflkaa
