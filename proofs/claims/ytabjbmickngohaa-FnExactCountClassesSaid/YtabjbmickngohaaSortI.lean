/- Numbers sorted and without what comes again, in the call's own list: slices.Sort, slices.Compact. Conditions: a list of the call's own. -/
import Derived.Test.YtabjbmickngohaaIns
import Derived.Test.YtabjbmickngohaaShelf
import Derived.Test.YtabjbmickngohaaLaw
import Derived.Test.YtabjbmickngohaaAppN
import Derived.Sort.OwnSortedInts
namespace Go.Proofs.Ytabjbmickngohaa
open Go.RowKit Go.Sort Go.Lib

theorem sortI_c (B g cap n : Nat) (zs : List Int) (w : World) (hn : zs.length = n) (hown : w.ownsRow B 3 1 (.slice (some ⟨g, 0, none⟩) n cap) n (intVals zs)) (hlen : n ≤ 1000000) :
    Calls Try.prog 47 #[.slice (some ⟨g, 0, none⟩) n cap] w fun e w' => e = .returned (.tuple #[]) ∧ w'.ownsRow B 3 1 (.slice (some ⟨g, 0, none⟩) n cap) n (intVals (zs.mergeSort fun x y => decide (x ≤ y))) ∧ w.grownBy w' (some g) := by
  subst hn
  obtain ⟨cur, hb, hg, h1, h2, h3, h4⟩ := owns_block hown
  refine (Try.slices_Sort_int g 0 cap zs w (holds_of_blockI hg h4) (Array.getElem?_eq_some_iff.1 hg).1 (by omega)).mono ?_
  rintro e w' ⟨rfl, q, os, rfl⟩
  exact ⟨rfl, ownsRow_sortedI (by simp) hb hg h1 h2 h3, grownBy_sortedI _⟩
theorem compactI_c (B g cap n : Nat) (zs : List Int) (w : World) (hn : zs.length = n) (hown : w.ownsRow B 3 1 (.slice (some ⟨g, 0, none⟩) n cap) n (intVals zs)) (hlen : n ≤ 1000000) :
    Calls Try.prog 48 #[.slice (some ⟨g, 0, none⟩) n cap] w fun e w' => e = .returned (.slice (some ⟨g, 0, none⟩) (compact zs).length cap) ∧ w'.ownsRow B 3 1 (.slice (some ⟨g, 0, none⟩) (compact zs).length cap) (compact zs).length (intVals (compact zs)) ∧ w.grownBy w' (some g) := by
  subst hn
  obtain ⟨cur, hb, hg, h1, h2, h3, h4⟩ := owns_block hown
  have hle := compact_length_le zs
  refine (Try.slices_Compact_int g 0 cap zs w (holds_of_blockI hg h4) (by omega) h1).mono ?_
  rintro e w' ⟨rfl, q, rfl⟩
  have ho := ownsRow_sortedI (n := q) (os := #[]) (ss := zs) (ts := compact zs ++ List.replicate (zs.length - (compact zs).length) 0) (by simp; omega) hb hg h1 h2 h3
  have hgr := grownBy_sortedI (w := w) (g := g) (n := q) (os := #[]) (compact zs ++ List.replicate (zs.length - (compact zs).length) 0).toArray
  rw [grow_empty] at ho hgr
  rw [List.map_append] at ho
  exact ⟨rfl, owns_cut ho (by simp [intVals]), hgr⟩
end Go.Proofs.Ytabjbmickngohaa
