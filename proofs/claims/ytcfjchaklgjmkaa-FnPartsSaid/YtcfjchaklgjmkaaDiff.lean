/- Words sorted and without what comes again, in the call's own list: impl.different. Conditions: a list of the call's own. -/
import Derived.Test.YtcfjchaklgjmkaaDistinct
import Derived.Test.YtcfjchaklgjmkaaShelf
import Derived.Test.YtcfjchaklgjmkaaStr
import Derived.Test.YtcfjchaklgjmkaaAppN
import Derived.Sort.OwnSorted
namespace Go.Proofs.Ytcfjchaklgjmkaa
open Go.RowKit Go.Sort Go.Lib

theorem sortS_c (B g cap n : Nat) (ss : List (List UInt8)) (w : World) (hn : ss.length = n) (hown : w.ownsRow B 9 1 (.slice (some ⟨g, 0, none⟩) n cap) n (ss.map encStr)) (hlen : n ≤ 1000000) :
    Calls Try.prog 103 #[.slice (some ⟨g, 0, none⟩) n cap] w fun e w' => e = .returned (.tuple #[]) ∧ w'.ownsRow B 9 1 (.slice (some ⟨g, 0, none⟩) n cap) n ((ss.mergeSort fun x y => decide (x ≤ y)).map encStr) ∧ w.grownBy w' (some g) := by
  subst hn
  obtain ⟨cur, hb, hg, h1, h2, h3, h4⟩ := owns_block hown
  refine (Try.slices_Sort_string g 0 cap ss w (holds_of_block hg h4) (Array.getElem?_eq_some_iff.1 hg).1 (by omega)).mono ?_
  rintro e w' ⟨rfl, q, os, rfl⟩
  exact ⟨rfl, ownsRow_sorted (by simp) hb hg h1 h2 h3, grownBy_sorted _⟩
theorem compactS_c (B g cap n : Nat) (ss : List (List UInt8)) (w : World) (hn : ss.length = n) (hown : w.ownsRow B 9 1 (.slice (some ⟨g, 0, none⟩) n cap) n (ss.map encStr)) (hlen : n ≤ 1000000) :
    Calls Try.prog 104 #[.slice (some ⟨g, 0, none⟩) n cap] w fun e w' => e = .returned (.slice (some ⟨g, 0, none⟩) (compact ss).length cap) ∧ w'.ownsRow B 9 1 (.slice (some ⟨g, 0, none⟩) (compact ss).length cap) (compact ss).length ((compact ss).map encStr) ∧ w.grownBy w' (some g) := by
  subst hn
  obtain ⟨cur, hb, hg, h1, h2, h3, h4⟩ := owns_block hown
  have hle := compact_length_le ss
  refine (Try.slices_Compact_string g 0 cap ss w (holds_of_block hg h4) (by omega) h1).mono ?_
  rintro e w' ⟨rfl, q, rfl⟩
  have ho := ownsRow_sorted (n := q) (os := #[]) (ss := ss) (ts := compact ss ++ List.replicate (ss.length - (compact ss).length) []) (by simp; omega) hb hg h1 h2 h3
  have hgr := grownBy_sorted (w := w) (g := g) (n := q) (os := #[]) (compact ss ++ List.replicate (ss.length - (compact ss).length) []).toArray
  rw [grow_empty] at ho hgr
  rw [List.map_append] at ho
  exact ⟨rfl, owns_cut ho (by simp), hgr⟩
def DiffPost (B g cap : Nat) (ss : List (List UInt8)) (w : World) (e : Ending) (w' : World) : Prop :=
  e = .returned (.slice (some ⟨g, 0, none⟩) (distinct ss).length cap) ∧ w'.ownsRow B 9 1 (.slice (some ⟨g, 0, none⟩) (distinct ss).length cap) (distinct ss).length ((distinct ss).map encStr) ∧ Below B w w'
set_option maxHeartbeats 1000000 in
theorem different_c (B g cap n : Nat) (ss : List (List UInt8)) (w : World) (hn : ss.length = n) (hown : w.ownsRow B 9 1 (.slice (some ⟨g, 0, none⟩) n cap) n (ss.map encStr)) (hB : B ≤ w.heap.size) (hlen : n ≤ 1000000) :
    Calls Try.prog 86 #[.slice (some ⟨g, 0, none⟩) n cap] w (DiffPost B g cap ss w) := by
  have HS := hid (sortS_c B g cap n ss w hn hown hlen)
  obtain ⟨ts, hts⟩ : ∃ ts, ts = ss.mergeSort fun x y => decide (x ≤ y) := ⟨_, rfl⟩
  have htl : ts.length = n := by rw [hts]; simpa using hn
  rw [← hts] at HS
  have hgb : B ≤ g := (owns_block hown).choose_spec.1
  obtain ⟨us, hus⟩ : ∃ us, us = compact ts := ⟨_, rfl⟩
  have HD := hid (show distinct ss = us by rw [hus, hts]; rfl)
  unfold DiffPost
  rw [HD.out]
  have HC := hid (fun w h => compactS_c B g cap n ts w htl h hlen)
  rw [← hus] at HC
  obtain ⟨c, hc⟩ : ∃ c, c = us.length := ⟨_, rfl⟩
  rw [← hc] at HC
  rw [← hc]
  clear hown hts htl hus hc hn
  go_enter Try.func86, Try.ntmps86
  go_wp2_with fail
  refine HS.out.mono ?_
  rintro e w1 ⟨rfl, ho1, hg1⟩
  go_wp2_with fail
  refine (HC.out _ ho1).mono ?_
  rintro e w2 ⟨rfl, ho2, hg2⟩
  have hb1 : Below B w w1 := (Below.refl _ _).grown hg1 hB (fun k hk => by cases hk; exact hgb)
  have hb2 := hb1.grown hg2 (Nat.le_trans hB hb1.size) (fun k hk => by cases hk; exact hgb)
  go_wp2
  go_ret
  exact ⟨rfl, ho2, hb2⟩
end Go.Proofs.Ytcfjchaklgjmkaa
