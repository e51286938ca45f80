/- Labelled graphs: compared, marked, held; the examples of both functions. No condition. -/
import Derived.Test.YtpfeflhcbcgbfaaDoorRunL
import Derived.Test.YtpfeflhcbcgbfaaDoorNumber
namespace Go.Proofs.YtpfeflhcbcgbfaaDoor
open Go.RowKit

theorem eqLabels_c (x y : Int) (a b : Option Addr) (n c d : Nat) (xs : List Int) (w : World) (hn : n ≤ 1048576) (ha : RowAt w a (n * 3) (intVals xs)) (hb : RowAt w b (n * 3) (intVals xs)) :
    Calls Tryd.prog 8 #[.agg #[.int .i64 x, .int .i64 y, .slice a n c], .agg #[.int .i64 x, .int .i64 y, .slice b n d]] w fun e w' => e = .returned (.bool true) ∧ Below w.heap.size w w' := by
  have HE := hid (fun (W : World) (hW : Below w.heap.size w W) => eqArcS_c a b n c d xs W hn (ha.below hW (Nat.le_refl _)) (hb.below hW (Nat.le_refl _)))
  clear ha hb
  have hB : Below w.heap.size w ((w.alloc (.cells #[.int .i64 x, .int .i64 y, .slice a n c] 29)).alloc (.cells #[.int .i64 x, .int .i64 y, .slice b n d] 29)) := ((Below.refl _ _).alloc (Nat.le_refl _) _).alloc (by simp) _
  go_enter Tryd.func8, Tryd.ntmps8
  go_wp2_with (first | (go_at_call 31; go_must (refine (HE.out _ ?_).mono ?_); exact hB; rintro e w1 ⟨rfl, hb1⟩))
  go_ret
  exact ⟨rfl, hB.trans (hb1.mono hB.size)⟩
/-- What a function returns that hands out a graph with labels. -/
def LabPost (a b : Int) (ok : Bool) (n : Nat) (xs : List Int) (w : World) (e : Ending) (w' : World) : Prop :=
  ∃ g c, e = .returned (.tuple #[.agg #[.int .i64 a, .int .i64 b, .slice g n c], .bool ok]) ∧ w'.ownsRow w.heap.size 53 3 (.slice g n c) n (intVals xs) ∧ Below w.heap.size w w'
theorem lab_of_run {d k : Nat} {w w' : World} {e : Ending} (h : RunPost d k w e w') : LabPost 2 ((k : Int) + 1) true (arcsC d k (k + 1)) (arcsN d k (k + 1)) w e w' := by
  obtain ⟨v, rfl, ho, hb⟩ := h
  obtain ⟨g, c, rfl⟩ : ∃ g c, v = .slice g (arcsC d k (k + 1)) c := by
    rcases ho.2 with ⟨h0, h1⟩ | ⟨g, cap, cur, he, _⟩
    · exact ⟨none, 0, by rw [h0, h1]⟩
    · exact ⟨_, _, he⟩
  exact ⟨g, c, rfl, ho, hb⟩
theorem own_set2 {wr : World} {B e s n b : Nat} {v : Value} {xs : List Value} (h : wr.ownsRow B e s v n xs) (hb : ∀ q, v.ownBlock = some q → q ≠ b) (q : Nat) (y : Value) : (wr.setCell ⟨b, q, none⟩ y).ownsRow B e s v n xs :=
  h.kept (row := some b) ⟨rfl, rfl, rfl, by simp, fun p hq hr => Below.heap_setCell _ _ _ _ (fun e => hr (by rw [show p = b from e]))⟩ (by
    cases hv : v.ownBlock with
    | none => exact .inl rfl
    | some q => exact .inr fun e => hb q hv (by injection e))
theorem owns_rowAt3 {w : World} {base e s : Nat} {a : Option Addr} {n c : Nat} {xs : List Value} (h : w.ownsRow base e s (.slice a n c) n xs) (hlim : n * s ≤ 140737488351232) : RowAt w a (n * s) xs := by
  have hl := h.1
  rcases h.2 with ⟨h1, h0⟩ | ⟨g, cap, cur, h1, hb, hg, hnc, hcm, hcs, htake⟩
  · refine ⟨by simpa using hl, hlim, fun h => by subst h0; simp at h⟩
  · simp only [Value.slice.injEq, true_and] at h1
    obtain ⟨rfl, rfl⟩ := h1
    refine ⟨by simpa using hl, hlim, fun hn => ⟨g, 0, rfl, (Array.getElem?_eq_some_iff.1 hg).1, fun k x hx => ?_⟩⟩
    rw [cell_of_row w g (0 + k) cur e (0, 0) hg]
    rw [← htake, List.getElem?_take] at hx
    split at hx
    · simpa using hx
    · cases hx
end Go.Proofs.YtpfeflhcbcgbfaaDoor
