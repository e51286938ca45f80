/- A number put into an ascending list of the call's own, once (spec.l32Add). Conditions: the list is owned. -/
import Derived.Test.YtcfjchaklgjmkaaIns
import Derived.Test.YtcfjchaklgjmkaaAppN
import Derived.Test.YtcfjchaklgjmkaaLaw
namespace Go.Proofs.Ytcfjchaklgjmkaa
open Go.RowKit

theorem infoIntA : (Try.prog.info? 3).map (fun i => (i.zero, i.size, i.bytes)) = some (some (.int .i64 0), 1, 8) := by kernel_rfl
theorem intVals_one (xs : List Int) : ∀ u ∈ intVals xs, u.oneCell' = true := by
  intro u hu
  obtain ⟨x, _, rfl⟩ := List.mem_map.1 hu
  rfl
theorem owns_nil (w : World) (e : Nat) : (w.alloc (.cells #[] e)).ownsRow w.heap.size e 1 (.slice (some ⟨w.heap.size, 0, none⟩) 0 0) 0 [] :=
  ⟨rfl, Or.inr ⟨w.heap.size, 0, #[], rfl, Nat.le_refl _, by show (w.heap.push _)[w.heap.size]? = _; simp, Nat.le_refl _, by unfold maxLen; omega, rfl, rfl⟩⟩
def AddPost (B g : Nat) (xs : List Int) (x : Int) (w : World) (e : Ending) (w' : World) : Prop :=
  ∃ g' c', e = .returned (.slice (some ⟨g', 0, none⟩) (ins ltI xs x).length c') ∧ w'.ownsRow B 3 1 (.slice (some ⟨g', 0, none⟩) (ins ltI xs x).length c') (ins ltI xs x).length (intVals (ins ltI xs x)) ∧ w.grownBy w' (some g) ∧ (g' = g ∨ w.heap.size ≤ g')
