/- A code that came in, and what the laws do with it. No condition. -/
import Derived.Test.YtomeinlaiidmpaaOpen
import Derived.Test.YtomeinlaiidmpaaRule
namespace Go.Proofs.Ytomeinlaiidmpaa
open Go.ChangeShapes Go.WideShapes Go.ChangeAt Go.RowKit
open Go.ChangeMaps (open_string shut_string)

/-- A code that came in. -/
def CodeIn (v : Value) : Prop := ∃ k n o, v = .agg #[.int .i64 k, .int .i64 n, .string o] ∧ o.size ≤ maxLen

theorem cellsLawCode : Try.prog.cellsOf 49 = 3 := by kernel_rfl
set_option maxRecDepth 100000 in
theorem open_code {H : Type} {enc : TypeId × Value → H} {W : World} {base : Nat} {v : Value} {d : DataW H} {p : List MemPlace} {ws : List Nat}
    (hval : Value.okWide Try.prog W .any base 49 v) (h : DataW.Trod enc Try.prog W 0 (fun _ => true) true 49 v d p)
    (_hm : ∀ x ∈ d.weights Try.prog 49, x ∈ ws) (_hall : ws.all (· ≤ reachBytes) = true) : CodeIn v := by
  obtain ⟨c0, c1, c2, y0, y1, y2, m, rfl, rfl, rfl, hy0, hy1, hy2⟩ := Go.Joins.open_agg3 Try.underlying49 (by kernel_rfl) cellsLawCode hval h
  obtain ⟨a0, e0, _, _⟩ := DataW.trod_int Try.underlying3 hy0
  obtain ⟨a1, e1, _, _⟩ := DataW.trod_int Try.underlying3 hy1
  obtain ⟨a2, e2, _, w2⟩ := DataW.trod_string Try.underlying9 hy2
  simp at e0 e1 e2
  subst e0 e1 e2
  exact ⟨a0, a1, a2, rfl, w2⟩

set_option maxHeartbeats 1000000 in
theorem szCode_c (k n : Int) (o : ByteArray) (L : Nat) (w : World) (hL : L ≤ 1048576) (ho : o.size ≤ maxLen) :
    Calls Try.prog 60 #[.agg #[.int .i64 k, .int .i64 n, .string o], .int .i64 L] w fun e w' => e = .returned (.int .i64 (if L < o.size then -1 else (L : Int) - o.size)) ∧ Below w.heap.size w w' := by
  unfold maxLen at ho
  by_cases h : L < o.size
  · go_enter Try.func60, Try.ntmps60
    go_wp2
    go_ret
    exact ⟨ret_int (by simp [h]), (Below.refl _ _).alloc (Nat.le_refl _) _⟩
  · go_enter Try.func60, Try.ntmps60
    go_wp2
    go_ret
    exact ⟨ret_int (by simp [h]), (Below.refl _ _).alloc (Nat.le_refl _) _⟩

set_option maxHeartbeats 1000000 in
theorem toCode_c (k n : Int) (o : ByteArray) (w : World) :
    Calls Try.prog 64 #[.agg #[.int .i64 k, .int .i64 n, .string o]] w fun e w' => e = .returned (.agg #[.int .i64 k, .int .i64 n, .string o]) ∧ Below w.heap.size w w' := by
  go_enter Try.func64, Try.ntmps64
  go_wp2
  refine bodyPost_ret (v := .agg #[.int .i64 k, .int .i64 n, .string o]) (by simp [results, Try.results64, go_sem]) rfl ⟨rfl, ?_⟩
  exact (((Below.refl _ _).alloc (Nat.le_refl _) _).alloc (by simp) _).alloc (by simp; omega) _
end Go.Proofs.Ytomeinlaiidmpaa
