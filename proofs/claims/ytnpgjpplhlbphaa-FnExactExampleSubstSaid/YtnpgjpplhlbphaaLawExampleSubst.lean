/- The law FnExactExampleSubst returns true for every number. No condition. -/
import Derived.Test.YtnpgjpplhlbphaaOpen
namespace Go.Proofs.Ytnpgjpplhlbphaa
open Go.ChangeShapes Go.WideShapes Go.ChangeAt Go.RowKit

def tB (l : List UInt8) : ByteArray := ⟨l.toArray⟩
/-- The words of an example of a substitution. -/
def exSub (n : Int) : List ByteArray :=
  if n = 1 then [⟨#[97, 98]⟩, ⟨#[98, 97]⟩] else if n = 2 then [⟨#[97, 98]⟩, ⟨#[97]⟩] else if n = 3 then [⟨#[97, 98]⟩, ⟨#[97, 99]⟩, ⟨#[97]⟩] else if n = 4 then [⟨#[97, 98, 99]⟩, ⟨#[97, 99]⟩, ⟨#[98]⟩] else []
def exOk (n : Int) : Bool := decide (1 ≤ n ∧ n ≤ 4)

theorem owns_lit {w : World} {base e : Nat} (cs : Array Value) (xs : List Value) (h : cs.toList = xs) (hb : base ≤ w.heap.size) (hm : cs.size ≤ maxLen) :
    (w.alloc (.cells cs e)).ownsRow base e 1 (.slice (some ⟨w.heap.size, 0, none⟩) cs.size cs.size) xs.length xs := by
  subst h
  have := World.ownsRow_lit (base := base) (e := e) (size := 1) w cs cs.size hb hm (by simp)
  simpa using this

/-- What a function returns that hands out an example: the words, in new memory, and whether there is one. -/
def ExPost (n : Int) (w : World) (e : Ending) (w' : World) : Prop :=
  ∃ v, e = .returned (.tuple #[v, .bool (exOk n)]) ∧ w'.ownsRow w.heap.size 9 1 v (strVals (exSub n)).length (strVals (exSub n)) ∧ Below w.heap.size w w'


set_option maxHeartbeats 1000000 in
theorem spec_ExampleSubst_c (n : Int) (w : World) : Calls Try.prog 14 #[.int .i64 n] w (ExPost n w) := by
  by_cases h1 : n = 1
  · subst h1
    go_enter Try.func14, Try.ntmps14
    go_wp2
    go_ret2
    exact ⟨_, rfl, owns_lit #[_, _] _ rfl (Nat.le_refl _) (by unfold maxLen; simp), (Below.refl _ _).alloc (Nat.le_refl _) _⟩
  by_cases h2 : n = 2
  · subst h2
    go_enter Try.func14, Try.ntmps14
    go_wp2
    go_ret2
    exact ⟨_, rfl, owns_lit #[_, _] _ rfl (Nat.le_refl _) (by unfold maxLen; simp), (Below.refl _ _).alloc (Nat.le_refl _) _⟩
  by_cases h3 : n = 3
  · subst h3
    go_enter Try.func14, Try.ntmps14
    go_wp2
    go_ret2
    exact ⟨_, rfl, owns_lit #[_, _, _] _ rfl (Nat.le_refl _) (by unfold maxLen; simp), (Below.refl _ _).alloc (Nat.le_refl _) _⟩
  by_cases h4 : n = 4
  · subst h4
    go_enter Try.func14, Try.ntmps14
    go_wp2
    go_ret2
    exact ⟨_, rfl, owns_lit #[_, _, _] _ rfl (Nat.le_refl _) (by unfold maxLen; simp), (Below.refl _ _).alloc (Nat.le_refl _) _⟩
  · have he : exSub n = [] := by simp [exSub, h1, h2, h3, h4]
    have ho : exOk n = false := by simp [exOk]; omega
    have HE := hid he
    have HO := hid ho
    clear he ho
    have g1 : (n == 1) = false := by simp [h1]
    have g2 : (n == 2) = false := by simp [h2]
    have g3 : (n == 3) = false := by simp [h3]
    have g4 : (n == 4) = false := by simp [h4]
    clear h1 h2 h3 h4
    go_enter Try.func14, Try.ntmps14
    go_wp2
    go_ret2
    unfold ExPost
    rw [HE.out, HO.out]
    exact ⟨_, rfl, owns_lit #[] _ rfl (Nat.le_refl _) (by unfold maxLen; simp), (Below.refl _ _).alloc (Nat.le_refl _) _⟩

set_option maxHeartbeats 1000000 in
theorem impl_ExampleSubst_c (n : Int) (w : World) : Calls Try.prog 15 #[.int .i64 n] w (ExPost n w) := by
  by_cases h1 : n = 1
  · subst h1
    go_enter Try.func15, Try.ntmps15
    go_wp2
    go_ret2
    exact ⟨_, rfl, owns_lit #[_, _] _ rfl (Nat.le_refl _) (by unfold maxLen; simp), (Below.refl _ _).alloc (Nat.le_refl _) _⟩
  by_cases h2 : n = 2
  · subst h2
    go_enter Try.func15, Try.ntmps15
    go_wp2
    go_ret2
    exact ⟨_, rfl, owns_lit #[_, _] _ rfl (Nat.le_refl _) (by unfold maxLen; simp), (Below.refl _ _).alloc (Nat.le_refl _) _⟩
  by_cases h3 : n = 3
  · subst h3
    go_enter Try.func15, Try.ntmps15
    go_wp2
    go_ret2
    exact ⟨_, rfl, owns_lit #[_, _, _] _ rfl (Nat.le_refl _) (by unfold maxLen; simp), (Below.refl _ _).alloc (Nat.le_refl _) _⟩
  by_cases h4 : n = 4
  · subst h4
    go_enter Try.func15, Try.ntmps15
    go_wp2
    go_ret2
    exact ⟨_, rfl, owns_lit #[_, _, _] _ rfl (Nat.le_refl _) (by unfold maxLen; simp), (Below.refl _ _).alloc (Nat.le_refl _) _⟩
  · have he : exSub n = [] := by simp [exSub, h1, h2, h3, h4]
    have ho : exOk n = false := by simp [exOk]; omega
    have HE := hid he
    have HO := hid ho
    clear he ho
    have g1 : (n == 1) = false := by simp [h1]
    have g2 : (n == 2) = false := by simp [h2]
    have g3 : (n == 3) = false := by simp [h3]
    have g4 : (n == 4) = false := by simp [h4]
    clear h1 h2 h3 h4
    go_enter Try.func15, Try.ntmps15
    go_wp2
    go_ret2
    unfold ExPost
    rw [HE.out, HO.out]
    exact ⟨_, rfl, World.ownsRow_nil _ _ _ _, Below.refl _ _⟩

set_option maxHeartbeats 1000000 in
theorem walk_FnExactExampleSubst (W : World) (n : Int) (_h : (Lit.int .i64 n).wf = true) :
    Calls Try.prog 5 #[.int .i64 n] W fun e W' => e = .returned (.bool true) ∧ Below W.heap.size W W' := by
  obtain ⟨m, hm⟩ : ∃ m, m = (strVals (exSub n)).length := ⟨_, rfl⟩
  have hm3 : m ≤ 3 := by subst hm; unfold exSub strVals; split <;> (try split) <;> (try split) <;> (try split) <;> simp
  have HM := hid hm
  clear hm
  go_enter Try.func5, Try.ntmps5
  go_wp2_with fail
  refine (spec_ExampleSubst_c n _).mono ?_
  rintro e w1 ⟨v1, rfl, ho1, hb1⟩
  rw [← HM.out] at ho1
  obtain ⟨a1, c1, rfl, hr1⟩ := owns_rowAt ho1 (by omega)
  go_wp2_with fail
  refine (impl_ExampleSubst_c n _).mono ?_
  rintro e w2 ⟨v2, rfl, ho2, hb2⟩
  rw [← HM.out] at ho2
  obtain ⟨a2, c2, rfl, hr2⟩ := owns_rowAt ho2 (by omega)
  go_wp2_with fail
  refine (eqStringS_c a2 a1 m c2 c1 (exSub n) _ hr2 (hr1.below hb2 (Nat.le_refl _))).mono ?_
  rintro e w3 ⟨rfl, hb3⟩
  have ho3 := owns_below ho2 hb3
  go_wp2_with fail
  refine (markStringS_c _ _ m 1 _ _ ho3 (by omega) (by omega)).mono ?_
  rintro e w4 ⟨rfl, ho4, hg4⟩
  have hb4 : Below w1.heap.size w3 w4 := (Below.refl _ _).grown hg4 (bs hb2 hb3).size (fun k hk => (ho3.lt k hk).1)
  obtain ⟨a4, c4, hv4, hr4⟩ := owns_rowAt ho4 (by omega)
  simp only [Value.slice.injEq, true_and] at hv4
  obtain ⟨rfl, rfl⟩ := hv4
  go_wp2_with fail
  refine (heldStringS_c a2 m c2 1 _ hr4 (by omega)).mono ?_
  rintro e w5 ⟨rfl, hb5⟩
  go_wp2_with fail
  refine (impl_ExampleSubst_c n _).mono ?_
  rintro e w6 ⟨v6, rfl, ho6, hb6⟩
  rw [← HM.out] at ho6
  obtain ⟨a6, c6, rfl, hr6⟩ := owns_rowAt ho6 (by omega)
  have hC : Below w1.heap.size w1 w6 := bs (bs ((bs hb2 hb3).trans hb4) hb5) hb6
  go_wp2_with fail
  refine (eqStringS_c a6 a1 m c6 c1 (exSub n) _ hr6 (hr1.below hC (Nat.le_refl _))).mono ?_
  rintro e w7 ⟨rfl, hb7⟩
  have hr7 := hr4.below (bs (bs hb5 hb6) hb7) (Nat.le_refl _)
  go_wp2_with fail
  refine (heldStringS_c a2 m c2 1 _ hr7 (by omega)).mono ?_
  rintro e w8 ⟨rfl, hb8⟩
  go_wp2
  go_ret
  exact ⟨rfl, hb1.trans ((bs (bs hC hb7) hb8).mono hb1.size)⟩

set_option maxRecDepth 100000 in
theorem lifted_FnExactExampleSubst (os : Os) (started : os.Started) (H : Type) (enc : TypeId × Value → H) :
    ReturnsInHanded {} Try.checked os 5 .any (Rows.fnExactExampleSubstSpec.pre6 enc Try.prog Try.f5 Rows.fnExactExampleSubstRow.domain false) (Rows.fnExactExampleSubstSpec.post enc Try.prog Try.f5 false true false false) := by
  refine returnsInHanded_of_change_sized (C := Try.checked) own started (by kernel_rfl) Try.func5
    (ChangeSpec.witness6 (enc := enc) (C := Try.checked) false ⟨#[], #[.int .i64 0], []⟩ 8 (by kernel_rfl) (by kernel_rfl) (by kernel_rfl) (by kernel_rfl)) ?_
  intro W base args ds gs before hval0 hW hcnd hsz0 _
  have hsz : (DataW.weightsEach Try.prog (Try.f5.params.toList ++ Rows.fnExactExampleSubstSpec.plain.varTypes Try.prog) (ds ++ gs)).all (· ≤ reachBytes) = true := hsz0
  clear hsz0
  have hval : ∀ (j : Nat) t v, Try.f5.params[j]? = some t → args[j]? = some v → Value.okWide Try.prog W .any base t v := hval0
  have hW' := hW
  obtain ⟨p, q, hA0, hV, rfl, hfz, hnd⟩ := hW
  have hA : DataW.TrodAll enc Try.prog W 0 (fun _ => true) true Try.f5.params.toList args.toList ds p := hA0
  rw [Try.params5] at hA hval hsz
  obtain ⟨v0, vs0, d0, ds0, p0, q0, hargs, rfl, rfl, h0, r0⟩ := trodAll_cons hA
  obtain ⟨rfl, rfl, rfl⟩ := trodAll_nil r0
  obtain rfl : args = #[v0] := by cases args; simp_all
  obtain ⟨rfl, rfl⟩ := trodVars_none hV
  have k0 := h0
  have lt0 : ∀ x ∈ p0, x.block < W.heap.size := by obtain ⟨m, hm⟩ := k0; exact DataW.trod_lt m _ _ _ hm
  obtain ⟨a0, rfl, _, _, w0⟩ := open_int Try.underlying3 (hval 0 3 v0 rfl rfl) h0
  clear hA0 hval0
  refine (walk_FnExactExampleSubst W a0 w0).mono fun e W' ⟨he, bel⟩ => ?_
  subst he
  exact ⟨_, rfl, _, _, _, [], _, [], hW', trodAll_mk1 (shut_bool Try.underlying4 _), (trodAll_cons_mk (Below.trod laidOut (by kernel_rfl) (of_decide_eq_true (by kernel_rfl)) k0 bel lt0) trodAll_mk0), rfl, bel.frame _, fun h => by cases h⟩

theorem closed_FnExactExampleSubst : joinedFacts Try.prog 5 Try.f5 Rows.fnExactExampleSubstSpec Rows.fnExactExampleSubstRow = true := by
  unfold joinedFacts
  rw [headMayEnter, headLiftsFinal, headMake]
  kernel_rfl
/-- The law returns true for every input, and its arguments read as before: the given statement. -/
theorem fnExactExampleSubst_holds : Rows.FnExactExampleSubstSaid :=
  OpenClaim.holds_of_wide 5 Try.f5 rfl rfl rfl rfl rfl rfl rfl ⟨rfl, rfl, rfl, rfl, rfl⟩ rfl rfl rfl rfl rfl (by as_aux_lemma => kernel_rfl) Try.func5 closed_FnExactExampleSubst
    (by as_aux_lemma => exact of_decide_eq_true (by kernel_rfl)) (by unfold Func.isWrapper; first | (rw [if_pos (by decide +kernel)]; kernel_rfl) | (rw [if_neg (by decide +kernel)]; exact ⟨rfl, rfl⟩))
    (fun os started H enc _ => lifted_FnExactExampleSubst os started H enc)
#print axioms fnExactExampleSubst_holds

end Go.Proofs.Ytnpgjpplhlbphaa
