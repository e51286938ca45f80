/- The examples of a matrix: both functions. Conditions: the tables lie as the program lays them. -/
import Derived.Test.YtpncmmdjkcdemaaGreatDoorParseI
namespace Go.Proofs.YtpncmmdjkcdemaaGreatDoor
open Go.RowKit

def small9 (M : List (List Int)) : Bool := decide (M.length ≤ 9) && M.all fun r => decide (r.length ≤ 9)
theorem small9_facts {M : List (List Int)} (h : small9 M = true) : M.length ≤ 9 ∧ ∀ r ∈ M, r.length ≤ 9 := by
  unfold small9 at h
  rw [Bool.and_eq_true, decide_eq_true_eq, List.all_eq_true] at h
  exact ⟨h.1, fun r hr => by simpa using h.2 r hr⟩
def ExMPost (o : Option (List (List Int))) (w : World) (e : Ending) (w' : World) : Prop :=
  ∃ a c, e = .returned (.tuple #[.slice a (o.getD []).length c, .bool o.isSome]) ∧ TGrid 57 3 w' w.heap.size (.slice a (o.getD []).length c) (o.getD []) ∧ Below w.heap.size w w'
theorem spec_ParseMatrix_ex (t : ByteArray) (o : Option (List (List Int))) (w : World) (hs : t.size ≤ 1048576) (hp : parseMO t = o) (h9 : small9 (o.getD []) = true) :
    Calls Tryz.prog 28 #[.string t] w (ExMPost o w) := by
  refine (spec_ParseMatrix_c t w hs).mono ?_
  intro e w' h
  unfold ParseMPost at h
  obtain ⟨v, rfl, hg, hb⟩ := h
  rw [hp] at hg
  obtain ⟨h1, h2⟩ := small9_facts h9
  obtain ⟨a, c, rfl, _⟩ := grid_tabAt hg (by omega) (fun r hr => Nat.le_trans (h2 r hr) (by omega))
  exact ⟨a, c, by rw [hp], hg, hb⟩
theorem impl_ParseMatrix_ex (t : ByteArray) (M : List (List Int)) (w : World) (hs : t.size ≤ 1000) (hp : okTab t M) (h9 : small9 M = true) (hw : LaidW w) :
    Calls Tryz.prog 27 #[.string t] w (ExMPost (some M) w) := by
  refine (impl_ParseMatrix_ok t M w hs hp hw).mono ?_
  intro e w' h
  unfold MatPost at h
  obtain ⟨v, rfl, hg, hb⟩ := h
  obtain ⟨h1, h2⟩ := small9_facts h9
  obtain ⟨a, c, rfl, _⟩ := grid_tabAt hg (by omega) (fun r hr => Nat.le_trans (h2 r hr) (by omega))
  exact ⟨a, c, rfl, hg, hb⟩
theorem exM_none {n : Int} (h : n < 1 ∨ 8 < n) : exM n = none := by
  unfold exM
  rw [if_neg (by omega), if_neg (by omega), if_neg (by omega), if_neg (by omega), if_neg (by omega), if_neg (by omega), if_neg (by omega), if_neg (by omega)]
set_option maxHeartbeats 2000000 in
theorem spec_ExampleMatrix_c (n : Int) (w : World) :
    Calls Tryz.prog 7 #[.int .i64 n] w (ExMPost (exM n) w) := by
  by_cases h1 : n = 1
  · subst h1
    rw [show exM 1 = some [[1, 1], [1, 0]] from rfl]
    have HP := hid (spec_ParseMatrix_ex ⟨#[49, 44, 49, 47, 49, 44, 48]⟩ (some [[1, 1], [1, 0]]) w (by decide) exP1 (by decide))
    unfold ExMPost at HP ⊢
    go_enter Tryz.func7, Tryz.ntmps7
    go_wp2_with fail
    refine HP.out.mono ?_
    rintro e w1 ⟨a, c, rfl, hg, hb⟩
    have HG := hid hg
    clear hg
    go_wp2
    go_ret2
    exact ⟨a, c, rfl, HG.out, hb⟩
  by_cases h2 : n = 2
  · subst h2
    rw [show exM 2 = some [[2]] from rfl]
    have HP := hid (spec_ParseMatrix_ex ⟨#[50]⟩ (some [[2]]) w (by decide) exP2 (by decide))
    unfold ExMPost at HP ⊢
    go_enter Tryz.func7, Tryz.ntmps7
    go_wp2_with fail
    refine HP.out.mono ?_
    rintro e w1 ⟨a, c, rfl, hg, hb⟩
    have HG := hid hg
    clear hg
    go_wp2
    go_ret2
    exact ⟨a, c, rfl, HG.out, hb⟩
  by_cases h3 : n = 3
  · subst h3
    rw [show exM 3 = some [[1, 1], [1, 1]] from rfl]
    have HP := hid (spec_ParseMatrix_ex ⟨#[49, 44, 49, 47, 49, 44, 49]⟩ (some [[1, 1], [1, 1]]) w (by decide) exP3 (by decide))
    unfold ExMPost at HP ⊢
    go_enter Tryz.func7, Tryz.ntmps7
    go_wp2_with fail
    refine HP.out.mono ?_
    rintro e w1 ⟨a, c, rfl, hg, hb⟩
    have HG := hid hg
    clear hg
    go_wp2
    go_ret2
    exact ⟨a, c, rfl, HG.out, hb⟩
  by_cases h4 : n = 4
  · subst h4
    rw [show exM 4 = some [[0, 1], [1, 0]] from rfl]
    have HP := hid (spec_ParseMatrix_ex ⟨#[48, 44, 49, 47, 49, 44, 48]⟩ (some [[0, 1], [1, 0]]) w (by decide) exP4 (by decide))
    unfold ExMPost at HP ⊢
    go_enter Tryz.func7, Tryz.ntmps7
    go_wp2_with fail
    refine HP.out.mono ?_
    rintro e w1 ⟨a, c, rfl, hg, hb⟩
    have HG := hid hg
    clear hg
    go_wp2
    go_ret2
    exact ⟨a, c, rfl, HG.out, hb⟩
  by_cases h5 : n = 5
  · subst h5
    rw [show exM 5 = some [[1, 2], [1, 0]] from rfl]
    have HP := hid (spec_ParseMatrix_ex ⟨#[49, 44, 50, 47, 49, 44, 48]⟩ (some [[1, 2], [1, 0]]) w (by decide) exP5 (by decide))
    unfold ExMPost at HP ⊢
    go_enter Tryz.func7, Tryz.ntmps7
    go_wp2_with fail
    refine HP.out.mono ?_
    rintro e w1 ⟨a, c, rfl, hg, hb⟩
    have HG := hid hg
    clear hg
    go_wp2
    go_ret2
    exact ⟨a, c, rfl, HG.out, hb⟩
  by_cases h6 : n = 6
  · subst h6
    rw [show exM 6 = some [[0, 1, 0], [0, 0, 1], [1, 1, 0]] from rfl]
    have HP := hid (spec_ParseMatrix_ex ⟨#[48, 44, 49, 44, 48, 47, 48, 44, 48, 44, 49, 47, 49, 44, 49, 44, 48]⟩ (some [[0, 1, 0], [0, 0, 1], [1, 1, 0]]) w (by decide) exP6 (by decide))
    unfold ExMPost at HP ⊢
    go_enter Tryz.func7, Tryz.ntmps7
    go_wp2_with fail
    refine HP.out.mono ?_
    rintro e w1 ⟨a, c, rfl, hg, hb⟩
    have HG := hid hg
    clear hg
    go_wp2
    go_ret2
    exact ⟨a, c, rfl, HG.out, hb⟩
  by_cases h7 : n = 7
  · subst h7
    rw [show exM 7 = some [[1, 0], [1, 1]] from rfl]
    have HP := hid (spec_ParseMatrix_ex ⟨#[49, 44, 48, 47, 49, 44, 49]⟩ (some [[1, 0], [1, 1]]) w (by decide) exP7 (by decide))
    unfold ExMPost at HP ⊢
    go_enter Tryz.func7, Tryz.ntmps7
    go_wp2_with fail
    refine HP.out.mono ?_
    rintro e w1 ⟨a, c, rfl, hg, hb⟩
    have HG := hid hg
    clear hg
    go_wp2
    go_ret2
    exact ⟨a, c, rfl, HG.out, hb⟩
  by_cases h8 : n = 8
  · subst h8
    rw [show exM 8 = some [[1, 1, 0], [0, 1, 1], [1, 0, 1]] from rfl]
    have HP := hid (spec_ParseMatrix_ex ⟨#[49, 44, 49, 44, 48, 47, 48, 44, 49, 44, 49, 47, 49, 44, 48, 44, 49]⟩ (some [[1, 1, 0], [0, 1, 1], [1, 0, 1]]) w (by decide) exP8 (by decide))
    unfold ExMPost at HP ⊢
    go_enter Tryz.func7, Tryz.ntmps7
    go_wp2_with fail
    refine HP.out.mono ?_
    rintro e w1 ⟨a, c, rfl, hg, hb⟩
    have HG := hid hg
    clear hg
    go_wp2
    go_ret2
    exact ⟨a, c, rfl, HG.out, hb⟩
  have e1 : (n == 1) = false := by rw [beq_eq_false_iff_ne]; omega
  have e2 : (n == 2) = false := by rw [beq_eq_false_iff_ne]; omega
  have e3 : (n == 3) = false := by rw [beq_eq_false_iff_ne]; omega
  have e4 : (n == 4) = false := by rw [beq_eq_false_iff_ne]; omega
  have e5 : (n == 5) = false := by rw [beq_eq_false_iff_ne]; omega
  have e6 : (n == 6) = false := by rw [beq_eq_false_iff_ne]; omega
  have e7 : (n == 7) = false := by rw [beq_eq_false_iff_ne]; omega
  have e8 : (n == 8) = false := by rw [beq_eq_false_iff_ne]; omega
  rw [exM_none (by omega)]
  have HP := hid (spec_ParseMatrix_ex ⟨#[]⟩ none w (by decide) exP0 (by decide))
  unfold ExMPost at HP ⊢
  go_enter Tryz.func7, Tryz.ntmps7
  go_wp2_with fail
  refine HP.out.mono ?_
  rintro e w1 ⟨a, c, rfl, hg, hb⟩
  have HG := hid hg
  clear hg
  go_wp2
  go_ret2
  exact ⟨a, c, rfl, HG.out, hb⟩
set_option maxHeartbeats 2000000 in
theorem impl_ExampleMatrix_c (n : Int) (w : World) (hw : LaidW w) :
    Calls Tryz.prog 6 #[.int .i64 n] w (ExMPost (exM n) w) := by
  have hB0 := (Below.refl w.heap.size w).alloc (Nat.le_refl _) (.cells #[.string ⟨#[49, 44, 49, 47, 49, 44, 48]⟩, .string ⟨#[50]⟩, .string ⟨#[49, 44, 49, 47, 49, 44, 49]⟩, .string ⟨#[48, 44, 49, 47, 49, 44, 48]⟩, .string ⟨#[49, 44, 50, 47, 49, 44, 48]⟩, .string ⟨#[48, 44, 49, 44, 48, 47, 48, 44, 48, 44, 49, 47, 49, 44, 49, 44, 48]⟩, .string ⟨#[49, 44, 48, 47, 49, 44, 49]⟩, .string ⟨#[49, 44, 49, 44, 48, 47, 48, 44, 49, 44, 49, 47, 49, 44, 48, 44, 49]⟩] 9)
  have HL := hid (laid_below hw hB0 (Nat.le_refl _))
  have HB0 := hid hB0
  clear hw hB0
  by_cases h1 : n = 1
  · subst h1
    rw [show exM 1 = some [[1, 1], [1, 0]] from rfl]
    have HP := hid (impl_ParseMatrix_ex ⟨#[49, 44, 49, 47, 49, 44, 48]⟩ [[1, 1], [1, 0]] _ (by decide) exI1 (by decide) HL.out)
    unfold ExMPost at HP ⊢
    go_enter Tryz.func6, Tryz.ntmps6
    go_wp2_with fail
    refine HP.out.mono ?_
    rintro e w1 ⟨a, c, rfl, hg, hb⟩
    have HG := hid (hg.base HB0.out.size)
    have hB := bs HB0.out hb
    clear hg
    go_wp2
    go_ret2
    exact ⟨a, c, rfl, HG.out, hB⟩
  by_cases h2 : n = 2
  · subst h2
    rw [show exM 2 = some [[2]] from rfl]
    have HP := hid (impl_ParseMatrix_ex ⟨#[50]⟩ [[2]] _ (by decide) exI2 (by decide) HL.out)
    unfold ExMPost at HP ⊢
    go_enter Tryz.func6, Tryz.ntmps6
    go_wp2_with fail
    refine HP.out.mono ?_
    rintro e w1 ⟨a, c, rfl, hg, hb⟩
    have HG := hid (hg.base HB0.out.size)
    have hB := bs HB0.out hb
    clear hg
    go_wp2
    go_ret2
    exact ⟨a, c, rfl, HG.out, hB⟩
  by_cases h3 : n = 3
  · subst h3
    rw [show exM 3 = some [[1, 1], [1, 1]] from rfl]
    have HP := hid (impl_ParseMatrix_ex ⟨#[49, 44, 49, 47, 49, 44, 49]⟩ [[1, 1], [1, 1]] _ (by decide) exI3 (by decide) HL.out)
    unfold ExMPost at HP ⊢
    go_enter Tryz.func6, Tryz.ntmps6
    go_wp2_with fail
    refine HP.out.mono ?_
    rintro e w1 ⟨a, c, rfl, hg, hb⟩
    have HG := hid (hg.base HB0.out.size)
    have hB := bs HB0.out hb
    clear hg
    go_wp2
    go_ret2
    exact ⟨a, c, rfl, HG.out, hB⟩
  by_cases h4 : n = 4
  · subst h4
    rw [show exM 4 = some [[0, 1], [1, 0]] from rfl]
    have HP := hid (impl_ParseMatrix_ex ⟨#[48, 44, 49, 47, 49, 44, 48]⟩ [[0, 1], [1, 0]] _ (by decide) exI4 (by decide) HL.out)
    unfold ExMPost at HP ⊢
    go_enter Tryz.func6, Tryz.ntmps6
    go_wp2_with fail
    refine HP.out.mono ?_
    rintro e w1 ⟨a, c, rfl, hg, hb⟩
    have HG := hid (hg.base HB0.out.size)
    have hB := bs HB0.out hb
    clear hg
    go_wp2
    go_ret2
    exact ⟨a, c, rfl, HG.out, hB⟩
  by_cases h5 : n = 5
  · subst h5
    rw [show exM 5 = some [[1, 2], [1, 0]] from rfl]
    have HP := hid (impl_ParseMatrix_ex ⟨#[49, 44, 50, 47, 49, 44, 48]⟩ [[1, 2], [1, 0]] _ (by decide) exI5 (by decide) HL.out)
    unfold ExMPost at HP ⊢
    go_enter Tryz.func6, Tryz.ntmps6
    go_wp2_with fail
    refine HP.out.mono ?_
    rintro e w1 ⟨a, c, rfl, hg, hb⟩
    have HG := hid (hg.base HB0.out.size)
    have hB := bs HB0.out hb
    clear hg
    go_wp2
    go_ret2
    exact ⟨a, c, rfl, HG.out, hB⟩
  by_cases h6 : n = 6
  · subst h6
    rw [show exM 6 = some [[0, 1, 0], [0, 0, 1], [1, 1, 0]] from rfl]
    have HP := hid (impl_ParseMatrix_ex ⟨#[48, 44, 49, 44, 48, 47, 48, 44, 48, 44, 49, 47, 49, 44, 49, 44, 48]⟩ [[0, 1, 0], [0, 0, 1], [1, 1, 0]] _ (by decide) exI6 (by decide) HL.out)
    unfold ExMPost at HP ⊢
    go_enter Tryz.func6, Tryz.ntmps6
    go_wp2_with fail
    refine HP.out.mono ?_
    rintro e w1 ⟨a, c, rfl, hg, hb⟩
    have HG := hid (hg.base HB0.out.size)
    have hB := bs HB0.out hb
    clear hg
    go_wp2
    go_ret2
    exact ⟨a, c, rfl, HG.out, hB⟩
  by_cases h7 : n = 7
  · subst h7
    rw [show exM 7 = some [[1, 0], [1, 1]] from rfl]
    have HP := hid (impl_ParseMatrix_ex ⟨#[49, 44, 48, 47, 49, 44, 49]⟩ [[1, 0], [1, 1]] _ (by decide) exI7 (by decide) HL.out)
    unfold ExMPost at HP ⊢
    go_enter Tryz.func6, Tryz.ntmps6
    go_wp2_with fail
    refine HP.out.mono ?_
    rintro e w1 ⟨a, c, rfl, hg, hb⟩
    have HG := hid (hg.base HB0.out.size)
    have hB := bs HB0.out hb
    clear hg
    go_wp2
    go_ret2
    exact ⟨a, c, rfl, HG.out, hB⟩
  by_cases h8 : n = 8
  · subst h8
    rw [show exM 8 = some [[1, 1, 0], [0, 1, 1], [1, 0, 1]] from rfl]
    have HP := hid (impl_ParseMatrix_ex ⟨#[49, 44, 49, 44, 48, 47, 48, 44, 49, 44, 49, 47, 49, 44, 48, 44, 49]⟩ [[1, 1, 0], [0, 1, 1], [1, 0, 1]] _ (by decide) exI8 (by decide) HL.out)
    unfold ExMPost at HP ⊢
    go_enter Tryz.func6, Tryz.ntmps6
    go_wp2_with fail
    refine HP.out.mono ?_
    rintro e w1 ⟨a, c, rfl, hg, hb⟩
    have HG := hid (hg.base HB0.out.size)
    have hB := bs HB0.out hb
    clear hg
    go_wp2
    go_ret2
    exact ⟨a, c, rfl, HG.out, hB⟩
  rw [exM_none (by omega)]
  unfold ExMPost
  rcases (by omega : n < 1 ∨ 8 < n) with hn | hn
  · go_enter Tryz.func6, Tryz.ntmps6
    go_wp2
    go_ret2
    exact ⟨none, 0, rfl, ⟨[], World.ownsRow_nil _ _ _ _, TRows.nil _ _ _⟩, HB0.out⟩
  · have hn1 : ¬ (n < 1) := by omega
    go_enter Tryz.func6, Tryz.ntmps6
    go_wp2
    go_ret2
    exact ⟨none, 0, rfl, ⟨[], World.ownsRow_nil _ _ _ _, TRows.nil _ _ _⟩, HB0.out⟩
end Go.Proofs.YtpncmmdjkcdemaaGreatDoor
