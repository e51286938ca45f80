/- IsMixing of both functions. Conditions: the texts lie in memory. -/
import Derived.Test.YtcfjchaklgjmkaaPrim
import Derived.Test.YtcfjchaklgjmkaaTable
import Derived.Test.YtcfjchaklgjmkaaOpen
namespace Go.Proofs.Ytcfjchaklgjmkaa
open Go.ChangeShapes Go.WideShapes Go.ChangeAt Go.RowKit
open Go.ChangeMaps (open_string shut_string)

theorem ct_tab {T1 T0 : TypeId} {w : World} {base : Nat} {v : Value} {ss : List ByteArray} (h : TGrid T1 T0 w base v (ctOf ss)) : ∃ a c, v = .slice a (ctOf ss).length c ∧ TabAt w a (ctOf ss).length (ctOf ss) := by
  refine grid_tabAt h ?_ ?_
  · unfold ctOf; split
    · rename_i h; have := subst_len h; rw [ct_len]; omega
    · simp
  · intro r hr
    unfold ctOf at hr
    split at hr
    · rename_i h
      have := subst_len h
      simp only [ctAt, List.mem_map, List.mem_range] at hr
      obtain ⟨i, _, rfl⟩ := hr
      rw [ctRow_len]; omega
    · simp at hr
set_option maxHeartbeats 1000000 in
theorem impl_IsMixing_c (a : Option Addr) (n cap : Nat) (ss : List ByteArray) (w : World) (hr : RowAt w a n (strVals ss)) (hs : ∀ t ∈ ss, t.size ≤ maxLen) :
    Calls Try.prog 22 #[.slice a n cap] w fun e w' => e = .returned (.bool (isPrim (ctOf ss))) ∧ Below w.heap.size w w' := by
  go_enter Try.func22, Try.ntmps22
  go_wp2_with fail
  refine (impl_CountTable_c a n cap ss _ hr hs).mono ?_
  rintro e w1 ⟨v, rfl, hg, hb1⟩
  obtain ⟨a1, c1, rfl, ht⟩ := ct_tab hg
  obtain ⟨m, hm⟩ : ∃ m, m = (ctOf ss).length := ⟨_, rfl⟩
  rw [← hm] at ht
  rw [← hm]
  clear hg hm
  go_wp2_with fail
  refine (impl_IsPrimitive_c a1 m c1 _ _ ht).mono ?_
  rintro e w2 ⟨rfl, hb2⟩
  go_wp2
  go_ret
  exact ⟨rfl, bs hb1 hb2⟩
set_option maxHeartbeats 1000000 in
theorem spec_IsMixing_c (a : Option Addr) (n cap : Nat) (ss : List ByteArray) (w : World) (hr : RowAt w a n (strVals ss)) (hs : ∀ t ∈ ss, t.size ≤ maxLen) :
    Calls Try.prog 23 #[.slice a n cap] w fun e w' => e = .returned (.bool (isPrim (ctOf ss))) ∧ Below w.heap.size w w' := by
  go_enter Try.func23, Try.ntmps23
  go_wp2_with fail
  refine (spec_CountTable_c a n cap ss _ hr hs).mono ?_
  rintro e w1 ⟨v, rfl, hg, hb1⟩
  obtain ⟨a1, c1, rfl, ht⟩ := ct_tab hg
  obtain ⟨m, hm⟩ : ∃ m, m = (ctOf ss).length := ⟨_, rfl⟩
  rw [← hm] at ht
  rw [← hm]
  clear hg hm
  go_wp2_with fail
  refine (spec_IsPrimitive_c a1 m c1 _ _ ht).mono ?_
  rintro e w2 ⟨rfl, hb2⟩
  go_wp2
  go_ret
  exact ⟨rfl, bs hb1 hb2⟩
end Go.Proofs.Ytcfjchaklgjmkaa
