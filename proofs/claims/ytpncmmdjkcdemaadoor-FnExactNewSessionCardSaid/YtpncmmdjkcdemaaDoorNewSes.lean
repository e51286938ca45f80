/- A new session: both functions. Conditions: the tables lie as the program lays them. -/
import Derived.Test.YtpncmmdjkcdemaaDoorNewS
namespace Go.Proofs.YtpncmmdjkcdemaaDoor
open Go.RowKit

/-- What both leave. -/
def NewPost (w : World) (e : Ending) (w' : World) : Prop :=
  ∃ a1 c1 a2 c2 vs B, w.heap.size ≤ B ∧ e = .returned (.agg (sesA a1 c1 a2 c2)) ∧ w'.ownsRow w.heap.size 48 1 (.slice a1 2 c1) 2 vs ∧ TRows 3 w' w.heap.size vs sesM ∧ (∀ x ∈ Value.slice a1 2 c1 :: vs, ∀ q, x.ownBlock = some q → q < B) ∧ OffRow w' B a2 1 (strVals sesS) ∧ Below w.heap.size w w'
set_option maxHeartbeats 2000000 in
theorem spec_NewSession_c (w : World) : Calls Tryd.prog 16 #[] w (NewPost w) := by
  have HB0 := hid ((Below.refl w.heap.size w).alloc (Nat.le_refl _) (.cells #[.slice none 0 0, .int .i64 0, .slice none 0 0, .int .i64 0, .int .i64 0, .string ⟨#[]⟩] 38))
  have HM := hid (spec_ExampleMatrix_c 1 (w.alloc (.cells #[.slice none 0 0, .int .i64 0, .slice none 0 0, .int .i64 0, .int .i64 0, .string ⟨#[]⟩] 38)))
  rw [show exM 1 = some sesM from rfl] at HM
  unfold ExMPost at HM
  go_enter Tryd.func16, Tryd.ntmps16
  go_wp2_with fail
  refine HM.out.mono ?_
  rintro e w1 ⟨a1, c1, rfl, hg1, hb1⟩
  obtain ⟨vs, hv1, ht1⟩ := hg1
  have HV1 := hid (show w1.ownsRow (w.heap.size + 1) 48 1 (.slice a1 2 c1) 2 vs from owns_base hv1 (by simp))
  have HT1 := hid (show TRows 3 w1 (w.heap.size + 1) vs sesM from ht1.base (by simp))
  have HB1 := hid hb1
  have HS := hid (spec_ExampleShift_c 1 w1)
  rw [show exS 1 = some (2, sesS) from rfl] at HS
  unfold ShO ShOwn at HS
  clear hv1 ht1 hb1 HM
  go_wp2_with fail
  refine HS.out.mono ?_
  rintro e w2 ⟨a2, c2, rfl, ho2, hb2⟩
  have HO2 := hid (show OffRow w2 w1.heap.size a2 1 (strVals sesS) from ho2)
  have HV2 := hid (owns_below HV1.out hb2)
  have HT2 := hid (HT1.out.below hb2)
  have HB2 := hid (bs HB1.out hb2)
  have hw1 : w.heap.size < w1.heap.size := by have := HB1.out.size; simp at this; omega
  have HLT := hid (show ∀ x ∈ Value.slice a1 2 c1 :: vs, ∀ q, x.ownBlock = some q → q < w1.heap.size by
    intro x hx q hq
    rcases List.mem_cons.1 hx with e | hx
    · subst e; exact (HV1.out.lt q hq).2
    · exact HT1.out.lt x hx q hq)
  have hw12 : w1.heap.size ≤ w2.heap.size := hb2.size
  clear ho2 hb2 HS
  have HPC := hid (spec_ParseCode_ok (w2.alloc (.cells #[.int .i64 2, .slice a2 1 c2] 24)))
  go_wp2_with fail
  refine HPC.out.mono ?_
  rintro e w3 ⟨rfl, hb3⟩
  obtain ⟨p0, p1, _, _, hzS, hB23⟩ := sh_box hb3
  have HV3 := hid (owns_below HV2.out hB23)
  have HT3 := hid (HT2.out.below hB23)
  have HO3 := hid (HO2.out.below hB23)
  obtain ⟨⟨q0, q1, q2, q3, q4, q5⟩, hfR, hzR, hBR⟩ := ses_box (bs HB2.out hB23)
  clear hb3 HPC hB23
  have f0 := hfR 0
  have f1 := hfR 1
  have f2 := hfR 2
  have f3 := hfR 3
  have f4 := hfR 4
  have f5 := hfR 5
  have HBR := hid hBR
  clear hfR hBR
  go_wp2
  refine bodyPost_ret (v := .agg (sesA a1 c1 a2 c2)) (by simp [results, Tryd.results16, go_sem, sesA, show sesM.length = 2 from rfl, show sesS.length = 1 from rfl, q0, q1, q2, q3, q4, q5, hzR]) rfl ⟨a1, c1, a2, c2, vs, w1.heap.size, by omega, rfl, ?_, ?_, HLT.out, ?_, ?_⟩
  · exact owns_base (owns_below (own_setS (own_setS (own_setS (own_setS (own_setS (own_setS HV3.out (by omega) _ _) (by omega) _ _) (by omega) _ _) (by omega) _ _) (by omega) _ _) (by omega) _ _) ((Below.refl _ _).alloc (Nat.le_refl _) _)) (by omega)
  · exact ((((((((HT3.out.setB (by omega) _ _).setB (by omega) _ _).setB (by omega) _ _).setB (by omega) _ _).setB (by omega) _ _).setB (by omega) _ _)).below ((Below.refl _ _).alloc (Nat.le_refl _) _)).base (by omega)
  · exact (((((((HO3.out.setB (by omega) _ _).setB (by omega) _ _).setB (by omega) _ _).setB (by omega) _ _).setB (by omega) _ _).setB (by omega) _ _)).below ((Below.refl _ _).alloc (Nat.le_refl _) _)
  · exact ((((((HBR.out.setCell (by simp) _).setCell (by simp) _).setCell (by simp) _).setCell (by simp) _).setCell (by simp) _).setCell (by simp) _).alloc (by simp; omega) _
set_option maxHeartbeats 2000000 in
theorem impl_NewSession_c (w : World) (hw : LaidW w) : Calls Tryd.prog 17 #[] w (NewPost w) := by
  have HB0 := hid ((Below.refl w.heap.size w).alloc (Nat.le_refl _) (.cells #[.slice none 0 0, .int .i64 0, .slice none 0 0, .int .i64 0, .int .i64 0, .string ⟨#[]⟩] 38))
  have HM := hid (impl_ExampleMatrix_c 1 (w.alloc (.cells #[.slice none 0 0, .int .i64 0, .slice none 0 0, .int .i64 0, .int .i64 0, .string ⟨#[]⟩] 38)) (laid_below hw HB0.out (Nat.le_refl _)))
  rw [show exM 1 = some sesM from rfl] at HM
  unfold ExMPost at HM
  go_enter Tryd.func17, Tryd.ntmps17
  go_wp2_with fail
  refine HM.out.mono ?_
  rintro e w1 ⟨a1, c1, rfl, hg1, hb1⟩
  obtain ⟨vs, hv1, ht1⟩ := hg1
  have HV1 := hid (show w1.ownsRow (w.heap.size + 1) 48 1 (.slice a1 2 c1) 2 vs from owns_base hv1 (by simp))
  have HT1 := hid (show TRows 3 w1 (w.heap.size + 1) vs sesM from ht1.base (by simp))
  have HB1 := hid hb1
  have HS := hid (impl_ExampleShift_c 1 w1 (laid_below hw (bs HB0.out HB1.out) (Nat.le_refl _)))
  rw [show exS 1 = some (2, sesS) from rfl] at HS
  unfold ShO ShOwn at HS
  clear hv1 ht1 hb1 HM
  go_wp2_with fail
  refine HS.out.mono ?_
  rintro e w2 ⟨a2, c2, rfl, ho2, hb2⟩
  have HO2 := hid (show OffRow w2 w1.heap.size a2 1 (strVals sesS) from ho2)
  have HV2 := hid (owns_below HV1.out hb2)
  have HT2 := hid (HT1.out.below hb2)
  have HB2 := hid (bs HB1.out hb2)
  have hw1 : w.heap.size < w1.heap.size := by have := HB1.out.size; simp at this; omega
  have HLT := hid (show ∀ x ∈ Value.slice a1 2 c1 :: vs, ∀ q, x.ownBlock = some q → q < w1.heap.size by
    intro x hx q hq
    rcases List.mem_cons.1 hx with e | hx
    · subst e; exact (HV1.out.lt q hq).2
    · exact HT1.out.lt x hx q hq)
  have hw12 : w1.heap.size ≤ w2.heap.size := hb2.size
  clear ho2 hb2 HS
  obtain ⟨⟨q0, q1, q2, q3, q4, q5⟩, hfR, hzR, hBR⟩ := ses_box HB2.out
  have f0 := hfR 0
  have f1 := hfR 1
  have f2 := hfR 2
  have f3 := hfR 3
  have f4 := hfR 4
  have f5 := hfR 5
  have HBR := hid hBR
  clear hfR hBR
  go_wp2
  refine bodyPost_ret (v := .agg (sesA a1 c1 a2 c2)) (by simp [results, Tryd.results17, go_sem, sesA, show sesM.length = 2 from rfl, show sesS.length = 1 from rfl, q0, q1, q2, q3, q4, q5, hzR]) rfl ⟨a1, c1, a2, c2, vs, w1.heap.size, by omega, rfl, ?_, ?_, HLT.out, ?_, ?_⟩
  · exact owns_base (owns_below (own_setS (own_setS (own_setS (own_setS (own_setS (own_setS HV2.out (by omega) _ _) (by omega) _ _) (by omega) _ _) (by omega) _ _) (by omega) _ _) (by omega) _ _) ((Below.refl _ _).alloc (Nat.le_refl _) _)) (by omega)
  · exact ((((((((HT2.out.setB (by omega) _ _).setB (by omega) _ _).setB (by omega) _ _).setB (by omega) _ _).setB (by omega) _ _).setB (by omega) _ _)).below ((Below.refl _ _).alloc (Nat.le_refl _) _)).base (by omega)
  · exact (((((((HO2.out.setB (by omega) _ _).setB (by omega) _ _).setB (by omega) _ _).setB (by omega) _ _).setB (by omega) _ _).setB (by omega) _ _)).below ((Below.refl _ _).alloc (Nat.le_refl _) _)
  · exact ((((((HBR.out.setCell (by simp) _).setCell (by simp) _).setCell (by simp) _).setCell (by simp) _).setCell (by simp) _).setCell (by simp) _).alloc (by simp; omega) _
end Go.Proofs.YtpncmmdjkcdemaaDoor
