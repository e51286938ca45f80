/- A text cut at a byte: the reference's function. Conditions: sizes of at most 1048576 bytes. -/
import Derived.Test.YtpncmmdjkcdemaaGreatDoorLaw2
namespace Go.Proofs.YtpncmmdjkcdemaaGreatDoor
open Go.RowKit

/-- What is cut off of the first i places, and where the next piece begins. -/
def cutSt (s : ByteArray) (b : UInt8) : Nat → List ByteArray × Nat
  | 0 => ([], 0)
  | i + 1 => if i = s.size ∨ s.data.toList[i]? = some b then ((cutSt s b i).1 ++ [s.extract (cutSt s b i).2 i], i + 1) else cutSt s b i
def cutB (s : ByteArray) (b : UInt8) : List ByteArray := (cutSt s b (s.size + 1)).1
theorem cut_hit {s : ByteArray} {b : UInt8} {i q : Nat} {xs : List ByteArray} (h : cutSt s b i = (xs, q)) (hc : i = s.size ∨ s.data.toList[i]? = some b) : cutSt s b (i + 1) = (xs ++ [s.extract q i], i + 1) := by
  rw [cutSt, if_pos hc, h]
theorem cut_miss {s : ByteArray} {b : UInt8} {i q : Nat} {xs : List ByteArray} (h : cutSt s b i = (xs, q)) (hc : ¬ (i = s.size ∨ s.data.toList[i]? = some b)) : cutSt s b (i + 1) = (xs, q) := by
  rw [cutSt, if_neg hc, h]
theorem cutSt_facts (s : ByteArray) (b : UInt8) : ∀ i, (cutSt s b i).1.length ≤ i ∧ (cutSt s b i).2 ≤ i ∧ ∀ x ∈ (cutSt s b i).1, x.size ≤ s.size
  | 0 => ⟨by simp [cutSt], by simp [cutSt], by simp [cutSt]⟩
  | i + 1 => by
    obtain ⟨h1, h2, h3⟩ := cutSt_facts s b i
    unfold cutSt
    split
    · refine ⟨by simp; omega, by simp, fun x hx => ?_⟩
      rcases List.mem_append.1 hx with hx | hx
      · exact h3 x hx
      · simp at hx; subst hx; rw [ByteArray.size_extract]; omega
    · exact ⟨by omega, by omega, h3⟩
theorem cutB_facts (s : ByteArray) (b : UInt8) : 1 ≤ (cutB s b).length ∧ (cutB s b).length ≤ s.size + 1 ∧ ∀ x ∈ cutB s b, x.size ≤ s.size := by
  refine ⟨?_, (cutSt_facts s b _).1, (cutSt_facts s b _).2.2⟩
  unfold cutB
  rw [cutSt, if_pos (Or.inl rfl)]
  simp
theorem infoStrC : (Tryz.prog.info? 9).map (fun i => (i.zero, i.size, i.bytes)) = some (some (.string ByteArray.empty), 1, 16) := by kernel_rfl
def CutPost (s : ByteArray) (b : UInt8) (w : World) (e : Ending) (w' : World) : Prop :=
  ∃ v, e = .returned v ∧ w'.ownsRow w.heap.size 9 1 v (cutB s b).length (strVals (cutB s b)) ∧ Below w.heap.size w w'
set_option maxHeartbeats 1000000 in
theorem spec_SplitByte_c (s : ByteArray) (b : UInt8) (w : World) (hs : s.size ≤ 1048576) :
    Calls Tryz.prog 43 #[.string s, .int .u8 b.toNat] w (CutPost s b w) := by
  have hemp : World.ownsRow (w.alloc (.cells #[] 9)) w.heap.size 9 1 (.slice (some ⟨w.heap.size, 0, none⟩) 0 0) 0 [] :=
    World.ownsRow_made w #[] 0 (Nat.le_refl _) (Nat.zero_le _) rfl
  have HE := hid hemp
  have HB := hid (show Below w.heap.size w (w.alloc (.cells #[] 9)) from (Below.refl _ _).alloc (Nat.le_refl _) _)
  have hb255 := b.toNat_lt
  clear hemp
  go_enter Tryz.func43, Tryz.ntmps43
  go_wp2
  go_loopw [5, 6, 7] (fun v f i wr => ∃ (j q : Nat) (xs : List ByteArray), j ≤ s.size + 1 ∧ i = .int .i64 j ∧ f = .int .i64 q ∧ q ≤ j ∧ xs.length ≤ j ∧ Hid (cutSt s b j = (xs, q)) ∧ wr.ownsRow w.heap.size 9 1 v xs.length (strVals xs) ∧ Below w.heap.size w wr) (fun _ _ i _ => s.size + 1 - (intOf i).toNat)
  case atStart => exact ⟨0, 0, [], by omega, rfl, rfl, by omega, by simp, rfl, HE.out, HB.out⟩
  case round =>
    obtain ⟨j, q, xs, hj, rfl, rfl, hqj, hxl, HC, hown, hbel⟩ := hrel
    have hqji : (q : Int) ≤ (j : Int) := by omega
    by_cases hlt : j < s.size
    · have hji : (j : Int) < (s.size : Int) := by omega
      have hji2 : (j : Int) ≤ (s.size : Int) := by omega
      have hne : ((j : Int) == (s.size : Int)) = false := by rw [beq_eq_false_iff_ne]; omega
      by_cases hx : s[j] = b
      · have HN := hid (cut_hit HC.out (Or.inr (by rw [byte_at s j hlt, hx])))
        have hxb : ((s[j].toNat : Int) == (b.toNat : Int)) = true := by rw [hx]; simp
        have hxe : (s[j].toNat : Int) = (b.toNat : Int) := by rw [hx]
        clear HC hx
        go_wp2_with (first | (at_builtin; go_must (refine wpList_app1 rfl _ _ 28 rfl w.heap.size 9 (.string ByteArray.empty) 16 Tryz.underlying28 infoStrC rfl _ xs.length (strVals xs) _ hown rfl rfl rfl (by omega) (by unfold maxLen; omega) hbel hbel.size ?_); intro v' w1 hown' hbel'))
        go_roundw
        case rel => exact ⟨j + 1, j + 1, xs ++ [s.extract q j], by omega, by go_num, by go_num, by omega, by simp; omega, HN, by rw [List.length_append]; simpa [strVals] using hown', hbel'⟩
        case measure => simp [intOf] <;> omega
      · have HN := hid (cut_miss HC.out (fun h => h.elim (fun e => by omega) (fun e => by
          rw [byte_at s j hlt] at e
          injection e with e
          exact hx e)))
        have hxb : ((s[j].toNat : Int) == (b.toNat : Int)) = false := by
          rw [beq_eq_false_iff_ne]
          intro e
          exact hx (UInt8.toNat_inj.1 (by omega))
        clear HC hx
        go_wp2
        go_roundw
        case rel => exact ⟨j + 1, q, xs, by omega, by go_num, rfl, by omega, by omega, HN, hown, hbel⟩
        case measure => simp [intOf] <;> omega
    · by_cases he : j = s.size
      · subst he
        have HN := hid (cut_hit HC.out (Or.inl rfl))
        clear HC
        go_wp2_with (first | (at_builtin; go_must (refine wpList_app1 rfl _ _ 28 rfl w.heap.size 9 (.string ByteArray.empty) 16 Tryz.underlying28 infoStrC rfl _ xs.length (strVals xs) _ hown rfl rfl rfl (by omega) (by unfold maxLen; omega) hbel hbel.size ?_); intro v' w1 hown' hbel'))
        go_roundw
        case rel => exact ⟨s.size + 1, s.size + 1, xs ++ [s.extract q s.size], by omega, by go_num, by go_num, by omega, by simp; omega, HN, by rw [List.length_append]; simpa [strVals] using hown', hbel'⟩
        case measure => simp [intOf] <;> omega
      · obtain rfl : j = s.size + 1 := by omega
        have hgt : ¬ (((s.size + 1 : Nat) : Int) ≤ (s.size : Int)) := by omega
        have hres : xs = cutB s b := by unfold cutB; rw [HC.out]
        clear HC
        go_wp2
        go_ret
        exact ⟨_, rfl, by rw [← hres]; exact hown, hbel⟩
end Go.Proofs.YtpncmmdjkcdemaaGreatDoor
