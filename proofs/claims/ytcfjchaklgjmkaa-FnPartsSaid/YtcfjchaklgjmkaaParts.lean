/- The different parts of a length, in order: both functions. Conditions: a long word, a length of at most 21. -/
import Derived.Test.YtcfjchaklgjmkaaAddS
import Derived.Test.YtcfjchaklgjmkaaDiff
namespace Go.Proofs.Ytcfjchaklgjmkaa
open Go.RowKit

def dl (b : ByteArray) : List UInt8 := b.data.toList
theorem dl_inj {a b : ByteArray} (h : dl a = dl b) : a = b := bytes_eq h
/-- The first j parts of the length n. -/
def prs (s : ByteArray) (n j : Nat) : List ByteArray := (List.range j).map fun i => s.extract i (i + n)
theorem prs_len (s : ByteArray) (n j : Nat) : (prs s n j).length = j := by simp [prs]
theorem prs_succ (s : ByteArray) (n j : Nat) : prs s n (j + 1) = prs s n j ++ [s.extract j (j + n)] := by simp [prs, List.range_succ]
theorem asc_map {l : List ByteArray} (h : Asc ltB l) : Asc ltL (l.map dl) := by
  unfold Asc
  rw [List.pairwise_map]
  exact h.imp fun {a b} hab => by rw [ltB_eq] at hab; exact hab
theorem insB_distinct (ss : List ByteArray) : (insAll ltB ss).map dl = distinct (ss.map dl) := by
  refine asc_eq ordL (asc_map (insAll_facts ordB ss).1) (distinct_asc _).1 fun x => ?_
  rw [(distinct_asc _).2 x, List.mem_map, List.mem_map]
  constructor
  · rintro ⟨a, ha, e⟩; exact ⟨a, ((insAll_facts ordB ss).2 a).1 ha, e⟩
  · rintro ⟨a, ha, e⟩; exact ⟨a, ((insAll_facts ordB ss).2 a).2 ha, e⟩
theorem strVals_enc (ss : List ByteArray) : (ss.map dl).map Go.Proofs.encStr = strVals ss := by
  simp only [strVals, List.map_map]
  exact List.map_congr_left fun x _ => rfl
/-- The different parts of the length n. -/
def pts (s : ByteArray) (n : Nat) : List ByteArray := insAll ltB (prs s n (s.size + 1 - n))
theorem pts_le (s : ByteArray) (n : Nat) : (pts s n).length ≤ s.size + 1 := by
  have := insAll_len ordB (prs s n (s.size + 1 - n))
  rw [prs_len] at this
  unfold pts
  omega
theorem strVals_snocP (ss : List ByteArray) (x : ByteArray) : strVals (ss ++ [x]) = strVals ss ++ [.string x] := by simp [strVals]
def PartsPost (s : ByteArray) (n : Nat) (w : World) (e : Ending) (w' : World) : Prop :=
  ∃ g c, e = .returned (.slice (some ⟨g, 0, none⟩) (pts s n).length c) ∧ w'.ownsRow w.heap.size 9 1 (.slice (some ⟨g, 0, none⟩) (pts s n).length c) (pts s n).length (strVals (pts s n)) ∧ Below w.heap.size w w'
set_option maxHeartbeats 2000000 in
set_option maxRecDepth 100000 in
theorem spec_l31Parts_c (s : ByteArray) (n : Nat) (w : World) (hs : s.size ≤ 300) (hn : n ≤ 21) :
    Calls Try.prog 75 #[.string s, .int .i64 n] w (PartsPost s n w) := by
  have HP := hid (fun (B g cap : Nat) (xs : List ByteArray) (x : ByteArray) (w : World) h1 h2 h3 => spec_l2Put_c B g cap xs.length xs x w rfl h1 h2 h3)
  unfold PutPost at HP
  unfold PartsPost
  go_enter Try.func75, Try.ntmps75
  go_wp2
  go_loopw [5, 6] (fun v i wr => ∃ j g c : Nat, j ≤ s.size + 1 - n ∧ i = .int .i64 j ∧ v = .slice (some ⟨g, 0, none⟩) (insAll ltB (prs s n j)).length c ∧ wr.ownsRow w.heap.size 9 1 (.slice (some ⟨g, 0, none⟩) (insAll ltB (prs s n j)).length c) (insAll ltB (prs s n j)).length (strVals (insAll ltB (prs s n j))) ∧ Below w.heap.size w wr) (fun _ i _ => s.size + 1 - n - (intOf i).toNat)
  case atStart => exact ⟨0, w.heap.size, 0, by omega, rfl, rfl, owns_nilS w _, (Below.refl _ _).alloc (Nat.le_refl _) _⟩
  case round =>
    obtain ⟨j, g, c, hj, rfl, rfl, hown, hbel⟩ := hrel
    have hle := insAll_len ordB (prs s n j)
    rw [prs_len] at hle
    have HPj := hid (HP.out w.heap.size g c (insAll ltB (prs s n j)) (s.extract j (j + n)) wr hown hbel.size (by omega))
    have HST := hid (show ins ltB (insAll ltB (prs s n j)) (s.extract j (j + n)) = insAll ltB (prs s n (j + 1)) by rw [prs_succ, insAll_snoc])
    rw [HST.out] at HPj
    have HL := hid (hown.lt g rfl)
    have HO := hid hown
    obtain ⟨m, hm⟩ : ∃ m, m = (insAll ltB (prs s n j)).length := ⟨_, rfl⟩
    obtain ⟨m2, hm2⟩ : ∃ m, m = (insAll ltB (prs s n (j + 1))).length := ⟨_, rfl⟩
    rw [← hm] at HPj hle HO
    rw [← hm2] at HPj
    rw [← hm]
    have HM := hid hm
    have HM2 := hid hm2
    clear hown hm hm2
    by_cases hlt : j + n ≤ s.size
    · have hlt2 : (j : Int) + (n : Int) ≤ (s.size : Int) := by omega
      go_wp2_with fail
      refine HPj.out.mono ?_
      rintro e w1 ⟨g', c', rfl, hown', hgr, hor⟩
      have hb : Below w.heap.size w w1 := hbel.grown hgr hbel.size (by rintro k ⟨⟩; exact HL.out.1)
      go_wp2
      go_roundw
      case rel => exact ⟨j + 1, g', c', by omega, by go_num, by rw [HM2.out], by rw [← HM2.out]; exact hown', hb⟩
      case measure => simp [intOf]; omega
    · have hlt2 : ¬ ((j : Int) + (n : Int) ≤ (s.size : Int)) := by omega
      have HE := hid (show pts s n = insAll ltB (prs s n j) by unfold pts; congr 2; omega)
      go_wp2
      go_ret
      refine ⟨g, c, ?_, ?_, hbel⟩
      · rw [HE.out, ← HM.out]; rfl
      · rw [HE.out, ← HM.out]; exact HO.out
set_option maxHeartbeats 2000000 in
set_option maxRecDepth 100000 in
theorem impl_parts_c (s : ByteArray) (n : Nat) (w : World) (hs : s.size ≤ 300) (hn : n ≤ 21) :
    Calls Try.prog 70 #[.string s, .int .i64 n] w (PartsPost s n w) := by
  have HD := hid (fun (g cap : Nat) (wr : World) h1 h2 => different_c w.heap.size g cap (s.size + 1 - n) ((prs s n (s.size + 1 - n)).map dl) wr (by rw [List.length_map, prs_len]) h1 h2 (by omega))
  unfold DiffPost at HD
  have HDD := hid (show distinct ((prs s n (s.size + 1 - n)).map dl) = (pts s n).map dl by rw [← insB_distinct]; rfl)
  rw [HDD.out, strVals_enc, strVals_enc, List.length_map] at HD
  unfold PartsPost
  obtain ⟨m, hm⟩ : ∃ m, m = (pts s n).length := ⟨_, rfl⟩
  rw [← hm] at HD
  rw [← hm]
  clear hm
  go_enter Try.func70, Try.ntmps70
  go_wp2
  go_loopw [5, 6] (fun v i wr => ∃ j g c : Nat, j ≤ s.size + 1 - n ∧ i = .int .i64 j ∧ v = .slice (some ⟨g, 0, none⟩) j c ∧ wr.ownsRow w.heap.size 9 1 (.slice (some ⟨g, 0, none⟩) j c) j (strVals (prs s n j)) ∧ Below w.heap.size w wr) (fun _ i _ => s.size + 1 - n - (intOf i).toNat)
  case atStart => exact ⟨0, w.heap.size, 0, by omega, rfl, rfl, owns_nilS w _, (Below.refl _ _).alloc (Nat.le_refl _) _⟩
  case round =>
    obtain ⟨j, g, c, hj, rfl, rfl, hown, hbel⟩ := hrel
    have HL := hid (hown.lt g rfl)
    have HO := hid hown
    by_cases hlt : j + n ≤ s.size
    · have hlt2 : (j : Int) + (n : Int) ≤ (s.size : Int) := by omega
      have HU := hid (hown.alloc (.cells #[.string (s.extract j (j + n))] 9))
      clear hown
      go_wp2_with (first | (at_builtin; go_must (refine wpList_appN rfl _ _ 24 rfl w.heap.size 9 (.string ByteArray.empty) 16 Try.underlying24 infoStrA rfl g c j (strVals (prs s n j)) HU.out rfl wr.heap.size 0 1 1 [.string (s.extract j (j + n))] rfl rfl (by intro q u hq; match q, hq with | 0, hq => simp at hq; subst hq; simp) (by intro u hu; simp at hu; subst hu; rfl) (by omega) (by unfold maxLen; omega) (by have := hbel.size; simp; omega) ?_); intro g2 c2 w2 hown2 hgr2 hb2 hlt2'))
      have hb : Below w.heap.size w w2 := (hbel.alloc hbel.size _).grown hgr2 (by have := hbel.size; simp; omega) (by rintro k ⟨⟩; exact HL.out.1)
      go_roundw
      case rel => exact ⟨j + 1, g2, c2, by omega, by go_num, rfl, by rw [prs_succ, strVals_snocP]; exact hown2, hb⟩
      case measure => simp [intOf]; omega
    · have hlt2 : ¬ ((j : Int) + (n : Int) ≤ (s.size : Int)) := by omega
      obtain rfl : j = s.size + 1 - n := by omega
      have HDj := hid (HD.out g c wr hown hbel.size)
      clear hown
      go_wp2_with fail
      refine HDj.out.mono ?_
      rintro e w1 ⟨rfl, ho1, hb1⟩
      go_wp2
      go_ret
      exact ⟨g, c, rfl, ho1, hbel.trans hb1⟩
end Go.Proofs.Ytcfjchaklgjmkaa
