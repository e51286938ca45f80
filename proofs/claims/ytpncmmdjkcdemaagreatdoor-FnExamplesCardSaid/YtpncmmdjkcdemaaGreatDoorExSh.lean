/- The examples of a shift: both functions. Conditions: the tables lie as the program lays them. -/
import Derived.Test.YtpncmmdjkcdemaaGreatDoorParseSh
namespace Go.Proofs.YtpncmmdjkcdemaaGreatDoor
open Go.RowKit

/-- The example of a number. -/
def exS (n : Int) : Option (Nat × List ByteArray) :=
  if n = 1 then some (2, [⟨#[98, 98]⟩]) else if n = 2 then some (2, [⟨#[97, 97]⟩, ⟨#[98, 98]⟩]) else if n = 3 then some (3, [⟨#[97, 98]⟩, ⟨#[98, 99]⟩, ⟨#[99, 97]⟩]) else if n = 4 then some (2, [⟨#[97, 97, 98]⟩]) else if n = 5 then some (2, []) else if n = 6 then some (2, [⟨#[97, 98, 97]⟩, ⟨#[98, 97, 98]⟩]) else none
def ShO (o : Option (Nat × List ByteArray)) (w : World) (e : Ending) (w' : World) : Prop := ShOwn (((o.map (·.1)).getD 0 : Nat) : Int) ((o.map (·.2)).getD []) o.isSome w e w'
theorem off_none (w : World) (base : Nat) : OffRow w base none 0 (strVals []) := ⟨rfl, by omega, fun h => by omega⟩
theorem sh_mk {k : Int} {ss : List ByteArray} {b : Bool} {w w' : World} (a : Option Addr) (c : Nat) (ho : OffRow w' w.heap.size a ss.length (strVals ss)) (hb : Below w.heap.size w w') : ShOwn k ss b w (.returned (.tuple #[.agg #[.int .i64 k, .slice a ss.length c], .bool b])) w' := ⟨a, c, rfl, ho, hb⟩
theorem res_facts {w w5 : World} (h : Below (w.alloc (.cells #[.int .i64 0, .slice none 0 0] 30)).heap.size (w.alloc (.cells #[.int .i64 0, .slice none 0 0] 30)) w5) :
    w5.cell? ⟨w.heap.size, 0, none⟩ = some (.int .i64 0) ∧ w5.cell? ⟨w.heap.size, 1, none⟩ = some (.slice none 0 0) ∧ w5.frozen? ⟨w.heap.size, 0, none⟩ = false ∧ w5.frozen? ⟨w.heap.size, 1, none⟩ = false ∧ w.heap.size < w5.heap.size ∧ Below w.heap.size w w5 := by
  obtain ⟨h1, h2, h3, h4⟩ := boxS h
  exact ⟨(h1 0).trans rfl, (h1 1).trans rfl, h2 0, h2 1, h3, h4⟩
theorem exS_none {n : Int} (h : n < 1 ∨ 6 < n) : exS n = none := by
  unfold exS
  rw [if_neg (by omega), if_neg (by omega), if_neg (by omega), if_neg (by omega), if_neg (by omega), if_neg (by omega)]
theorem fmt3 : fmtB 3 = ⟨#[51]⟩ := by
  unfold fmtB Lib.itoa
  rw [if_neg (by decide)]
  show ByteArray.mk (Lib.decDigits 3).toArray = _
  rw [Lib.decDigits, dif_pos (by decide)]
  rfl
theorem read3 : readO ⟨#[51]⟩ 12 = some 3 := by
  rw [readO_val (n := 3) (m := 3) (by decide) (by decide) (by decide), if_pos fmt3]
theorem numN2 : okNum 0 999999 ⟨#[50]⟩ ((2 : Nat) : Int) := ⟨by decide, by decide, by decide, by decide, fmt2⟩
theorem numN3 : okNum 0 999999 ⟨#[51]⟩ ((3 : Nat) : Int) := ⟨by decide, by decide, by decide, by decide, fmt3⟩
set_option maxHeartbeats 2000000 in
theorem spec_ParseShift_bad (w : World) : Calls Tryz.prog 30 #[.string ⟨#[]⟩] w (ShOwn 0 [] false w) := by
  have HC := hid (spec_SplitByte_c ⟨#[]⟩ 32 (w.alloc (.cells #[.int .i64 0, .slice none 0 0] 30)) (by decide))
  unfold CutPost at HC
  rw [show cutB ⟨#[]⟩ 32 = [⟨#[]⟩] from by decide +kernel] at HC
  have HP := hid (fun w => spec_ParseInt_c ⟨#[]⟩ w (by decide))
  rw [show readO ⟨#[]⟩ 12 = none from by decide] at HP
  simp only [Option.getD_none, Option.isSome_none] at HP
  go_enter Tryz.func30, Tryz.ntmps30
  go_wp2_with fail
  refine HC.out.mono ?_
  rintro e w1 ⟨v1, rfl, ho1, hb1⟩
  obtain ⟨gp, cp, rfl, hgp0, hgp1⟩ := own_form ho1 (by simp)
  have hcell0 : w1.cell? ⟨gp, 0, none⟩ = some (.string ⟨#[]⟩) := (ho1.cellAt 0 (by simp)).trans rfl
  have HB1 := hid hb1
  clear ho1 hb1 HC
  go_wp2_with fail
  refine (HP.out _).mono ?_
  rintro e w2 ⟨rfl, hb2⟩
  have HB2 := hid (bs HB1.out hb2)
  have hE := own_nilM w2 9 (B := w2.heap.size) (Nat.le_refl _)
  obtain ⟨off, hoff⟩ : ∃ off, (if cp = 1 then (some ⟨gp, 0, none⟩ : Option Addr) else some ⟨gp, 1, none⟩) = some ⟨gp, off, none⟩ := by
    by_cases hcp : cp = 1
    · exact ⟨0, if_pos hcp⟩
    · exact ⟨1, if_neg hcp⟩
  clear hb2
  have HRES := hid (fun (w5 : World) (hb25 : Below w2.heap.size w2 w5) => res_facts (bs HB2.out hb25))
  go_wp2_with (first | (at_builtin; go_must (refine wpList_appN rfl _ _ 28 rfl w2.heap.size 9 (.string ByteArray.empty) 16 Tryz.underlying28 infoStrS rfl w2.heap.size 0 0 [] hE rfl gp off 0 _ [] rfl rfl (by intro j u hu; simp at hu) (by intro u hu; simp at hu) (by omega) (by unfold maxLen; omega) (by simp) ?_); intro q5 c5 w5 hown5 hgr5 hq5 hlt5; obtain ⟨q0, q1, f0, f1, hzR, hBR⟩ := HRES.out w5 (((Below.refl _ _).alloc (Nat.le_refl _) (.cells #[] 9)).grown hgr5 (by simp) (by rintro k ⟨⟩; exact Nat.le_refl _))))
  refine bodyPost_ret (v := .tuple #[.agg #[.int .i64 0, .slice none 0 0], .bool false]) (by simp [results, Tryz.results30, go_sem, q0, q1, hzR]) rfl (sh_mk none 0 (off_none _ _) ?_)
  exact ((hBR.setCell (by simp) _).setCell (by simp) _).alloc (by simp; omega) _
set_option maxHeartbeats 4000000 in
theorem spec_ExampleShift_c (n : Int) (w : World) :
    Calls Tryz.prog 10 #[.int .i64 n] w (ShO (exS n) w) := by
  by_cases h1 : n = 1
  · subst h1
    show Calls Tryz.prog 10 #[.int .i64 1] w (ShOwn ((2 : Nat) : Int) [⟨#[98, 98]⟩] true w)
    have HP := hid (spec_ParseShift_ok ⟨#[50, 32, 98, 98]⟩ ⟨#[50]⟩ 2 [⟨#[98, 98]⟩] (w.alloc (.cells #[.int .i64 0, .slice none 0 0] 30)) (by decide) (by decide +kernel) read2 (by decide))
    unfold ShOwn at HP ⊢
    go_enter Tryz.func10, Tryz.ntmps10
    go_wp2_with fail
    refine HP.out.mono ?_
    rintro e w1 ⟨a, c, rfl, ho, hb⟩
    obtain ⟨hcR, hfR, hzR, hBR⟩ := boxS hb
    have q0 := hcR 0
    have q1 := hcR 1
    have f0 := hfR 0
    have f1 := hfR 1
    simp at q0 q1
    have HO := hid ho
    have HBR := hid hBR
    clear hcR hfR hBR hb ho
    go_wp2
    refine bodyPost_ret (v := .tuple #[.agg #[.int .i64 ((2 : Nat) : Int), .slice a 1 c], .bool true]) (by simp [results, Tryz.results10, go_sem, q0, q1, hzR]) rfl ⟨_, _, rfl, ?_, ?_⟩
    · exact (((HO.out.setB (by simp) _ _).setB (by simp) _ _).below ((Below.refl _ _).alloc (Nat.le_refl _) _)).base (by simp)
    · exact ((HBR.out.setCell (by simp) _).setCell (by simp) _).alloc (by simp; omega) _
  by_cases h2 : n = 2
  · subst h2
    show Calls Tryz.prog 10 #[.int .i64 2] w (ShOwn ((2 : Nat) : Int) [⟨#[97, 97]⟩, ⟨#[98, 98]⟩] true w)
    have HP := hid (spec_ParseShift_ok ⟨#[50, 32, 97, 97, 32, 98, 98]⟩ ⟨#[50]⟩ 2 [⟨#[97, 97]⟩, ⟨#[98, 98]⟩] (w.alloc (.cells #[.int .i64 0, .slice none 0 0] 30)) (by decide) (by decide +kernel) read2 (by decide))
    unfold ShOwn at HP ⊢
    go_enter Tryz.func10, Tryz.ntmps10
    go_wp2_with fail
    refine HP.out.mono ?_
    rintro e w1 ⟨a, c, rfl, ho, hb⟩
    obtain ⟨hcR, hfR, hzR, hBR⟩ := boxS hb
    have q0 := hcR 0
    have q1 := hcR 1
    have f0 := hfR 0
    have f1 := hfR 1
    simp at q0 q1
    have HO := hid ho
    have HBR := hid hBR
    clear hcR hfR hBR hb ho
    go_wp2
    refine bodyPost_ret (v := .tuple #[.agg #[.int .i64 ((2 : Nat) : Int), .slice a 2 c], .bool true]) (by simp [results, Tryz.results10, go_sem, q0, q1, hzR]) rfl ⟨_, _, rfl, ?_, ?_⟩
    · exact (((HO.out.setB (by simp) _ _).setB (by simp) _ _).below ((Below.refl _ _).alloc (Nat.le_refl _) _)).base (by simp)
    · exact ((HBR.out.setCell (by simp) _).setCell (by simp) _).alloc (by simp; omega) _
  by_cases h3 : n = 3
  · subst h3
    show Calls Tryz.prog 10 #[.int .i64 3] w (ShOwn ((3 : Nat) : Int) [⟨#[97, 98]⟩, ⟨#[98, 99]⟩, ⟨#[99, 97]⟩] true w)
    have HP := hid (spec_ParseShift_ok ⟨#[51, 32, 97, 98, 32, 98, 99, 32, 99, 97]⟩ ⟨#[51]⟩ 3 [⟨#[97, 98]⟩, ⟨#[98, 99]⟩, ⟨#[99, 97]⟩] (w.alloc (.cells #[.int .i64 0, .slice none 0 0] 30)) (by decide) (by decide +kernel) read3 (by decide))
    unfold ShOwn at HP ⊢
    go_enter Tryz.func10, Tryz.ntmps10
    go_wp2_with fail
    refine HP.out.mono ?_
    rintro e w1 ⟨a, c, rfl, ho, hb⟩
    obtain ⟨hcR, hfR, hzR, hBR⟩ := boxS hb
    have q0 := hcR 0
    have q1 := hcR 1
    have f0 := hfR 0
    have f1 := hfR 1
    simp at q0 q1
    have HO := hid ho
    have HBR := hid hBR
    clear hcR hfR hBR hb ho
    go_wp2
    refine bodyPost_ret (v := .tuple #[.agg #[.int .i64 ((3 : Nat) : Int), .slice a 3 c], .bool true]) (by simp [results, Tryz.results10, go_sem, q0, q1, hzR]) rfl ⟨_, _, rfl, ?_, ?_⟩
    · exact (((HO.out.setB (by simp) _ _).setB (by simp) _ _).below ((Below.refl _ _).alloc (Nat.le_refl _) _)).base (by simp)
    · exact ((HBR.out.setCell (by simp) _).setCell (by simp) _).alloc (by simp; omega) _
  by_cases h4 : n = 4
  · subst h4
    show Calls Tryz.prog 10 #[.int .i64 4] w (ShOwn ((2 : Nat) : Int) [⟨#[97, 97, 98]⟩] true w)
    have HP := hid (spec_ParseShift_ok ⟨#[50, 32, 97, 97, 98]⟩ ⟨#[50]⟩ 2 [⟨#[97, 97, 98]⟩] (w.alloc (.cells #[.int .i64 0, .slice none 0 0] 30)) (by decide) (by decide +kernel) read2 (by decide))
    unfold ShOwn at HP ⊢
    go_enter Tryz.func10, Tryz.ntmps10
    go_wp2_with fail
    refine HP.out.mono ?_
    rintro e w1 ⟨a, c, rfl, ho, hb⟩
    obtain ⟨hcR, hfR, hzR, hBR⟩ := boxS hb
    have q0 := hcR 0
    have q1 := hcR 1
    have f0 := hfR 0
    have f1 := hfR 1
    simp at q0 q1
    have HO := hid ho
    have HBR := hid hBR
    clear hcR hfR hBR hb ho
    go_wp2
    refine bodyPost_ret (v := .tuple #[.agg #[.int .i64 ((2 : Nat) : Int), .slice a 1 c], .bool true]) (by simp [results, Tryz.results10, go_sem, q0, q1, hzR]) rfl ⟨_, _, rfl, ?_, ?_⟩
    · exact (((HO.out.setB (by simp) _ _).setB (by simp) _ _).below ((Below.refl _ _).alloc (Nat.le_refl _) _)).base (by simp)
    · exact ((HBR.out.setCell (by simp) _).setCell (by simp) _).alloc (by simp; omega) _
  by_cases h5 : n = 5
  · subst h5
    show Calls Tryz.prog 10 #[.int .i64 5] w (ShOwn ((2 : Nat) : Int) [] true w)
    have HP := hid (spec_ParseShift_ok ⟨#[50]⟩ ⟨#[50]⟩ 2 [] (w.alloc (.cells #[.int .i64 0, .slice none 0 0] 30)) (by decide) (by decide +kernel) read2 (by decide))
    unfold ShOwn at HP ⊢
    go_enter Tryz.func10, Tryz.ntmps10
    go_wp2_with fail
    refine HP.out.mono ?_
    rintro e w1 ⟨a, c, rfl, ho, hb⟩
    obtain ⟨hcR, hfR, hzR, hBR⟩ := boxS hb
    have q0 := hcR 0
    have q1 := hcR 1
    have f0 := hfR 0
    have f1 := hfR 1
    simp at q0 q1
    have HO := hid ho
    have HBR := hid hBR
    clear hcR hfR hBR hb ho
    go_wp2
    refine bodyPost_ret (v := .tuple #[.agg #[.int .i64 ((2 : Nat) : Int), .slice a 0 c], .bool true]) (by simp [results, Tryz.results10, go_sem, q0, q1, hzR]) rfl ⟨_, _, rfl, ?_, ?_⟩
    · exact (((HO.out.setB (by simp) _ _).setB (by simp) _ _).below ((Below.refl _ _).alloc (Nat.le_refl _) _)).base (by simp)
    · exact ((HBR.out.setCell (by simp) _).setCell (by simp) _).alloc (by simp; omega) _
  by_cases h6 : n = 6
  · subst h6
    show Calls Tryz.prog 10 #[.int .i64 6] w (ShOwn ((2 : Nat) : Int) [⟨#[97, 98, 97]⟩, ⟨#[98, 97, 98]⟩] true w)
    have HP := hid (spec_ParseShift_ok ⟨#[50, 32, 97, 98, 97, 32, 98, 97, 98]⟩ ⟨#[50]⟩ 2 [⟨#[97, 98, 97]⟩, ⟨#[98, 97, 98]⟩] (w.alloc (.cells #[.int .i64 0, .slice none 0 0] 30)) (by decide) (by decide +kernel) read2 (by decide))
    unfold ShOwn at HP ⊢
    go_enter Tryz.func10, Tryz.ntmps10
    go_wp2_with fail
    refine HP.out.mono ?_
    rintro e w1 ⟨a, c, rfl, ho, hb⟩
    obtain ⟨hcR, hfR, hzR, hBR⟩ := boxS hb
    have q0 := hcR 0
    have q1 := hcR 1
    have f0 := hfR 0
    have f1 := hfR 1
    simp at q0 q1
    have HO := hid ho
    have HBR := hid hBR
    clear hcR hfR hBR hb ho
    go_wp2
    refine bodyPost_ret (v := .tuple #[.agg #[.int .i64 ((2 : Nat) : Int), .slice a 2 c], .bool true]) (by simp [results, Tryz.results10, go_sem, q0, q1, hzR]) rfl ⟨_, _, rfl, ?_, ?_⟩
    · exact (((HO.out.setB (by simp) _ _).setB (by simp) _ _).below ((Below.refl _ _).alloc (Nat.le_refl _) _)).base (by simp)
    · exact ((HBR.out.setCell (by simp) _).setCell (by simp) _).alloc (by simp; omega) _
  have e1 : (n == 1) = false := by rw [beq_eq_false_iff_ne]; omega
  have e2 : (n == 2) = false := by rw [beq_eq_false_iff_ne]; omega
  have e3 : (n == 3) = false := by rw [beq_eq_false_iff_ne]; omega
  have e4 : (n == 4) = false := by rw [beq_eq_false_iff_ne]; omega
  have e5 : (n == 5) = false := by rw [beq_eq_false_iff_ne]; omega
  have e6 : (n == 6) = false := by rw [beq_eq_false_iff_ne]; omega
  rw [exS_none (by omega)]
  show Calls Tryz.prog 10 #[.int .i64 n] w (ShOwn 0 [] false w)
  have HP := hid (spec_ParseShift_bad (w.alloc (.cells #[.int .i64 0, .slice none 0 0] 30)))
  unfold ShOwn at HP ⊢
  go_enter Tryz.func10, Tryz.ntmps10
  go_wp2_with fail
  refine HP.out.mono ?_
  rintro e w1 ⟨a, c, rfl, ho, hb⟩
  obtain ⟨hcR, hfR, hzR, hBR⟩ := boxS hb
  have q0 := hcR 0
  have q1 := hcR 1
  have f0 := hfR 0
  have f1 := hfR 1
  simp at q0 q1
  have HO := hid ho
  have HBR := hid hBR
  clear hcR hfR hBR hb ho
  go_wp2
  refine bodyPost_ret (v := .tuple #[.agg #[.int .i64 0, .slice a 0 c], .bool false]) (by simp [results, Tryz.results10, go_sem, q0, q1, hzR]) rfl ⟨_, _, rfl, ?_, ?_⟩
  · exact (((HO.out.setB (by simp) _ _).setB (by simp) _ _).below ((Below.refl _ _).alloc (Nat.le_refl _) _)).base (by simp)
  · exact ((HBR.out.setCell (by simp) _).setCell (by simp) _).alloc (by simp; omega) _
set_option maxHeartbeats 4000000 in
theorem impl_ExampleShift_c (n : Int) (w : World) (hw : LaidW w) :
    Calls Tryz.prog 9 #[.int .i64 n] w (ShO (exS n) w) := by
  have hB0 := ((Below.refl w.heap.size w).alloc (Nat.le_refl _) (.cells #[.int .i64 0, .slice none 0 0] 30)).alloc (by simp) (.cells #[.string ⟨#[50, 32, 98, 98]⟩, .string ⟨#[50, 32, 97, 97, 32, 98, 98]⟩, .string ⟨#[51, 32, 97, 98, 32, 98, 99, 32, 99, 97]⟩, .string ⟨#[50, 32, 97, 97, 98]⟩, .string ⟨#[50]⟩, .string ⟨#[50, 32, 97, 98, 97, 32, 98, 97, 98]⟩] 9)
  have HL := hid (laid_below hw hB0 (Nat.le_refl _))
  have HB0 := hid hB0
  have HBZ := hid ((Below.refl (w.alloc (.cells #[.int .i64 0, .slice none 0 0] 30)).heap.size (w.alloc (.cells #[.int .i64 0, .slice none 0 0] 30))).alloc (Nat.le_refl _) (.cells #[.string ⟨#[50, 32, 98, 98]⟩, .string ⟨#[50, 32, 97, 97, 32, 98, 98]⟩, .string ⟨#[51, 32, 97, 98, 32, 98, 99, 32, 99, 97]⟩, .string ⟨#[50, 32, 97, 97, 98]⟩, .string ⟨#[50]⟩, .string ⟨#[50, 32, 97, 98, 97, 32, 98, 97, 98]⟩] 9))
  clear hw hB0
  by_cases h1 : n = 1
  · subst h1
    show Calls Tryz.prog 9 #[.int .i64 1] w (ShOwn ((2 : Nat) : Int) [⟨#[98, 98]⟩] true w)
    have HP := hid (impl_ParseShift_ok ⟨#[50, 32, 98, 98]⟩ ⟨#[50]⟩ 2 [⟨#[98, 98]⟩] _ (by decide) (by decide +kernel) numN2 (by decide) HL.out)
    unfold ShOwn at HP ⊢
    go_enter Tryz.func9, Tryz.ntmps9
    go_wp2_with fail
    refine HP.out.mono ?_
    rintro e w1 ⟨a, c, rfl, ho, hb⟩
    obtain ⟨hcR, hfR, hzR, hBR⟩ := boxS (bs HBZ.out hb)
    have q0 := hcR 0
    have q1 := hcR 1
    have f0 := hfR 0
    have f1 := hfR 1
    simp at q0 q1
    have HO := hid ho
    have HBR := hid hBR
    clear hcR hfR hBR hb ho
    go_wp2
    refine bodyPost_ret (v := .tuple #[.agg #[.int .i64 ((2 : Nat) : Int), .slice a 1 c], .bool true]) (by simp [results, Tryz.results9, go_sem, q0, q1, hzR]) rfl ⟨_, _, rfl, ?_, ?_⟩
    · exact ((HO.out.setB (by simp; omega) _ _).setB (by simp; omega) _ _).base (by simp; omega)
    · exact (HBR.out.setCell (by simp) _).setCell (by simp) _
  by_cases h2 : n = 2
  · subst h2
    show Calls Tryz.prog 9 #[.int .i64 2] w (ShOwn ((2 : Nat) : Int) [⟨#[97, 97]⟩, ⟨#[98, 98]⟩] true w)
    have HP := hid (impl_ParseShift_ok ⟨#[50, 32, 97, 97, 32, 98, 98]⟩ ⟨#[50]⟩ 2 [⟨#[97, 97]⟩, ⟨#[98, 98]⟩] _ (by decide) (by decide +kernel) numN2 (by decide) HL.out)
    unfold ShOwn at HP ⊢
    go_enter Tryz.func9, Tryz.ntmps9
    go_wp2_with fail
    refine HP.out.mono ?_
    rintro e w1 ⟨a, c, rfl, ho, hb⟩
    obtain ⟨hcR, hfR, hzR, hBR⟩ := boxS (bs HBZ.out hb)
    have q0 := hcR 0
    have q1 := hcR 1
    have f0 := hfR 0
    have f1 := hfR 1
    simp at q0 q1
    have HO := hid ho
    have HBR := hid hBR
    clear hcR hfR hBR hb ho
    go_wp2
    refine bodyPost_ret (v := .tuple #[.agg #[.int .i64 ((2 : Nat) : Int), .slice a 2 c], .bool true]) (by simp [results, Tryz.results9, go_sem, q0, q1, hzR]) rfl ⟨_, _, rfl, ?_, ?_⟩
    · exact ((HO.out.setB (by simp; omega) _ _).setB (by simp; omega) _ _).base (by simp; omega)
    · exact (HBR.out.setCell (by simp) _).setCell (by simp) _
  by_cases h3 : n = 3
  · subst h3
    show Calls Tryz.prog 9 #[.int .i64 3] w (ShOwn ((3 : Nat) : Int) [⟨#[97, 98]⟩, ⟨#[98, 99]⟩, ⟨#[99, 97]⟩] true w)
    have HP := hid (impl_ParseShift_ok ⟨#[51, 32, 97, 98, 32, 98, 99, 32, 99, 97]⟩ ⟨#[51]⟩ 3 [⟨#[97, 98]⟩, ⟨#[98, 99]⟩, ⟨#[99, 97]⟩] _ (by decide) (by decide +kernel) numN3 (by decide) HL.out)
    unfold ShOwn at HP ⊢
    go_enter Tryz.func9, Tryz.ntmps9
    go_wp2_with fail
    refine HP.out.mono ?_
    rintro e w1 ⟨a, c, rfl, ho, hb⟩
    obtain ⟨hcR, hfR, hzR, hBR⟩ := boxS (bs HBZ.out hb)
    have q0 := hcR 0
    have q1 := hcR 1
    have f0 := hfR 0
    have f1 := hfR 1
    simp at q0 q1
    have HO := hid ho
    have HBR := hid hBR
    clear hcR hfR hBR hb ho
    go_wp2
    refine bodyPost_ret (v := .tuple #[.agg #[.int .i64 ((3 : Nat) : Int), .slice a 3 c], .bool true]) (by simp [results, Tryz.results9, go_sem, q0, q1, hzR]) rfl ⟨_, _, rfl, ?_, ?_⟩
    · exact ((HO.out.setB (by simp; omega) _ _).setB (by simp; omega) _ _).base (by simp; omega)
    · exact (HBR.out.setCell (by simp) _).setCell (by simp) _
  by_cases h4 : n = 4
  · subst h4
    show Calls Tryz.prog 9 #[.int .i64 4] w (ShOwn ((2 : Nat) : Int) [⟨#[97, 97, 98]⟩] true w)
    have HP := hid (impl_ParseShift_ok ⟨#[50, 32, 97, 97, 98]⟩ ⟨#[50]⟩ 2 [⟨#[97, 97, 98]⟩] _ (by decide) (by decide +kernel) numN2 (by decide) HL.out)
    unfold ShOwn at HP ⊢
    go_enter Tryz.func9, Tryz.ntmps9
    go_wp2_with fail
    refine HP.out.mono ?_
    rintro e w1 ⟨a, c, rfl, ho, hb⟩
    obtain ⟨hcR, hfR, hzR, hBR⟩ := boxS (bs HBZ.out hb)
    have q0 := hcR 0
    have q1 := hcR 1
    have f0 := hfR 0
    have f1 := hfR 1
    simp at q0 q1
    have HO := hid ho
    have HBR := hid hBR
    clear hcR hfR hBR hb ho
    go_wp2
    refine bodyPost_ret (v := .tuple #[.agg #[.int .i64 ((2 : Nat) : Int), .slice a 1 c], .bool true]) (by simp [results, Tryz.results9, go_sem, q0, q1, hzR]) rfl ⟨_, _, rfl, ?_, ?_⟩
    · exact ((HO.out.setB (by simp; omega) _ _).setB (by simp; omega) _ _).base (by simp; omega)
    · exact (HBR.out.setCell (by simp) _).setCell (by simp) _
  by_cases h5 : n = 5
  · subst h5
    show Calls Tryz.prog 9 #[.int .i64 5] w (ShOwn ((2 : Nat) : Int) [] true w)
    have HP := hid (impl_ParseShift_ok ⟨#[50]⟩ ⟨#[50]⟩ 2 [] _ (by decide) (by decide +kernel) numN2 (by decide) HL.out)
    unfold ShOwn at HP ⊢
    go_enter Tryz.func9, Tryz.ntmps9
    go_wp2_with fail
    refine HP.out.mono ?_
    rintro e w1 ⟨a, c, rfl, ho, hb⟩
    obtain ⟨hcR, hfR, hzR, hBR⟩ := boxS (bs HBZ.out hb)
    have q0 := hcR 0
    have q1 := hcR 1
    have f0 := hfR 0
    have f1 := hfR 1
    simp at q0 q1
    have HO := hid ho
    have HBR := hid hBR
    clear hcR hfR hBR hb ho
    go_wp2
    refine bodyPost_ret (v := .tuple #[.agg #[.int .i64 ((2 : Nat) : Int), .slice a 0 c], .bool true]) (by simp [results, Tryz.results9, go_sem, q0, q1, hzR]) rfl ⟨_, _, rfl, ?_, ?_⟩
    · exact ((HO.out.setB (by simp; omega) _ _).setB (by simp; omega) _ _).base (by simp; omega)
    · exact (HBR.out.setCell (by simp) _).setCell (by simp) _
  by_cases h6 : n = 6
  · subst h6
    show Calls Tryz.prog 9 #[.int .i64 6] w (ShOwn ((2 : Nat) : Int) [⟨#[97, 98, 97]⟩, ⟨#[98, 97, 98]⟩] true w)
    have HP := hid (impl_ParseShift_ok ⟨#[50, 32, 97, 98, 97, 32, 98, 97, 98]⟩ ⟨#[50]⟩ 2 [⟨#[97, 98, 97]⟩, ⟨#[98, 97, 98]⟩] _ (by decide) (by decide +kernel) numN2 (by decide) HL.out)
    unfold ShOwn at HP ⊢
    go_enter Tryz.func9, Tryz.ntmps9
    go_wp2_with fail
    refine HP.out.mono ?_
    rintro e w1 ⟨a, c, rfl, ho, hb⟩
    obtain ⟨hcR, hfR, hzR, hBR⟩ := boxS (bs HBZ.out hb)
    have q0 := hcR 0
    have q1 := hcR 1
    have f0 := hfR 0
    have f1 := hfR 1
    simp at q0 q1
    have HO := hid ho
    have HBR := hid hBR
    clear hcR hfR hBR hb ho
    go_wp2
    refine bodyPost_ret (v := .tuple #[.agg #[.int .i64 ((2 : Nat) : Int), .slice a 2 c], .bool true]) (by simp [results, Tryz.results9, go_sem, q0, q1, hzR]) rfl ⟨_, _, rfl, ?_, ?_⟩
    · exact ((HO.out.setB (by simp; omega) _ _).setB (by simp; omega) _ _).base (by simp; omega)
    · exact (HBR.out.setCell (by simp) _).setCell (by simp) _
  rw [exS_none (by omega)]
  show Calls Tryz.prog 9 #[.int .i64 n] w (ShOwn 0 [] false w)
  obtain ⟨hcR, hfR, hzR, hBR⟩ := boxS HBZ.out
  rcases (by omega : n < 1 ∨ 6 < n) with hn | hn
  · go_enter Tryz.func9, Tryz.ntmps9
    go_wp2
    refine bodyPost_ret (v := .tuple #[.agg #[.int .i64 0, .slice none 0 0], .bool false]) (by simp [results, Tryz.results9, go_sem]) rfl (sh_mk none 0 (off_none _ _) hBR)
  · have hn1 : ¬ (n < 1) := by omega
    go_enter Tryz.func9, Tryz.ntmps9
    go_wp2
    refine bodyPost_ret (v := .tuple #[.agg #[.int .i64 0, .slice none 0 0], .bool false]) (by simp [results, Tryz.results9, go_sem]) rfl (sh_mk none 0 (off_none _ _) hBR)
end Go.Proofs.YtpncmmdjkcdemaaGreatDoor
