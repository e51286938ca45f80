/- A shift read where the text writes one: both functions. Conditions: the text writes a shift, the tables lie as the program lays them. -/
import Derived.Test.YtpncmmdjkcdemaaGreatDoorShiftS
namespace Go.Proofs.YtpncmmdjkcdemaaGreatDoor
open Go.RowKit

/-- Texts that lie in memory of the call's own, somewhere in a block. -/
structure OffRow (w : World) (base : Nat) (a : Option Addr) (n : Nat) (xs : List Value) : Prop where
  len : xs.length = n
  lim : n ≤ 1000
  at_ : 0 < n → ∃ g off, a = some ⟨g, off, none⟩ ∧ base ≤ g ∧ g < w.heap.size ∧ (∀ (j : Nat) (x : Value), xs[j]? = some x → w.cell? ⟨g, off + j, none⟩ = some x) ∧ ∀ j, w.frozen? ⟨g, off + j, none⟩ = false
theorem OffRow.row {w : World} {base n : Nat} {a : Option Addr} {xs : List Value} (h : OffRow w base a n xs) : RowAt w a n xs :=
  ⟨h.len, by have := h.lim; omega, fun hn => by
    obtain ⟨g, off, ha, _, hg, hc, _⟩ := h.at_ hn
    exact ⟨g, off, ha, hg, hc⟩⟩
theorem OffRow.below {w w' : World} {base n : Nat} {a : Option Addr} {xs : List Value} (h : OffRow w base a n xs) (hb : Below w.heap.size w w') : OffRow w' base a n xs :=
  ⟨h.len, h.lim, fun hn => by
    obtain ⟨g, off, ha, h1, hg, hc, hf⟩ := h.at_ hn
    exact ⟨g, off, ha, h1, Nat.lt_of_lt_of_le hg hb.size, fun j x hx => (hb.cell (p := ⟨g, off + j, none⟩) hg).trans (hc j x hx), fun j => (hb.frozen (p := ⟨g, off + j, none⟩) hg).trans (hf j)⟩⟩
theorem OffRow.base {w : World} {base base' n : Nat} {a : Option Addr} {xs : List Value} (h : OffRow w base a n xs) (hb : base' ≤ base) : OffRow w base' a n xs :=
  ⟨h.len, h.lim, fun hn => by
    obtain ⟨g, off, ha, h1, hg, hc, hf⟩ := h.at_ hn
    exact ⟨g, off, ha, Nat.le_trans hb h1, hg, hc, hf⟩⟩
theorem OffRow.setB {w : World} {base n b : Nat} {a : Option Addr} {xs : List Value} (h : OffRow w base a n xs) (hb : b < base) (q : Nat) (y : Value) : OffRow (w.setCell ⟨b, q, none⟩ y) base a n xs :=
  ⟨h.len, h.lim, fun hn => by
    obtain ⟨g, off, ha, h1, hg, hc, hf⟩ := h.at_ hn
    refine ⟨g, off, ha, h1, by simpa using hg, fun j x hx => ?_, fun j => ?_⟩
    · rw [World.cell?_setCell_other _ _ _ _ (fun e => by injection e with e1; omega)]
      exact hc j x hx
    · rw [World.frozen?_setCell]
      exact hf j⟩
/-- What a function leaves that hands out a shift that is one. -/
def ShOwn (k : Int) (ss : List ByteArray) (b : Bool) (w : World) (e : Ending) (w' : World) : Prop :=
  ∃ a c, e = .returned (.tuple #[.agg #[.int .i64 k, .slice a ss.length c], .bool b]) ∧ OffRow w' w.heap.size a ss.length (strVals ss) ∧ Below w.heap.size w w'
theorem off_of_own {w : World} {base n g c : Nat} {x : Value} {xs : List Value} (h : w.ownsRow base 9 1 (.slice (some ⟨g, 0, none⟩) (n + 1) c) (n + 1) (x :: xs)) (hn : n ≤ 1000) : OffRow w base (some ⟨g, 1, none⟩) n xs := by
  have hl := h.1
  simp at hl
  refine ⟨by omega, hn, fun _ => ⟨g, 1, rfl, (h.lt g rfl).1, (h.lt g rfl).2, fun j y hy => ?_, fun j => ?_⟩⟩
  · rw [h.cellAt (1 + j) (by have := (List.getElem?_eq_some_iff.1 hy).1; omega), Nat.add_comm, List.getElem?_cons_succ]
    exact hy
  · exact h.frozenAt (1 + j)
theorem off_of_own0 {w : World} {base n g c : Nat} {xs : List Value} (h : w.ownsRow base 9 1 (.slice (some ⟨g, 0, none⟩) n c) n xs) (hn : n ≤ 1000) : OffRow w base (some ⟨g, 0, none⟩) n xs := by
  have hl := h.1
  refine ⟨by omega, hn, fun _ => ⟨g, 0, rfl, (h.lt g rfl).1, (h.lt g rfl).2, fun j y hy => ?_, fun j => ?_⟩⟩
  · rw [Nat.zero_add, h.cellAt j (by have := (List.getElem?_eq_some_iff.1 hy).1; omega)]
    exact hy
  · exact h.frozenAt (0 + j)
theorem infoStrS : (Tryz.prog.info? 9).map (fun i => (i.zero, i.size, i.bytes)) = some (some (.string ByteArray.empty), 1, 16) := by kernel_rfl
set_option maxHeartbeats 2000000 in
set_option maxRecDepth 100000 in
theorem spec_ParseShift_ok (t p : ByteArray) (k : Nat) (ss : List ByteArray) (w : World) (hs : t.size ≤ 1000) (hc : cutB t 32 = p :: ss) (hr : readO p 12 = some (k : Int)) (h : okShB k ss = true) :
    Calls Tryz.prog 30 #[.string t] w (ShOwn k ss true w) := by
  unfold ShOwn
  obtain ⟨_, hl8, _, _⟩ := okSh_facts h
  have hps := cutB_facts t 32
  rw [hc] at hps
  have hpz := hps.2.2 p (by simp)
  have HB0 := hid ((Below.refl w.heap.size w).alloc (Nat.le_refl _) (.cells #[.int .i64 0, .slice none 0 0] 30))
  have HC := hid (spec_SplitByte_c t 32 (w.alloc (.cells #[.int .i64 0, .slice none 0 0] 30)) (by omega))
  unfold CutPost at HC
  rw [hc] at HC
  have HP := hid (fun w => spec_ParseInt_c p w (by omega))
  rw [hr] at HP
  simp only [Option.getD_some, Option.isSome_some] at HP
  obtain ⟨n, hn⟩ : ∃ n, n = ss.length := ⟨_, rfl⟩
  have hln : (p :: ss).length = n + 1 := by simp [hn]
  rw [hln] at HC
  rw [← hn] at hl8
  have HN := hid hn
  have HOK := hid h
  rw [← hn]
  clear hps hc hr hln hn h
  go_enter Tryz.func30, Tryz.ntmps30
  go_wp2_with fail
  refine HC.out.mono ?_
  rintro e w1 ⟨v1, rfl, ho1, hb1⟩
  obtain ⟨gp, cp, rfl, hgp0, hgp1⟩ := own_form ho1 (by omega)
  have hcell0 : w1.cell? ⟨gp, 0, none⟩ = some (.string p) := (ho1.cellAt 0 (by omega)).trans rfl
  have HO1 := hid ho1
  have HB1 := hid hb1
  clear ho1 hb1 HC
  go_wp2_with fail
  refine (HP.out _).mono ?_
  rintro e w2 ⟨rfl, hb2⟩
  have HB2 := hid (bs HB1.out hb2)
  have HO2 := hid (owns_below HO1.out hb2)
  have hE := own_nilM w2 9 (B := w2.heap.size) (Nat.le_refl _)
  have HO3 := hid (owns_below HO2.out ((Below.refl _ _).alloc (Nat.le_refl _) (.cells #[] 9)))
  have hn1 : (1 : Int) ≤ (n : Int) + 1 := by omega
  clear hb2
  have hcs : ∀ (j : Nat) (u : Value), (strVals ss)[j]? = some u → (w2.alloc (.cells #[] 9)).cell? ⟨gp, 1 + j, none⟩ = some u := fun j u hu => by
    have := (List.getElem?_eq_some_iff.1 hu).1
    rw [HO3.out.cellAt (1 + j) (by simp [strVals] at this; have := HN.out; omega), Nat.add_comm]
    show (strVals (p :: ss))[j + 1]? = some u
    rw [← hu]
    simp [strVals]
  have huo : ∀ u ∈ strVals ss, u.oneCell' = true := by
    intro u hu
    obtain ⟨y, _, rfl⟩ := List.mem_map.1 hu
    rfl
  obtain ⟨off, hoff, hcso⟩ : ∃ off, (if cp = 1 then (some ⟨gp, 0, none⟩ : Option Addr) else some ⟨gp, 1, none⟩) = some ⟨gp, off, none⟩ ∧ ∀ (j : Nat) (u : Value), (strVals ss)[j]? = some u → (w2.alloc (.cells #[] 9)).cell? ⟨gp, off + j, none⟩ = some u := by
    by_cases hcp : cp = 1
    · refine ⟨0, if_pos hcp, fun j u hu => ?_⟩
      exfalso
      have h1 := (List.getElem?_eq_some_iff.1 hu).1
      have h2 : n + 1 ≤ cp := (owns_block HO1.out).choose_spec.2.2.1
      simp [strVals] at h1
      have := HN.out
      omega
    · exact ⟨1, if_neg hcp, hcs⟩
  have HCS := hid hcso
  have HUO := hid huo
  have HSL := hid (show (strVals ss).length = n by rw [HN.out]; simp [strVals])
  clear hcs huo hcso
  go_wp2_with (first | (at_builtin; go_must (refine wpList_appN rfl _ _ 28 rfl w2.heap.size 9 (.string ByteArray.empty) 16 Tryz.underlying28 infoStrS rfl w2.heap.size 0 0 [] hE rfl gp off n _ (strVals ss) rfl HSL.out HCS.out HUO.out (by omega) (by unfold maxLen; omega) (by simp) ?_); intro q5 c5 w5 hown5 hgr5 hq5 hlt5; simp only [Nat.zero_add, List.nil_append] at hown5))
  have hb25 : Below w2.heap.size w2 w5 := ((Below.refl _ _).alloc (Nat.le_refl _) (.cells #[] 9)).grown hgr5 (by simp) (by rintro k ⟨⟩; exact Nat.le_refl _)
  have HB5 := hid (bs HB2.out hb25)
  have HO5 := hid (off_of_own0 hown5 (by omega))
  have HIS := hid (spec_IsShift_ok k (some ⟨q5, 0, none⟩) n c5 ss (w5.alloc (.cells #[.int .i64 k, .slice (some ⟨q5, 0, none⟩) n c5] 30)) ((HO5.out.row).below ((Below.refl _ _).alloc (Nat.le_refl _) _) (Nat.le_refl _)) HOK.out)
  have h25 := hid hb25.size
  clear hown5 hgr5 hq5 hb25 hE
  go_wp2_with fail
  refine HIS.out.mono ?_
  rintro e w6 ⟨rfl, hb6⟩
  obtain ⟨hcS, hfS, hzS, hB56⟩ := boxS hb6
  have p0 := hcS 0
  have p1 := hcS 1
  have hB6 := bs HB5.out hB56
  obtain ⟨hcR, hfR, hzR, hBR⟩ := boxS hB6
  have q0 := hcR 0
  have q1 := hcR 1
  have f0 := hfR 0
  have f1 := hfR 1
  simp at p0 p1 q0 q1
  have HO6 := hid (HO5.out.below hB56)
  have HBR := hid hBR
  have hw2 := HB2.out.size
  simp at hw2
  clear hcS hfS hB56 hB6 hcR hfR hBR hb6 HIS
  go_wp2
  refine bodyPost_ret (v := .tuple #[.agg #[.int .i64 k, .slice (some ⟨q5, 0, none⟩) n c5], .bool true]) (by simp [results, Tryz.results30, go_sem, q0, q1, hzR]) rfl ⟨_, _, rfl, ?_, ?_⟩
  · exact ((HO6.out.setB (by omega) _ _).setB (by omega) _ _).base (by omega)
  · exact (HBR.out.setCell (by simp) _).setCell (by simp) _
theorem impl_ParseNumber_ok (s : ByteArray) (x : Int) (w : World) (h : okNum 0 999999 s x) (hw : LaidW w) :
    Calls Tryz.prog 45 #[.string s] w fun e w' => e = .returned (.tuple #[.int .i64 x, .bool true]) ∧ Below w.heap.size w w' := by
  have HP := hid (impl_parse_ok s x 0 999999 w h (by omega) (by omega) hw)
  clear h hw
  go_enter Tryz.func45, Tryz.ntmps45
  go_wp2_with fail
  refine HP.out.mono ?_
  rintro e w1 ⟨rfl, hb⟩
  go_wp2
  go_ret2
  exact ⟨rfl, hb⟩
set_option maxHeartbeats 2000000 in
set_option maxRecDepth 100000 in
theorem impl_ParseShift_ok (t p : ByteArray) (k : Nat) (ss : List ByteArray) (w : World) (hs : t.size ≤ 1000) (hc : cutI t 32 = p :: ss) (hr : okNum 0 999999 p (k : Int)) (h : okShB k ss = true) (hw : LaidW w) :
    Calls Tryz.prog 29 #[.string t] w (ShOwn k ss true w) := by
  unfold ShOwn
  obtain ⟨_, hl8, _, _⟩ := okSh_facts h
  have hB0 := (Below.refl w.heap.size w).alloc (Nat.le_refl _) (.cells #[.int .i64 0, .slice none 0 0] 30)
  have HC := hid (split_c t 32 (w.alloc (.cells #[.int .i64 0, .slice none 0 0] 30)) (by omega) (max_below hw.max hB0 (Nat.le_refl _)))
  rw [hc] at HC
  have HP := hid (fun (w' : World) (hb : Below w.heap.size w w') => impl_ParseNumber_ok p (k : Int) w' hr (laid_below hw hb (Nat.le_refl _)))
  obtain ⟨n, hn⟩ : ∃ n, n = ss.length := ⟨_, rfl⟩
  have hln : (p :: ss).length = n + 1 := by simp [hn]
  rw [hln] at HC
  rw [← hn] at hl8
  have HN := hid hn
  have HOK := hid h
  have HB0 := hid hB0
  rw [← hn]
  clear hc hr hln hn h hw hB0
  go_enter Tryz.func29, Tryz.ntmps29
  go_wp2_with fail
  refine HC.out.mono ?_
  rintro e w1 ⟨gp, cp, rfl, ho1, hb1, _, _⟩
  have hcell0 : w1.cell? ⟨gp, 0, none⟩ = some (.string p) := (ho1.cellAt 0 (by omega)).trans rfl
  have HO1 := hid ho1
  have HB1 := hid hb1
  have HBW := hid (bs HB0.out hb1)
  clear ho1 hb1 HC
  go_wp2_with fail
  refine (HP.out _ HBW.out).mono ?_
  rintro e w2 ⟨rfl, hb2⟩
  have HB2 := hid (bs HB1.out hb2)
  have HO2 := hid (owns_below HO1.out hb2)
  have hn1 : (1 : Int) ≤ (n : Int) + 1 := by omega
  clear hb2 HP
  obtain ⟨off, hoff, hOf⟩ : ∃ off, (if cp = 1 then (some ⟨gp, 0, none⟩ : Option Addr) else some ⟨gp, 1, none⟩) = some ⟨gp, off, none⟩ ∧ OffRow w2 (w.heap.size + 1) (some ⟨gp, off, none⟩) n (strVals ss) := by
    have ho2 : w2.ownsRow (w.heap.size + 1) 9 1 (.slice (some ⟨gp, 0, none⟩) (n + 1) cp) (n + 1) (.string p :: strVals ss) := by
      have := HO2.out
      rw [show (w.alloc (.cells #[.int .i64 0, .slice none 0 0] 30)).heap.size = w.heap.size + 1 by simp] at this
      exact this
    by_cases hcp : cp = 1
    · have h2 : n + 1 ≤ cp := (owns_block HO1.out).choose_spec.2.2.1
      obtain rfl : n = 0 := by omega
      exact ⟨0, if_pos hcp, ⟨by simp [strVals, ← HN.out], by omega, fun h => by omega⟩⟩
    · exact ⟨1, if_neg hcp, off_of_own ho2 (by omega)⟩
  have HOF := hid hOf
  have HIS := hid (fun c5 => impl_IsShift_ok k (some ⟨gp, off, none⟩) n c5 ss (w2.alloc (.cells #[.int .i64 k, .slice (some ⟨gp, off, none⟩) n c5] 30)) ((HOF.out.row).below ((Below.refl _ _).alloc (Nat.le_refl _) _) (Nat.le_refl _)) HOK.out)
  clear hOf
  go_wp2_with fail
  refine (HIS.out _).mono ?_
  rintro e w6 ⟨rfl, hb6⟩
  obtain ⟨hcS, hfS, hzS, hB56⟩ := boxS hb6
  have p0 := hcS 0
  have p1 := hcS 1
  have hB6 := bs HB2.out hB56
  obtain ⟨hcR, hfR, hzR, hBR⟩ := boxS hB6
  have q0 := hcR 0
  have q1 := hcR 1
  have f0 := hfR 0
  have f1 := hfR 1
  simp at p0 p1 q0 q1
  have HO6 := hid (HOF.out.below hB56)
  have HBR := hid hBR
  clear hcS hfS hB56 hB6 hcR hfR hBR hb6 HIS
  go_wp2
  refine bodyPost_ret (v := .tuple #[.agg #[.int .i64 k, .slice (some ⟨gp, off, none⟩) n (cp - 1)], .bool true]) (by simp [results, Tryz.results29, go_sem, q0, q1, hzR]) rfl ⟨_, _, rfl, ?_, ?_⟩
  · exact ((HO6.out.setB (by omega) _ _).setB (by omega) _ _).base (by omega)
  · exact (HBR.out.setCell (by simp) _).setCell (by simp) _
end Go.Proofs.YtpncmmdjkcdemaaGreatDoor
