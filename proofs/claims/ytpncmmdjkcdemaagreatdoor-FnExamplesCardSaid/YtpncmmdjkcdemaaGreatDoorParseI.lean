/- A matrix read where the text writes one: the program's functions. Conditions: the text writes a matrix, the tables lie as the program lays them. -/
import Derived.Test.YtpncmmdjkcdemaaGreatDoorExT
import Derived.Test.YtpncmmdjkcdemaaGreatDoorNums
namespace Go.Proofs.YtpncmmdjkcdemaaGreatDoor
open Go.RowKit

/-- The greatest length of a text that is sought by machine instructions: some number. -/
def MaxW (w : World) : Prop := ∃ m : Int, w.cell? ⟨0, 0, none⟩ = some (.int .i64 m)
theorem max_below {B : Nat} {w w' : World} (h : MaxW w) (hb : Below B w w') (hB : w.heap.size ≤ B) : MaxW w' := by
  obtain ⟨m, hm⟩ := h
  exact ⟨m, (hb.cell (p := ⟨_, 0, none⟩) (Nat.lt_of_lt_of_le (World.block_lt_of_cell? w _ hm) hB)).trans hm⟩
structure LaidW (w : World) : Prop where
  tab : TabW w
  max : MaxW w
theorem laid_below {B : Nat} {w w' : World} (h : LaidW w) (hb : Below B w w') (hB : w.heap.size ≤ B) : LaidW w' := ⟨tab_below h.tab hb hB, max_below h.max hb hB⟩
theorem splitB_size (sep : ByteArray) (save : Nat) : ∀ (k : Nat) (s : ByteArray) {p : ByteArray}, p ∈ Lib.splitB sep save k s → p.size ≤ s.size
  | 0, s, p, h => by
    simp [Lib.splitB] at h
    rw [h]; exact Nat.le_refl _
  | k + 1, s, p, h => by
    unfold Lib.splitB at h
    split at h
    · simp at h
      rw [h]; exact Nat.le_refl _
    · rcases List.mem_cons.1 h with e | h
      · rw [e, ByteArray.size_extract]; omega
      · have := splitB_size sep save k _ h
        rw [ByteArray.size_extract] at this
        omega
theorem bytes_below (w : World) (e : TypeId) (s : ByteArray) : Below w.heap.size w (Lib.bytesWorld w e s) where
  os := rfl
  tape := rfl
  output := rfl
  size := by rw [Lib.bytesWorld_size]; omega
  block := fun k hk => Lib.bytesWorld_at_old w e s k hk
theorem infoIntP : (Tryz.prog.info? 3).map (fun i => (i.zero, i.size, i.bytes)) = some (some (.int .i64 0), 1, 8) := by kernel_rfl
theorem infoIntsP : (Tryz.prog.info? 57).map (fun i => (i.zero, i.size, i.bytes)) = some (some (.slice none 0 0), 1, 24) := by kernel_rfl
theorem split_c (s : ByteArray) (b : UInt8) (w : World) (hs : s.size ≤ 1048576) (hw : MaxW w) :
    Calls Tryz.prog 40 #[.string s, .string ⟨#[b]⟩] w fun e w' => ∃ g c, e = .returned (.slice (some ⟨g, 0, none⟩) (cutI s b).length c) ∧ w'.ownsRow w.heap.size 9 1 (.slice (some ⟨g, 0, none⟩) (cutI s b).length c) (cutI s b).length (strVals (cutI s b)) ∧ Below w.heap.size w w' ∧ 1 ≤ (cutI s b).length ∧ (cutI s b).length ≤ s.size + 1 := by
  obtain ⟨m, hm⟩ := hw
  have h1 : 1 ≤ (⟨#[b]⟩ : ByteArray).size := Nat.le_refl 1
  have hl : (cutI s b).length = Lib.countB s ⟨#[b]⟩ + 1 := Lib.splitB_all ⟨#[b]⟩ h1 0 _ s rfl
  have hle := Lib.countB_le ⟨#[b]⟩ h1 s.size s (Nat.le_refl _)
  refine (Tryz.strings_Split s ⟨#[b]⟩ m w (by omega) hm h1).mono ?_
  rintro e w' ⟨rfl, rfl⟩
  have ho := owns_lit2 (w := w) (base := w.heap.size) (e := 9) ((cutI s b).map Value.string).toArray (strVals (cutI s b)) (by simp [strVals]) (Nat.le_refl _) (by simp; unfold maxLen; omega)
  simp only [List.size_toArray, List.length_map] at ho
  have hsl : (strVals (cutI s b)).length = (cutI s b).length := by simp [strVals]
  rw [hsl] at ho
  rw [← hl]
  exact ⟨_, _, rfl, ho, (Below.refl _ _).alloc (Nat.le_refl _) _, by omega, by omega⟩
set_option maxHeartbeats 1000000 in
theorem impl_parse_ok (s : ByteArray) (x lo hi : Int) (w : World) (h : okNum lo hi s x) (h0 : -1000000000000 ≤ lo) (h1 : hi ≤ 1000000000000) (hw : LaidW w) :
    Calls Tryz.prog 51 #[.string s, .int .i64 lo, .int .i64 hi] w fun e w' => e = .returned (.tuple #[.int .i64 x, .bool true]) ∧ Below w.heap.size w w' := by
  obtain ⟨hs, ha, hlo, hhi, hf⟩ := h
  have HA := hid (Tryz.strconv_Atoi s x hs ha w)
  have HF := hid (fun (w' : World) (hb : Below w.heap.size w w') => impl_FormatInt_c x w' (show I64 x from ⟨by omega, by omega⟩) (tab_below hw.tab hb (Nat.le_refl _)))
  rw [hf] at HF
  have hq := str_beq s s
  rw [decide_eq_true rfl] at hq
  clear ha hf hw
  go_enter Tryz.func51, Tryz.ntmps51
  go_wp2_with fail
  refine HA.out.mono ?_
  rintro e w1 ⟨rfl, t, ht⟩
  have hb1 : Below w.heap.size w w1 := by rw [ht]; exact bytes_below _ _ _
  clear ht
  go_wp2_with fail
  refine (HF.out _ hb1).mono ?_
  rintro e w2 ⟨rfl, hb2⟩
  go_wp2
  go_ret2
  exact ⟨rfl, bs hb1 hb2⟩
set_option maxHeartbeats 2000000 in
set_option maxRecDepth 100000 in
theorem impl_parseRow_ok (t : ByteArray) (xs : List Int) (w : World) (hs : t.size ≤ 1048576) (h : okRow t xs) (hw : LaidW w) :
    Calls Tryz.prog 41 #[.string t] w fun e w' => ∃ g c, e = .returned (.tuple #[.slice (some ⟨g, 0, none⟩) xs.length c, .bool true]) ∧ w'.ownsRow w.heap.size 3 1 (.slice (some ⟨g, 0, none⟩) xs.length c) xs.length (intVals xs) ∧ Below w.heap.size w w' := by
  obtain ⟨hlen, hok⟩ := okNums_at h
  have hB0 := (Below.refl w.heap.size w).alloc (Nat.le_refl _) (.cells #[] 3)
  have HC := hid (split_c t 44 (w.alloc (.cells #[] 3)) hs (max_below hw.max hB0 (Nat.le_refl _)))
  obtain ⟨ps, hps⟩ : ∃ ps, ps = cutI t 44 := ⟨_, rfl⟩
  rw [← hps] at HC hlen hok
  have HOK := hid hok
  have HLW := hid hw
  have hO0 := hid (own_nilM w 3 (Nat.le_refl w.heap.size))
  have HB0 := hid hB0
  have HLEN := hid hlen
  clear hps hok hw hB0 h hlen
  go_enter Tryz.func41, Tryz.ntmps41
  go_wp2_with fail
  refine HC.out.mono ?_
  rintro e w1 ⟨gq, cq, rfl, hq, hb1, hl1, hl2⟩
  have hQ0 := hid (owns_base hq HB0.out.size)
  have hR0 := hid (owns_below hO0.out hb1)
  have hB1 := hid (bs HB0.out hb1)
  clear hq hb1 hO0 HB0 HC
  go_wp2
  go_loopw [4, 13] (fun v i wr => ∃ (k g cg : Nat), k ≤ ps.length ∧ i = .int .i64 k ∧ v = .slice (some ⟨g, 0, none⟩) k cg ∧ Hid (wr.ownsRow w.heap.size 3 1 (.slice (some ⟨g, 0, none⟩) k cg) k (intVals (xs.take k))) ∧ Hid (wr.ownsRow w.heap.size 9 1 (.slice (some ⟨gq, 0, none⟩) ps.length cq) ps.length (strVals ps)) ∧ Hid (Below w.heap.size w wr)) (fun _ i _ => ps.length - (intOf i).toNat)
  case atStart => exact ⟨0, w.heap.size, 0, by omega, rfl, rfl, hid (by simpa [intVals] using hR0.out), hQ0, hB1⟩
  case round =>
    obtain ⟨k, g, cg, hk, rfl, rfl, HR, HQ, HB⟩ := hrel
    have hwr : w.heap.size ≤ wr.heap.size := HB.out.size
    by_cases hlt : k < ps.length
    · obtain ⟨p, hp⟩ := get_some (l := ps) (n := k) hlt
      obtain ⟨x, hx⟩ := get_some (l := xs) (n := k) (by rw [← HLEN.out]; exact hlt)
      have hcell : wr.cell? ⟨gq, k, none⟩ = some (.string p) := (HQ.out.cellAt k (by omega)).trans (strVals_get hp)
      have hki : (k : Int) < (ps.length : Int) := by omega
      have HPI := hid (impl_parse_ok p x 0 1000000 wr (HOK.out k p x hp hx) (by omega) (by omega) (laid_below HLW.out HB.out (Nat.le_refl _)))
      have HSX := hid (show intVals (xs.take (k + 1)) = intVals (xs.take k) ++ [.int .i64 x] by simp [intVals, List.take_add_one, hx])
      clear hp hx
      go_wp2_with fail
      refine HPI.out.mono ?_
      rintro e w3 ⟨rfl, hb3⟩
      have hrow3 := owns_below HR.out hb3
      have HRW3 := hid hrow3
      have HQ3 := hid (owns_below HQ.out hb3)
      have HB3 := hid (bs HB.out hb3)
      have hw3 : w.heap.size ≤ w3.heap.size := HB3.out.size
      clear hb3 HPI
      go_wp2_with (first | (at_builtin; go_must (refine wpList_appg rfl _ _ 57 rfl w.heap.size 3 (.int .i64 0) 8 Tryz.underlying57 infoIntP rfl _ k (intVals (xs.take k)) _ hrow3 rfl rfl rfl (by omega) (by unfold maxLen; omega) hw3 ?_); intro v' w4 hown' hgr'))
      obtain ⟨g4, c4, rfl, _, _⟩ := own_form hown' (by omega)
      go_roundw
      case rel => exact ⟨k + 1, g4, c4, by omega, by go_num, rfl, hid (by rw [HSX.out]; exact hown'), hid (HQ3.out.kept hgr' (owns_ne HQ3.out HRW3.out (by decide))), hid (HB3.out.grown hgr' hw3 (fun k hk => (HRW3.out.lt k hk).1))⟩
      case measure => simp [intOf] <;> omega
    · obtain rfl : k = ps.length := by omega
      have hr := HR.out
      rw [List.take_of_length_le (by have := HLEN.out; omega)] at hr
      have HRR := hid hr
      clear hr
      go_wp2
      go_ret2
      exact ⟨g, cg, by rw [HLEN.out]; rfl, by rw [← HLEN.out]; exact HRR.out, HB.out⟩
theorem impl_checked_ok (a : Option Addr) (n c : Nat) (M : List (List Int)) (w : World) (h : TabAt w a n M) (hm : isMat M = true) :
    Calls Tryz.prog 42 #[.slice a n c] w fun e w' => e = .returned (.tuple #[.slice a n c, .bool true]) ∧ w = w' := by
  have HI := hid (impl_IsMatrix_c a n c M w h)
  rw [hm] at HI
  clear h hm
  go_enter Tryz.func42, Tryz.ntmps42
  go_wp2_with fail
  refine HI.out.mono ?_
  rintro e w1 ⟨rfl, rfl⟩
  go_wp2
  go_ret2
  exact ⟨rfl, rfl⟩
def MatPost (M : List (List Int)) (w : World) (e : Ending) (w' : World) : Prop :=
  ∃ v, e = .returned (.tuple #[v, .bool true]) ∧ TGrid 57 3 w' w.heap.size v M ∧ Below w.heap.size w w'
set_option maxHeartbeats 2000000 in
set_option maxRecDepth 100000 in
theorem impl_ParseMatrix_ok (t : ByteArray) (M : List (List Int)) (w : World) (hs : t.size ≤ 1000) (h : okTab t M) (hw : LaidW w) :
    Calls Tryz.prog 27 #[.string t] w (MatPost M w) := by
  obtain ⟨h, hmat⟩ := h
  obtain ⟨hlen, hok⟩ := okRows_at h
  have hml : M.length ≤ 9 ∧ ∀ r ∈ M, r.length ≤ 9 := by
    have hm := hmat
    unfold isMat at hm
    rw [Bool.and_eq_true, inB_iff, List.all_eq_true] at hm
    refine ⟨by omega, fun r hr => ?_⟩
    have := hm.1 r hr
    unfold rowOk at this
    rw [Bool.and_eq_true, decide_eq_true_eq] at this
    omega
  unfold MatPost
  have hB0 := (Below.refl w.heap.size w).alloc (Nat.le_refl _) (.cells #[] 57)
  have HC := hid (split_c t 47 (w.alloc (.cells #[] 57)) (by omega) (max_below hw.max hB0 (Nat.le_refl _)))
  obtain ⟨ps, hps⟩ : ∃ ps, ps = cutI t 47 := ⟨_, rfl⟩
  rw [← hps] at HC hlen hok
  have HOK := hid hok
  have HPZ := hid (show ∀ p ∈ ps, p.size ≤ 1048576 by
    intro p hp
    rw [hps] at hp
    have := splitB_size _ 0 _ t hp
    omega)
  have HLW := hid hw
  have hO0 := hid (own_nilM w 57 (Nat.le_refl w.heap.size))
  have HB0 := hid hB0
  have HLEN := hid hlen
  have HMAT := hid hmat
  have HML := hid hml
  have hps9 : ps.length ≤ 9 := by omega
  clear hps hok hw hB0 h hlen hmat hml
  go_enter Tryz.func27, Tryz.ntmps27
  go_wp2_with fail
  refine HC.out.mono ?_
  rintro e w1 ⟨gq, cq, rfl, hq, hb1, hl1, hl2⟩
  have hQ0 := hid (owns_base hq HB0.out.size)
  have hR0 := hid (owns_below hO0.out hb1)
  have hB1 := hid (bs HB0.out hb1)
  clear hq hb1 hO0 HB0 HC
  go_wp2
  go_loopw [4, 13] (fun v i wr => ∃ (k : Nat) (vs : List Value), k ≤ ps.length ∧ i = .int .i64 k ∧ Hid (wr.ownsRow w.heap.size 57 1 v k vs) ∧ Hid (TRows 3 wr w.heap.size vs (M.take k)) ∧ Hid (wr.ownsRow w.heap.size 9 1 (.slice (some ⟨gq, 0, none⟩) ps.length cq) ps.length (strVals ps)) ∧ Hid (Below w.heap.size w wr)) (fun _ i _ => ps.length - (intOf i).toNat)
  case atStart => exact ⟨0, [], by omega, rfl, hR0, hid (by rw [List.take_zero]; exact TRows.nil _ _ _), hQ0, hB1⟩
  case round =>
    obtain ⟨k, vs, hk, rfl, HO, HT, HQ, HB⟩ := hrel
    have hwr : w.heap.size ≤ wr.heap.size := HB.out.size
    by_cases hlt : k < ps.length
    · obtain ⟨p, hp⟩ := get_some (l := ps) (n := k) hlt
      obtain ⟨x, hx⟩ := get_some (l := M) (n := k) (by rw [← HLEN.out]; exact hlt)
      have hcell : wr.cell? ⟨gq, k, none⟩ = some (.string p) := (HQ.out.cellAt k (by omega)).trans (strVals_get hp)
      have hki : (k : Int) < (ps.length : Int) := by omega
      have HPI := hid (impl_parseRow_ok p x wr (HPZ.out p (List.mem_of_getElem? hp)) (HOK.out k p x hp hx) (laid_below HLW.out HB.out (Nat.le_refl _)))
      have HSX := hid (show M.take (k + 1) = M.take k ++ [x] by simp [List.take_add_one, hx])
      have hvl := hid (show vs.length = k by
        have := HT.out.len
        rw [List.length_take] at this
        have := HLEN.out
        omega)
      clear hp hx
      go_wp2_with fail
      refine HPI.out.mono ?_
      rintro e w3 ⟨g3, c3, rfl, ho3, hb3⟩
      have hg3 : wr.heap.size ≤ g3 := (ho3.lt g3 rfl).1
      have hout3 := owns_below HO.out hb3
      have HO3 := hid hout3
      have HT3 := hid (HT.out.moreAt (below_none hb3) hg3 (owns_base ho3 hwr))
      have HQ3 := hid (owns_below HQ.out hb3)
      have HB3 := hid (bs HB.out hb3)
      have hw3 : w.heap.size ≤ w3.heap.size := HB3.out.size
      clear hb3 HPI ho3
      go_wp2_with (first | (at_builtin; go_must (refine wpList_appg rfl _ _ 25 rfl w.heap.size 57 (.slice none 0 0) 24 Tryz.underlying25 infoIntsP rfl _ k vs _ hout3 rfl rfl rfl (by omega) (by unfold maxLen; omega) hw3 ?_); intro v' w4 hown' hgr'))
      go_roundw
      case rel => exact ⟨k + 1, vs ++ [.slice (some ⟨g3, 0, none⟩) x.length c3], by omega, by go_num, hid hown', hid (by rw [HSX.out]; exact HT3.out.kept HO3.out (by decide) hgr'), hid (HQ3.out.kept hgr' (owns_ne HQ3.out HO3.out (by decide))), hid (HB3.out.grown hgr' hw3 (fun k hk => (HO3.out.lt k hk).1))⟩
      case measure => simp [intOf] <;> omega
    · obtain rfl : k = ps.length := by omega
      have ht := HT.out
      rw [List.take_of_length_le (by have := HLEN.out; omega)] at ht
      have ho := HO.out
      rw [HLEN.out] at ho
      have HG := hid (show TGrid 57 3 wr w.heap.size _ M from ⟨vs, ho, ht⟩)
      obtain ⟨ga, gc, rfl, hta⟩ := grid_tabAt HG.out (by have := HML.out.1; omega) (fun r hr => Nat.le_trans (HML.out.2 r hr) (by omega))
      have HIM := hid (impl_checked_ok ga M.length gc M wr hta HMAT.out)
      clear hta ht ho
      go_wp2_with fail
      refine HIM.out.mono ?_
      rintro e w3 ⟨rfl, rfl⟩
      go_wp2
      go_ret2
      exact ⟨_, rfl, HG.out, HB.out⟩
end Go.Proofs.YtpncmmdjkcdemaaGreatDoor
