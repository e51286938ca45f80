/- A matrix read: the reference's function. Conditions: sizes of at most 1048576 bytes. -/
import Derived.Test.YtpncmmdjkcdemaaGreatDoorCut
import Derived.Test.YtpncmmdjkcdemaaGreatDoorReadN
import Derived.Test.YtpncmmdjkcdemaaGreatDoorRowM
import Derived.Test.YtpncmmdjkcdemaaGreatDoorMat
namespace Go.Proofs.YtpncmmdjkcdemaaGreatDoor
open Go.RowKit

def rowR (p : ByteArray) : Option (List Int) := allO (fun q => readO q 12) (cutB p 44)
def tabR (t : ByteArray) : Option (List (List Int)) := allO rowR (cutB t 47)
/-- The matrix that a text writes. -/
def parseMO (t : ByteArray) : Option (List (List Int)) := (tabR t).bind fun M => if isMat M = true then some M else none
theorem rowR_len {p : ByteArray} {r : List Int} (h : rowR p = some r) : 1 ≤ r.length ∧ r.length ≤ p.size + 1 := by
  have h1 := allO_len h
  have h2 := cutB_facts p 44
  omega
def ParseMPost (t : ByteArray) (w : World) (e : Ending) (w' : World) : Prop :=
  ∃ v, e = .returned (.tuple #[v, .bool (parseMO t).isSome]) ∧ TGrid 57 3 w' w.heap.size v ((parseMO t).getD []) ∧ Below w.heap.size w w'
theorem spec_ParseInt_c (s : ByteArray) (w : World) (hs : s.size ≤ 1048576) :
    Calls Tryz.prog 44 #[.string s] w fun e w' => e = .returned (.tuple #[.int .i64 ((readO s 12).getD 0), .bool (readO s 12).isSome]) ∧ Below w.heap.size w w' := by
  have HR := hid (l1Read_c s 12 w hs (by omega))
  obtain ⟨x, hx⟩ : ∃ x, x = (readO s 12).getD 0 := ⟨_, rfl⟩
  obtain ⟨b, hb⟩ : ∃ b, b = (readO s 12).isSome := ⟨_, rfl⟩
  rw [← hx, ← hb] at HR
  rw [← hx, ← hb]
  clear hx hb
  go_enter Tryz.func44, Tryz.ntmps44
  go_wp2_with fail
  refine HR.out.mono ?_
  rintro e w1 ⟨rfl, hb⟩
  go_wp2
  go_ret2
  exact ⟨rfl, hb⟩
theorem infoIntM : (Tryz.prog.info? 3).map (fun i => (i.zero, i.size, i.bytes)) = some (some (.int .i64 0), 1, 8) := by kernel_rfl
theorem infoIntsM : (Tryz.prog.info? 57).map (fun i => (i.zero, i.size, i.bytes)) = some (some (.slice none 0 0), 1, 24) := by kernel_rfl
theorem own_nilM (w : World) (T : TypeId) {B : Nat} (hB : B ≤ w.heap.size) : (w.alloc (.cells #[] T)).ownsRow B T 1 (.slice (some ⟨w.heap.size, 0, none⟩) 0 0) 0 [] := World.ownsRow_made w #[] 0 hB (Nat.zero_le _) rfl
set_option maxHeartbeats 4000000 in
set_option maxRecDepth 100000 in
theorem spec_ParseMatrix_c (t : ByteArray) (w : World) (hs : t.size ≤ 1048576) :
    Calls Tryz.prog 28 #[.string t] w (ParseMPost t w) := by
  unfold ParseMPost
  have HC := hid (spec_SplitByte_c t 47 (w.alloc (.cells #[] 57)) hs)
  have HO := hid (own_nilM w 57 (Nat.le_refl w.heap.size))
  have HB0 := hid ((Below.refl w.heap.size w).alloc (Nat.le_refl _) (.cells #[] 57))
  unfold CutPost at HC
  have hps := cutB_facts t 47
  have HP := hid (show parseMO t = (allO rowR (cutB t 47)).bind fun M => if isMat M = true then some M else none from rfl)
  obtain ⟨ps, hpse⟩ : ∃ ps, ps = cutB t 47 := ⟨_, rfl⟩
  rw [← hpse] at HC hps HP
  obtain ⟨hps1, hps2, hps3⟩ := hps
  have HPS := hid hps3
  clear hpse hps3
  go_enter Tryz.func28, Tryz.ntmps28
  go_wp2_with fail
  refine HC.out.mono ?_
  rintro e w1 ⟨v1, rfl, ho1, hb1⟩
  obtain ⟨gp, cp, rfl, _, _⟩ := own_form ho1 (by omega)
  have hPO := hid (owns_base ho1 (HB0.out.size))
  have hO1 := hid (owns_below HO.out hb1)
  have hB1 := hid (bs HB0.out hb1)
  clear ho1 hb1 HC HO HB0
  go_wp2
  go_loopw [4, 6] (fun v i wr => ∃ (j : Nat) (M : List (List Int)) (vs : List Value), j ≤ ps.length ∧ i = .int .i64 j ∧ M.length = j ∧ Hid (allO rowR (ps.take j) = some M) ∧ Hid (wr.ownsRow w.heap.size 57 1 v j vs) ∧ Hid (TRows 3 wr w.heap.size vs M) ∧ Hid (wr.ownsRow w.heap.size 9 1 (.slice (some ⟨gp, 0, none⟩) ps.length cp) ps.length (strVals ps)) ∧ Hid (Below w.heap.size w wr)) (fun _ i _ => ps.length - (intOf i).toNat)
  case atStart => exact ⟨0, [], [], by omega, rfl, rfl, by show _ = _; simp [allO], hO1, hid (TRows.nil _ _ _), hPO, hB1⟩
  case round =>
    obtain ⟨j, M, vs, hj, rfl, hMl, HM, HOW, HT, HPO, HB⟩ := hrel
    obtain ⟨wo, rfl⟩ : ∃ wo, wo = wr := ⟨_, rfl⟩
    have hWr : w.heap.size ≤ wo.heap.size := HB.out.size
    by_cases hlt : j < ps.length
    · obtain ⟨p, hp⟩ := get_some (l := ps) (n := j) hlt
      have hpz := HPS.out p (List.mem_of_getElem? hp)
      have hcell : wo.cell? ⟨gp, j, none⟩ = some (.string p) := (HPO.out.cellAt j (by omega)).trans (strVals_get hp)
      have hji : (j : Int) < (ps.length : Int) := by omega
      have hgp : gp < wo.heap.size := (HPO.out.lt gp rfl).2
      have hcellA : (wo.alloc (.cells #[] 3)).cell? ⟨gp, j, none⟩ = some (.string p) := (((Below.refl wo.heap.size wo).alloc (Nat.le_refl _) (.cells #[] 3)).cell (p := ⟨gp, j, none⟩) hgp).trans hcell
      have HCp := hid (spec_SplitByte_c p 44 (wo.alloc (.cells #[] 3)) (by omega))
      unfold CutPost at HCp
      have hq := cutB_facts p 44
      have HRR := hid (show rowR p = allO (fun q => readO q 12) (cutB p 44) from rfl)
      obtain ⟨qs, hqse⟩ : ∃ qs, qs = cutB p 44 := ⟨_, rfl⟩
      rw [← hqse] at HCp hq HRR
      obtain ⟨hq1, hq2, hq3⟩ := hq
      have HQS := hid hq3
      have HPJ := hid hp
      clear hqse hq3 hp
      go_wp2_with fail
      refine HCp.out.mono ?_
      rintro e w2 ⟨v2, rfl, ho2, hb2⟩
      obtain ⟨gq, cq, rfl, _, _⟩ := own_form ho2 (by omega)
      have hbr1 := (Below.refl wo.heap.size wo).alloc (Nat.le_refl _) (.cells #[] 3)
      have hQ0 := hid (owns_base ho2 hbr1.size)
      have hR0 := hid (owns_below (own_nilM wo 3 (Nat.le_refl wo.heap.size)) hb2)
      have hbr2 := hid (bs hbr1 hb2)
      clear ho2 hb2 HCp hbr1
      go_wp2
      go_loopw [7, 9] (fun v i wr => ∃ (k g cg : Nat) (ys : List Int), k ≤ qs.length ∧ i = .int .i64 k ∧ v = .slice (some ⟨g, 0, none⟩) k cg ∧ ys.length = k ∧ Hid (allO (fun q => readO q 12) (qs.take k) = some ys) ∧ Hid (wr.ownsRow wo.heap.size 3 1 (.slice (some ⟨g, 0, none⟩) k cg) k (intVals ys)) ∧ Hid (wr.ownsRow wo.heap.size 9 1 (.slice (some ⟨gq, 0, none⟩) qs.length cq) qs.length (strVals qs)) ∧ Hid (Below wo.heap.size wo wr)) (fun _ i _ => qs.length - (intOf i).toNat)
      case atStart => exact ⟨0, wo.heap.size, 0, [], by omega, rfl, rfl, rfl, by show _ = _; simp [allO], hR0, hQ0, hbr2⟩
      case round =>
        obtain ⟨k, g, cg, ys, hk, rfl, rfl, hyl, HY, HRW, HQO, HBQ⟩ := hrel
        have hwrq : wo.heap.size ≤ wr.heap.size := HBQ.out.size
        by_cases hkt : k < qs.length
        · obtain ⟨q, hqk⟩ := get_some (l := qs) (n := k) hkt
          have hqz := HQS.out q (List.mem_of_getElem? hqk)
          have hcell2 : wr.cell? ⟨gq, k, none⟩ = some (.string q) := (HQO.out.cellAt k (by omega)).trans (strVals_get hqk)
          have hki : (k : Int) < (qs.length : Int) := by omega
          have HPI := hid (spec_ParseInt_c q wr (by omega))
          have HQK := hid hqk
          clear hqk
          cases hrd : readO q 12 with
          | none =>
            have HN := hid (show parseMO t = none by
              have h1 : rowR p = none := by rw [HRR.out]; exact allO_bad (f := fun q => readO q 12) hrd (List.mem_of_getElem? HQK.out)
              rw [HP.out, allO_bad h1 (List.mem_of_getElem? HPJ.out)]; rfl)
            have hHPI := HPI.out
            rw [hrd] at hHPI
            simp only [Option.getD_none, Option.isSome_none] at hHPI
            have HPI := hid hHPI
            clear hHPI hrd
            go_wp2_with fail
            refine HPI.out.mono ?_
            rintro e w3 ⟨rfl, hb3⟩
            have hB3 := hid (bs (bs HB.out HBQ.out) hb3)
            clear hb3
            go_wp2
            go_ret2
            exact ⟨_, by rw [HN.out]; rfl, by rw [HN.out]; exact ⟨[], own_nilM w3 _ (hB3.out.size), TRows.nil _ _ _⟩, hB3.out.alloc hB3.out.size _⟩
          | some x =>
            have HYS := hid (allO_take (f := fun q => readO q 12) HY.out HQK.out hrd)
            have hHPI := HPI.out
            rw [hrd] at hHPI
            simp only [Option.getD_some, Option.isSome_some] at hHPI
            have HPI := hid hHPI
            clear hHPI hrd
            go_wp2_with fail
            refine HPI.out.mono ?_
            rintro e w3 ⟨rfl, hb3⟩
            have HB3 := hid (bs HBQ.out hb3)
            have hrow3 := owns_below HRW.out hb3
            have hqo3 := owns_below HQO.out hb3
            have hwr3 : wo.heap.size ≤ w3.heap.size := HB3.out.size
            have hrow3' := hid hrow3
            have hqo3' := hid hqo3
            clear hb3 HPI hqo3
            go_wp2_with (first | (at_builtin; go_must (refine wpList_appg rfl _ _ 57 rfl wo.heap.size 3 (.int .i64 0) 8 Tryz.underlying57 infoIntM rfl _ k (intVals ys) _ hrow3 rfl rfl rfl (by omega) (by unfold maxLen; omega) hwr3 ?_); intro v' w4 hown' hgr'))
            obtain ⟨g4, c4, rfl, _, _⟩ := own_form hown' (by omega)
            go_roundw
            case rel => exact ⟨k + 1, g4, c4, ys ++ [x], by omega, by go_num, rfl, by simp [hyl], HYS, hid (by simpa [intVals] using hown'), hid (hqo3'.out.kept hgr' (owns_ne hqo3'.out hrow3'.out (by decide))), hid (HB3.out.grown hgr' hwr3 (fun k hk => (hrow3'.out.lt k hk).1))⟩
            case measure => simp [intOf] <;> omega
        · obtain rfl : k = qs.length := by omega
          have hrow2 : rowR p = some ys := by
            have := HY.out
            rw [List.take_of_length_le (Nat.le_refl _)] at this
            rw [HRR.out]; exact this
          have HMS := hid (allO_take HM.out HPJ.out hrow2)
          have hg0 : wo.heap.size ≤ g := (HRW.out.lt g rfl).1
          have hownq := owns_below HOW.out HBQ.out
          have HOQ := hid hownq
          have HTQ := hid (HT.out.moreAt (below_none HBQ.out) hg0 (by rw [hyl]; exact owns_base HRW.out hWr))
          have HPQ := hid (owns_below HPO.out HBQ.out)
          have HBW := hid (bs HB.out HBQ.out)
          have hwq : w.heap.size ≤ wr.heap.size := HBW.out.size
          clear hrow2 HY HT HM
          go_wp2_with (first | (at_builtin; go_must (refine wpList_appg rfl _ _ 25 rfl w.heap.size 57 (.slice none 0 0) 24 Tryz.underlying25 infoIntsM rfl _ j vs _ hownq rfl rfl rfl (by omega) (by unfold maxLen; omega) hwq ?_); intro v' w4 hown' hgr'))
          go_roundw
          case rel => exact ⟨j + 1, M ++ [ys], vs ++ [.slice (some ⟨g, 0, none⟩) qs.length cg], by omega, by go_num, by simp [hMl], HMS, hid hown', hid (by have := HTQ.out.kept HOQ.out (by decide) hgr'; rw [hyl] at this; exact this), hid (HPQ.out.kept hgr' (owns_ne HPQ.out HOQ.out (by decide))), hid (HBW.out.grown hgr' hwq (fun k hk => (HOQ.out.lt k hk).1))⟩
          case measure => simp [intOf] <;> omega
    · obtain rfl : j = ps.length := by omega
      have hfin : allO rowR ps = some M := by
        have := HM.out
        rw [List.take_of_length_le (Nat.le_refl _)] at this
        exact this
      have HF := hid (show parseMO t = if isMat M = true then some M else none by rw [HP.out, hfin]; rfl)
      have HRL := hid (show ∀ r ∈ M, r.length ≤ 140737488351232 from fun r hr => by
        obtain ⟨i, hi, e⟩ := List.getElem_of_mem hr
        obtain ⟨p, hp⟩ := get_some (l := ps) (n := i) (by omega)
        have h1 := HPS.out p (List.mem_of_getElem? hp)
        have h2 := allO_at hfin hp (List.getElem?_eq_some_iff.2 ⟨hi, e⟩)
        have h3 := rowR_len h2
        omega)
      have hHOW := HOW.out
      rw [← hMl] at hHOW
      have HG := hid (show TGrid 57 3 wo w.heap.size _ M from ⟨vs, hHOW, HT.out⟩)
      clear hHOW
      obtain ⟨ga, gc, rfl, hta⟩ := grid_tabAt HG.out (by omega) HRL.out
      have HIM := hid (spec_IsMatrix_c ga M.length gc M wo hta)
      have HML := hid hMl
      clear hfin hta HM hMl
      cases him : isMat M
      · rw [him] at HIM
        have HN := hid (show parseMO t = none by rw [HF.out, him]; rfl)
        clear him
        go_wp2_with fail
        refine HIM.out.mono ?_
        rintro e w3 ⟨rfl, rfl⟩
        go_wp2
        go_ret2
        exact ⟨_, by rw [HN.out]; rfl, by rw [HN.out]; exact ⟨[], own_nilM wo _ hWr, TRows.nil _ _ _⟩, HB.out.alloc hWr _⟩
      · rw [him] at HIM
        have HN := hid (show parseMO t = some M by rw [HF.out, him]; rfl)
        clear him
        go_wp2_with fail
        refine HIM.out.mono ?_
        rintro e w3 ⟨rfl, rfl⟩
        go_wp2
        go_ret2
        exact ⟨_, by rw [HN.out]; rfl, by rw [HN.out]; exact HG.out, HB.out⟩
end Go.Proofs.YtpncmmdjkcdemaaGreatDoor
