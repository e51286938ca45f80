/- A number put into an ascending list of the call's own, once (spec.l32Add). Conditions: the list is owned. -/
import Derived.Test.YtcmmlldincflkaaIns
import Derived.Test.YtcmmlldincflkaaAppN
import Derived.Test.YtcmmlldincflkaaHasInt
namespace Go.Proofs.Ytcmmlldincflkaa
open Go.RowKit

theorem infoIntA : (Try.prog.info? 3).map (fun i => (i.zero, i.size, i.bytes)) = some (some (.int .i64 0), 1, 8) := by kernel_rfl
theorem intVals_one (xs : List Int) : ∀ u ∈ intVals xs, u.oneCell' = true := by
  intro u hu
  obtain ⟨x, _, rfl⟩ := List.mem_map.1 hu
  rfl
theorem owns_nil (w : World) (e : Nat) : (w.alloc (.cells #[] e)).ownsRow w.heap.size e 1 (.slice (some ⟨w.heap.size, 0, none⟩) 0 0) 0 [] :=
  ⟨rfl, Or.inr ⟨w.heap.size, 0, #[], rfl, Nat.le_refl _, by show (w.heap.push _)[w.heap.size]? = _; simp, Nat.le_refl _, by unfold maxLen; omega, rfl, rfl⟩⟩
def AddPost (B g : Nat) (xs : List Int) (x : Int) (w : World) (e : Ending) (w' : World) : Prop :=
  ∃ g' c', e = .returned (.slice (some ⟨g', 0, none⟩) (ins ltI xs x).length c') ∧ w'.ownsRow B 3 1 (.slice (some ⟨g', 0, none⟩) (ins ltI xs x).length c') (ins ltI xs x).length (intVals (ins ltI xs x)) ∧ w.grownBy w' (some g) ∧ (g' = g ∨ w.heap.size ≤ g')
set_option maxHeartbeats 4000000 in
set_option maxRecDepth 100000 in
theorem spec_l32Add_c (B g cap n : Nat) (xs : List Int) (x : Int) (w : World) (hn : xs.length = n) (hown : w.ownsRow B 3 1 (.slice (some ⟨g, 0, none⟩) n cap) n (intVals xs)) (hB : B ≤ w.heap.size) (hlen : n ≤ 1000000) :
    Calls Try.prog 42 #[.slice (some ⟨g, 0, none⟩) n cap, .int .i64 x] w (AddPost B g xs x w) := by
  have HO := hid hown
  unfold AddPost
  have HN := hid hn
  have hncap : n ≤ cap := (owns_block HO.out).choose_spec.2.2.1
  clear hown hn
  go_enter Try.func42, Try.ntmps42
  go_wp2
  go_loop [5] (fun i => ∃ q : Nat, q ≤ n ∧ i = .int .i64 q ∧ Hid ((xs.take q).all (fun y => ltI y x) = true)) (fun i => n - (intOf i).toNat)
  case atStart => exact ⟨0, by omega, rfl, show _ = _ by simp⟩
  case round =>
    obtain ⟨q, hq, rfl, HA⟩ := hrel
    by_cases hlt : q < n
    · obtain ⟨y, hy⟩ := get_some (l := xs) (n := q) (by rw [HN.out]; exact hlt)
      have hcell : w.cell? ⟨g, q, none⟩ = some (.int .i64 y) := (HO.out.cellAt q (by omega)).trans (intVals_get hy)
      have HY := hid hy
      clear hy
      by_cases hyx : y < x
      · go_wp2
        go_round
        case rel => exact ⟨q + 1, by omega, by go_num, all_step HY.out HA.out (by simp [ltI, hyx])⟩
        case measure => simp [intOf]; omega
      · have HAt := hid (atI0_eq (lt := ltI) (xs := xs) (x := x) (q := q) HA.out (fun z hz => by rw [HY.out] at hz; cases hz; simp [ltI]; omega) (by rw [HN.out]; exact hq))
        by_cases he : y = x
        · have HI := hid (show ins ltI xs x = xs by unfold ins; rw [HAt.out, HY.out, he, if_pos rfl])
          go_wp2
          go_ret
          refine ⟨g, cap, ?_, ?_, World.grownBy.refl _ _, Or.inl rfl⟩
          · rw [HI.out, HN.out]; rfl
          · rw [HI.out, HN.out]; exact HO.out
        · have HI := hid (show ins ltI xs x = xs.take q ++ x :: xs.drop q by unfold ins; rw [HAt.out, HY.out, if_neg (by intro e; cases e; exact he rfl)])
          have hcq : ¬ (cap = q) := by omega
          have hI : ins ltI xs x = xs.take q ++ x :: xs.drop q := HI.out
          have hLn : (ins ltI xs x).length = q + 1 + (n - q) := by rw [hI]; have := HN.out; simp; omega
          have hsplit : intVals xs = intVals (xs.take q) ++ intVals (xs.drop q) := by rw [← List.take_append_drop q xs]; simp [intVals]
          have hl1 : (intVals (xs.drop q)).length = n - q := by have := HN.out; simp [intVals]; omega
          have hl0 : (intVals (xs.take q)).length = q := by have := HN.out; simp [intVals]; omega
          have hl0' : (intVals (xs.take q)).length = q * 1 := by omega
          have hcd : ∀ j u, (intVals (xs.drop q))[j]? = some u → (w.alloc (.cells #[] 3)).cell? ⟨g, q + j, none⟩ = some u := by
            intro j u hj
            have hjl := (List.getElem?_eq_some_iff.1 hj).1
            first
              | exact absurd HQN.out (by omega)
              | (rw [(HO.out.alloc _).cellAt (q + j) (by omega), hsplit, List.getElem?_append_right (by omega), hl0, Nat.add_sub_cancel_left]; exact hj)
          have hgw : g < w.heap.size := (HO.out.lt g rfl).2
          have HL := hid (And.intro hLn hI)
          have HSP := hid hsplit
          have hBg : B ≤ g := (HO.out.lt g rfl).1
          have hqcap : q ≤ cap := by omega
          have tok1 : True := trivial
          clear hI hLn hsplit
          go_wp2_with (first
            | (at_builtin
               have _t := tok1
               go_must (refine wpList_appN rfl _ _ 31 rfl w.heap.size 3 (.int .i64 0) 8 Try.underlying31 infoIntA rfl w.heap.size 0 0 [] (owns_nil w _) rfl g q (n - q) (cap - q) (intVals (xs.drop q)) rfl hl1 hcd (intVals_one _) (by omega) (by unfold maxLen; omega) (by simp) ?_)
               intro g1 c1 w1 hown1 hgr1 hb1 hlt1
               rw [Nat.zero_add] at hown1
               clear tok1
               have hb1w : Below w.heap.size w w1 := ((Below.refl _ _).alloc (Nat.le_refl _) _).grown hgr1 (by simp) (by rintro k ⟨⟩; exact Nat.le_refl _)
               have hO1 := owns_below HO.out hb1w
               have hO2 := owns_cut (by rw [← HSP.out]; exact hO1) hl0
               have HO2 := hid (hO2.alloc (.cells #[.int .i64 x] 3))
               have HR1 := hid (hown1.alloc (.cells #[.int .i64 x] 3))
               have tok2 : True := trivial
               have hs1 := hb1w.size
               clear hgr1 hown1 hO1 hO2 hcd)
            | (at_builtin
               have _t := tok2
               go_must (refine wpList_appN rfl _ _ 31 rfl B 3 (.int .i64 0) 8 Try.underlying31 infoIntA rfl g cap q (intVals (xs.take q)) HO2.out rfl w1.heap.size 0 1 1 [.int .i64 x] rfl rfl (by intro j u hj; match j, hj with | 0, hj => simp at hj; subst hj; simp) (by intro u hu; simp at hu; subst hu; rfl) (by omega) (by unfold maxLen; omega) (by simp; omega) ?_)
               intro g2 c2 w2 hown2 hgr2 hb2 hlt2
               clear tok2
               have hR2 := HR1.out.kept hgr2 (Or.inr (by simp [Value.ownBlock]; simp at hb1; omega))
               have hcd2 : ∀ j u, (intVals (xs.drop q))[j]? = some u → w2.cell? ⟨g1, 0 + j, none⟩ = some u := by
                 intro j u hj
                 have hjl := (List.getElem?_eq_some_iff.1 hj).1
                 rw [Nat.zero_add, hR2.cellAt j (by omega), List.nil_append]
                 exact hj
               have hb2w : w.grownBy w2 (some g) := grown_own (grown_below (hb1w.alloc (by omega) _) (Nat.le_refl _)) hgr2 (Or.inl rfl)
               have hs2 := hb2w.size
               have hg2 : g2 = g ∨ w.heap.size ≤ g2 := by simp at hb2; omega
               have tok3 : True := trivial
               clear hgr2 hR2)
            | (at_builtin
               have _t := tok3
               go_must (refine wpList_appN rfl _ _ 31 rfl B 3 (.int .i64 0) 8 Try.underlying31 infoIntA rfl g2 c2 (q + 1) (intVals (xs.take q) ++ [.int .i64 x]) hown2 rfl g1 0 (n - q) c1 (intVals (xs.drop q)) rfl hl1 hcd2 (intVals_one _) (by omega) (by unfold maxLen; omega) (by omega) ?_)
               intro g3 c3 w3 hown3 hgr3 hb3 hlt3
               clear tok3))
          go_ret
          refine ⟨g3, c3, ?_, ?_, grown_own hb2w hgr3 hg2, by omega⟩
          · rw [HL.out.1]; rfl
          · rw [HL.out.1, HL.out.2, show intVals (xs.take q ++ x :: xs.drop q) = intVals (xs.take q) ++ [.int .i64 x] ++ intVals (xs.drop q) by simp [intVals]]
            exact hown3
    · have hqn : n = q := by omega
      have HI := hid (show ins ltI xs x = xs.take q ++ x :: xs.drop q by
        have ha := atI0_eq (lt := ltI) (xs := xs) (x := x) (q := q) HA.out (fun z hz => by rw [List.getElem?_eq_none (by rw [HN.out]; omega)] at hz; cases hz) (by rw [HN.out]; exact hq)
        unfold ins
        rw [ha, List.getElem?_eq_none (by rw [HN.out]; omega), if_neg (by intro e; cases e)])
      have HQN := hid hqn
      clear hqn
      by_cases hcq : cap = q
      · obtain rfl : q = cap := hcq.symm
        clear hcq hncap
        have hI : ins ltI xs x = xs.take q ++ x :: xs.drop q := HI.out
        have hLn : (ins ltI xs x).length = q + 1 + (n - q) := by rw [hI]; have := HN.out; simp; omega
        have hsplit : intVals xs = intVals (xs.take q) ++ intVals (xs.drop q) := by rw [← List.take_append_drop q xs]; simp [intVals]
        have hl1 : (intVals (xs.drop q)).length = n - q := by have := HN.out; simp [intVals]; omega
        have hl0 : (intVals (xs.take q)).length = q := by have := HN.out; simp [intVals]; omega
        have hl0' : (intVals (xs.take q)).length = q * 1 := by omega
        have hcd : ∀ j u, (intVals (xs.drop q))[j]? = some u → (w.alloc (.cells #[] 3)).cell? ⟨g, 0 + j, none⟩ = some u := by
          intro j u hj
          have hjl := (List.getElem?_eq_some_iff.1 hj).1
          first
            | exact absurd HQN.out (by omega)
            | (rw [(HO.out.alloc _).cellAt (q + j) (by omega), hsplit, List.getElem?_append_right (by omega), hl0, Nat.add_sub_cancel_left]; exact hj)
        have hgw : g < w.heap.size := (HO.out.lt g rfl).2
        have HL := hid (And.intro hLn hI)
        have HSP := hid hsplit
        have hBg : B ≤ g := (HO.out.lt g rfl).1
        have hqcap : q ≤ q := by omega
        have tok1 : True := trivial
        clear hI hLn hsplit
        go_wp2_with (first
          | (at_builtin
             have _t := tok1
             go_must (refine wpList_appN rfl _ _ 31 rfl w.heap.size 3 (.int .i64 0) 8 Try.underlying31 infoIntA rfl w.heap.size 0 0 [] (owns_nil w _) rfl g 0 (n - q) 0 (intVals (xs.drop q)) rfl hl1 hcd (intVals_one _) (by omega) (by unfold maxLen; omega) (by simp) ?_)
             intro g1 c1 w1 hown1 hgr1 hb1 hlt1
             rw [Nat.zero_add] at hown1
             clear tok1
             have hb1w : Below w.heap.size w w1 := ((Below.refl _ _).alloc (Nat.le_refl _) _).grown hgr1 (by simp) (by rintro k ⟨⟩; exact Nat.le_refl _)
             have hO1 := owns_below HO.out hb1w
             have hO2 := owns_cut (by rw [← HSP.out]; exact hO1) hl0
             have HO2 := hid (hO2.alloc (.cells #[.int .i64 x] 3))
             have HR1 := hid (hown1.alloc (.cells #[.int .i64 x] 3))
             have tok2 : True := trivial
             have hs1 := hb1w.size
             clear hgr1 hown1 hO1 hO2 hcd)
          | (at_builtin
             have _t := tok2
             go_must (refine wpList_appN rfl _ _ 31 rfl B 3 (.int .i64 0) 8 Try.underlying31 infoIntA rfl g q q (intVals (xs.take q)) HO2.out rfl w1.heap.size 0 1 1 [.int .i64 x] rfl rfl (by intro j u hj; match j, hj with | 0, hj => simp at hj; subst hj; simp) (by intro u hu; simp at hu; subst hu; rfl) (by omega) (by unfold maxLen; omega) (by simp; omega) ?_)
             intro g2 c2 w2 hown2 hgr2 hb2 hlt2
             clear tok2
             have hR2 := HR1.out.kept hgr2 (Or.inr (by simp [Value.ownBlock]; simp at hb1; omega))
             have hcd2 : ∀ j u, (intVals (xs.drop q))[j]? = some u → w2.cell? ⟨g1, 0 + j, none⟩ = some u := by
               intro j u hj
               have hjl := (List.getElem?_eq_some_iff.1 hj).1
               rw [Nat.zero_add, hR2.cellAt j (by omega), List.nil_append]
               exact hj
             have hb2w : w.grownBy w2 (some g) := grown_own (grown_below (hb1w.alloc (by omega) _) (Nat.le_refl _)) hgr2 (Or.inl rfl)
             have hs2 := hb2w.size
             have hg2 : g2 = g ∨ w.heap.size ≤ g2 := by simp at hb2; omega
             have tok3 : True := trivial
             clear hgr2 hR2)
          | (at_builtin
             have _t := tok3
             go_must (refine wpList_appN rfl _ _ 31 rfl B 3 (.int .i64 0) 8 Try.underlying31 infoIntA rfl g2 c2 (q + 1) (intVals (xs.take q) ++ [.int .i64 x]) hown2 rfl g1 0 (n - q) c1 (intVals (xs.drop q)) rfl hl1 hcd2 (intVals_one _) (by omega) (by unfold maxLen; omega) (by omega) ?_)
             intro g3 c3 w3 hown3 hgr3 hb3 hlt3
             clear tok3))
        go_ret
        refine ⟨g3, c3, ?_, ?_, grown_own hb2w hgr3 hg2, by omega⟩
        · rw [HL.out.1]; rfl
        · rw [HL.out.1, HL.out.2, show intVals (xs.take q ++ x :: xs.drop q) = intVals (xs.take q) ++ [.int .i64 x] ++ intVals (xs.drop q) by simp [intVals]]
          exact hown3
      · skip
        have hI : ins ltI xs x = xs.take q ++ x :: xs.drop q := HI.out
        have hLn : (ins ltI xs x).length = q + 1 + (n - q) := by rw [hI]; have := HN.out; simp; omega
        have hsplit : intVals xs = intVals (xs.take q) ++ intVals (xs.drop q) := by rw [← List.take_append_drop q xs]; simp [intVals]
        have hl1 : (intVals (xs.drop q)).length = n - q := by have := HN.out; simp [intVals]; omega
        have hl0 : (intVals (xs.take q)).length = q := by have := HN.out; simp [intVals]; omega
        have hl0' : (intVals (xs.take q)).length = q * 1 := by omega
        have hcd : ∀ j u, (intVals (xs.drop q))[j]? = some u → (w.alloc (.cells #[] 3)).cell? ⟨g, q + j, none⟩ = some u := by
          intro j u hj
          have hjl := (List.getElem?_eq_some_iff.1 hj).1
          first
            | exact absurd HQN.out (by omega)
            | (rw [(HO.out.alloc _).cellAt (q + j) (by omega), hsplit, List.getElem?_append_right (by omega), hl0, Nat.add_sub_cancel_left]; exact hj)
        have hgw : g < w.heap.size := (HO.out.lt g rfl).2
        have HL := hid (And.intro hLn hI)
        have HSP := hid hsplit
        have hBg : B ≤ g := (HO.out.lt g rfl).1
        have hqcap : q ≤ cap := by omega
        have tok1 : True := trivial
        clear hI hLn hsplit
        go_wp2_with (first
          | (at_builtin
             have _t := tok1
             go_must (refine wpList_appN rfl _ _ 31 rfl w.heap.size 3 (.int .i64 0) 8 Try.underlying31 infoIntA rfl w.heap.size 0 0 [] (owns_nil w _) rfl g q (n - q) (cap - q) (intVals (xs.drop q)) rfl hl1 hcd (intVals_one _) (by omega) (by unfold maxLen; omega) (by simp) ?_)
             intro g1 c1 w1 hown1 hgr1 hb1 hlt1
             rw [Nat.zero_add] at hown1
             clear tok1
             have hb1w : Below w.heap.size w w1 := ((Below.refl _ _).alloc (Nat.le_refl _) _).grown hgr1 (by simp) (by rintro k ⟨⟩; exact Nat.le_refl _)
             have hO1 := owns_below HO.out hb1w
             have hO2 := owns_cut (by rw [← HSP.out]; exact hO1) hl0
             have HO2 := hid (hO2.alloc (.cells #[.int .i64 x] 3))
             have HR1 := hid (hown1.alloc (.cells #[.int .i64 x] 3))
             have tok2 : True := trivial
             have hs1 := hb1w.size
             clear hgr1 hown1 hO1 hO2 hcd)
          | (at_builtin
             have _t := tok2
             go_must (refine wpList_appN rfl _ _ 31 rfl B 3 (.int .i64 0) 8 Try.underlying31 infoIntA rfl g cap q (intVals (xs.take q)) HO2.out rfl w1.heap.size 0 1 1 [.int .i64 x] rfl rfl (by intro j u hj; match j, hj with | 0, hj => simp at hj; subst hj; simp) (by intro u hu; simp at hu; subst hu; rfl) (by omega) (by unfold maxLen; omega) (by simp; omega) ?_)
             intro g2 c2 w2 hown2 hgr2 hb2 hlt2
             clear tok2
             have hR2 := HR1.out.kept hgr2 (Or.inr (by simp [Value.ownBlock]; simp at hb1; omega))
             have hcd2 : ∀ j u, (intVals (xs.drop q))[j]? = some u → w2.cell? ⟨g1, 0 + j, none⟩ = some u := by
               intro j u hj
               have hjl := (List.getElem?_eq_some_iff.1 hj).1
               rw [Nat.zero_add, hR2.cellAt j (by omega), List.nil_append]
               exact hj
             have hb2w : w.grownBy w2 (some g) := grown_own (grown_below (hb1w.alloc (by omega) _) (Nat.le_refl _)) hgr2 (Or.inl rfl)
             have hs2 := hb2w.size
             have hg2 : g2 = g ∨ w.heap.size ≤ g2 := by simp at hb2; omega
             have tok3 : True := trivial
             clear hgr2 hR2)
          | (at_builtin
             have _t := tok3
             go_must (refine wpList_appN rfl _ _ 31 rfl B 3 (.int .i64 0) 8 Try.underlying31 infoIntA rfl g2 c2 (q + 1) (intVals (xs.take q) ++ [.int .i64 x]) hown2 rfl g1 0 (n - q) c1 (intVals (xs.drop q)) rfl hl1 hcd2 (intVals_one _) (by omega) (by unfold maxLen; omega) (by omega) ?_)
             intro g3 c3 w3 hown3 hgr3 hb3 hlt3
             clear tok3))
        go_ret
        refine ⟨g3, c3, ?_, ?_, grown_own hb2w hgr3 hg2, by omega⟩
        · rw [HL.out.1]; rfl
        · rw [HL.out.1, HL.out.2, show intVals (xs.take q ++ x :: xs.drop q) = intVals (xs.take q) ++ [.int .i64 x] ++ intVals (xs.drop q) by simp [intVals]]
          exact hown3
end Go.Proofs.Ytcmmlldincflkaa
