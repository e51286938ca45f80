/- Which places of a graph lie on a path that is infinite in both directions: the program's way, as many rounds as places. Conditions: a table of numbers below its length. -/
import Derived.Test.YtpfeflhcbcgbfaaGreatDoorLabP
import Derived.Deep.CutRange
import Derived.Deep.OwnRows
namespace Go.Proofs.YtpfeflhcbcgbfaaGreatDoor
open Go.RowKit

theorem made_bool (w : World) (M : Nat) (hM : M ≤ 6561) : (w.alloc (.cells (madeCells #[.bool false] M) 4)).ownsRow w.heap.size 4 1 (.slice (some ⟨w.heap.size, 0, none⟩) M M) M (boolVals (rowB (fun _ => false) M)) ∧ Below w.heap.size w (w.alloc (.cells (madeCells #[.bool false] M) 4)) := by
  obtain ⟨ti, hi, hz, hz1, hz2⟩ := info_parts infoBool
  obtain ⟨w', h1, h2, h3⟩ := run_make_full (P := Tryz.prog) w w.heap.size 81 4 ti (.bool false) 1 Tryz.underlying81 hi hz hz1 .i64 .i64 M (by rw [hz2]; omega) (by unfold maxLen; omega) (Nat.le_refl _)
  have h4 := run_make_row (P := Tryz.prog) 81 4 ti (.bool false) Tryz.underlying81 hi hz hz1 rfl .i64 .i64 M (by rw [hz2]; omega) (by omega) w
  rw [h4] at h1
  injection h1 with _ h1
  subst h1
  rw [rowB_made] at h2
  exact ⟨h2, (Below.refl _ _).alloc (Nat.le_refl _) _⟩
/-! One round of striking. -/
def stB (rows : List (List Int)) (M : Nat) (K : Nat → Bool) : Prop := ∀ i, i < M → K i = true → (bhB K rows M 0 i && ahB K rows M 0 i) = true
def hitB (rows : List (List Int)) (M : Nat) (K : Nat → Bool) (i : Nat) : Bool := bhB K rows M 0 i && ahB K rows M 0 i
def nextB2 (rows : List (List Int)) (M : Nat) (K : Nat → Bool) (r i : Nat) : Bool := K i && (!decide (i < r) || hitB rows M K i)
def cntB (M : Nat) (K : Nat → Bool) : Nat := ((List.range M).filter K).length
theorem st_next {rows : List (List Int)} {M : Nat} {K : Nat → Bool} (h : stB rows M K) : nextB2 rows M K M = K := by
  funext i
  unfold nextB2
  by_cases hi : i < M
  · cases hk : K i
    · rfl
    · have h2 : hitB rows M K i = true := h i hi hk
      rw [h2]; simp
  · simp [hi]
theorem lv_step {rows : List (List Int)} {M t : Nat} {K : Nat → Bool} (ht : t < M) (h : stB rows M K ∨ cntB M K ≤ M - t) : stB rows M (nextB2 rows M K M) ∨ cntB M (nextB2 rows M K M) ≤ M - (t + 1) := by
  by_cases hs : stB rows M K
  · left; rw [st_next hs]; exact hs
  · right
    rcases h with h | h
    · exact absurd h hs
    · have hex : ∃ i, i < M ∧ K i = true ∧ hitB rows M K i = false := Classical.byContradiction fun hn => hs fun i hi hk => by
        cases hh : (bhB K rows M 0 i && ahB K rows M 0 i)
        · exact absurd ⟨i, hi, hk, hh⟩ hn
        · rfl
      obtain ⟨x, hx, hkx, hhx⟩ := hex
      have := filter_less (K := K) (L := nextB2 rows M K M) (M := M) (fun i hi => by unfold nextB2 at hi; rw [Bool.and_eq_true] at hi; exact hi.1) hx hkx (by unfold nextB2; rw [hkx, hhx]; simp [hx])
      unfold cntB at h ⊢
      omega
theorem lv_stable {rows : List (List Int)} {M : Nat} {K : Nat → Bool} (h : stB rows M K ∨ cntB M K ≤ M - M) : stB rows M K := by
  rcases h with h | h
  · exact h
  · intro i hi hk
    have : i ∈ (List.range M).filter K := List.mem_filter.2 ⟨List.mem_range.2 hi, hk⟩
    have := List.length_pos_of_mem this
    unfold cntB at h
    omega
theorem lv_live {rows : List (List Int)} {M : Nat} {K : Nat → Bool} (hrow : ∀ (i : Nat) (r : List Int), rows[i]? = some r → ∀ x ∈ r, 0 ≤ x ∧ x < (M : Int)) (h1 : ∀ i, i < M → LiveG rows M i → K i = true) : ∀ i, i < M → LiveG rows M i → nextB2 rows M K M i = true := fun i hi hl => by
  have := live_step hrow h1 i hi hl
  unfold nextB2 hitB
  rw [Bool.and_eq_true] at this ⊢
  exact ⟨this.1, by rw [this.2]; simp⟩
theorem lv_start (rows : List (List Int)) (M : Nat) : stB rows M (fun i => decide (i < M)) ∨ cntB M (fun i => decide (i < M)) ≤ M - 0 := by
  right
  unfold cntB
  have := List.length_filter_le (fun i => decide (i < M)) (List.range M)
  simp at this ⊢
  exact this
theorem nextB2_set {rows : List (List Int)} {M r : Nat} {K : Nat → Bool} : (boolVals (rowB (nextB2 rows M K r) M)).set r (.bool (K r && hitB rows M K r)) = boolVals (rowB (nextB2 rows M K (r + 1)) M) := by
  rw [rowB_set]
  refine congrArg boolVals (rowB_ext fun i _ => ?_)
  unfold nextB2
  by_cases h : i = r
  · subst h; simp
  · rw [if_neg h, show decide (i < r + 1) = decide (i < r) by rw [decide_eq_decide]; omega]
set_option maxHeartbeats 4000000 in
set_option maxRecDepth 100000 in
theorem impl_lively_c (M : Nat) (rows : List (List Int)) (a : Option Addr) (c : Nat) (w : World) (hT : TabAt w a M rows) (hrow : ∀ (i : Nat) (r : List Int), rows[i]? = some r → ∀ x ∈ r, 0 ≤ x ∧ x < (M : Int)) (hM : M ≤ 6561) :
    Calls Tryz.prog 149 #[.slice a M c] w (LivePost rows M w) := by
  have HT := hid hT
  have HLEN := hid (tab_len hT).1
  have HROW := hid hrow
  clear hrow hT
  obtain ⟨ti, hi, hz, hz1, hz2⟩ := info_parts infoBool
  have hmk := fun w => run_make_row (P := Tryz.prog) 81 4 ti (.bool false) Tryz.underlying81 hi hz hz1 rfl .i64 .i64 M (by rw [hz2]; omega) (by omega) w
  obtain ⟨cs, hcs⟩ : ∃ cs, cs = madeCells #[.bool false] M := ⟨_, rfl⟩
  have HMB := hid (fun (w : World) => made_bool w M hM)
  rw [← hcs] at HMB hmk
  clear hi hz hz1 hz2 hcs
  go_enter Tryz.func149, Tryz.ntmps149
  go_wp2
  have h0 := HMB.out w
  have hown1 := h0.1
  have hb1 := h0.2
  obtain ⟨w1, hw1⟩ : ∃ w1, w1 = w.alloc (.cells cs 4) := ⟨_, rfl⟩
  rw [← hw1] at hown1 hb1
  rw [← hw1]
  clear h0 hw1
  go_loopw [17] (fun i wr => ∃ j : Nat, j ≤ M ∧ i = .int .i64 j ∧ wr.ownsRow w.heap.size 4 1 (.slice (some ⟨w.heap.size, 0, none⟩) M M) M (boolVals (rowB (fun i => decide (i < j)) M)) ∧ Below w.heap.size w wr) (fun i _ => M - (intOf i).toNat)
  case atStart => exact ⟨0, by omega, rfl, by simpa using hown1, hb1⟩
  case round =>
    obtain ⟨j, hj, rfl, hown, hbel⟩ := hrel
    by_cases hlt : j < M
    · have hcell : wr.cell? ⟨w.heap.size, j, none⟩ = some (.bool (decide (j < j))) := (hown.cellAt j (by omega)).trans (rowB_get hlt)
      have hfr := hown.frozenAt j
      have HO := hid hown
      clear hown
      go_wp2
      go_roundw
      case rel =>
        have hst := HO.out.stored j (.bool true)
        rw [rowB_set, rowB_ext (L := fun i => decide (i < j + 1)) (fun i _ => by by_cases h : i = j <;> simp [h] <;> omega)] at hst
        exact ⟨j + 1, by omega, by go_num, hst.1, hbel.grown hst.2 hbel.size (by rintro k ⟨⟩; exact Nat.le_refl _)⟩
      case measure => simp [intOf]; omega
    · obtain rfl : j = M := by omega
      have HO := hid hown
      clear hown hown1 hb1
      go_wp2
      go_loopw [26] (fun i wr => ∃ (t : Nat) (K : Nat → Bool), t ≤ j ∧ i = .int .i64 t ∧ wr.ownsRow w.heap.size 4 1 (.slice (some ⟨w.heap.size, 0, none⟩) j j) j (boolVals (rowB K j)) ∧ Below w.heap.size w wr ∧ Hid (∀ i, i < j → LiveG rows j i → K i = true) ∧ Hid (stB rows j K ∨ cntB j K ≤ j - t)) (fun i _ => j - (intOf i).toNat)
      case atStart => exact ⟨0, _, by omega, rfl, HO.out, hbel, hid (fun i hi _ => by simp [hi]), hid (lv_start rows j)⟩
      case round =>
        obtain ⟨t, K, ht, rfl, hown, hbel, HP, HE⟩ := hrel
        by_cases hltt : t < j
        · obtain ⟨wo, rfl⟩ : ∃ wo : World, wo = wr := ⟨_, rfl⟩
          have HO1 := hid hown
          have hti : (t : Int) < (j : Int) := by omega
          clear hown
          go_upto_region 9 with fail
          go_cut [5, 6] from 28 to 33 (fun x y wx => ∃ f g : Nat, x = .slice (some ⟨f, 0, none⟩) j j ∧ y = .slice (some ⟨g, 0, none⟩) j j ∧ f ≠ g ∧ wo.heap.size ≤ f ∧ wo.heap.size ≤ g ∧ Hid (wx.ownsRow wo.heap.size 4 1 (.slice (some ⟨f, 0, none⟩) j j) j (boolVals (rowB (fun _ => false) j))) ∧ Hid (wx.ownsRow wo.heap.size 4 1 (.slice (some ⟨g, 0, none⟩) j j) j (boolVals (rowB (fun _ => false) j))) ∧ Hid (Below wo.heap.size wo wx))
          case first =>
            have HM2 := hid (fun (w : World) => by
              have h1 := HMB.out w
              have h2 := HMB.out (w.alloc (.cells cs 4))
              exact (⟨owns_below h1.1 h2.2, owns_base h2.1 (by simp), bs h1.2 h2.2⟩ : ((w.alloc (.cells cs 4)).alloc (.cells cs 4)).ownsRow w.heap.size 4 1 (.slice (some ⟨w.heap.size, 0, none⟩) j j) j (boolVals (rowB (fun _ => false) j)) ∧ ((w.alloc (.cells cs 4)).alloc (.cells cs 4)).ownsRow w.heap.size 4 1 (.slice (some ⟨(w.alloc (.cells cs 4)).heap.size, 0, none⟩) j j) j (boolVals (rowB (fun _ => false) j)) ∧ Below w.heap.size w ((w.alloc (.cells cs 4)).alloc (.cells cs 4))))
            clear HMB HT HLEN HROW HP HE HO1 HO
            go_region
            all_goals
              go_wp2
              go_meet
              case rel =>
                obtain ⟨o1, o2, b1⟩ := HM2.out wo
                have hd := (Below.refl ((wo.alloc (.cells cs 4)).alloc (.cells cs 4)).heap.size ((wo.alloc (.cells cs 4)).alloc (.cells cs 4))).drew
                have hz : (wo.alloc (.cells cs 4)).heap.size = wo.heap.size + 1 := by simp
                rw [hz] at o2
                first
                | exact ⟨wo.heap.size, wo.heap.size + 1, rfl, rfl, by omega, by omega, by omega, hid (owns_below o1 hd), hid (owns_below o2 hd), hid (bs b1 hd)⟩
                | exact ⟨wo.heap.size + 1, wo.heap.size, rfl, rfl, by omega, by omega, by omega, hid (owns_below o2 hd), hid (owns_below o1 hd), hid (bs b1 hd)⟩
          case rest =>
            obtain ⟨gF, gT, rfl, rfl, hne, hgF, hgT, HF0, HT0, HB0⟩ := hcut
            obtain ⟨w4, rfl⟩ : ∃ w4, w4 = wc := ⟨_, rfl⟩
            have hbw4 : Below w.heap.size w w4 := hbel.trans (HB0.out.mono hbel.size)
            have HO4 := hid (owns_below HO1.out HB0.out)
            have hwo : w.heap.size < wo.heap.size := (owns_block HO1.out).choose_spec.2.1 |> fun h => (Array.getElem?_eq_some_iff.1 h).1
            have HBO := hid hbel
            clear HO HO1 HB0 hbel
            go_wp2
            go_loopw [36] (fun i wr => ∃ q : Nat, q ≤ j ∧ i = .int .i64 q ∧ wr.ownsRow w.heap.size 4 1 (.slice (some ⟨w.heap.size, 0, none⟩) j j) j (boolVals (rowB K j)) ∧ wr.ownsRow wo.heap.size 4 1 (.slice (some ⟨gF, 0, none⟩) j j) j (boolVals (rowB (bhB K rows q 0) j)) ∧ wr.ownsRow wo.heap.size 4 1 (.slice (some ⟨gT, 0, none⟩) j j) j (boolVals (rowB (ahB K rows q 0) j)) ∧ Below w.heap.size w wr) (fun i _ => j - (intOf i).toNat)
            case atStart => exact ⟨0, by omega, rfl, HO4.out, by rw [rowB_ext (K := bhB K rows 0 0) (L := fun _ => false) (fun i _ => bh_start K rows i)]; exact HF0.out, by rw [rowB_ext (K := ahB K rows 0 0) (L := fun _ => false) (fun i _ => ah_start K rows i)]; exact HT0.out, hbw4⟩
            case round =>
              obtain ⟨q, hq, rfl, hk, hB, hA, hbel⟩ := hrel
              by_cases hltq : q < j
              · obtain ⟨r, hr⟩ := get_some (l := rows) (n := q) (by rw [HLEN.out]; exact hltq)
                have HR := hid hr
                obtain ⟨b5, o5, a5, c5, rfl, hb5, hcl5, hra⟩ := tab_row HT.out hltq hr
                have hrl := hra.lim
                have HRA := hid hra
                have HRW := hid (HROW.out q r hr)
                have hlen : (intVals r).length = r.length := by simp [intVals]
                have HK := hid hk
                have HBB := hid hB
                have HAA := hid hA
                have hcell := (hbel.cell (p := ⟨b5, o5 + q, none⟩) hb5).trans hcl5
                have hq1 : (q : Int) < (j : Int) := by omega
                clear hr hra hk hB hA hbw4 hcl5
                obtain ⟨L, hL⟩ : ∃ L, L = r.length := ⟨_, rfl⟩
                rw [← hL] at hcell hrl HRA
                have HL := hid hL
                clear hL hlen
                go_wp2
                go_loopw [43] (fun i wr => ∃ t : Nat, t ≤ L ∧ i = .int .i64 t ∧ wr.ownsRow w.heap.size 4 1 (.slice (some ⟨w.heap.size, 0, none⟩) j j) j (boolVals (rowB K j)) ∧ wr.ownsRow wo.heap.size 4 1 (.slice (some ⟨gF, 0, none⟩) j j) j (boolVals (rowB (bhB K rows q t) j)) ∧ wr.ownsRow wo.heap.size 4 1 (.slice (some ⟨gT, 0, none⟩) j j) j (boolVals (rowB (ahB K rows q t) j)) ∧ Below w.heap.size w wr) (fun i _ => L - (intOf i).toNat)
                case atStart => exact ⟨0, by omega, rfl, HK.out, HBB.out, HAA.out, hbel⟩
                case round =>
                  obtain ⟨t, ht, rfl, hk, hB, hA, hbel⟩ := hrel
                  by_cases hltt : t < L
                  · obtain ⟨z, hz⟩ := get_some (l := r) (n := t) (by rw [← HL.out]; exact hltt)
                    obtain ⟨x, rfl⟩ : ∃ x : Nat, z = (x : Int) := ⟨z.toNat, by have := HRW.out z (List.mem_of_getElem? hz); omega⟩
                    have hxj : x < j := by have := HRW.out x (List.mem_of_getElem? hz); omega
                    have HZ := hid hz
                    obtain ⟨b6, o6, rfl, hb6, hcl6⟩ := HRA.out.at_ (by omega)
                    have hcellz := (hbel.cell (p := ⟨b6, o6 + t, none⟩) hb6).trans (hcl6 t _ (intVals_get hz))
                    have hcellk : wr.cell? ⟨w.heap.size, q, none⟩ = some (.bool (K q)) := (hk.cellAt q (by omega)).trans (rowB_get hltq)
                    have hcellx : wr.cell? ⟨w.heap.size, x, none⟩ = some (.bool (K x)) := (hk.cellAt x (by omega)).trans (rowB_get hxj)
                    have hcellb : wr.cell? ⟨gF, q, none⟩ = some (.bool (bhB K rows q t q)) := (hB.cellAt q (by omega)).trans (rowB_get hltq)
                    have hcella : wr.cell? ⟨gT, x, none⟩ = some (.bool (ahB K rows q t x)) := (hA.cellAt x (by omega)).trans (rowB_get hxj)
                    have hfb := hB.frozenAt q
                    have hfa := hA.frozenAt x
                    have hne2 : ¬ (gT = gF) := fun e => hne e.symm
                    have hx1 : (x : Int) < (j : Int) := by omega
                    have HK2 := hid hk
                    have HB2 := hid hB
                    have HA2 := hid hA
                    obtain ⟨u, hu⟩ : ∃ u, u = K q := ⟨_, rfl⟩
                    obtain ⟨y, hy⟩ : ∃ y, y = K x := ⟨_, rfl⟩
                    rw [← hu] at hcellk
                    rw [← hy] at hcellx
                    have HU := hid hu
                    have HY := hid hy
                    clear hk hB hA hz hcl6 hu hy
                    cases u
                    · go_wp2
                      go_roundw
                      case rel => exact ⟨t + 1, by omega, by go_num, HK2.out, by rw [← rowB_ext (fun i _ => bh_no HR.out HZ.out (by rw [← HU.out]; rfl) i)]; exact HB2.out, by rw [← rowB_ext (fun i _ => ah_no HR.out HZ.out (by rw [← HU.out]; rfl) i)]; exact HA2.out, hbel⟩
                      case measure => simp [intOf]; omega
                    · cases y
                      · go_wp2
                        go_roundw
                        case rel => exact ⟨t + 1, by omega, by go_num, HK2.out, by rw [← rowB_ext (fun i _ => bh_no HR.out HZ.out (by rw [← HU.out, ← HY.out]; rfl) i)]; exact HB2.out, by rw [← rowB_ext (fun i _ => ah_no HR.out HZ.out (by rw [← HU.out, ← HY.out]; rfl) i)]; exact HA2.out, hbel⟩
                        case measure => simp [intOf]; omega
                      · go_wp2
                        go_roundw
                        case rel =>
                          have hst1 := HB2.out.stored q (.bool true)
                          have hA3 := HA2.out.kept hst1.2 (Or.inr (by simp [Value.ownBlock]; omega))
                          have hK3 := HK2.out.kept hst1.2 (Or.inr (by simp [Value.ownBlock]; omega))
                          have hst2 := hA3.stored x (.bool true)
                          have hB4 := hst1.1.kept hst2.2 (Or.inr (by simp [Value.ownBlock]; omega))
                          have hK4 := hK3.kept hst2.2 (Or.inr (by simp [Value.ownBlock]; omega))
                          rw [rowB_set, rowB_ext (fun i _ => bh_yes HR.out HZ.out HU.out.symm HY.out.symm i)] at hB4
                          have hA4 := hst2.1
                          rw [rowB_set, rowB_ext (fun i _ => ah_yes HR.out HZ.out HU.out.symm HY.out.symm i)] at hA4
                          exact ⟨t + 1, by omega, by go_num, hK4, hB4, hA4, (hbel.grown hst1.2 hbel.size (by rintro k ⟨⟩; omega)).grown hst2.2 (by simpa using hbel.size) (by rintro k ⟨⟩; omega)⟩
                        case measure => simp [intOf]; omega
                  · obtain rfl : t = L := by omega
                    have HK2 := hid hk
                    have HB2 := hid hB
                    have HA2 := hid hA
                    clear hk hB hA
                    go_wp2
                    go_roundw
                    case rel => exact ⟨q + 1, by omega, by go_num, HK2.out, by rw [← rowB_ext (fun i _ => bh_next K HR.out i), ← HL.out]; exact HB2.out, by rw [← rowB_ext (fun i _ => ah_next K HR.out i), ← HL.out]; exact HA2.out, hbel⟩
                    case measure => simp [intOf]; omega
              · obtain rfl : q = j := by omega
                have HK := hid hk
                have HBB := hid hB
                have HAA := hid hA
                clear hk hB hA HF0 HT0 HO4 hbw4
                go_wp2
                go_loopw [67] (fun i wr => ∃ r : Nat, r ≤ q ∧ i = .int .i64 r ∧ wr.ownsRow w.heap.size 4 1 (.slice (some ⟨w.heap.size, 0, none⟩) q q) q (boolVals (rowB (nextB2 rows q K r) q)) ∧ wr.ownsRow wo.heap.size 4 1 (.slice (some ⟨gF, 0, none⟩) q q) q (boolVals (rowB (bhB K rows q 0) q)) ∧ wr.ownsRow wo.heap.size 4 1 (.slice (some ⟨gT, 0, none⟩) q q) q (boolVals (rowB (ahB K rows q 0) q)) ∧ Below w.heap.size w wr) (fun i _ => q - (intOf i).toNat)
                case atStart => exact ⟨0, by omega, rfl, by rw [rowB_ext (L := K) (fun i _ => by simp [nextB2])]; exact HK.out, HBB.out, HAA.out, hbel⟩
                case round =>
                  obtain ⟨r, hr, rfl, hk, hB, hA, hbel3⟩ := hrel
                  by_cases hltr : r < q
                  · have hck : wr.cell? ⟨w.heap.size, r, none⟩ = some (.bool (K r)) := by
                      rw [hk.cellAt r (by omega), rowB_get hltr]; simp [nextB2]
                    have hcb : wr.cell? ⟨gF, r, none⟩ = some (.bool (bhB K rows q 0 r)) := (hB.cellAt r (by omega)).trans (rowB_get hltr)
                    have hca : wr.cell? ⟨gT, r, none⟩ = some (.bool (ahB K rows q 0 r)) := (hA.cellAt r (by omega)).trans (rowB_get hltr)
                    have hfr := hk.frozenAt r
                    have HKK := hid hk
                    have HB2 := hid hB
                    have HA2 := hid hA
                    have hst := hk.stored r (.bool (K r && hitB rows q K r))
                    rw [nextB2_set] at hst
                    have hhit : hitB rows q K r = (bhB K rows q 0 r && ahB K rows q 0 r) := rfl
                    obtain ⟨u, hu⟩ : ∃ u, u = K r := ⟨_, rfl⟩
                    obtain ⟨x, hx⟩ : ∃ x, x = bhB K rows q 0 r := ⟨_, rfl⟩
                    obtain ⟨y, hy⟩ : ∃ y, y = ahB K rows q 0 r := ⟨_, rfl⟩
                    rw [hhit, ← hu, ← hx, ← hy] at hst
                    rw [← hu] at hck
                    rw [← hx] at hcb
                    rw [← hy] at hca
                    have hr1 : (r : Int) < (q : Int) := by omega
                    have HST := hid hst
                    clear hk hB hA hu hx hy hhit hst
                    cases u <;> cases x <;> cases y
                    all_goals
                      go_wp2
                      go_roundw
                      case rel => exact ⟨r + 1, by omega, by go_num, HST.out.1, HB2.out.kept HST.out.2 (Or.inr (by simp [Value.ownBlock]; omega)), HA2.out.kept HST.out.2 (Or.inr (by simp [Value.ownBlock]; omega)), hbel3.grown HST.out.2 hbel3.size (by rintro k ⟨⟩; exact Nat.le_refl _)⟩
                      case measure => simp [intOf]; omega
                  · obtain rfl : r = q := by omega
                    have HKK := hid hk
                    clear hk hB hA
                    have HP2 := hid (lv_live HROW.out HP.out)
                    have HE2 := hid (lv_step hltt HE.out)
                    go_wp2
                    go_roundw
                    case rel => exact ⟨t + 1, _, by omega, by go_num, HKK.out, hbel3, HP2, HE2⟩
                    case measure => simp [intOf]; omega
        · obtain rfl : t = j := by omega
          have HF := hid (live_end HROW.out HLEN.out HP.out (lv_stable HE.out))
          go_wp2
          go_ret
          exact ⟨_, K, rfl, hown, hbel, HF.out⟩
end Go.Proofs.YtpfeflhcbcgbfaaGreatDoor
