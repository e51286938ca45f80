/- Products, powers and closed paths of matrices: the reference's functions. Conditions: matrices. -/
import Derived.Test.YtccknookhkahbaaGreatPer
import Derived.Test.YtccknookhkahbaaGreatLen
namespace Go.Proofs.YtccknookhkahbaaGreat
open Go.RowKit

/-- The product of two matrices of n rows, if it is a matrix. -/
def mulO (A B : List (List Int)) (n : Nat) : Option (List (List Int)) := if isMat (muOf A B n) = true then some (muOf A B n) else none
def powO (M : List (List Int)) (n : Nat) : Nat → Option (List (List Int)) | 0 => some (unitTab n) | k + 1 => (powO M n k).bind fun P => mulO P M n
theorem muOf_rect (A B : List (List Int)) (n : Nat) (h : A.length = n) : Rect (muOf A B n) n n := ⟨by simp [muOf, h], fun r hr => by
  unfold muOf at hr
  obtain ⟨p, _, rfl⟩ := List.mem_map.1 hr
  simp⟩
theorem isMat_len {M : List (List Int)} (h : isMat M = true) : 1 ≤ M.length ∧ M.length ≤ 9 := (isMat_facts h rfl).1
theorem mulO_some {A B P : List (List Int)} {n : Nat} (h : mulO A B n = some P) (hA : A.length = n) : isMat P = true ∧ P.length = n := by
  unfold mulO at h
  by_cases hm : isMat (muOf A B n) = true
  · rw [if_pos hm] at h
    injection h with h
    subst h
    exact ⟨hm, (muOf_rect A B n hA).len⟩
  · rw [if_neg hm] at h; cases h
theorem unitTab_mat {n : Nat} (h1 : 1 ≤ n) (h9 : n ≤ 9) : isMat (unitTab n) = true ∧ (unitTab n).length = n :=
  ⟨isMat_mk ⟨h1, h9⟩ (tabF_rect n n _) fun i j hi hj => by unfold unitTab; rw [tabF_at _ hi hj]; unfold unitF; split <;> omega, (tabF_rect n n _).len⟩
theorem powO_some {M P : List (List Int)} {n : Nat} (h1 : 1 ≤ n) (h9 : n ≤ 9) : ∀ k, powO M n k = some P → isMat P = true ∧ P.length = n
  | 0, h => by
    unfold powO at h
    injection h with h
    subst h
    exact unitTab_mat h1 h9
  | k + 1, h => by
    unfold powO at h
    obtain ⟨Q, hQ, h2⟩ := Option.bind_eq_some_iff.1 h
    exact mulO_some h2 (powO_some h1 h9 k hQ).2
theorem powO_stop {M : List (List Int)} {n k : Nat} (h : powO M n k = none) : ∀ j, powO M n (k + j) = none
  | 0 => h
  | j + 1 => by show (powO M n (k + j)).bind _ = none; rw [powO_stop h j]; rfl
theorem tabAt_rect {w : World} {a : Option Addr} {n : Nat} {M : List (List Int)} (h : TabAt w a n M) (hm : isMat M = true) : Rect M n n ∧ 1 ≤ n ∧ n ≤ 9 ∧ ∀ i j, 0 ≤ at2 M i j ∧ at2 M i j ≤ 1000000 := by
  obtain ⟨h1, h2, h3⟩ := isMat_facts hm (tab_len h).1
  exact ⟨h2, h1.1, h1.2, h3⟩
theorem grid_tab2 {T1 T0 : TypeId} {w : World} {base n : Nat} {v : Value} {R : List (List Int)} (h : TGrid T1 T0 w base v R) (hR : Rect R n n) (hn : n ≤ 1000000) : ∃ a c, v = .slice a n c ∧ TabAt w a n R := by
  obtain ⟨a, c, he, ht⟩ := grid_tabAt h (by rw [hR.len]; omega) (fun r hr => by rw [hR.row r hr]; omega)
  rw [hR.len] at he ht
  exact ⟨a, c, he, ht⟩
/-- A table and whether there is one. -/
def MayPost (o : Option (List (List Int))) (w : World) (e : Ending) (w' : World) : Prop :=
  ∃ v, e = .returned (.tuple #[v, .bool o.isSome]) ∧ TGrid 36 3 w' w.heap.size v (o.getD []) ∧ Below w.heap.size w w'
theorem grid_none (w : World) : TGrid 36 3 (w.alloc (.cells #[] 36)) w.heap.size (.slice (some ⟨w.heap.size, 0, none⟩) 0 0) [] :=
  ⟨[], World.ownsRow_made w #[] 0 (Nat.le_refl _) (Nat.zero_le _) rfl, TRows.nil _ _ _⟩
set_option maxHeartbeats 2000000 in
theorem spec_Multiply_c (a b : Option Addr) (n c d : Nat) (A B : List (List Int)) (w : World) (ha : TabAt w a n A) (hb : TabAt w b n B) (hA : isMat A = true) (hB : isMat B = true) :
    Calls Tryz.prog 76 #[.slice a n c, .slice b n d] w (MayPost (mulO A B n) w) := by
  obtain ⟨hRA, h1, h9, hbA⟩ := tabAt_rect ha hA
  obtain ⟨hRB, _, _, hbB⟩ := tabAt_rect hb hB
  have HIA := hid (spec_IsMatrix_c a n c A w ha)
  have HIB := hid (spec_IsMatrix_c b n d B w hb)
  rw [hA] at HIA
  rw [hB] at HIB
  have HT := hid (spec_l4Times_c a b n n c d n A B 1000000 1000000 w ha hb (fun r hr => by rw [hRA.row r hr]; exact Nat.le_refl _) (fun r hr => by rw [hRB.row r hr]; exact Nat.le_refl _) (fun i j _ _ => hbA i j) (fun i j _ _ => hbB i j) (by omega) (by omega) (by omega))
  have hR := hid (muOf_rect A B n hRA.len)
  have HO := hid (show mulO A B n = if isMat (muOf A B n) = true then some (muOf A B n) else none from rfl)
  obtain ⟨P, hP⟩ : ∃ P, P = muOf A B n := ⟨_, rfl⟩
  obtain ⟨O, hO⟩ : ∃ O, O = mulO A B n := ⟨_, rfl⟩
  unfold GridPost at HT
  unfold MayPost
  rw [← hP] at HT hR HO
  rw [← hO] at HO
  rw [← hO]
  clear ha hb hA hB hRA hRB hbA hbB hP hO
  go_enter Tryz.func76, Tryz.ntmps76
  go_wp2_with fail
  refine HIA.out.mono ?_
  rintro e w1 ⟨rfl, rfl⟩
  go_wp2_with fail
  refine HIB.out.mono ?_
  rintro e w1 ⟨rfl, rfl⟩
  have hne : ((n : Int) != (n : Int)) = false := by simp
  go_wp2_with fail
  refine HT.out.mono ?_
  rintro e w1 ⟨v, rfl, hg, hb⟩
  obtain ⟨a1, c1, rfl, ht1⟩ := grid_tab2 hg hR.out (by omega)
  have HG := hid hg
  have HB := hid hb
  have HI := hid (spec_IsMatrix_c a1 n c1 P w1 ht1)
  clear hg hb ht1 HT
  cases hm : isMat P
  · rw [hm] at HI HO
    clear hm
    go_wp2_with fail
    refine HI.out.mono ?_
    rintro e w2 ⟨rfl, rfl⟩
    go_wp2
    go_ret2
    exact ⟨_, by rw [HO.out]; rfl, by rw [HO.out]; exact (grid_none _).base HB.out.size, HB.out.alloc HB.out.size _⟩
  · rw [hm] at HI HO
    clear hm
    go_wp2_with fail
    refine HI.out.mono ?_
    rintro e w2 ⟨rfl, rfl⟩
    go_wp2
    go_ret2
    exact ⟨_, by rw [HO.out]; rfl, by rw [HO.out]; exact HG.out, HB.out⟩
set_option maxHeartbeats 2000000 in
theorem spec_PowerMatrix_c (a : Option Addr) (n c k : Nat) (M : List (List Int)) (w : World) (h : TabAt w a n M) (hM : isMat M = true) (hk : k ≤ 30) :
    Calls Tryz.prog 50 #[.slice a n c, .int .i64 k] w (MayPost (powO M n k) w) := by
  obtain ⟨hR, h1, h9, _⟩ := tabAt_rect h hM
  have HI := hid (spec_IsMatrix_c a n c M w h)
  rw [hM] at HI
  have hin := inB_t (x := (k : Int)) (lo := 0) (hi := 30) (by omega)
  have H1 := hid (spec_l4One_c n w h1 h9)
  have HMU := hid (fun (b : Option Addr) (d : Nat) (P : List (List Int)) (W : World) (hw : Below w.heap.size w W) (hp : TabAt W b n P) (hPm : isMat P = true) => spec_Multiply_c b a n d c P M W hp (h.below hw (Nat.le_refl _)) hPm hM)
  have HPS := hid (fun (j : Nat) (P : List (List Int)) => powO_some (M := M) (P := P) (n := n) h1 h9 j)
  have HST := hid (fun (j : Nat) (h : powO M n j = none) (hj : j ≤ k) => show powO M n k = none by have := powO_stop h (k - j); rwa [show j + (k - j) = k by omega] at this)
  unfold GridPost at H1
  unfold MayPost at HMU ⊢
  clear h hM hR
  go_enter Tryz.func50, Tryz.ntmps50
  go_wp2_with fail
  refine HI.out.mono ?_
  rintro e w1 ⟨rfl, rfl⟩
  go_wp2_with (first | (go_at_call 35; refine (l1In_c _ _ _ _).mono ?_; rintro e w' ⟨rfl, rfl⟩) | (go_at_call 75; refine H1.out.mono ?_; rintro e w1 ⟨v, rfl, hg, hb⟩))
  go_loopw [6, 7] (fun x i wr => ∃ (j : Nat) (P : List (List Int)), j ≤ k ∧ i = .int .i64 j ∧ powO M n j = some P ∧ TGrid 36 3 wr w.heap.size x P ∧ Below w.heap.size w wr) (fun _ i _ => k - (intOf i).toNat)
  case atStart => exact ⟨0, unitTab n, by omega, rfl, rfl, hg, hb⟩
  case round =>
    obtain ⟨j, P, hj, rfl, hP, hg, hb⟩ := hrel
    have HP := hid hP
    have hPf := HPS.out j P hP
    have hRP := (isMat_facts hPf.1 hPf.2).2.1
    obtain ⟨a1, c1, rfl, ht1⟩ := grid_tab2 hg hRP (by omega)
    by_cases hlt : j < k
    · have HX := hid (HMU.out a1 c1 P _ hb ht1 hPf.1)
      have HB := hid hb
      have HS := hid (show powO M n (j + 1) = mulO P M n by show (powO M n j).bind _ = _; rw [hP]; rfl)
      clear hP hg hb ht1 hPf hRP
      obtain ⟨O, hO⟩ : ∃ O, O = mulO P M n := ⟨_, rfl⟩
      rw [← hO] at HX HS
      clear hO
      go_wp2_with fail
      refine HX.out.mono ?_
      rintro e w2 ⟨v2, rfl, hg2, hb2⟩
      have HB2 := hid (HB.out.trans (hb2.mono HB.out.size))
      have HG2 := hid (hg2.base HB.out.size)
      clear hg2 hb2 HX
      cases O with
      | none =>
        have HN := hid (HST.out (j + 1) HS.out hlt)
        go_wp2
        go_ret2
        exact ⟨_, by rw [HN.out]; rfl, by rw [HN.out]; exact (grid_none _).base HB2.out.size, HB2.out.alloc HB2.out.size _⟩
      | some Q =>
        go_wp2
        go_roundw
        case rel => exact ⟨j + 1, Q, by omega, by go_num, HS.out, HG2.out, HB2.out⟩
        case measure => simp [intOf]; omega
    · obtain rfl : j = k := by omega
      have HG := hid hg
      have HB := hid hb
      clear hP hg hb ht1 hPf hRP
      go_wp2
      go_ret2
      exact ⟨_, by rw [HP.out]; rfl, by rw [HP.out]; exact HG.out, HB.out⟩
def traceOf (P : List (List Int)) (n : Nat) : Int := sumTo (fun u => at2 P u u) n
set_option maxHeartbeats 2000000 in
theorem spec_TraceOf_c (a : Option Addr) (n c : Nat) (M : List (List Int)) (w : World) (h : TabAt w a n M) (hM : isMat M = true) :
    Calls Tryz.prog 51 #[.slice a n c] w fun e w' => e = .returned (.int .i64 (traceOf M n)) ∧ w = w' := by
  obtain ⟨hR, h1, h9, hbd⟩ := tabAt_rect h hM
  have HI := hid (spec_IsMatrix_c a n c M w h)
  rw [hM] at HI
  have HT := hid h
  have HR := hid hR
  have HBD := hid hbd
  have hlim : n ≤ 9 := h9
  have HC := hid (fun (j : Nat) (hj : j < n) => rect_cell h hR hj hj)
  clear h hM hR hbd
  go_enter Tryz.func51, Tryz.ntmps51
  go_wp2_with fail
  refine HI.out.mono ?_
  rintro e w1 ⟨rfl, rfl⟩
  go_wp2
  go_loop [3, 4] (fun s i => ∃ (j : Nat) (z : Int), j ≤ n ∧ i = .int .i64 j ∧ s = .int .i64 z ∧ 0 ≤ z ∧ z ≤ j * 1000000 ∧ Hid (z = sumTo (fun u => at2 M u u) j)) (fun _ i => n - (intOf i).toNat)
  case atStart => exact ⟨0, 0, by omega, rfl, rfl, by omega, by omega, rfl⟩
  case round =>
    obtain ⟨j, z, hj, rfl, rfl, hz0, hz1, HZ⟩ := hrel
    by_cases hlt : j < n
    · obtain ⟨b, off, b2, off2, c2, rfl, hb, hc1, hb2, hc2⟩ := HC.out j hlt
      have hx := HBD.out j j
      obtain ⟨x, hxe⟩ : ∃ x, x = at2 M j j := ⟨_, rfl⟩
      have HX := hid hxe
      rw [← hxe] at hx hc2
      have hx0 := hx.1
      have hx1 := hx.2
      clear hxe hx
      go_wp2
      go_round
      case rel => exact ⟨j + 1, z + x, by omega, by go_num, rfl, by omega, by omega, by show _ = sumTo _ j + at2 M j j; rw [← HX.out, ← HZ.out]⟩
      case measure => simp [intOf]; omega
    · obtain rfl : j = n := by omega
      go_wp2
      go_ret
      exact ⟨ret_int (by rw [HZ.out]; rfl), rfl⟩
def closedOf (M : List (List Int)) (n k : Nat) : Int := match powO M n k with | none => -1 | some P => traceOf P n
theorem spec_ClosedPaths_c (a : Option Addr) (n c k : Nat) (M : List (List Int)) (w : World) (h : TabAt w a n M) (hM : isMat M = true) (h1 : 1 ≤ k) (hk : k ≤ 30) :
    Calls Tryz.prog 25 #[.slice a n c, .int .i64 k] w fun e w' => e = .returned (.int .i64 (closedOf M n k)) ∧ Below w.heap.size w w' := by
  have hf := isMat_facts hM (tab_len h).1
  have hin := inB_t (x := (k : Int)) (lo := 1) (hi := 30) (by omega)
  have HP := hid (spec_PowerMatrix_c a n c k M w h hM hk)
  have HPS := hid (fun P => powO_some (M := M) (P := P) (n := n) hf.1.1 hf.1.2 k)
  have HCL := hid (show closedOf M n k = match powO M n k with | none => -1 | some P => traceOf P n from rfl)
  unfold MayPost at HP
  have hn9 := hf.1.2
  obtain ⟨O, hO⟩ : ∃ O, O = powO M n k := ⟨_, rfl⟩
  obtain ⟨r, hr⟩ : ∃ r, r = closedOf M n k := ⟨_, rfl⟩
  rw [← hO] at HP HPS HCL
  rw [← hr] at HCL
  rw [← hr]
  clear h hM hf hO hr
  go_enter Tryz.func25, Tryz.ntmps25
  go_wp2_with (go_at_call 35; refine (l1In_c _ _ _ _).mono ?_; rintro e w' ⟨rfl, rfl⟩)
  refine HP.out.mono ?_
  rintro e w1 ⟨v, rfl, hg, hb⟩
  cases O with
  | none =>
    go_wp2
    go_ret
    exact ⟨ret_int HCL.out.symm, hb⟩
  | some P =>
    have hPf := HPS.out P rfl
    obtain ⟨a1, c1, rfl, ht1⟩ := grid_tab2 (R := P) hg (isMat_facts hPf.1 hPf.2).2.1 (by omega)
    have HT := hid (spec_TraceOf_c a1 n c1 P w1 ht1 hPf.1)
    have HB := hid hb
    clear hg hb ht1 hPf
    go_wp2_with fail
    refine HT.out.mono ?_
    rintro e w2 ⟨rfl, rfl⟩
    go_wp2
    go_ret
    exact ⟨ret_int HCL.out.symm, HB.out⟩
end Go.Proofs.YtccknookhkahbaaGreat
