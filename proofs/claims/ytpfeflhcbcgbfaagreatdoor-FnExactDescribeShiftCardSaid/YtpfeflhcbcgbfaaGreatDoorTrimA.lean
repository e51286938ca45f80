/- Labelled graphs: which states live, the reference's way. Conditions: a valid labelled graph. -/
import Derived.Test.YtpfeflhcbcgbfaaGreatDoorPer
import Derived.Test.YtpfeflhcbcgbfaaGreatDoorLen
import Derived.Test.YtpfeflhcbcgbfaaGreatDoorLabP
import Derived.Test.YtpfeflhcbcgbfaaGreatDoorMul
import Derived.Test.YtpfeflhcbcgbfaaGreatDoorLabQ
import Derived.Test.YtpfeflhcbcgbfaaGreatDoorRunL
namespace Go.Proofs.YtpfeflhcbcgbfaaGreatDoor
open Go.RowKit

/-- The product of two matrices of n rows, if it is a matrix. -/
def mulO (A B : List (List Int)) (n : Nat) : Option (List (List Int)) := if isMat (muOf A B n) = true then some (muOf A B n) else none
def powO (M : List (List Int)) (n : Nat) : Nat → Option (List (List Int)) | 0 => some (unitTab n) | k + 1 => (powO M n k).bind fun P => mulO P M n
theorem muOf_rect (A B : List (List Int)) (n : Nat) (h : A.length = n) : Rect (muOf A B n) n n := ⟨by simp [muOf, h], fun r hr => by
  unfold muOf at hr
  obtain ⟨p, _, rfl⟩ := List.mem_map.1 hr
  simp⟩
theorem isMat_len {M : List (List Int)} (h : isMat M = true) : 1 ≤ M.length ∧ M.length ≤ 9 := (isMat_facts h rfl).1
theorem mulO_some {A B P : List (List Int)} {n : Nat} (h : mulO A B n = some P) (hA : A.length = n) : isMat P = true ∧ P.length = n := by
  unfold mulO at h
  by_cases hm : isMat (muOf A B n) = true
  · rw [if_pos hm] at h
    injection h with h
    subst h
    exact ⟨hm, (muOf_rect A B n hA).len⟩
  · rw [if_neg hm] at h; cases h
theorem unitTab_mat {n : Nat} (h1 : 1 ≤ n) (h9 : n ≤ 9) : isMat (unitTab n) = true ∧ (unitTab n).length = n :=
  ⟨isMat_mk ⟨h1, h9⟩ (tabF_rect n n _) fun i j hi hj => by unfold unitTab; rw [tabF_at _ hi hj]; unfold unitF; split <;> omega, (tabF_rect n n _).len⟩
theorem powO_some {M P : List (List Int)} {n : Nat} (h1 : 1 ≤ n) (h9 : n ≤ 9) : ∀ k, powO M n k = some P → isMat P = true ∧ P.length = n
  | 0, h => by
    unfold powO at h
    injection h with h
    subst h
    exact unitTab_mat h1 h9
  | k + 1, h => by
    unfold powO at h
    obtain ⟨Q, hQ, h2⟩ := Option.bind_eq_some_iff.1 h
    exact mulO_some h2 (powO_some h1 h9 k hQ).2
theorem powO_stop {M : List (List Int)} {n k : Nat} (h : powO M n k = none) : ∀ j, powO M n (k + j) = none
  | 0 => h
  | j + 1 => by show (powO M n (k + j)).bind _ = none; rw [powO_stop h j]; rfl
theorem tabAt_rect {w : World} {a : Option Addr} {n : Nat} {M : List (List Int)} (h : TabAt w a n M) (hm : isMat M = true) : Rect M n n ∧ 1 ≤ n ∧ n ≤ 9 ∧ ∀ i j, 0 ≤ at2 M i j ∧ at2 M i j ≤ 1000000 := by
  obtain ⟨h1, h2, h3⟩ := isMat_facts hm (tab_len h).1
  exact ⟨h2, h1.1, h1.2, h3⟩
theorem grid_tab2 {T1 T0 : TypeId} {w : World} {base n : Nat} {v : Value} {R : List (List Int)} (h : TGrid T1 T0 w base v R) (hR : Rect R n n) (hn : n ≤ 1000000) : ∃ a c, v = .slice a n c ∧ TabAt w a n R := by
  obtain ⟨a, c, he, ht⟩ := grid_tabAt h (by rw [hR.len]; omega) (fun r hr => by rw [hR.row r hr]; omega)
  rw [hR.len] at he ht
  exact ⟨a, c, he, ht⟩
/-- A table and whether there is one. -/
def MayPost (o : Option (List (List Int))) (w : World) (e : Ending) (w' : World) : Prop :=
  ∃ v, e = .returned (.tuple #[v, .bool o.isSome]) ∧ TGrid 39 3 w' w.heap.size v (o.getD []) ∧ Below w.heap.size w w'
theorem grid_none (w : World) : TGrid 39 3 (w.alloc (.cells #[] 39)) w.heap.size (.slice (some ⟨w.heap.size, 0, none⟩) 0 0) [] :=
  ⟨[], World.ownsRow_made w #[] 0 (Nat.le_refl _) (Nat.zero_le _) rfl, TRows.nil _ _ _⟩
set_option maxHeartbeats 2000000 in
theorem spec_Multiply_c (a b : Option Addr) (n c d : Nat) (A B : List (List Int)) (w : World) (ha : TabAt w a n A) (hb : TabAt w b n B) (hA : isMat A = true) (hB : isMat B = true) :
    Calls Tryz.prog 128 #[.slice a n c, .slice b n d] w (MayPost (mulO A B n) w) := by
  obtain ⟨hRA, h1, h9, hbA⟩ := tabAt_rect ha hA
  obtain ⟨hRB, _, _, hbB⟩ := tabAt_rect hb hB
  have HIA := hid (spec_IsMatrix_c a n c A w ha)
  have HIB := hid (spec_IsMatrix_c b n d B w hb)
  rw [hA] at HIA
  rw [hB] at HIB
  have HT := hid (spec_l4Times_c a b n n c d n A B 1000000 1000000 w ha hb (fun r hr => by rw [hRA.row r hr]; exact Nat.le_refl _) (fun r hr => by rw [hRB.row r hr]; exact Nat.le_refl _) (fun i j _ _ => hbA i j) (fun i j _ _ => hbB i j) (by omega) (by omega) (by omega))
  have hR := hid (muOf_rect A B n hRA.len)
  have HO := hid (show mulO A B n = if isMat (muOf A B n) = true then some (muOf A B n) else none from rfl)
  obtain ⟨P, hP⟩ : ∃ P, P = muOf A B n := ⟨_, rfl⟩
  obtain ⟨O, hO⟩ : ∃ O, O = mulO A B n := ⟨_, rfl⟩
  unfold GridPost at HT
  unfold MayPost
  rw [← hP] at HT hR HO
  rw [← hO] at HO
  rw [← hO]
  clear ha hb hA hB hRA hRB hbA hbB hP hO
  go_enter Tryz.func128, Tryz.ntmps128
  go_wp2_with fail
  refine HIA.out.mono ?_
  rintro e w1 ⟨rfl, rfl⟩
  go_wp2_with fail
  refine HIB.out.mono ?_
  rintro e w1 ⟨rfl, rfl⟩
  have hne : ((n : Int) != (n : Int)) = false := by simp
  go_wp2_with fail
  refine HT.out.mono ?_
  rintro e w1 ⟨v, rfl, hg, hb⟩
  obtain ⟨a1, c1, rfl, ht1⟩ := grid_tab2 hg hR.out (by omega)
  have HG := hid hg
  have HB := hid hb
  have HI := hid (spec_IsMatrix_c a1 n c1 P w1 ht1)
  clear hg hb ht1 HT
  cases hm : isMat P
  · rw [hm] at HI HO
    clear hm
    go_wp2_with fail
    refine HI.out.mono ?_
    rintro e w2 ⟨rfl, rfl⟩
    go_wp2
    go_ret2
    exact ⟨_, by rw [HO.out]; rfl, by rw [HO.out]; exact (grid_none _).base HB.out.size, HB.out.alloc HB.out.size _⟩
  · rw [hm] at HI HO
    clear hm
    go_wp2_with fail
    refine HI.out.mono ?_
    rintro e w2 ⟨rfl, rfl⟩
    go_wp2
    go_ret2
    exact ⟨_, by rw [HO.out]; rfl, by rw [HO.out]; exact HG.out, HB.out⟩
set_option maxHeartbeats 2000000 in
theorem spec_PowerMatrix_c (a : Option Addr) (n c k : Nat) (M : List (List Int)) (w : World) (h : TabAt w a n M) (hM : isMat M = true) (hk : k ≤ 30) :
    Calls Tryz.prog 84 #[.slice a n c, .int .i64 k] w (MayPost (powO M n k) w) := by
  obtain ⟨hR, h1, h9, _⟩ := tabAt_rect h hM
  have HI := hid (spec_IsMatrix_c a n c M w h)
  rw [hM] at HI
  have hin := inB_t (x := (k : Int)) (lo := 0) (hi := 30) (by omega)
  have H1 := hid (spec_l4One_c n w h1 h9)
  have HMU := hid (fun (b : Option Addr) (d : Nat) (P : List (List Int)) (W : World) (hw : Below w.heap.size w W) (hp : TabAt W b n P) (hPm : isMat P = true) => spec_Multiply_c b a n d c P M W hp (h.below hw (Nat.le_refl _)) hPm hM)
  have HPS := hid (fun (j : Nat) (P : List (List Int)) => powO_some (M := M) (P := P) (n := n) h1 h9 j)
  have HST := hid (fun (j : Nat) (h : powO M n j = none) (hj : j ≤ k) => show powO M n k = none by have := powO_stop h (k - j); rwa [show j + (k - j) = k by omega] at this)
  unfold GridPost at H1
  unfold MayPost at HMU ⊢
  clear h hM hR
  go_enter Tryz.func84, Tryz.ntmps84
  go_wp2_with fail
  refine HI.out.mono ?_
  rintro e w1 ⟨rfl, rfl⟩
  go_wp2_with (first | (go_at_call 58; refine (l1In_c _ _ _ _).mono ?_; rintro e w' ⟨rfl, rfl⟩) | (go_at_call 87; refine H1.out.mono ?_; rintro e w1 ⟨v, rfl, hg, hb⟩))
  go_loopw [6, 7] (fun x i wr => ∃ (j : Nat) (P : List (List Int)), j ≤ k ∧ i = .int .i64 j ∧ powO M n j = some P ∧ TGrid 39 3 wr w.heap.size x P ∧ Below w.heap.size w wr) (fun _ i _ => k - (intOf i).toNat)
  case atStart => exact ⟨0, unitTab n, by omega, rfl, rfl, hg, hb⟩
  case round =>
    obtain ⟨j, P, hj, rfl, hP, hg, hb⟩ := hrel
    have HP := hid hP
    have hPf := HPS.out j P hP
    have hRP := (isMat_facts hPf.1 hPf.2).2.1
    obtain ⟨a1, c1, rfl, ht1⟩ := grid_tab2 hg hRP (by omega)
    by_cases hlt : j < k
    · have HX := hid (HMU.out a1 c1 P _ hb ht1 hPf.1)
      have HB := hid hb
      have HS := hid (show powO M n (j + 1) = mulO P M n by show (powO M n j).bind _ = _; rw [hP]; rfl)
      clear hP hg hb ht1 hPf hRP
      obtain ⟨O, hO⟩ : ∃ O, O = mulO P M n := ⟨_, rfl⟩
      rw [← hO] at HX HS
      clear hO
      go_wp2_with fail
      refine HX.out.mono ?_
      rintro e w2 ⟨v2, rfl, hg2, hb2⟩
      have HB2 := hid (HB.out.trans (hb2.mono HB.out.size))
      have HG2 := hid (hg2.base HB.out.size)
      clear hg2 hb2 HX
      cases O with
      | none =>
        have HN := hid (HST.out (j + 1) HS.out hlt)
        go_wp2
        go_ret2
        exact ⟨_, by rw [HN.out]; rfl, by rw [HN.out]; exact (grid_none _).base HB2.out.size, HB2.out.alloc HB2.out.size _⟩
      | some Q =>
        go_wp2
        go_roundw
        case rel => exact ⟨j + 1, Q, by omega, by go_num, HS.out, HG2.out, HB2.out⟩
        case measure => simp [intOf]; omega
    · obtain rfl : j = k := by omega
      have HG := hid hg
      have HB := hid hb
      clear hP hg hb ht1 hPf hRP
      go_wp2
      go_ret2
      exact ⟨_, by rw [HP.out]; rfl, by rw [HP.out]; exact HG.out, HB.out⟩
def traceOf (P : List (List Int)) (n : Nat) : Int := sumTo (fun u => at2 P u u) n
set_option maxHeartbeats 2000000 in
theorem spec_TraceOf_c (a : Option Addr) (n c : Nat) (M : List (List Int)) (w : World) (h : TabAt w a n M) (hM : isMat M = true) :
    Calls Tryz.prog 85 #[.slice a n c] w fun e w' => e = .returned (.int .i64 (traceOf M n)) ∧ w = w' := by
  obtain ⟨hR, h1, h9, hbd⟩ := tabAt_rect h hM
  have HI := hid (spec_IsMatrix_c a n c M w h)
  rw [hM] at HI
  have HT := hid h
  have HR := hid hR
  have HBD := hid hbd
  have hlim : n ≤ 9 := h9
  have HC := hid (fun (j : Nat) (hj : j < n) => rect_cell h hR hj hj)
  clear h hM hR hbd
  go_enter Tryz.func85, Tryz.ntmps85
  go_wp2_with fail
  refine HI.out.mono ?_
  rintro e w1 ⟨rfl, rfl⟩
  go_wp2
  go_loop [3, 4] (fun s i => ∃ (j : Nat) (z : Int), j ≤ n ∧ i = .int .i64 j ∧ s = .int .i64 z ∧ 0 ≤ z ∧ z ≤ j * 1000000 ∧ Hid (z = sumTo (fun u => at2 M u u) j)) (fun _ i => n - (intOf i).toNat)
  case atStart => exact ⟨0, 0, by omega, rfl, rfl, by omega, by omega, rfl⟩
  case round =>
    obtain ⟨j, z, hj, rfl, rfl, hz0, hz1, HZ⟩ := hrel
    by_cases hlt : j < n
    · obtain ⟨b, off, b2, off2, c2, rfl, hb, hc1, hb2, hc2⟩ := HC.out j hlt
      have hx := HBD.out j j
      obtain ⟨x, hxe⟩ : ∃ x, x = at2 M j j := ⟨_, rfl⟩
      have HX := hid hxe
      rw [← hxe] at hx hc2
      have hx0 := hx.1
      have hx1 := hx.2
      clear hxe hx
      go_wp2
      go_round
      case rel => exact ⟨j + 1, z + x, by omega, by go_num, rfl, by omega, by omega, by show _ = sumTo _ j + at2 M j j; rw [← HX.out, ← HZ.out]⟩
      case measure => simp [intOf]; omega
    · obtain rfl : j = n := by omega
      go_wp2
      go_ret
      exact ⟨ret_int (by rw [HZ.out]; rfl), rfl⟩
def closedOf (M : List (List Int)) (n k : Nat) : Int := match powO M n k with | none => -1 | some P => traceOf P n
theorem spec_ClosedPaths_c (a : Option Addr) (n c k : Nat) (M : List (List Int)) (w : World) (h : TabAt w a n M) (hM : isMat M = true) (h1 : 1 ≤ k) (hk : k ≤ 30) :
    Calls Tryz.prog 39 #[.slice a n c, .int .i64 k] w fun e w' => e = .returned (.int .i64 (closedOf M n k)) ∧ Below w.heap.size w w' := by
  have hf := isMat_facts hM (tab_len h).1
  have hin := inB_t (x := (k : Int)) (lo := 1) (hi := 30) (by omega)
  have HP := hid (spec_PowerMatrix_c a n c k M w h hM hk)
  have HPS := hid (fun P => powO_some (M := M) (P := P) (n := n) hf.1.1 hf.1.2 k)
  have HCL := hid (show closedOf M n k = match powO M n k with | none => -1 | some P => traceOf P n from rfl)
  unfold MayPost at HP
  have hn9 := hf.1.2
  obtain ⟨O, hO⟩ : ∃ O, O = powO M n k := ⟨_, rfl⟩
  obtain ⟨r, hr⟩ : ∃ r, r = closedOf M n k := ⟨_, rfl⟩
  rw [← hO] at HP HPS HCL
  rw [← hr] at HCL
  rw [← hr]
  clear h hM hf hO hr
  go_enter Tryz.func39, Tryz.ntmps39
  go_wp2_with (go_at_call 58; refine (l1In_c _ _ _ _).mono ?_; rintro e w' ⟨rfl, rfl⟩)
  refine HP.out.mono ?_
  rintro e w1 ⟨v, rfl, hg, hb⟩
  cases O with
  | none =>
    go_wp2
    go_ret
    exact ⟨ret_int HCL.out.symm, hb⟩
  | some P =>
    have hPf := HPS.out P rfl
    obtain ⟨a1, c1, rfl, ht1⟩ := grid_tab2 (R := P) hg (isMat_facts hPf.1 hPf.2).2.1 (by omega)
    have HT := hid (spec_TraceOf_c a1 n c1 P w1 ht1 hPf.1)
    have HB := hid hb
    clear hg hb ht1 hPf
    go_wp2_with fail
    refine HT.out.mono ?_
    rintro e w2 ⟨rfl, rfl⟩
    go_wp2
    go_ret
    exact ⟨ret_int HCL.out.symm, HB.out⟩
end Go.Proofs.YtpfeflhcbcgbfaaGreatDoor
namespace Go.Proofs.YtpfeflhcbcgbfaaGreatDoor
open Go.RowKit

/-- Where a letter leads from a state. -/
def tgtN (G : List (Nat × Nat × Nat)) (p x : Nat) : Option Nat := (G.find? fun a => decide (a.1 = p ∧ a.2.2 = x)).map (·.2.1)
def alikeB (r : Nat → Nat → Bool) : Option Nat → Option Nat → Bool | none, none => true | some a, some b => r a b | _, _ => false
/-- States alike after some rounds. -/
def relN (G : List (Nat × Nat × Nat)) (L : Nat) : Nat → Nat → Nat → Bool
  | 0, _, _ => true
  | t + 1, p, q => relN G L t p q && (List.range L).all fun x => alikeB (relN G L t) (tgtN G p x) (tgtN G q x)
structure EqR (r : Nat → Nat → Bool) : Prop where
  refl : ∀ p, r p p = true
  symm : ∀ p q, r p q = true → r q p = true
  trans : ∀ p q s, r p q = true → r q s = true → r p s = true
theorem alike_refl {r : Nat → Nat → Bool} (h : EqR r) : ∀ a, alikeB r a a = true | none => rfl | some a => h.refl a
theorem alike_symm {r : Nat → Nat → Bool} (h : EqR r) : ∀ a b, alikeB r a b = true → alikeB r b a = true
  | none, none, _ => rfl
  | some a, some b, e => h.symm a b e
  | none, some _, e => by cases e
  | some _, none, e => by cases e
theorem alike_trans {r : Nat → Nat → Bool} (h : EqR r) : ∀ a b c, alikeB r a b = true → alikeB r b c = true → alikeB r a c = true
  | none, none, none, _, _ => rfl
  | some a, some b, some c, e, f => h.trans a b c e f
  | none, some _, _, e, _ => by cases e
  | some _, none, _, e, _ => by cases e
  | none, none, some _, _, f => by cases f
  | some _, some _, none, _, f => by cases f
theorem relN_eqR (G : List (Nat × Nat × Nat)) (L : Nat) : ∀ t, EqR (relN G L t)
  | 0 => ⟨fun _ => rfl, fun _ _ _ => rfl, fun _ _ _ _ _ => rfl⟩
  | t + 1 => by
    have ih := relN_eqR G L t
    refine ⟨fun p => ?_, fun p q h => ?_, fun p q s h k => ?_⟩
    · unfold relN
      rw [ih.refl p, Bool.true_and, List.all_eq_true]
      exact fun x _ => alike_refl ih _
    · unfold relN at h ⊢
      rw [Bool.and_eq_true, List.all_eq_true] at h ⊢
      exact ⟨ih.symm _ _ h.1, fun x hx => alike_symm ih _ _ (h.2 x hx)⟩
    · unfold relN at h k ⊢
      rw [Bool.and_eq_true, List.all_eq_true] at h k ⊢
      exact ⟨ih.trans _ _ _ h.1 k.1, fun x hx => alike_trans ih _ _ _ (h.2 x hx) (k.2 x hx)⟩
theorem relN_less {G : List (Nat × Nat × Nat)} {L t p q : Nat} (h : relN G L (t + 1) p q = true) : relN G L t p q = true := by
  unfold relN at h
  rw [Bool.and_eq_true] at h
  exact h.1
/-- The least state in a state's class. -/
def repN (r : Nat → Nat → Bool) (p : Nat) : Nat := ((List.range p).find? fun q => r p q).getD p
theorem find_range {f : Nat → Bool} : ∀ {p q : Nat}, (List.range p).find? f = some q → q < p ∧ f q = true ∧ ∀ j, j < q → f j = false := by
  intro p q h
  rw [List.find?_range_eq_some] at h
  obtain ⟨h1, h2, h3⟩ := h
  exact ⟨List.mem_range.1 h2, h1, fun j hj => by simpa using h3 j hj⟩
theorem repN_facts {r : Nat → Nat → Bool} (h : EqR r) (p : Nat) : repN r p ≤ p ∧ r p (repN r p) = true ∧ ∀ j, j < repN r p → r p j = false := by
  unfold repN
  cases hf : (List.range p).find? fun q => r p q with
  | none =>
    rw [List.find?_eq_none] at hf
    exact ⟨Nat.le_refl _, h.refl p, fun j hj => by have := hf j (List.mem_range.2 hj); simpa using this⟩
  | some q =>
    obtain ⟨h1, h2, h3⟩ := find_range hf
    exact ⟨Nat.le_of_lt h1, h2, h3⟩
theorem repN_of {r : Nat → Nat → Bool} (h : EqR r) {p q : Nat} (h1 : r p q = true) (h2 : ∀ j, j < q → r p j = false) : repN r p = q := by
  obtain ⟨_, k2, k3⟩ := repN_facts h p
  rcases Nat.lt_trichotomy (repN r p) q with e | e | e
  · rw [h2 _ e] at k2; cases k2
  · exact e
  · rw [k3 _ e] at h1; cases h1
theorem repN_eq {r : Nat → Nat → Bool} (h : EqR r) {p q : Nat} : repN r p = repN r q ↔ r p q = true := by
  obtain ⟨_, p2, p3⟩ := repN_facts h p
  obtain ⟨_, q2, q3⟩ := repN_facts h q
  constructor
  · intro e
    exact h.trans _ _ _ p2 (h.symm _ _ (by rw [e]; exact q2))
  · intro e
    refine repN_of h (h.trans _ _ _ e q2) fun j hj => ?_
    cases hb : r p j
    · rfl
    · have := h.trans _ _ _ (h.symm _ _ e) hb
      rw [q3 j hj] at this; cases this
def isRep (r : Nat → Nat → Bool) (p : Nat) : Bool := decide (repN r p = p)
theorem repN_rep {r : Nat → Nat → Bool} (h : EqR r) (p : Nat) : repN r (repN r p) = repN r p := (repN_eq h).2 (h.symm _ _ (repN_facts h p).2.1)
/-- The number of a state's class. -/
def clsN (r : Nat → Nat → Bool) (p : Nat) : Nat := numTo (isRep r) (repN r p)
theorem clsN_eq {r : Nat → Nat → Bool} (h : EqR r) {p q : Nat} : clsN r p = clsN r q ↔ r p q = true := by
  constructor
  · intro e
    refine (repN_eq h).1 ?_
    unfold clsN at e
    rcases Nat.lt_trichotomy (repN r p) (repN r q) with g | g | g
    · have := numTo_lt (K := isRep r) g (by unfold isRep; rw [decide_eq_true_eq]; exact repN_rep h p)
      omega
    · exact g
    · have := numTo_lt (K := isRep r) g (by unfold isRep; rw [decide_eq_true_eq]; exact repN_rep h q)
      omega
  · intro e
    unfold clsN
    rw [(repN_eq h).2 e]
/-- Nothing changes any more. -/
def stabN (G : List (Nat × Nat × Nat)) (L S t : Nat) : Prop := ∀ p q, p < S → q < S → relN G L t p q = true → relN G L (t + 1) p q = true
theorem stab_rel {G : List (Nat × Nat × Nat)} {L S t : Nat} (hG : ∀ a ∈ G, a.2.1 < S) (h : stabN G L S t) : ∀ j p q, p < S → q < S → relN G L t p q = true → relN G L (t + j) p q = true
  | 0, _, _, _, _, e => e
  | j + 1, p, q, hp, hq, e => by
    have h1 := h p q hp hq e
    show relN G L ((t + j) + 1) p q = true
    unfold relN at h1 ⊢
    rw [Bool.and_eq_true, List.all_eq_true] at h1 ⊢
    refine ⟨stab_rel hG h j p q hp hq e, fun x hx => ?_⟩
    have h2 := h1.2 x hx
    have key : ∀ p b, tgtN G p x = some b → b < S := fun p b hb => by
      unfold tgtN at hb
      obtain ⟨a, ha, rfl⟩ := Option.map_eq_some_iff.1 hb
      exact hG a (List.mem_of_find?_eq_some ha)
    cases ha : tgtN G p x with
    | none => rw [ha] at h2; cases hb : tgtN G q x with
      | none => rfl
      | some b => rw [hb] at h2; cases h2
    | some a => rw [ha] at h2; cases hb : tgtN G q x with
      | none => rw [hb] at h2; cases h2
      | some b => rw [hb] at h2; exact stab_rel hG h j a b (key p a ha) (key q b hb) h2
theorem rel_back {G : List (Nat × Nat × Nat)} {L t p q : Nat} : ∀ j, relN G L (t + j) p q = true → relN G L t p q = true
  | 0, e => e
  | j + 1, e => rel_back j (relN_less (t := t + j) e)
/-- The number of classes. -/
def cntN (G : List (Nat × Nat × Nat)) (L S t : Nat) : Nat := numTo (isRep (relN G L t)) S
theorem rep_ext {r q : Nat → Nat → Bool} (hr : EqR r) (hq : EqR q) {S : Nat} (h : ∀ a b, a < S → b < S → (r a b = true ↔ q a b = true)) {p : Nat} (hp : p < S) : repN r p = repN q p := by
  obtain ⟨k1, k2, k3⟩ := repN_facts hq p
  refine repN_of hr ((h p _ hp (by omega)).2 k2) fun j hj => ?_
  cases hb : r p j
  · rfl
  · have := (h p j hp (by omega)).1 hb
    rw [k3 j hj] at this; cases this
theorem cnt_same {G : List (Nat × Nat × Nat)} {L S t u : Nat} (hG : ∀ a ∈ G, a.2.1 < S) (h : stabN G L S t) (k : stabN G L S u) : cntN G L S t = cntN G L S u := by
  have key : ∀ t u, t ≤ u → stabN G L S t → cntN G L S t = cntN G L S u := by
    intro t u htu h
    refine numTo_ext fun p hp => ?_
    unfold isRep
    rw [rep_ext (relN_eqR G L t) (relN_eqR G L u) (S := S) (fun a b ha hb => ?_) hp]
    obtain ⟨j, rfl⟩ := Nat.exists_eq_add_of_le htu
    exact ⟨stab_rel hG h j a b ha hb, rel_back j⟩
  rcases Nat.le_total t u with e | e
  · exact key t u e h
  · exact (key u t e k).symm
/-- A round that changes something makes more classes. -/
theorem cnt_more {G : List (Nat × Nat × Nat)} {L S t : Nat} (h : ¬ stabN G L S t) : cntN G L S t < cntN G L S (t + 1) := by
  have hT := relN_eqR G L t
  have hU := relN_eqR G L (t + 1)
  have hsub : ∀ p, isRep (relN G L t) p = true → isRep (relN G L (t + 1)) p = true := fun p hp => by
    unfold isRep at hp ⊢
    rw [decide_eq_true_eq] at hp ⊢
    obtain ⟨k1, _, k3⟩ := repN_facts hT p
    refine repN_of hU (hU.refl p) fun j hj => ?_
    cases hb : relN G L (t + 1) p j
    · rfl
    · have := relN_less hb
      rw [k3 j (by omega)] at this; cases this
  have hex : ∃ p, p < S ∧ isRep (relN G L (t + 1)) p = true ∧ isRep (relN G L t) p = false := by
    refine Classical.byContradiction fun hn => h fun p q hp hq e => ?_
    have all : ∀ p, p < S → repN (relN G L (t + 1)) p = repN (relN G L t) p := fun p hp => by
      obtain ⟨k1, k2, k3⟩ := repN_facts hU p
      have hr : isRep (relN G L (t + 1)) (repN (relN G L (t + 1)) p) = true := by
        unfold isRep; rw [decide_eq_true_eq]; exact repN_rep hU p
      cases hb : isRep (relN G L t) (repN (relN G L (t + 1)) p)
      · exact absurd ⟨_, by omega, hr, hb⟩ hn
      · unfold isRep at hb
        rw [decide_eq_true_eq] at hb
        rw [← hb]
        exact (repN_eq hT).2 (hT.symm _ _ (relN_less k2))
    refine (repN_eq hU).1 ?_
    rw [all p hp, all q hq]
    exact (repN_eq hT).2 e
  obtain ⟨p, hp, h1, h2⟩ := hex
  unfold cntN numTo
  have := filter_less (K := isRep (relN G L (t + 1))) (L := isRep (relN G L t)) (M := S) hsub hp h1 h2
  exact this
theorem cnt_le (G : List (Nat × Nat × Nat)) (L S t : Nat) : cntN G L S t ≤ S := numTo_le _ _
theorem stab_cls {G : List (Nat × Nat × Nat)} {L S t : Nat} : stabN G L S t ↔ ∀ p, p < S → clsN (relN G L t) p = clsN (relN G L (t + 1)) p := by
  have hT := relN_eqR G L t
  have hU := relN_eqR G L (t + 1)
  constructor
  · intro h p hp
    unfold clsN
    have hrep : ∀ p, p < S → repN (relN G L t) p = repN (relN G L (t + 1)) p := fun p hp => rep_ext hT hU (S := S) (fun a b ha hb => ⟨h a b ha hb, relN_less⟩) hp
    rw [hrep p hp]
    refine numTo_ext fun j hj => ?_
    have := (repN_facts hU p).1
    unfold isRep
    rw [hrep j (by omega)]
  · intro h p q hp hq e
    refine (clsN_eq hU).1 ?_
    rw [← h p hp, ← h q hq]
    exact (clsN_eq hT).2 e
theorem stab_rep {G : List (Nat × Nat × Nat)} {L S t : Nat} : stabN G L S t ↔ ∀ p, p < S → repN (relN G L t) p = repN (relN G L (t + 1)) p := by
  have hT := relN_eqR G L t
  have hU := relN_eqR G L (t + 1)
  constructor
  · intro h p hp
    exact rep_ext hT hU (S := S) (fun a b ha hb => ⟨h a b ha hb, relN_less⟩) hp
  · intro h p q hp hq e
    refine (repN_eq hU).1 ?_
    rw [← h p hp, ← h q hq]
    exact (repN_eq hT).2 e
end Go.Proofs.YtpfeflhcbcgbfaaGreatDoor
namespace Go.Proofs.YtpfeflhcbcgbfaaGreatDoor
open Go.RowKit

def wayB (M : List (List Int)) (i j : Nat) : Bool := decide (0 < at2 M i j)
def rowsM (M : List (List Int)) (n : Nat) : List (List Int) := (List.range n).map fun i => ((List.range n).filter (wayB M i)).map fun j => ((j : Nat) : Int)
theorem rowsM_edg {M : List (List Int)} {n i j : Nat} (hi : i < n) (hj : j < n) : edg (rowsM M n) i j ↔ wayB M i j = true := by
  unfold edg rowsM
  rw [List.getD_eq_getElem?_getD, List.getElem?_map, List.getElem?_range hi]
  simp only [Option.map_some, Option.getD_some, List.mem_map, List.mem_filter, List.mem_range]
  constructor
  · rintro ⟨a, ⟨_, h⟩, e⟩
    rw [show j = a by omega]; exact h
  · intro h
    exact ⟨j, ⟨hj, h⟩, rfl⟩
def mOut (K : Nat → Bool) (M : List (List Int)) (i j : Nat) : Bool := (List.range j).any fun t => K t && wayB M i t
def mIn (K : Nat → Bool) (M : List (List Int)) (i j : Nat) : Bool := (List.range j).any fun t => K t && wayB M t i
theorem mOut_succ (K : Nat → Bool) (M : List (List Int)) (i j : Nat) : mOut K M i (j + 1) = (mOut K M i j || (K j && wayB M i j)) := by simp [mOut, List.range_succ]
theorem mIn_succ (K : Nat → Bool) (M : List (List Int)) (i j : Nat) : mIn K M i (j + 1) = (mIn K M i j || (K j && wayB M j i)) := by simp [mIn, List.range_succ]
theorem mOut_iff {K : Nat → Bool} {M : List (List Int)} {i n : Nat} : mOut K M i n = true ↔ ∃ t, t < n ∧ K t = true ∧ wayB M i t = true := by
  unfold mOut; rw [List.any_eq_true]
  constructor
  · rintro ⟨t, h1, h2⟩; rw [Bool.and_eq_true] at h2; exact ⟨t, List.mem_range.1 h1, h2⟩
  · rintro ⟨t, h1, h2⟩; exact ⟨t, List.mem_range.2 h1, by rw [Bool.and_eq_true]; exact h2⟩
theorem mIn_iff {K : Nat → Bool} {M : List (List Int)} {i n : Nat} : mIn K M i n = true ↔ ∃ t, t < n ∧ K t = true ∧ wayB M t i = true := by
  unfold mIn; rw [List.any_eq_true]
  constructor
  · rintro ⟨t, h1, h2⟩; rw [Bool.and_eq_true] at h2; exact ⟨t, List.mem_range.1 h1, h2⟩
  · rintro ⟨t, h1, h2⟩; exact ⟨t, List.mem_range.2 h1, by rw [Bool.and_eq_true]; exact h2⟩
/-- Nothing that lives is struck. -/
theorem mlive_keep {K : Nat → Bool} {M : List (List Int)} {n i : Nat} (hP : ∀ q, q < n → LiveG (rowsM M n) n q → K q = true) (hs : (mOut K M i n && mIn K M i n) = false) : ∀ q, q < n → LiveG (rowsM M n) n q → (if q = i then false else K q) = true := by
  intro q hq hl
  by_cases h : q = i
  · subst h
    obtain ⟨T, ht, hT⟩ := hl
    have hin : ∀ r, T r → K r = true := fun r hr => hP r (hT r hr).1 ⟨T, hr, hT⟩
    obtain ⟨_, ⟨r, hr, htr⟩, ⟨s, hs2, hts⟩⟩ := hT q ht
    have h1 : mOut K M q n = true := mOut_iff.2 ⟨r, (hT r htr).1, hin r htr, (rowsM_edg hq (hT r htr).1).1 hr⟩
    have h2 : mIn K M q n = true := mIn_iff.2 ⟨s, (hT s hts).1, hin s hts, (rowsM_edg (hT s hts).1 hq).1 hs2⟩
    rw [h1, h2] at hs; cases hs
  · rw [if_neg h]; exact hP q hq hl
theorem mlive_end {K : Nat → Bool} {M : List (List Int)} {n : Nat} (hP : ∀ q, q < n → LiveG (rowsM M n) n q → K q = true) (hE : ∀ i, i < n → K i = true → (mOut K M i n && mIn K M i n) = true) : ∀ i, i < n → (K i = true ↔ LiveG (rowsM M n) n i) := by
  intro i hi
  refine ⟨fun hk => ⟨fun j => j < n ∧ K j = true, ⟨hi, hk⟩, fun q hq => ⟨hq.1, ?_, ?_⟩⟩, hP i hi⟩
  · have h3 := hE q hq.1 hq.2
    rw [Bool.and_eq_true, mOut_iff] at h3
    obtain ⟨⟨t, h1, h2, h4⟩, _⟩ := h3
    exact ⟨t, (rowsM_edg hq.1 h1).2 h4, h1, h2⟩
  · have h3 := hE q hq.1 hq.2
    rw [Bool.and_eq_true, mIn_iff] at h3
    obtain ⟨_, t, h1, h2, h4⟩ := h3
    exact ⟨t, (rowsM_edg h1 hq.1).2 h4, h1, h2⟩
theorem cnt_strike {K : Nat → Bool} {n i : Nat} (hi : i < n) (hk : K i = true) : ((List.range n).filter fun q => if q = i then false else K q).length < ((List.range n).filter K).length :=
  filter_less (fun q hq => by by_cases h : q = i; · rw [if_pos h] at hq; cases hq
                              rw [if_neg h] at hq; exact hq) hi hk (by rw [if_pos rfl])
end Go.Proofs.YtpfeflhcbcgbfaaGreatDoor
namespace Go.Proofs.YtpfeflhcbcgbfaaGreatDoor
open Go.RowKit

/-- A cell row of arcs. -/
theorem arc_row {w : World} {b off k : Nat} {A : List (Int × Int × Int)} {a : Int × Int × Int} (hc : ∀ k v, (arcVals A)[k]? = some v → w.cell? ⟨b, off + k, none⟩ = some v) (h : A[k]? = some a) : Cell3 w b (off + k * 3) a.1 a.2.1 a.2.2 := by
  obtain ⟨h0, h1, h2⟩ := arcVals_get h
  have c1 := hc _ _ h1
  have c2 := hc _ _ h2
  rw [← Nat.add_assoc] at c1 c2
  exact ⟨hc _ _ h0, c1, c2⟩
theorem befB_iff {a b : Int × Int × Int} : befB a b = true ↔ a.1 < b.1 ∨ (a.1 = b.1 ∧ (a.2.2 < b.2.2 ∨ (a.2.2 = b.2.2 ∧ a.2.1 < b.2.1))) := by unfold befB; rw [decide_eq_true_eq]
def cmpI (x y : Int) : Int := if x < y then -1 else if y < x then 1 else 0
def orI (x y z : Int) : Int := if x = 0 then (if y = 0 then z else y) else x
def cmpA (a b : Int × Int × Int) : Int := orI (cmpI a.1 b.1) (cmpI a.2.2 b.2.2) (cmpI a.2.1 b.2.1)
theorem cmpA_neg {a b : Int × Int × Int} : 0 ≤ cmpA a b ↔ befB a b = false := by
  unfold cmpA orI cmpI befB
  rw [decide_eq_false_iff_not]
  repeat' split
  all_goals omega
theorem lab_box {w V : World} {L S : Int} {v : Value} {T : TypeId} (hV : Below (w.heap.size + 1) (w.alloc (.cells #[.int .i64 L, .int .i64 S, v] T)) V) : (V.cell? ⟨w.heap.size, 0, none⟩ = some (.int .i64 L) ∧ V.cell? ⟨w.heap.size, 1, none⟩ = some (.int .i64 S) ∧ V.cell? ⟨w.heap.size, 2, none⟩ = some v) ∧ w.heap.size < V.heap.size ∧ Below w.heap.size w V := by
  refine ⟨⟨(box_kept hV 0).1, (box_kept hV 1).1, (box_kept hV 2).1⟩, ?_, ((Below.refl _ _).alloc (Nat.le_refl _) _).trans (hV.mono (by omega))⟩
  have := hV.size
  simp at this
  omega
/-- What arcs are there while a function reads them. -/
theorem arcs_at {w W2 : World} {a : Option Addr} {n : Nat} {A : List (Int × Int × Int)} (hr : RowAt w a (n * 3) (arcVals A)) (hb : Below w.heap.size w W2) : A.length = n ∧ ∀ k x, A[k]? = some x → ∃ b off, a = some ⟨b, off, none⟩ ∧ b < W2.heap.size ∧ ∀ V, Below W2.heap.size W2 V → Cell3 V b (off + k * 3) x.1 x.2.1 x.2.2 := by
  have hl := hr.len
  rw [arcVals_len] at hl
  refine ⟨by omega, fun k x hx => ?_⟩
  obtain ⟨b, off, rfl, hlt, hc⟩ := hr.at_ (by have := (List.getElem?_eq_some_iff.1 hx).1; omega)
  exact ⟨b, off, rfl, Nat.lt_of_lt_of_le hlt hb.size, fun V hV => (arc_row hc hx).below (hb.trans (hV.mono hb.size)) hlt⟩
theorem inB_wrap {x S : Int} : inB x 0 (S + 1 - 1) = inB x 0 S := by rw [Int.add_sub_cancel]
end Go.Proofs.YtpfeflhcbcgbfaaGreatDoor
namespace Go.Proofs.YtpfeflhcbcgbfaaGreatDoor
open Go.RowKit

theorem bit_and12a : ∀ i : Nat, i < 12 → ∀ n : Nat, n < 64 → ∀ m : Nat, m < 64 → bits BinOp.and IntKind.i64 (((64 * n + m : Nat) : Int) / 2 ^ i) 1 = (((64 * n + m) / 2 ^ i % 2 : Nat) : Int) := by decide +kernel
theorem bit_or12a : ∀ i : Nat, i < 12 → ∀ n : Nat, n < 64 → ∀ m : Nat, m < 64 → bits BinOp.or IntKind.i64 ((64 * n + m : Nat) : Int) (wrap64 (2 ^ i)) = ((64 * n + m ||| 2 ^ i : Nat) : Int) := by decide +kernel
theorem bit_and12 (i : Nat) (hi : i < 12) (n : Nat) (hn : n < 4096) : bits BinOp.and IntKind.i64 ((n : Int) / 2 ^ i) 1 = ((n / 2 ^ i % 2 : Nat) : Int) := by
  have := bit_and12a i hi (n / 64) (by omega) (n % 64) (by omega)
  rwa [Nat.div_add_mod] at this
theorem bit_or12 (i : Nat) (hi : i < 12) (n : Nat) (hn : n < 4096) : bits BinOp.or IntKind.i64 (n : Int) (wrap64 (2 ^ i)) = ((n ||| 2 ^ i : Nat) : Int) := by
  have := bit_or12a i hi (n / 64) (by omega) (n % 64) (by omega)
  rwa [Nat.div_add_mod] at this
theorem pow_shift12a : ∀ S : Nat, S < 13 → wrap64 (2 ^ S) = ((2 ^ S : Nat) : Int) := by decide +kernel
theorem bit01 (s v : Nat) : s / 2 ^ v % 2 = 0 ∨ s / 2 ^ v % 2 = 1 := by omega
/-- The arcs of a valid graph as a function reads them. -/
theorem garcs_at {w W2 : World} {a : Option Addr} {n : Nat} {G : List (Nat × Nat × Nat)} (hr : RowAt w a (n * 3) (arcVals (arcN G))) (hb : Below w.heap.size w W2) : G.length = n ∧ ∀ k x, G[k]? = some x → ∃ b off, a = some ⟨b, off, none⟩ ∧ b < W2.heap.size ∧ ∀ V, Below W2.heap.size W2 V → Cell3 V b (off + k * 3) (x.1 : Int) (x.2.1 : Int) (x.2.2 : Int) := by
  obtain ⟨h1, h2⟩ := arcs_at hr hb
  rw [arcN_len] at h1
  exact ⟨h1, fun k x hx => h2 k _ (arcN_get hx)⟩
end Go.Proofs.YtpfeflhcbcgbfaaGreatDoor
namespace Go.Proofs.YtpfeflhcbcgbfaaGreatDoor
open Go.RowKit

def wayTo (G : List (Nat × Nat × Nat)) (k i j : Nat) : Int := if (G.take k).any fun a => decide (a.1 = i ∧ a.2.1 = j) then 1 else 0
theorem wayTo_step {G : List (Nat × Nat × Nat)} {S k : Nat} {y : Nat × Nat × Nat} (h : G[k]? = some y) (h1 : y.1 < S) (h2 : y.2.1 < S) : put2 (tabF S S (wayTo G k)) y.1 y.2.1 1 = tabF S S (wayTo G (k + 1)) :=
  tabF_put h1 h2 (by unfold wayTo; rw [List.take_add_one, h]; simp) fun p q _ _ hpq => by
    unfold wayTo
    rw [List.take_add_one, h]
    simp only [Option.toList_some, List.any_append, List.any_cons, List.any_nil, Bool.or_false]
    rw [decide_eq_false (p := y.1 = p ∧ y.2.1 = q) (by omega), Bool.or_false]
theorem wayTo_edg {G : List (Nat × Nat × Nat)} {S i j : Nat} (hi : i < S) (hj : j < S) : wayB (tabF S S (wayTo G G.length)) i j = true ↔ edgN G i j := by
  unfold wayB
  rw [tabF_at _ hi hj, decide_eq_true_eq]
  unfold wayTo edgN
  rw [List.take_length]
  constructor
  · intro h
    split at h
    · rename_i h2
      rw [List.any_eq_true] at h2
      obtain ⟨a, ha, h3⟩ := h2
      rw [decide_eq_true_eq] at h3
      exact ⟨a.2.2, by rw [← h3.1, ← h3.2]; exact ha⟩
    · omega
  · rintro ⟨l, hl⟩
    rw [if_pos (List.any_eq_true.2 ⟨_, hl, by simp⟩)]
    omega
/-- The states that live. -/
def LivesG (G : List (Nat × Nat × Nat)) (S i : Nat) : Prop := LiveG (rowsG G S) S i
theorem lives_rows {G : List (Nat × Nat × Nat)} {S i : Nat} : LiveG (rowsM (tabF S S (wayTo G G.length)) S) S i ↔ LivesG G S i :=
  ⟨fun h => live_ways (fun p q hp hq => (rowsM_edg hp hq).trans ((wayTo_edg hp hq).trans (rowsG_edg hp).symm)) h,
   fun h => live_ways (fun p q hp hq => (rowsG_edg hp).trans ((wayTo_edg hp hq).symm.trans (rowsM_edg hp hq).symm)) h⟩
def LivesPost (G : List (Nat × Nat × Nat)) (S : Nat) (w : World) (e : Ending) (w' : World) : Prop :=
  ∃ v K, e = .returned v ∧ w'.ownsRow w.heap.size 4 1 v S (boolVals (rowB K S)) ∧ Below w.heap.size w w' ∧ (∀ i, i < S → (K i = true ↔ LivesG G S i))
end Go.Proofs.YtpfeflhcbcgbfaaGreatDoor
