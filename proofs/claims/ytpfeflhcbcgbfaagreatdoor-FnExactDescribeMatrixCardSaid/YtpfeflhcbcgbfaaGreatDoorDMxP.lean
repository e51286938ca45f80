/- A report of a matrix: its text, and what it is made of. Plain laws. -/
import Derived.Test.YtpfeflhcbcgbfaaGreatDoorTimI
import Derived.Test.YtpfeflhcbcgbfaaGreatDoorNums
import Derived.Test.YtpfeflhcbcgbfaaGreatDoorIntsIn
import Derived.Test.YtpfeflhcbcgbfaaGreatDoorZero
import Derived.Test.YtpfeflhcbcgbfaaGreatDoorGrow
import Derived.Test.YtpfeflhcbcgbfaaGreatDoorGrpT
import Derived.Test.YtpfeflhcbcgbfaaGreatDoorLinO
import Derived.Test.YtpfeflhcbcgbfaaGreatDoorPolT
import Derived.Test.YtpfeflhcbcgbfaaGreatDoorCmpP
namespace Go.Proofs.YtpfeflhcbcgbfaaGreatDoor
open Go.RowKit
def MayI (o : Option (List (List Int))) (w : World) (e : Ending) (w' : World) : Prop :=
  ∃ v, e = .returned (.tuple #[v, .bool o.isSome]) ∧ (∀ P, o = some P → TGrid 39 3 w' w.heap.size v P) ∧ Below w.heap.size w w'
set_option maxHeartbeats 2000000 in
theorem impl_Multiply_c (a b : Option Addr) (n c d : Nat) (A B : List (List Int)) (w : World) (ha : TabAt w a n A) (hb : TabAt w b n B) (hA : isMat A = true) (hB : isMat B = true) :
    Calls Tryz.prog 137 #[.slice a n c, .slice b n d] w (MayI (mulO A B n) w) := by
  obtain ⟨hRA, h1, h9, hbA⟩ := tabAt_rect ha hA
  obtain ⟨hRB, _, _, hbB⟩ := tabAt_rect hb hB
  have HIA := hid (impl_IsMatrix_c a n c A w ha)
  have HIB := hid (impl_IsMatrix_c b n d B w hb)
  rw [hA] at HIA
  rw [hB] at HIB
  have HT := hid (impl_times_c a b n c d A B w ha hb hRA hRB h1 h9 hbA hbB)
  have hR := hid (muOf_rect A B n hRA.len)
  have HO := hid (show mulO A B n = if isMat (muOf A B n) = true then some (muOf A B n) else none from rfl)
  obtain ⟨P, hP⟩ : ∃ P, P = muOf A B n := ⟨_, rfl⟩
  obtain ⟨O, hO⟩ : ∃ O, O = mulO A B n := ⟨_, rfl⟩
  have HCK := hid (fun (a1 : Option Addr) (c1 : Nat) (W : World) (ht : TabAt W a1 n P) => show Calls Tryz.prog 163 #[.slice a1 n c1] W fun e w' => ∃ v, e = .returned (.tuple #[v, .bool (isMat P)]) ∧ (isMat P = true → v = .slice a1 n c1) ∧ W = w' from by
    have HI := hid (impl_IsMatrix_c a1 n c1 P W ht)
    obtain ⟨m, hm⟩ : ∃ m, m = isMat P := ⟨_, rfl⟩
    rw [← hm] at HI
    rw [← hm]
    clear ht hm ha hb hA hB hRA hRB hbA hbB hP hO HIA HIB HT hR HO
    go_enter Tryz.func163, Tryz.ntmps163
    cases m
    · go_wp2_with fail
      refine HI.out.mono ?_
      rintro e w2 ⟨rfl, rfl⟩
      go_wp2
      go_ret2
      exact ⟨_, rfl, (fun h => by cases h), rfl⟩
    · go_wp2_with fail
      refine HI.out.mono ?_
      rintro e w2 ⟨rfl, rfl⟩
      go_wp2
      go_ret2
      first | exact ⟨_, rfl, (fun _ => rfl), rfl⟩ | exact ⟨_, rfl, rfl, rfl⟩)
  unfold GridPost at HT
  unfold MayI
  rw [← hP] at HT hR HO
  rw [← hO] at HO
  rw [← hO]
  clear ha hb hA hB hRA hRB hbA hbB hP hO
  go_enter Tryz.func137, Tryz.ntmps137
  go_wp2_with fail
  refine HIA.out.mono ?_
  rintro e w1 ⟨rfl, rfl⟩
  go_wp2_with fail
  refine HIB.out.mono ?_
  rintro e w1 ⟨rfl, rfl⟩
  have hne : ((n : Int) != (n : Int)) = false := by simp
  go_wp2_with fail
  refine HT.out.mono ?_
  rintro e w1 ⟨v, rfl, hg, hb⟩
  obtain ⟨a1, c1, rfl, ht1⟩ := grid_tab2 hg hR.out (by omega)
  have HG := hid hg
  have HB := hid hb
  have HC := hid (HCK.out a1 c1 w1 ht1)
  clear hg hb ht1 HT HCK
  obtain ⟨m, hm⟩ : ∃ m, m = isMat P := ⟨_, rfl⟩
  rw [← hm] at HC HO
  clear hm
  go_wp2_with fail
  refine HC.out.mono ?_
  rintro e w2 ⟨v2, rfl, hv2, rfl⟩
  cases m
  · go_wp2
    go_ret2
    exact ⟨_, by rw [HO.out]; rfl, (fun Q hQ => by rw [HO.out] at hQ; cases hQ), HB.out⟩
  · obtain rfl := hv2 rfl
    go_wp2
    go_ret2
    exact ⟨_, by rw [HO.out]; rfl, (fun Q hQ => by rw [HO.out] at hQ; injection hQ with hQ; rw [← hQ]; exact HG.out), HB.out⟩
set_option maxHeartbeats 2000000 in
theorem impl_PowerMatrix_c (a : Option Addr) (n c k : Nat) (M : List (List Int)) (w : World) (h : TabAt w a n M) (hM : isMat M = true) (hk : k ≤ 30) :
    Calls Tryz.prog 97 #[.slice a n c, .int .i64 k] w (MayI (powO M n k) w) := by
  obtain ⟨hR, h1, h9, _⟩ := tabAt_rect h hM
  have HI := hid (impl_IsMatrix_c a n c M w h)
  rw [hM] at HI
  have H1 := hid (impl_unit_c n w h1 h9)
  have HMU := hid (fun (b : Option Addr) (d : Nat) (P : List (List Int)) (W : World) (hw : Below w.heap.size w W) (hp : TabAt W b n P) (hPm : isMat P = true) => impl_Multiply_c b a n d c P M W hp (h.below hw (Nat.le_refl _)) hPm hM)
  have HPS := hid (fun (j : Nat) (P : List (List Int)) => powO_some (M := M) (P := P) (n := n) h1 h9 j)
  have HST := hid (fun (j : Nat) (h : powO M n j = none) (hj : j ≤ k) => show powO M n k = none by have := powO_stop h (k - j); rwa [show j + (k - j) = k by omega] at this)
  unfold GridPost at H1
  unfold MayI at HMU ⊢
  have hk0 : ¬ ((k : Int) < 0) := by omega
  have hk30 : ¬ (30 < (k : Int)) := by omega
  clear h hM hR
  go_enter Tryz.func97, Tryz.ntmps97
  go_wp2_with fail
  refine HI.out.mono ?_
  rintro e w1 ⟨rfl, rfl⟩
  go_wp2_with (go_at_call 100; refine H1.out.mono ?_; rintro e w1 ⟨v, rfl, hg, hb⟩)
  go_loopw [6, 7, 23] (fun x ok i wr => ∃ (j : Nat) (P : List (List Int)), j ≤ k ∧ i = .int .i64 j ∧ ok = .bool true ∧ powO M n j = some P ∧ TGrid 39 3 wr w.heap.size x P ∧ Below w.heap.size w wr) (fun _ _ i _ => k - (intOf i).toNat)
  case atStart => exact ⟨0, unitTab n, by omega, rfl, rfl, rfl, hg, hb⟩
  case round =>
    obtain ⟨j, P, hj, rfl, rfl, hP, hg, hb⟩ := hrel
    have HP := hid hP
    have hPf := HPS.out j P hP
    have hRP := (isMat_facts hPf.1 hPf.2).2.1
    obtain ⟨a1, c1, rfl, ht1⟩ := grid_tab2 hg hRP (by omega)
    by_cases hlt : j < k
    · have HX := hid (HMU.out a1 c1 P _ hb ht1 hPf.1)
      have HB := hid hb
      have HS := hid (show powO M n (j + 1) = mulO P M n by show (powO M n j).bind _ = _; rw [hP]; rfl)
      clear hP hg hb ht1 hPf hRP
      obtain ⟨O, hO⟩ : ∃ O, O = mulO P M n := ⟨_, rfl⟩
      rw [← hO] at HX HS
      clear hO
      go_wp2_with fail
      refine HX.out.mono ?_
      rintro e w2 ⟨v2, rfl, hg2, hb2⟩
      have HB2 := hid (HB.out.trans (hb2.mono HB.out.size))
      cases O with
      | none =>
        have HN := hid (HST.out (j + 1) HS.out hlt)
        clear hg2 hb2 HX
        go_wp2
        go_ret2
        exact ⟨_, by rw [HN.out]; rfl, (fun Q hQ => by rw [HN.out] at hQ; cases hQ), HB2.out⟩
      | some Q =>
        have HG2 := hid ((hg2 Q rfl).base HB.out.size)
        clear hg2 hb2 HX
        go_wp2
        go_roundw
        case rel => exact ⟨j + 1, Q, by omega, by go_num, rfl, HS.out, HG2.out, HB2.out⟩
        case measure => simp [intOf]; omega
    · obtain rfl : j = k := by omega
      have HG := hid hg
      have HB := hid hb
      clear hP hg hb ht1 hPf hRP
      go_wp2
      go_ret2
      exact ⟨_, by rw [HP.out]; rfl, (fun Q hQ => by rw [HP.out] at hQ; injection hQ with hQ; rw [← hQ]; exact HG.out), HB.out⟩
theorem trace_eq (P : List (List Int)) (n : Nat) : sumTo (fun i => at2 P i i) n = traceOf P n := rfl
set_option maxHeartbeats 2000000 in
theorem impl_ClosedPaths_c (a : Option Addr) (n c k : Nat) (M : List (List Int)) (w : World) (h : TabAt w a n M) (hM : isMat M = true) (h1 : 1 ≤ k) (hk : k ≤ 30) :
    Calls Tryz.prog 49 #[.slice a n c, .int .i64 k] w fun e w' => e = .returned (.int .i64 (closedOf M n k)) ∧ Below w.heap.size w w' := by
  have hf := isMat_facts hM (tab_len h).1
  have HP := hid (impl_PowerMatrix_c a n c k M w h hM hk)
  have HPS := hid (fun P => powO_some (M := M) (P := P) (n := n) hf.1.1 hf.1.2 k)
  have HCL := hid (show closedOf M n k = match powO M n k with | none => -1 | some P => traceOf P n from rfl)
  unfold MayI at HP
  have hn9 := hf.1.2
  have hk1 : ¬ ((k : Int) < 1) := by omega
  obtain ⟨O, hO⟩ : ∃ O, O = powO M n k := ⟨_, rfl⟩
  obtain ⟨r, hr⟩ : ∃ r, r = closedOf M n k := ⟨_, rfl⟩
  rw [← hO] at HP HPS HCL
  rw [← hr] at HCL
  rw [← hr]
  clear h hM hf hO hr
  go_enter Tryz.func49, Tryz.ntmps49
  go_wp2_with fail
  refine HP.out.mono ?_
  rintro e w1 ⟨v, rfl, hg, hb⟩
  cases O with
  | none =>
    go_wp2
    go_ret
    exact ⟨ret_int HCL.out.symm, hb⟩
  | some P =>
    have hPf := HPS.out P rfl
    have hfP := isMat_facts hPf.1 hPf.2
    obtain ⟨a1, c1, rfl, ht1⟩ := grid_tab2 (R := P) (hg P rfl) hfP.2.1 (by omega)
    have HT := hid (impl_trace_c a1 n c1 P w1 ht1 hfP.2.1 hn9 (fun i hi => by have := hfP.2.2 i i; omega))
    rw [trace_eq] at HT
    have HB := hid hb
    clear hg hb ht1 hPf hfP
    go_wp2_with fail
    refine HT.out.mono ?_
    rintro e w2 ⟨rfl, rfl⟩
    go_wp2
    go_ret
    exact ⟨ret_int HCL.out.symm, HB.out⟩
theorem closedOf_bd {M : List (List Int)} {n k : Nat} (h1 : 1 ≤ n) (h9 : n ≤ 9) : I64 (closedOf M n k) := by
  unfold closedOf
  cases h : powO M n k with
  | none => exact ⟨by show _ ≤ (-1 : Int); omega, by show (-1 : Int) ≤ _; omega⟩
  | some P =>
    have hP := powO_some h1 h9 k h
    have hf := isMat_facts hP.1 hP.2
    have := sumTo_bd (f := fun u => at2 P u u) (n := n) (B := 1000000) (fun u hu => by have := hf.2.2 u u; exact this) n (Nat.le_refl _)
    show I64 (sumTo (fun u => at2 P u u) n)
    exact ⟨by omega, by omega⟩
end Go.Proofs.YtpfeflhcbcgbfaaGreatDoor
namespace Go.Proofs.YtpfeflhcbcgbfaaGreatDoor
open Go.RowKit

theorem ba_ext {a b : ByteArray} (h : a.data.toList = b.data.toList) : a = b := ByteArray.ext (Array.toList_inj.1 h)
theorem ba_app (a b : ByteArray) : (a ++ b).data.toList = a.data.toList ++ b.data.toList := by rw [ByteArray.data_append, Array.toList_append]
theorem line_c (B g c n : Nat) (xs : List ByteArray) (w : World) (hn : xs.length = n) (hown : w.ownsRow B 9 1 (.slice (some ⟨g, 0, none⟩) n c) n (strVals xs)) (hlim : n ≤ 1000000000) (hlen : (Lib.join (xs.map dlj) [32]).length ≤ 1000000000) :
    Calls Tryz.prog 31 #[.slice (some ⟨g, 0, none⟩) n c] w fun e w' => e = .returned (.string (joinV xs ⟨#[32]⟩)) ∧ Below w.heap.size w w' := by
  go_enter Tryz.func31, Tryz.ntmps31
  go_wp2_with fail
  refine (implJoin_c B g c n xs ⟨#[32]⟩ _ hn hown hlim hlen).mono ?_
  rintro e w1 ⟨rfl, hb⟩
  go_wp2
  go_ret
  exact ⟨rfl, hb⟩
def cntL (f : Nat → Int) (lo j : Nat) : List Int := (List.range' lo j).map f
theorem cntL_len (f : Nat → Int) (lo j : Nat) : (cntL f lo j).length = j := by simp [cntL]
theorem cntL_succ (f : Nat → Int) (lo j : Nat) : intVals (cntL f lo (j + 1)) = intVals (cntL f lo j) ++ [.int .i64 (f (lo + j))] := by
  unfold cntL
  rw [List.range'_1_concat, List.map_append]
  simp [intVals]
theorem cntL_mem {f : Nat → Int} {lo j : Nat} {x : Int} (h : x ∈ cntL f lo j) : ∃ i, lo ≤ i ∧ i < lo + j ∧ x = f i := by
  unfold cntL at h
  obtain ⟨i, hi, rfl⟩ := List.mem_map.1 h
  rw [List.mem_range'_1] at hi
  exact ⟨i, hi.1, hi.2, rfl⟩
set_option maxHeartbeats 2000000 in
set_option maxRecDepth 100000 in
theorem counted_c (lo hi m : Nat) (F : FuncId) (cap : Value) (f : Nat → Int) (w : World) (hm : hi + 1 = lo + m) (hh : hi ≤ 1000)
    (hF : ∀ (i : Nat) (V : World), lo ≤ i → i < lo + m → Below w.heap.size w V → Calls Tryz.prog F #[.int .i64 i, cap] V fun e w' => e = .returned (.int .i64 (f i)) ∧ Below V.heap.size V w')
    (hE : ∀ x w, (callFunc F #[x, cap]).run Tryz.prog w = .ok (.enter F #[x, cap]) w) (hf : ∀ i, lo ≤ i → i < lo + m → I64 (f i)) (ht : TabW w) :
    Calls Tryz.prog 26 #[.int .i64 lo, .int .i64 hi, .func (.func F) #[] #[cap]] w fun e w' => e = .returned (.string (joinV ((cntL f lo m).map fmtB) ⟨#[44]⟩)) ∧ Below w.heap.size w w' := by
  have HF := hid hF
  have HNB := hid (fun (a : Option Addr) (c : Nat) (V : World) (hV : Below w.heap.size w V) (hr : RowAt V a m (intVals (cntL f lo m))) => impl_numbers_c a m c (cntL f lo m) ⟨#[44]⟩ V hr (fun x hx => by obtain ⟨i, h1, h2, rfl⟩ := cntL_mem hx; exact hf i h1 h2) rfl (by omega) (tab_below ht hV (Nat.le_refl _)))
  obtain ⟨jv, hjv⟩ : ∃ jv, jv = joinV ((cntL f lo m).map fmtB) ⟨#[44]⟩ := ⟨_, rfl⟩
  rw [← hjv] at HNB
  rw [← hjv]
  have HS := hid (fun j => cntL_succ f lo j)
  have hb0 : Below w.heap.size w (w.alloc (.cells #[] 3)) := (Below.refl _ _).alloc (Nat.le_refl _) _
  have HO0 := hid (owns_lit3 (w := w) (base := w.heap.size) (e := 3) #[] [] rfl (Nat.le_refl _) (by unfold maxLen; simp))
  clear hF hf ht hjv
  go_enter Tryz.func26, Tryz.ntmps26
  go_wp2
  go_loopw [7, 8] (fun v i wr => ∃ j g c : Nat, j ≤ m ∧ i = .int .i64 ((lo + j : Nat) : Int) ∧ v = .slice (some ⟨g, 0, none⟩) j c ∧ wr.ownsRow w.heap.size 3 1 (.slice (some ⟨g, 0, none⟩) j c) j (intVals (cntL f lo j)) ∧ Below w.heap.size w wr) (fun _ i _ => lo + m - (intOf i).toNat)
  case atStart => exact ⟨0, w.heap.size, 0, by omega, rfl, rfl, HO0.out, hb0⟩
  case round =>
    clear HO0 hb0
    obtain ⟨j, g, c, hj, rfl, rfl, hown, hbel⟩ := hrel
    have HG := hid (hown.lt g rfl)
    obtain ⟨q, hq⟩ : ∃ q, q = lo + j := ⟨_, rfl⟩
    by_cases hlt : j < m
    · have hqi : (q : Int) ≤ (hi : Int) := by omega
      have HFJ := hid (HF.out (lo + j) wr (by omega) (by omega) hbel)
      have HSJ := hid (HS.out j)
      have HO := hid hown
      rw [← hq] at HFJ HSJ
      rw [← hq]
      obtain ⟨y, hy⟩ : ∃ y, y = f q := ⟨_, rfl⟩
      rw [← hy] at HFJ HSJ
      have HQ := hid hq
      clear hown hy hq
      go_wp2_with fail
      refine HFJ.out.mono ?_
      rintro e w1 ⟨rfl, hb1⟩
      have hU := (owns_below HO.out hb1).alloc (.cells #[.int .i64 y] 3)
      have hbel1 := hbel.trans (hb1.mono hbel.size)
      go_wp2_with (first | (at_builtin; go_must (refine wpList_appN rfl _ _ 39 rfl w.heap.size 3 (.int .i64 0) 8 Tryz.underlying39 infoIntZ rfl g c j (intVals (cntL f lo j)) hU rfl w1.heap.size 0 1 1 [.int .i64 y] rfl rfl (by intro q u hq; match q, hq with | 0, hq => simp at hq; subst hq; simp) (by intro u hu; simp at hu; subst hu; rfl) (by omega) (by unfold maxLen; omega) (by have := hbel1.size; simp; omega) ?_); intro g2 c3 w2 hown2 hgr2 hb2 hlt2'))
      have hb3 : Below w.heap.size w w2 := (hbel1.alloc hbel1.size _).grown hgr2 (by have := hbel1.size; simp; omega) (by rintro k ⟨⟩; exact HG.out.1)
      go_roundw
      case rel => exact ⟨j + 1, g2, c3, by omega, by have := HQ.out; go_num, rfl, by rw [HSJ.out]; exact hown2, hb3⟩
      case measure => have := HQ.out; simp [intOf]; omega
    · obtain rfl : j = m := by omega
      have hqi : ¬ ((q : Int) ≤ (hi : Int)) := by omega
      rw [← hq]
      obtain ⟨ar, cr, he, hrr⟩ := owns_rowAt hown (by omega)
      simp only [Value.slice.injEq, true_and] at he
      obtain ⟨rfl, rfl⟩ := he
      have HR := hid hrr
      clear hown hrr hq
      go_wp2_with fail
      refine (HNB.out _ _ _ hbel HR.out).mono ?_
      rintro e w3 ⟨rfl, hb3⟩
      have hb4 := hbel.trans (hb3.mono hbel.size)
      go_wp2
      go_ret
      exact ⟨rfl, hb4⟩
end Go.Proofs.YtpfeflhcbcgbfaaGreatDoor
namespace Go.Proofs.YtpfeflhcbcgbfaaGreatDoor
open Go.RowKit
def groT (M : List (List Int)) (n d : Nat) : ByteArray := fmtB ((growV M n d : Nat) : Int) ++ ⟨#[47]⟩ ++ fmtB (d : Int)
set_option maxHeartbeats 2000000 in
set_option maxRecDepth 100000 in
theorem spec_GrowthText_c (a : Option Addr) (n c d : Nat) (M : List (List Int)) (w : World) (h : TabAt w a n M) (hS : isSm M = true) (hd : 1 ≤ d ∧ d ≤ 100) :
    Calls Tryz.prog 40 #[.slice a n c, .int .i64 d] w fun e w' => e = .returned (.string (groT M n d)) ∧ Below w.heap.size w w' := by
  have HFL := hid (spec_FloorOfGrowth_c a n c d M w h hS hd)
  have HGL := hid (growV_le M n d)
  have HT := hid (show groT M n d = fmtB ((growV M n d : Nat) : Int) ++ ⟨#[47]⟩ ++ fmtB (d : Int) from rfl)
  have HFM := hid (fun (x : Int) (h : 0 ≤ x ∧ x ≤ 1000000000000) (V : World) => spec_FormatInt_c x V (by omega) (by omega))
  obtain ⟨TX, hTX⟩ : ∃ TX, TX = groT M n d := ⟨_, rfl⟩
  rw [← hTX] at HT
  rw [← hTX]
  obtain ⟨g, hg⟩ : ∃ g, g = growV M n d := ⟨_, rfl⟩
  rw [← hg] at HFL HGL HT
  have hgl := HGL.out
  have hg0 : ¬ ((g : Int) < 0) := by omega
  have hz1 := fmtB_leM (x := (g : Int)) ⟨by omega, by omega⟩
  have hz2 := fmtB_leM (x := (d : Int)) ⟨by omega, by omega⟩
  obtain ⟨t1, ht1⟩ : ∃ t, t = fmtB (g : Int) := ⟨_, rfl⟩
  obtain ⟨t2, ht2⟩ : ∃ t, t = fmtB (d : Int) := ⟨_, rfl⟩
  have HF1 := hid (fun V => HFM.out (g : Int) (by omega) V)
  have HF2 := hid (fun V => HFM.out (d : Int) (by omega) V)
  rw [← ht1, ← ht2] at HT
  rw [← ht1] at hz1 HF1
  rw [← ht2] at hz2 HF2
  have hcat1 : ¬ (9223372036854775807 < t1.size + 1) := by omega
  have hcat2 : ¬ (9223372036854775807 < t1.size + 1 + t2.size) := by omega
  clear h hS hTX hg ht1 ht2 HFM HGL
  go_enter Tryz.func40, Tryz.ntmps40
  go_wp2_with fail
  refine HFL.out.mono ?_
  rintro e w1 ⟨rfl, hb1⟩
  have HB1 := hid hb1
  have HF1V := hid (HF1.out w1)
  clear hb1 HFL HF1
  go_wp2_with fail
  refine HF1V.out.mono ?_
  rintro e w2 ⟨rfl, hb2⟩
  have HB2 := hid (HB1.out.trans (hb2.mono HB1.out.size))
  have HF2V := hid (HF2.out w2)
  clear hb2 HF1V HF2
  go_wp2_with fail
  refine HF2V.out.mono ?_
  rintro e w3 ⟨rfl, hb3⟩
  have HB3 := hid (HB2.out.trans (hb3.mono HB2.out.size))
  clear hb3 HF2V
  go_wp2
  go_ret
  exact ⟨by rw [HT.out]; rfl, HB3.out⟩
set_option maxHeartbeats 2000000 in
set_option maxRecDepth 100000 in
theorem impl_GrowthText_c (a : Option Addr) (n c d : Nat) (M : List (List Int)) (w : World) (h : TabAt w a n M) (hS : isSm M = true) (hd : 1 ≤ d ∧ d ≤ 100) (ht : TabW w) :
    Calls Tryz.prog 50 #[.slice a n c, .int .i64 d] w fun e w' => e = .returned (.string (groT M n d)) ∧ Below w.heap.size w w' := by
  have HFL := hid (impl_FloorOfGrowth_c a n c d M w h hS hd)
  have HGL := hid (growV_le M n d)
  have HT := hid (show groT M n d = fmtB ((growV M n d : Nat) : Int) ++ ⟨#[47]⟩ ++ fmtB (d : Int) from rfl)
  have HFM := hid (fun (x : Int) (h : 0 ≤ x ∧ x ≤ 1000000000000) (V : World) (hV : Below w.heap.size w V) => impl_FormatInt_c x V ⟨by omega, by omega⟩ (tab_below ht hV (Nat.le_refl _)))
  obtain ⟨TX, hTX⟩ : ∃ TX, TX = groT M n d := ⟨_, rfl⟩
  rw [← hTX] at HT
  rw [← hTX]
  obtain ⟨g, hg⟩ : ∃ g, g = growV M n d := ⟨_, rfl⟩
  rw [← hg] at HFL HGL HT
  have hgl := HGL.out
  have hg0 : ¬ ((g : Int) < 0) := by omega
  have hz1 := fmtB_leM (x := (g : Int)) ⟨by omega, by omega⟩
  have hz2 := fmtB_leM (x := (d : Int)) ⟨by omega, by omega⟩
  obtain ⟨t1, ht1⟩ : ∃ t, t = fmtB (g : Int) := ⟨_, rfl⟩
  obtain ⟨t2, ht2⟩ : ∃ t, t = fmtB (d : Int) := ⟨_, rfl⟩
  have HF1 := hid (fun V hV => HFM.out (g : Int) (by omega) V hV)
  have HF2 := hid (fun V hV => HFM.out (d : Int) (by omega) V hV)
  rw [← ht1, ← ht2] at HT
  rw [← ht1] at hz1 HF1
  rw [← ht2] at hz2 HF2
  have hcat1 : ¬ (9223372036854775807 < t1.size + 1) := by omega
  have hcat2 : ¬ (9223372036854775807 < t1.size + 1 + t2.size) := by omega
  clear h hS hTX hg ht1 ht2 HFM HGL ht
  go_enter Tryz.func50, Tryz.ntmps50
  go_wp2_with fail
  refine HFL.out.mono ?_
  rintro e w1 ⟨rfl, hb1⟩
  have HB1 := hid hb1
  have HF1V := hid (HF1.out w1 HB1.out)
  clear hb1 HFL HF1
  go_wp2_with fail
  refine HF1V.out.mono ?_
  rintro e w2 ⟨rfl, hb2⟩
  have HB2 := hid (HB1.out.trans (hb2.mono HB1.out.size))
  have HF2V := hid (HF2.out w2 HB2.out)
  clear hb2 HF1V HF2
  go_wp2_with fail
  refine HF2V.out.mono ?_
  rintro e w3 ⟨rfl, hb3⟩
  have HB3 := hid (HB2.out.trans (hb3.mono HB2.out.size))
  clear hb3 HF2V
  go_wp2
  go_ret
  exact ⟨by rw [HT.out]; rfl, HB3.out⟩
end Go.Proofs.YtpfeflhcbcgbfaaGreatDoor
namespace Go.Proofs.YtpfeflhcbcgbfaaGreatDoor
open Go.RowKit
def clI (M : List (List Int)) (n k : Nat) : Int := closedOf M n k
def polT (M : List (List Int)) (n : Nat) : ByteArray := joinV ((turnP M n).map fmtB) ⟨#[44]⟩
def linT (M : List (List Int)) (n : Nat) : ByteArray := joinV (lnL M n) ⟨#[32]⟩
def cloT (M : List (List Int)) (n : Nat) : ByteArray := joinV ((cntL (clI M n) 1 5).map fmtB) ⟨#[44]⟩
def z_growth : ByteArray := ⟨#[103, 114, 111, 119, 116, 104]⟩
def z_period : ByteArray := ⟨#[112, 101, 114, 105, 111, 100]⟩
def z_comp : ByteArray := ⟨#[99, 111, 109, 112, 111, 110, 101, 110, 116, 115]⟩
def z_poly : ByteArray := ⟨#[112, 111, 108, 121]⟩
def z_group : ByteArray := ⟨#[103, 114, 111, 117, 112]⟩
def z_closed : ByteArray := ⟨#[99, 108, 111, 115, 101, 100]⟩
def dmxL (a b c d e f : ByteArray) : List ByteArray := [z_growth, a, z_period, b, z_comp, c, z_poly, d, z_group, e, z_closed, f]
def dmxJ (a b c d e f : ByteArray) : ByteArray := joinV (dmxL a b c d e f) ⟨#[32]⟩
theorem dmxJ_eq (a b c d e f : ByteArray) : dmxJ a b c d e f = ⟨#[103, 114, 111, 119, 116, 104, 32]⟩ ++ a ++ ⟨#[32, 112, 101, 114, 105, 111, 100, 32]⟩ ++ b ++ ⟨#[32, 99, 111, 109, 112, 111, 110, 101, 110, 116, 115, 32]⟩ ++ c ++ ⟨#[32, 112, 111, 108, 121, 32]⟩ ++ d ++ ⟨#[32, 103, 114, 111, 117, 112, 32]⟩ ++ e ++ ⟨#[32, 99, 108, 111, 115, 101, 100, 32]⟩ ++ f := by
  apply ba_ext
  simp [dmxJ, dmxL, joinV, Lib.join, dlj, ba_app, z_growth, z_period, z_comp, z_poly, z_group, z_closed]
theorem joinV_sizeM (xs : List ByteArray) (sep : ByteArray) : (joinV xs sep).size = (Lib.join (xs.map dlj) sep.data.toList).length := by simp [joinV, ByteArray.size]
theorem groT_size {M : List (List Int)} {n : Nat} : (groT M n 100).size ≤ 100 := by
  have h1 := growV_le M n 100
  have h2 := fmtB_leM (x := ((growV M n 100 : Nat) : Int)) ⟨by omega, by omega⟩
  have h3 := fmtB_leM (x := ((100 : Nat) : Int)) ⟨by omega, by omega⟩
  unfold groT
  rw [ByteArray.size_append, ByteArray.size_append]
  show _ + 1 + _ ≤ 100
  omega
theorem polT_size {M : List (List Int)} {n : Nat} (hn : n ≤ 4) (hi : ∀ x ∈ turnP M n, I64 x) : (polT M n).size ≤ 200 := by
  unfold polT
  rw [joinV_sizeM]
  have := nums_join hi (sep := ⟨#[44]⟩) rfl
  have h2 := cutN_le (polL M n (n + 1)) (n + 1)
  rw [turnP_len] at this
  omega
theorem cloT_size {M : List (List Int)} {n : Nat} (h1 : 1 ≤ n) (h9 : n ≤ 9) : (cloT M n).size ≤ 200 := by
  unfold cloT
  rw [joinV_sizeM]
  have := nums_join (xs := cntL (clI M n) 1 5) (fun x hx => by obtain ⟨i, h1, h2, rfl⟩ := cntL_mem hx; exact closedOf_bd (by assumption) h9) (sep := ⟨#[44]⟩) rfl
  rw [cntL_len] at this
  omega
theorem grT_size {xs : List Int} (h : ∀ x ∈ xs, 0 ≤ x ∧ x ≤ 1000000000000) (hn : xs.length ≤ 9) : (grT xs).size ≤ 300 := by
  unfold grT grJ
  split
  · show 1 ≤ 300
    omega
  · rw [joinV_sizeM]
    have h1 := join_le ((grWs xs xs.length).map dlj) (⟨#[43]⟩ : ByteArray).data.toList
    have h2 := lens_le (grWs xs xs.length) (grWs_size h xs.length)
    have h3 := grWs_len xs xs.length
    rw [List.length_map] at h1
    have h4 : (⟨#[43]⟩ : ByteArray).data.toList.length = 1 := rfl
    rw [h4] at h1
    omega
theorem sigT_size (k : Nat) : (sigT k).size ≤ 5 := by
  unfold sigT
  split
  · decide
  · split <;> decide
theorem lnL_join {M : List (List Int)} {n : Nat} (hn : n ≤ 4) (hM : ∀ i j, i < n → j < n → 0 ≤ at2 M i j ∧ at2 M i j ≤ 9) : (Lib.join ((lnL M n).map dlj) (⟨#[32]⟩ : ByteArray).data.toList).length ≤ 700 := by
  have h1 := join_le ((lnL M n).map dlj) (⟨#[32]⟩ : ByteArray).data.toList
  have h5 := grT_size (grpL_mem hn hM) (by have := grpL_le M n; omega)
  have h6 := sigT_size (sigN (detZ M n))
  have h2 := lens_le (b := 300) (lnL M n) (fun s hs => by
    unfold lnL at hs
    rcases List.mem_cons.1 hs with h | h
    · rw [h]; exact h5
    · rw [List.mem_singleton.1 h]; omega)
  rw [List.length_map] at h1
  have h4 : (⟨#[32]⟩ : ByteArray).data.toList.length = 1 := rfl
  have h7 : (lnL M n).length = 2 := rfl
  rw [h4, h7] at h1
  rw [h7] at h2
  omega
theorem linT_size {M : List (List Int)} {n : Nat} (hn : n ≤ 4) (hM : ∀ i j, i < n → j < n → 0 ≤ at2 M i j ∧ at2 M i j ≤ 9) : (linT M n).size ≤ 700 := by
  unfold linT
  rw [joinV_sizeM]
  exact lnL_join hn hM
theorem numsT_cntM (f : Nat → Int) (lo m : Nat) (hm : 0 < m) : numsT (cntL f lo m) = joinV ((cntL f lo m).map fmtB) ⟨#[44]⟩ := by
  unfold numsT
  rw [cntL_len, if_neg (by omega)]
theorem numsT_pol (M : List (List Int)) {n : Nat} (hn : n ≤ 4) : numsT (turnP M n) = polT M n := by
  have := turnP_pos M hn
  unfold numsT polT
  rw [if_neg (by omega)]
/-- The text of a report of a matrix. -/
def dmxT (M : List (List Int)) (n : Nat) : ByteArray := dmxJ (groT M n 100) (fmtB ((periodOf M : Nat) : Int)) (fmtB ((cmpN (reachOf M n) n : Nat) : Int)) (polT M n) (linT M n) (cloT M n)
theorem periodOf_le (M : List (List Int)) {n : Nat} (h : M.length = n) : periodOf M ≤ 2 * n := by
  unfold periodOf
  split
  · have := perAt_le M M.length (2 * M.length)
    omega
  · omega
end Go.Proofs.YtpfeflhcbcgbfaaGreatDoor
