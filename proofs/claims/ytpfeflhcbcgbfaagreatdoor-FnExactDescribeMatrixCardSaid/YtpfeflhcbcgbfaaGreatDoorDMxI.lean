/- A report of a matrix, the program's function. Conditions: a small matrix in memory; the laid table of powers of ten. -/
import Derived.Test.YtpfeflhcbcgbfaaGreatDoorPolI
import Derived.Test.YtpfeflhcbcgbfaaGreatDoorSmal
import Derived.Test.YtpfeflhcbcgbfaaGreatDoorLaw
import Derived.Test.YtpfeflhcbcgbfaaGreatDoorDMxP
import Derived.Test.YtpfeflhcbcgbfaaGreatDoorCmpI
namespace Go.Proofs.YtpfeflhcbcgbfaaGreatDoor
open Go.RowKit
set_option maxHeartbeats 4000000 in
set_option maxRecDepth 100000 in
theorem impl_trimmed_c (a : Option Addr) (n c : Nat) (xs : List Int) (w : World) (h : RowAt w a n (intVals xs)) (hn : 1 ≤ n ∧ n ≤ 9) (hcn : n ≤ c) (h0 : at0 xs 0 ≠ 0) :
    Calls Tryz.prog 105 #[.slice a n c] w fun e w' => ∃ a' c', e = .returned (.slice a' (cutN xs n) c') ∧ RowAt w' a' (cutN xs n) (intVals (xs.take (cutN xs n))) ∧ Below w.heap.size w w' := by
  have hxl : xs.length = n := by have := h.len; rw [show (intVals xs).length = xs.length by simp [intVals]] at this; exact this
  have HYES := hid (fun (q : Nat) (h : at0 xs q = 0) => cutN_yes (p := xs) h)
  have HNO := hid (fun (q : Nat) (h : ¬ at0 xs q = 0) => cutN_no (p := xs) h)
  have HZ := hid (show cutN xs 0 = 0 from rfl)
  have hle := cutN_le xs n
  have hpos : 1 ≤ cutN xs n := by
    obtain ⟨q, rfl⟩ : ∃ q, n = q + 1 := ⟨n - 1, by omega⟩
    exact cutN_pos h0 q
  obtain ⟨b, off, rfl, hb, hc⟩ := h.at_ hn.1
  have HC := hid (fun (q : Nat) (hq : q < n) => hc q (.int .i64 (at0 xs q)) (intVals_get (at0_some (by omega))))
  have HTAKE := hid (fun (m : Nat) (hm : m ≤ n) => show RowAt w (some ⟨b, off, none⟩) m (intVals (xs.take m)) from ⟨by simp [intVals]; omega, by omega, fun h1 => ⟨b, off, rfl, hb, fun q v hq => hc q v (by
    rw [intVals_take] at hq
    rw [List.getElem?_take] at hq
    split at hq
    · exact hq
    · cases hq)⟩⟩)
  obtain ⟨m, hm⟩ : ∃ m, m = cutN xs n := ⟨_, rfl⟩
  have HM := hid hm.symm
  rw [← hm] at hle hpos
  rw [← hm]
  clear hm hc h h0
  go_enter Tryz.func105, Tryz.ntmps105
  go_wp2
  go_loopw [3] (fun v wr => ∃ (p : Nat), p ≤ n ∧ v = .int .i64 p ∧ Hid (cutN xs p = m) ∧ wr = w) (fun v _ => (intOf v).toNat)
  case atStart => exact ⟨n, by omega, rfl, HM, rfl⟩
  case round =>
    obtain ⟨p, hp, rfl, HP, rfl⟩ := hrel
    by_cases hp0 : 0 < p
    · obtain ⟨q, hq⟩ : ∃ q, q = p - 1 := ⟨_, rfl⟩
      have hpq : (p : Int) - 1 = (q : Int) := by omega
      have hpp : p = q + 1 := by omega
      have hwq : IntKind.i64.wrap ((p : Int) - 1) = (q : Int) := by rw [hpq]; exact IntWalk.i64_in _ (by omega)
      have hcell := HC.out q (by omega)
      have HY := hid (HYES.out q)
      have HN := hid (HNO.out q)
      rw [← hpp] at HY HN
      have hp1 : (0 : Int) < (p : Int) := by omega
      have hqn : q < n := by omega
      have hqp : q < p := by omega
      obtain ⟨x, hx⟩ : ∃ x, x = at0 xs q := ⟨_, rfl⟩
      rw [← hx] at hcell HY HN
      have HPQ := hid hpp
      clear hx hq hpp
      by_cases hx0 : x = 0
      · have HE := hid (HY.out hx0)
        subst hx0
        clear HN HY
        go_wp2
        go_roundw
        case rel => exact ⟨q, by omega, by go_num, hid (by rw [← HE.out]; exact HP.out), trivial⟩
        case measure => simp [intOf]; omega
      · have HE := hid (HN.out hx0)
        have hxb : (x == 0) = false := by simp [hx0]
        have hpm : p = m := by rw [← HP.out, HE.out]
        clear HN HY
        subst hpm
        have HCM := hid (HTAKE.out p (by omega))
        clear HPQ
        go_wp2
        go_ret
        exact ⟨_, _, rfl, HCM.out, Below.refl _ _⟩
    · exfalso
      have : p = 0 := by omega
      subst this
      have := HP.out
      rw [HZ.out] at this
      omega
set_option maxHeartbeats 4000000 in
set_option maxRecDepth 100000 in
theorem impl_TurnedPoly_c (a : Option Addr) (n c : Nat) (M : List (List Int)) (w : World) (h : TabAt w a n M) (hS : isSm M = true) :
    Calls Tryz.prog 54 #[.slice a n c] w fun e w' => ∃ a' c', e = .returned (.slice a' (turnP M n).length c') ∧ RowAt w' a' (turnP M n).length (intVals (turnP M n)) ∧ Below w.heap.size w w' := by
  obtain ⟨_, hn, hR, hM⟩ := isSm_facts hS (tab_len h).1
  have hb9 := bd9 hR hM
  have HIS := hid (impl_IsSmall_c a n c M w h)
  rw [hS] at HIS
  have HCP := hid (impl_charPoly_c a n c M w h hR hn.2 hb9)
  have HCU := hid (fun (g cg : Nat) (V : World) (hg : RowAt V (some ⟨g, 0, none⟩) (n + 1) (intVals (polL M n (n + 1)))) (hcg : n + 1 ≤ cg) => (impl_trimmed_c (some ⟨g, 0, none⟩) (n + 1) cg (polL M n (n + 1)) V hg (by omega) hcg (by
    have := at0_get (polL_get (M := M) (n := n) (K := n + 1) (k := 0) (by omega))
    rw [this, polN_zero M hn.2]
    decide)).mono (R' := fun e w' => ∃ a' c', e = .returned (.slice a' (turnP M n).length c') ∧ RowAt w' a' (turnP M n).length (intVals (turnP M n)) ∧ Below V.heap.size V w') (by rw [turnP_len]; rintro e w' ⟨a', c', h1, h2, h3⟩; exact ⟨a', c', h1, h2, h3⟩))
  have HSUC := hid (fun K => show intVals (polL M n (K + 1)) = intVals (polL M n K) ++ [.int .i64 (polN M n K)] from by rw [polL_succ]; simp [intVals])
  have HLEN := hid (fun K => polL_len M n K)
  obtain ⟨F, hF⟩ : ∃ F, F = polN M n := ⟨_, rfl⟩
  rw [← hF] at HCP HSUC
  have HMB := hid (fun (j : Nat) (hj : j ≤ n) => intVals_get (mkB_end F hj))
  have hwn : IntKind.i64.wrap ((n + 1 : Nat) : Int) = ((n + 1 : Nat) : Int) := IntWalk.i64_in _ (by omega)
  clear h hS hR hM hb9 hF
  go_enter Tryz.func54, Tryz.ntmps54
  go_wp2_with fail
  refine HIS.out.mono ?_
  rintro e w' ⟨rfl, rfl⟩
  obtain ⟨N, hN⟩ : ∃ N, N = n + 1 := ⟨_, rfl⟩
  have hN9 : N ≤ 9 := by omega
  have HNE := hid hN
  have hwn1 : IntKind.i64.wrap ((N : Int) - 1) = (n : Int) := by rw [IntWalk.i64_in _ (by omega)]; omega
  have hNn1 : (N : Int) - 1 = (n : Int) := by omega
  rw [← hN] at HCP HCU HMB
  clear hN hwn
  go_wp2_with (go_at_call 104; refine HCP.out.mono ?_; rintro e w1 ⟨g, rfl, hrg, hb1⟩)
  have HRG := hid hrg
  have hsz1 := hb1.size
  have HRI := hid (show (w1.alloc (.cells #[] 3)).ownsRow w1.heap.size 3 1 (.slice (some ⟨w1.heap.size, 0, none⟩) 0 0) 0 (intVals (polL M n 0)) from owns_lit3 (w := w1) (base := w1.heap.size) (e := 3) #[] [] rfl (Nat.le_refl _) (by unfold maxLen; simp))
  have HB0 := hid (show Below w1.heap.size w1 (w1.alloc (.cells #[] 3)) from (Below.refl _ _).alloc (Nat.le_refl _) _)
  have HB1 := hid hb1
  clear hrg hb1 HCP HIS
  try rw [hNn1]
  go_loopw [4, 5] (fun v i wr => ∃ (k gj cj : Nat) (e : Int), k ≤ N ∧ Hid (e = (n : Int) - (k : Int)) ∧ i = .int .i64 e ∧ v = .slice (some ⟨gj, 0, none⟩) k cj ∧ Hid (wr.ownsRow w1.heap.size 3 1 (.slice (some ⟨gj, 0, none⟩) k cj) k (intVals (polL M n k))) ∧ Hid (Below w1.heap.size w1 wr)) (fun _ i _ => (intOf i + 1).toNat)
  case atStart => exact ⟨0, w1.heap.size, 0, (n : Int), by omega, hid (by simp), rfl, rfl, HRI, HB0⟩
  case round =>
    clear HRI HB0
    obtain ⟨k, gj, cj, e, hk, HE, rfl, rfl, HRI, HBL⟩ := hrel
    have HNN := HNE
    by_cases hlt : k < N
    · obtain ⟨q, hq⟩ : ∃ q, q = n - k := ⟨_, rfl⟩
      have hkn : k ≤ n := by have := HNE.out; omega
      have heq : e = (q : Int) := by rw [HE.out]; omega
      have hqN : q < N := by omega
      have HQE := hid (show (q : Int) - 1 = (n : Int) - ((k + 1 : Nat) : Int) by omega)
      subst heq
      have hwq : IntKind.i64.wrap ((q : Int) - 1) = (q : Int) - 1 := IntWalk.i64_in _ (by omega)
      have hq0 : (0 : Int) ≤ (q : Int) := by omega
      have hqNi : (q : Int) < (N : Int) := by omega
      have hcell0 := HMB.out k hkn
      rw [← hq] at hcell0
      obtain ⟨b, off, hbe, hbw, hcc⟩ := HRG.out.at_ (by omega)
      simp only [Option.some.injEq, Addr.mk.injEq] at hbe
      obtain ⟨rfl, rfl, -⟩ := hbe
      have hcell := (HBL.out.cell (p := ⟨g, 0 + q, none⟩) hbw).trans (hcc q _ hcell0)
      rw [Nat.zero_add] at hcell
      have HSK := hid (HSUC.out k)
      obtain ⟨d, hd⟩ : ∃ d, d = F k := ⟨_, rfl⟩
      rw [← hd] at HSK hcell
      have hgl := (HRI.out.lt gj rfl).1
      have hsz := HBL.out.size
      clear hd hcell0 hcc hbw hq hkn
      go_wp2_with (first | (at_builtin; go_must (refine wpList_appN rfl _ _ 39 rfl w1.heap.size 3 (.int .i64 0) 8 Tryz.underlying39 infoIntZ rfl gj cj k (intVals (polL M n k)) (HRI.out.alloc _) rfl wr.heap.size 0 1 1 [.int .i64 d] rfl rfl (lit_cellsP rfl) (by intro u hu; simp at hu; subst hu; rfl) (by omega) (by unfold maxLen; omega) (by simp; omega) ?_); intro g3 c3 w4 hown3 hgr3 hor3 hlt3))
      have HO3 := hid hown3
      have HB3 := hid ((HBL.out.alloc (by omega) (.cells #[.int .i64 d] 3)).grown hgr3 (by simp; omega) (by rintro k ⟨⟩; exact hgl))
      clear hown3 hgr3 hcell
      go_roundw
      case rel => exact ⟨k + 1, g3, c3, (q : Int) - 1, by omega, HQE, by go_num, rfl, hid (by rw [HSK.out]; exact HO3.out), HB3⟩
      case measure => simp [intOf]
    · have hkK : k = N := by omega
      have heneg : e < 0 := by rw [HE.out]; have := HNE.out; omega
      have hen : ¬ (0 ≤ e) := by omega
      subst hkK
      obtain ⟨ar, cr, hev, hcap, hrow⟩ := owns_cap HRI.out (by omega)
      simp only [Value.slice.injEq] at hev
      obtain ⟨rfl, -, rfl⟩ := hev
      have hrow2 := hrow
      rw [HNE.out] at hrow2 hcap
      have HCQ := hid (HCU.out gj cj wr (by rw [HNE.out] at hrow ⊢; exact hrow) (by rw [HNE.out]; exact hcap))
      clear HCU hrow hrow2 hcap
      go_wp2_with (go_at_call 105; refine HCQ.out.mono ?_; rintro e w3 ⟨a', c', rfl, hr3, hb3⟩)
      go_ret
      exact ⟨a', c', rfl, hr3, HB1.out.trans ((HBL.out.trans (hb3.mono HBL.out.size)).mono hsz1)⟩
end Go.Proofs.YtpfeflhcbcgbfaaGreatDoor
namespace Go.Proofs.YtpfeflhcbcgbfaaGreatDoor
open Go.RowKit

/-- A box of the call's own, with its cells. -/
structure BoxC (w : World) (b : Nat) (A : Array Value) : Prop where
  lt : b < w.heap.size
  cell : ∀ k, w.cell? ⟨b, k, none⟩ = A[k]?
  froz : ∀ k, w.frozen? ⟨b, k, none⟩ = false
theorem BoxC.new (w : World) (A : Array Value) (T : TypeId) : BoxC (w.alloc (.cells A T)) w.heap.size A :=
  ⟨by simp, fun k => World.cell?_alloc_at _ _ _ _ rfl, fun k => World.frozen?_alloc_at _ _ _ _ rfl⟩
theorem BoxC.below {w w' : World} {b : Nat} {A : Array Value} (h : BoxC w b A) (hb : Below w.heap.size w w') : BoxC w' b A :=
  ⟨Nat.lt_of_lt_of_le h.lt hb.size, fun k => (hb.cell (p := ⟨b, k, none⟩) h.lt).trans (h.cell k), fun k => (hb.frozen (p := ⟨b, k, none⟩) h.lt).trans (h.froz k)⟩
theorem BoxC.grown {w w' : World} {b g : Nat} {A : Array Value} (h : BoxC w b A) (hg : w.grownBy w' (some g)) (hne : b ≠ g) : BoxC w' b A :=
  ⟨Nat.lt_of_lt_of_le h.lt hg.size, fun k => (World.cell?_of_block (a := ⟨b, k, none⟩) (hg.block b h.lt (by simpa using hne))).trans (h.cell k), fun k => (World.frozen?_of_block (a := ⟨b, k, none⟩) (hg.block b h.lt (by simpa using hne))).trans (h.froz k)⟩
theorem BoxC.other {w : World} {b q i : Nat} {A : Array Value} (h : BoxC w b A) (hne : q ≠ b) (v : Value) : BoxC (w.setCell ⟨q, i, none⟩ v) b A :=
  ⟨by simpa using h.lt, fun k => (World.cell?_setCell_other _ _ _ _ (fun e => hne (by injection e))).trans (h.cell k), fun k => (World.frozen?_setCell _ _ _ _).trans (h.froz k)⟩
theorem BoxC.alloc {w : World} {b : Nat} {A : Array Value} (h : BoxC w b A) (o : Obj) : BoxC (w.alloc o) b A := h.below ((Below.refl _ _).alloc (Nat.le_refl _) _)
theorem BoxC.c3 {w : World} {b : Nat} {x y z : Value} (h : BoxC w b #[x, y, z]) : (w.cell? ⟨b, 0, none⟩ = some x ∧ w.cell? ⟨b, 1, none⟩ = some y ∧ w.cell? ⟨b, 2, none⟩ = some z) ∧ (w.frozen? ⟨b, 0, none⟩ = false ∧ w.frozen? ⟨b, 1, none⟩ = false ∧ w.frozen? ⟨b, 2, none⟩ = false) :=
  ⟨⟨h.cell 0, h.cell 1, h.cell 2⟩, h.froz 0, h.froz 1, h.froz 2⟩
theorem BoxC.set {w : World} {b i : Nat} {A A' : Array Value} (h : BoxC w b A) (v : Value) (hi : i < A.size) (hA : ∀ k, A'[k]? = if k = i then some v else A[k]?) : BoxC (w.setCell ⟨b, i, none⟩ v) b A' := by
  refine ⟨by simpa using h.lt, fun k => ?_, fun k => (World.frozen?_setCell _ _ _ _).trans (h.froz k)⟩
  rw [hA k]
  by_cases hk : k = i
  · subst hk
    rw [if_pos rfl]
    exact World.cell?_setCell_same _ _ _ ((h.cell k).trans (Array.getElem?_eq_getElem hi))
  · rw [if_neg hk]
    exact (World.cell?_setCell_other _ _ _ _ (fun e => hk (by injection e with _ e2; exact e2.symm))).trans (h.cell k)
theorem boxD {w wr : World} {A : Array Value} {T : TypeId} (h : Below (w.alloc (.cells A T)).heap.size (w.alloc (.cells A T)) wr) :
    (∀ k, wr.cell? ⟨w.heap.size, k, none⟩ = A[k]?) ∧ (∀ k, wr.frozen? ⟨w.heap.size, k, none⟩ = false) ∧ w.heap.size < wr.heap.size ∧ Below w.heap.size w wr :=
  let h1 := (BoxC.new w A T).below h
  ⟨h1.cell, h1.froz, h1.lt, ((Below.refl _ _).alloc (Nat.le_refl _) _).trans (h.mono (by simp))⟩
theorem BoxC.at_ {w w' : World} {b B : Nat} {A : Array Value} (h : BoxC w b A) (hb : Below B w w') (hB : b < B) : BoxC w' b A :=
  ⟨Nat.lt_of_lt_of_le h.lt hb.size, fun k => (hb.cell (p := ⟨b, k, none⟩) hB).trans (h.cell k), fun k => (hb.frozen (p := ⟨b, k, none⟩) hB).trans (h.froz k)⟩
theorem BoxC.keep {w w' : World} {b : Nat} {row : Option Nat} {A : Array Value} (h : BoxC w b A) (hg : w.grownBy w' row) (hne : row ≠ some b) : BoxC w' b A :=
  ⟨Nat.lt_of_lt_of_le h.lt hg.size, fun k => (World.cell?_of_block (a := ⟨b, k, none⟩) (hg.block b h.lt (fun e => hne e.symm))).trans (h.cell k), fun k => (World.frozen?_of_block (a := ⟨b, k, none⟩) (hg.block b h.lt (fun e => hne e.symm))).trans (h.froz k)⟩
theorem BoxC.set0 {w : World} {b : Nat} {x y z : Value} (h : BoxC w b #[x, y, z]) (v : Value) : BoxC (w.setCell ⟨b, 0, none⟩ v) b #[v, y, z] :=
  h.set v (by simp) fun k => match k with | 0 => rfl | 1 => rfl | 2 => rfl | k + 3 => by simp
theorem BoxC.set1 {w : World} {b : Nat} {x y z : Value} (h : BoxC w b #[x, y, z]) (v : Value) : BoxC (w.setCell ⟨b, 1, none⟩ v) b #[x, v, z] :=
  h.set v (by simp) fun k => match k with | 0 => rfl | 1 => rfl | 2 => rfl | k + 3 => by simp
theorem BoxC.set2 {w : World} {b : Nat} {x y z : Value} (h : BoxC w b #[x, y, z]) (v : Value) : BoxC (w.setCell ⟨b, 2, none⟩ v) b #[x, y, v] :=
  h.set v (by simp) fun k => match k with | 0 => rfl | 1 => rfl | 2 => rfl | k + 3 => by simp
end Go.Proofs.YtpfeflhcbcgbfaaGreatDoor
namespace Go.Proofs.YtpfeflhcbcgbfaaGreatDoor
open Go.RowKit
set_option maxHeartbeats 2000000 in
theorem descm1_c (a : Option Addr) (n c k b : Nat) (M : List (List Int)) (w : World) (h : TabAt w a n M) (hM : isMat M = true) (hbx : w.cell? ⟨b, 0, none⟩ = some (.slice a n c)) (hk : 1 ≤ k ∧ k ≤ 5) :
    Calls Tryz.prog 48 #[.int .i64 k, .pointer (some ⟨b, 0, none⟩)] w fun e w' => e = .returned (.int .i64 (clI M n k)) ∧ Below w.heap.size w w' := by
  have HC := hid (show Calls Tryz.prog 49 #[.slice a n c, .int .i64 k] w fun e w' => e = .returned (.int .i64 (clI M n k)) ∧ Below w.heap.size w w' from impl_ClosedPaths_c a n c k M w h hM hk.1 (by omega))
  obtain ⟨y, hy⟩ : ∃ y, y = clI M n k := ⟨_, rfl⟩
  rw [← hy] at HC
  rw [← hy]
  clear h hM hy
  go_enter Tryz.func48, Tryz.ntmps48
  go_wp2_with fail
  refine HC.out.mono ?_
  rintro e w1 ⟨rfl, hb⟩
  go_wp2
  go_ret
  exact ⟨rfl, hb⟩
set_option maxHeartbeats 8000000 in
set_option maxRecDepth 100000 in
theorem impl_DescribeMatrix_yes (a : Option Addr) (n c : Nat) (M : List (List Int)) (w : World) (h : TabAt w a n M) (hS : isSm M = true) (ht : TabW w) :
    Calls Tryz.prog 13 #[.slice a n c] w fun e w' => e = .returned (.string (dmxT M n)) ∧ Below w.heap.size w w' := by
  obtain ⟨hMat, hn, hR, hM⟩ := isSm_facts hS (tab_len h).1
  have hb9 := bd9 hR hM
  obtain ⟨W2, hW2⟩ : ∃ W2, W2 = w.alloc (.cells #[.slice a n c] 31) := ⟨_, rfl⟩
  have hB : Below w.heap.size w W2 := by rw [hW2]; exact (Below.refl _ _).alloc (Nat.le_refl _) _
  have hsz : W2.heap.size = w.heap.size + 1 := by rw [hW2]; simp
  have hbx : BoxC W2 w.heap.size #[.slice a n c] := by rw [hW2]; exact BoxC.new _ _ _
  have HBX := hid (fun (V : World) (hV : Below W2.heap.size W2 V) => show V.cell? ⟨w.heap.size, 0, none⟩ = some (.slice a n c) ∧ Below w.heap.size w V from ⟨(hbx.below hV).cell 0, hB.trans (hV.mono (by omega))⟩)
  have HTV := fun (V : World) (hV : Below W2.heap.size W2 V) => h.below (hB.trans (hV.mono (by omega))) (Nat.le_refl _)
  have HTW := fun (V : World) (hV : Below W2.heap.size W2 V) => tab_below ht (hB.trans (hV.mono (by omega))) (Nat.le_refl _)
  have HIS := hid (impl_IsSmall_c a n c M W2 (HTV W2 (Below.refl _ _)))
  rw [hS] at HIS
  have HCO := hid (counted_c 1 5 5 48 (.pointer (some ⟨w.heap.size, 0, none⟩)) (clI M n) W2 rfl (by omega)
    (fun i V h1 h2 hV => descm1_c a n c i w.heap.size M V (HTV V hV) hMat (HBX.out V hV).1 (by omega))
    (fun x w => Tryz.call48 _ w) (fun i h1 h2 => closedOf_bd hn.1 (by omega)) (HTW W2 (Below.refl _ _)))
  rw [show joinV ((cntL (clI M n) 1 5).map fmtB) ⟨#[44]⟩ = cloT M n from rfl] at HCO
  have HGR := hid (fun (V : World) (hV : Below W2.heap.size W2 V) => show Calls Tryz.prog 50 #[.slice a n c, .int .i64 100] V fun e w' => e = .returned (.string (groT M n 100)) ∧ Below V.heap.size V w' from impl_GrowthText_c a n c 100 M V (HTV V hV) hS (by omega) (HTW V hV))
  have HPO := hid (fun (V : World) (hV : Below W2.heap.size W2 V) => impl_PeriodOf_c a n c M V (HTV V hV))
  have HCM := hid (fun (V : World) (hV : Below W2.heap.size W2 V) => impl_ComponentsOf_c a n c M V (HTV V hV) hMat)
  have HTP := hid (fun (V : World) (hV : Below W2.heap.size W2 V) => impl_TurnedPoly_c a n c M V (HTV V hV) hS)
  have HLO := hid (fun (V : World) (hV : Below W2.heap.size W2 V) => impl_LinesOf_c a n c M V (HTV V hV) hS (HTW V hV))
  have hpl := periodOf_le M (tab_len h).1
  have hcl := cmpN_le (reachOf M n) n
  have HF1 := hid (fun (V : World) (hV : Below W2.heap.size W2 V) => impl_FormatInt_c ((periodOf M : Nat) : Int) V ⟨by omega, by omega⟩ (HTW V hV))
  have HF2 := hid (fun (V : World) (hV : Below W2.heap.size W2 V) => impl_FormatInt_c ((cmpN (reachOf M n) n : Nat) : Int) V ⟨by omega, by omega⟩ (HTW V hV))
  have hti : ∀ x ∈ turnP M n, I64 x := fun x hx => by have := turnP_bd hn.2 hR hb9 x hx; exact ⟨by omega, by omega⟩
  have htl := turnP_len M n
  have htl2 := cutN_le (polL M n (n + 1)) (n + 1)
  have HN1 := hid (fun (V : World) (hV : Below W2.heap.size W2 V) (ar : Option Addr) (cr : Nat) (hrr : RowAt V ar (turnP M n).length (intVals (turnP M n))) => show Calls Tryz.prog 53 #[.slice ar (turnP M n).length cr, .string ⟨#[44]⟩] V fun e w' => e = .returned (.string (polT M n)) ∧ Below V.heap.size V w' from impl_numbers_c ar _ cr _ ⟨#[44]⟩ V hrr hti rfl (by omega) (HTW V hV))
  have HL2 := hid (fun (B g : Nat) (V : World) (ho : Hid (V.ownsRow B 9 1 (.slice (some ⟨g, 0, none⟩) 2 2) 2 (strVals (lnL M n)))) => show Calls Tryz.prog 31 #[.slice (some ⟨g, 0, none⟩) 2 2] V fun e w' => e = .returned (.string (linT M n)) ∧ Below V.heap.size V w' from line_c B g 2 2 (lnL M n) V rfl ho.out (by omega) (Nat.le_trans (lnL_join hn.2 hM) (by omega)))
  have z1 := groT_size (M := M) (n := n)
  have z2 := fmtB_leM (x := ((periodOf M : Nat) : Int)) ⟨by omega, by omega⟩
  have z3 := fmtB_leM (x := ((cmpN (reachOf M n) n : Nat) : Int)) ⟨by omega, by omega⟩
  have z4 := polT_size hn.2 hti
  have z5 := linT_size hn.2 hM
  have z6 := cloT_size (M := M) hn.1 (by omega)
  have HTX := hid (show dmxT M n = dmxJ (groT M n 100) (fmtB ((periodOf M : Nat) : Int)) (fmtB ((cmpN (reachOf M n) n : Nat) : Int)) (polT M n) (linT M n) (cloT M n) from rfl)
  obtain ⟨TX, hTX⟩ : ∃ T, T = dmxT M n := ⟨_, rfl⟩
  rw [← hTX] at HTX
  rw [← hTX]
  obtain ⟨tg, htg⟩ : ∃ t, t = groT M n 100 := ⟨_, rfl⟩
  rw [← htg] at HTX HGR z1
  obtain ⟨tp, htp⟩ : ∃ t, t = fmtB ((periodOf M : Nat) : Int) := ⟨_, rfl⟩
  rw [← htp] at HTX HF1 z2
  obtain ⟨tc, htc⟩ : ∃ t, t = fmtB ((cmpN (reachOf M n) n : Nat) : Int) := ⟨_, rfl⟩
  rw [← htc] at HTX HF2 z3
  obtain ⟨tt, htt⟩ : ∃ t, t = polT M n := ⟨_, rfl⟩
  rw [← htt] at HTX HN1 z4
  obtain ⟨tl, htl'⟩ : ∃ t, t = linT M n := ⟨_, rfl⟩
  rw [← htl'] at HTX HL2 z5
  obtain ⟨tk, htk⟩ : ∃ t, t = cloT M n := ⟨_, rfl⟩
  rw [← htk] at HTX HCO z6
  obtain ⟨np, hnp⟩ : ∃ v, v = periodOf M := ⟨_, rfl⟩
  rw [← hnp] at HPO HF1
  obtain ⟨nc, hnc⟩ : ∃ v, v = cmpN (reachOf M n) n := ⟨_, rfl⟩
  rw [← hnc] at HCM HF2 hcl
  obtain ⟨LL, hLL⟩ : ∃ v, v = lnL M n := ⟨_, rfl⟩
  rw [← hLL] at HLO HL2
  obtain ⟨TP, hTP⟩ : ∃ v, v = turnP M n := ⟨_, rfl⟩
  rw [← hTP] at HTP HN1
  obtain ⟨K, hK⟩ : ∃ v, v = TP.length := ⟨_, rfl⟩
  rw [← hK] at HTP HN1
  have HLN := hid (fun V : World => show Calls Tryz.prog 31 #[.slice (some ⟨V.heap.size, 0, none⟩) 12 12] (V.alloc (.cells #[.string ⟨#[103, 114, 111, 119, 116, 104]⟩, .string tg, .string ⟨#[112, 101, 114, 105, 111, 100]⟩, .string tp, .string ⟨#[99, 111, 109, 112, 111, 110, 101, 110, 116, 115]⟩, .string tc, .string ⟨#[112, 111, 108, 121]⟩, .string tt, .string ⟨#[103, 114, 111, 117, 112]⟩, .string tl, .string ⟨#[99, 108, 111, 115, 101, 100]⟩, .string tk] 9)) fun e w' => e = .returned (.string TX) ∧ Below (V.heap.size + 1) (V.alloc (.cells #[.string ⟨#[103, 114, 111, 119, 116, 104]⟩, .string tg, .string ⟨#[112, 101, 114, 105, 111, 100]⟩, .string tp, .string ⟨#[99, 111, 109, 112, 111, 110, 101, 110, 116, 115]⟩, .string tc, .string ⟨#[112, 111, 108, 121]⟩, .string tt, .string ⟨#[103, 114, 111, 117, 112]⟩, .string tl, .string ⟨#[99, 108, 111, 115, 101, 100]⟩, .string tk] 9)) w' from by
    have hJE := dmxJ_eq tg tp tc tt tl tk
    have := line_c V.heap.size V.heap.size 12 12 (dmxL tg tp tc tt tl tk) _ rfl (owns_lit3 (w := V) (base := V.heap.size) (e := 9) #[.string ⟨#[103, 114, 111, 119, 116, 104]⟩, .string tg, .string ⟨#[112, 101, 114, 105, 111, 100]⟩, .string tp, .string ⟨#[99, 111, 109, 112, 111, 110, 101, 110, 116, 115]⟩, .string tc, .string ⟨#[112, 111, 108, 121]⟩, .string tt, .string ⟨#[103, 114, 111, 117, 112]⟩, .string tl, .string ⟨#[99, 108, 111, 115, 101, 100]⟩, .string tk] (strVals (dmxL tg tp tc tt tl tk)) rfl (Nat.le_refl _) (by unfold maxLen; simp)) (by omega) (by
      have h1 := joinV_sizeM (dmxL tg tp tc tt tl tk) ⟨#[32]⟩
      unfold dmxJ at hJE
      rw [hJE] at h1
      show (Lib.join ((dmxL tg tp tc tt tl tk).map dlj) (⟨#[32]⟩ : ByteArray).data.toList).length ≤ 1000000000
      rw [← h1]
      simp only [ByteArray.size_append]
      show 7 + tg.size + 8 + tp.size + 12 + tc.size + 6 + tt.size + 7 + tl.size + 8 + tk.size ≤ 1000000000
      omega)
    rw [show joinV (dmxL tg tp tc tt tl tk) ⟨#[32]⟩ = TX from by rw [HTX.out]; rfl] at this
    rw [World.size_alloc] at this
    exact this)
  have HB := hid hB
  have q0 := hbx.cell 0
  clear h hMat hR hM hb9 hS ht HTV HTW hB hbx hTX htg htp htc htt htl' htk hnp hnc hLL hTP hK hti htl htl2 hpl z1 z2 z3 z4 z5 z6
  go_enter Tryz.func13, Tryz.ntmps13
  go_wp2_with (rw [← hW2])
  first | rw [← hW2] | skip
  clear hW2
  refine HIS.out.mono ?_
  rintro e w1 ⟨rfl, rfl⟩
  clear HIS
  go_wp2_with fail
  refine HCO.out.mono ?_
  rintro e w3 ⟨rfl, hb3⟩
  have HB3 := hid hb3
  clear hb3 HCO q0
  have hbZ : Below W2.heap.size W2 w3.drew := HB3.out.drew
  have HKK := hid (fun (V : World) (hV : Below W2.heap.size W2 V) => show V.cell? ⟨w.heap.size, 0, none⟩ = some (.slice a n c) ∧ Below W2.heap.size W2 V from ⟨(HBX.out V hV).1, hV⟩)
  have HKA := hid (fun (V : World) (hV : Below W2.heap.size W2 V) (cs : Array Value) (T : TypeId) => HKK.out (V.alloc (.cells cs T)) (hV.alloc hV.size _))
  obtain ⟨q0, _⟩ := HKK.out _ HB3.out
  go_wp2
  go_region_held3 (fun V => V.cell? ⟨w.heap.size, 0, none⟩ = some (.slice a n c) ∧ Below W2.heap.size W2 V)
    (first | with_reducible exact HKK.out _ hbZ | with_reducible exact HKA.out _ hbZ _ _)
    (first | (go_at_call 50; refine (HGR.out _ hbZ).mono ?_; rintro e w4 ⟨rfl, hb4⟩; have hbZ := hbZ.trans (hb4.mono hbZ.size)) | (go_at_call 51; refine (HPO.out _ hbZ).mono ?_; rintro e w5 ⟨rfl, hb5⟩; have hbZ := hbZ.trans (hb5.mono hbZ.size)) | (go_at_call 32; first | (refine (HF1.out _ hbZ).mono ?_; rintro e w6 ⟨rfl, hb6⟩; have hbZ := hbZ.trans (hb6.mono hbZ.size)) | (refine (HF2.out _ hbZ).mono ?_; rintro e w6 ⟨rfl, hb6⟩; have hbZ := hbZ.trans (hb6.mono hbZ.size))) | (go_at_call 52; refine (HCM.out _ hbZ).mono ?_; rintro e w7 ⟨gg7, cc7, rfl, hb7⟩; have hbZ := hbZ.trans (hb7.mono hbZ.size)) | (go_at_call 54; refine (HTP.out _ hbZ).mono ?_; rintro e w8 ⟨ga8, gc8, rfl, hr8, hb8⟩; have hbZ := hbZ.trans (hb8.mono hbZ.size)) | (go_at_call 53; refine (HN1.out _ hbZ _ _ hr8).mono ?_; rintro e w9 ⟨rfl, hb9⟩; have hbZ := hbZ.trans (hb9.mono hbZ.size)) | (go_at_call 55; refine (HLO.out _ hbZ).mono ?_; rintro e wA ⟨gA, rfl, hoA, hbA⟩; have hbZ := hbZ.trans (hbA.mono hbZ.size)) | (go_at_call 31; first | (refine (HL2.out _ _ _ hoA).mono ?_; rintro e wB ⟨rfl, hbB⟩; have hbZ := hbZ.trans (hbB.mono hbZ.size)) | (refine (HLN.out _).mono ?_; rintro e wC ⟨rfl, hbC⟩; have hbQ := hbZ.alloc hbZ.size (.cells #[.string ⟨#[103, 114, 111, 119, 116, 104]⟩, .string tg, .string ⟨#[112, 101, 114, 105, 111, 100]⟩, .string tp, .string ⟨#[99, 111, 109, 112, 111, 110, 101, 110, 116, 115]⟩, .string tc, .string ⟨#[112, 111, 108, 121]⟩, .string tt, .string ⟨#[103, 114, 111, 117, 112]⟩, .string tl, .string ⟨#[99, 108, 111, 115, 101, 100]⟩, .string tk] 9); have hbZ := hbQ.trans (hbC.mono (by have := hbZ.size; omega)))))
  have HBF := hid (HBX.out _ hbZ).2
  clear hbZ
  go_wp2
  go_ret
  exact ⟨rfl, HBF.out⟩
end Go.Proofs.YtpfeflhcbcgbfaaGreatDoor
