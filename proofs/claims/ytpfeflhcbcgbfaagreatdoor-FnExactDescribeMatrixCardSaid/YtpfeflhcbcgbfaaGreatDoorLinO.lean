/- The lines of a group and a sign, both ways. Conditions: a small matrix. -/
import Derived.Test.YtpfeflhcbcgbfaaGreatDoorDelI
import Derived.Test.YtpfeflhcbcgbfaaGreatDoorGrpT
namespace Go.Proofs.YtpfeflhcbcgbfaaGreatDoor
open Go.RowKit
set_option maxHeartbeats 4000000 in
set_option maxRecDepth 100000 in
theorem impl_GroupOf_c (a : Option Addr) (n c : Nat) (M : List (List Int)) (w : World) (h : TabAt w a n M) (hS : isSm M = true) :
    Calls Tryz.prog 107 #[.slice a n c] w fun e w' => ∃ a' c', e = .returned (.slice a' (grpL M n).length c') ∧ RowAt w' a' (grpL M n).length (intVals (grpL M n)) ∧ Below w.heap.size w w' := by
  obtain ⟨_, hn, hR, hM⟩ := isSm_facts hS (tab_len h).1
  have HIS := hid (impl_IsSmall_c a n c M w h)
  rw [hS] at HIS
  have HTZ := hid (impl_less_c a n c M 1 1 w h hR hn hM (by omega) (by omega))
  have HRE := hid (tabF_rect n n (lessF M 1 1))
  have HDI := hid (fun (am : Option Addr) (cm : Nat) (V : World) (ht : TabAt V am n (lessT M n 1 1)) => impl_diagonal_c am n cm (lessT M n 1 1) V ht HRE.out hn (lessZ_bd hM))
  have HDE := hid (fun (B g cg : Nat) (V : World) (ho : V.ownsRow B 3 1 (.slice (some ⟨g, 0, none⟩) n cg) n (intVals (dgL (lessT M n 1 1) n n))) (hc : n ≤ cg) => show Calls Tryz.prog 142 #[.slice (some ⟨g, 0, none⟩) n cg, .func (.func 145) #[] #[]] V fun e w' => ∃ c', e = .returned (.slice (some ⟨g, 0, none⟩) (grpL M n).length c') ∧ RowAt w' (some ⟨g, 0, none⟩) (grpL M n).length (intVals (grpL M n)) ∧ Below B V w' from deleteFunc1_c B g n cg _ V ho (by omega) hc)
  unfold GridPost at HTZ
  obtain ⟨G, hG⟩ : ∃ G, G = grpL M n := ⟨_, rfl⟩
  rw [← hG] at HDE
  rw [← hG]
  clear h hS hR hM hG
  go_enter Tryz.func107, Tryz.ntmps107
  go_wp2_with fail
  refine HIS.out.mono ?_
  rintro e w' ⟨rfl, rfl⟩
  go_wp2_with (first | (go_at_call 144; refine HTZ.out.mono ?_; rintro e w1 ⟨v1, rfl, hg1, hb1⟩; obtain ⟨am, cm, rfl, _, htm⟩ := grid_tabC hg1 HRE.out (by omega); have hg1' := htm.tab) | (go_at_call 143; refine (HDI.out _ _ _ hg1').mono ?_; rintro e w2 ⟨g2, c2, rfl, hc2, ho2, hb2⟩) | (go_at_call 142; refine (HDE.out _ _ _ _ ho2.out hc2).mono ?_; rintro e w3 ⟨c3, rfl, hr3, hb3⟩))
  go_ret
  exact ⟨_, _, rfl, hr3, hb1.trans ((hb2.trans hb3).mono hb1.size)⟩
end Go.Proofs.YtpfeflhcbcgbfaaGreatDoor
namespace Go.Proofs.YtpfeflhcbcgbfaaGreatDoor
open Go.RowKit
def sigT (k : Nat) : ByteArray := if k = 0 then ⟨#[109, 105, 110, 117, 115]⟩ else if k = 1 then ⟨#[122, 101, 114, 111]⟩ else ⟨#[112, 108, 117, 115]⟩
def lnL (M : List (List Int)) (n : Nat) : List ByteArray := [grT (grpL M n), sigT (sigN (detZ M n))]
set_option maxHeartbeats 4000000 in
set_option maxRecDepth 100000 in
theorem spec_LinesOf_c (a : Option Addr) (n c : Nat) (M : List (List Int)) (w : World) (h : TabAt w a n M) (hS : isSm M = true) :
    Calls Tryz.prog 45 #[.slice a n c] w fun e w' => ∃ g, e = .returned (.slice (some ⟨g, 0, none⟩) 2 2) ∧ Hid (w'.ownsRow w.heap.size 9 1 (.slice (some ⟨g, 0, none⟩) 2 2) 2 (strVals (lnL M n))) ∧ Below w.heap.size w w' := by
  obtain ⟨_, hn, hR, hM⟩ := isSm_facts hS (tab_len h).1
  have HIS := hid (spec_IsSmall_c a n c M w h)
  rw [hS] at HIS
  have HGO := hid (spec_GroupOf_c a n c M w h hS)
  have HGT := hid (fun (ar : Option Addr) (cr : Nat) (V : World) (hV : Below w.heap.size w V) (hr : RowAt V ar (grpL M n).length (intVals (grpL M n))) => spec_GroupText_c ar _ cr (grpL M n) V hr (grpL_mem hn.2 hM) (by have := grpL_le M n; omega))
  have HSG := hid (fun (V : World) (hV : Below w.heap.size w V) => spec_SignOf_c a n c M V (h.below hV (Nat.le_refl _)) hS)
  have hk := sigN_le (detZ M n)
  have HLN := hid (show lnL M n = [grT (grpL M n), sigT (sigN (detZ M n))] from rfl)
  obtain ⟨L, hL⟩ : ∃ L, L = lnL M n := ⟨_, rfl⟩
  rw [← hL] at HLN
  rw [← hL]
  obtain ⟨G, hG⟩ : ∃ G, G = grpL M n := ⟨_, rfl⟩
  rw [← hG] at HGO HGT HLN
  obtain ⟨tx, htx⟩ : ∃ tx, tx = grT G := ⟨_, rfl⟩
  rw [← htx] at HGT HLN
  obtain ⟨k, hke⟩ : ∃ k, k = sigN (detZ M n) := ⟨_, rfl⟩
  rw [← hke] at HSG hk HLN
  have hk3 : (k : Int) < 3 := by omega
  have hk0 : (0 : Int) ≤ (k : Int) := by omega
  have hwk : IntKind.i64.wrap ((k : Int) - 1 + 1) = (k : Int) := by rw [show (k : Int) - 1 + 1 = (k : Int) by omega]; exact IntWalk.i64_in _ (by omega)
  have hwk2 : IntKind.i64.wrap (k : Int) = (k : Int) := IntWalk.i64_in _ (by omega)
  have hkk : (k : Int) - 1 + 1 = (k : Int) := by omega
  have HCS := hid (fun (V U : World) (hV : Below (V.heap.size + 1) (V.alloc (.cells #[.string ⟨#[109, 105, 110, 117, 115]⟩, .string ⟨#[122, 101, 114, 111]⟩, .string ⟨#[112, 108, 117, 115]⟩] 9)) U) => show U.cell? ⟨V.heap.size, k, none⟩ = some (.string (sigT k)) from by
    refine (hV.cell (p := ⟨V.heap.size, k, none⟩) (by show V.heap.size < V.heap.size + 1; omega)).trans ?_
    rw [World.cell?_alloc_at _ _ _ _ rfl]
    match k, hk with
    | 0, _ => rfl
    | 1, _ => rfl
    | 2, _ => rfl)
  obtain ⟨st, hst⟩ : ∃ st, st = sigT k := ⟨_, rfl⟩
  rw [← hst] at HCS HLN
  have HSV := hid (show strVals L = [.string tx, .string st] from by rw [HLN.out]; rfl)
  clear h hS hR hM hL hG htx hke hst
  go_enter Tryz.func45, Tryz.ntmps45
  go_wp2_with fail
  refine HIS.out.mono ?_
  rintro e w' ⟨rfl, rfl⟩
  go_wp2_with (first | (go_at_call 94; refine HGO.out.mono ?_; rintro e w1 ⟨a1, c1, rfl, hr1, hb1⟩) | (go_at_call 93; refine (HGT.out _ _ _ hb1 hr1).mono ?_; rintro e w2 ⟨rfl, hb2⟩; have hb12 := hb1.trans (hb2.mono hb1.size); have hbA : Below w.heap.size w (w2.alloc (.cells #[.string ⟨#[109, 105, 110, 117, 115]⟩, .string ⟨#[122, 101, 114, 111]⟩, .string ⟨#[112, 108, 117, 115]⟩] 9)) := hb12.alloc hb12.size _) | (go_at_call 95; refine (HSG.out _ hbA).mono ?_; rintro e w3 ⟨rfl, hb3⟩; rw [World.size_alloc] at hb3; have hcell := HCS.out w2 w3 hb3))
  have hsA : w.heap.size ≤ w2.heap.size + 1 := by have := hb12.size; omega
  have hbB := hbA.trans (hb3.mono hsA)
  go_ret
  refine ⟨_, rfl, hid ?_, hbB.alloc hbB.size _⟩
  rw [HSV.out]
  exact owns_lit3 (w := w3) (base := w.heap.size) (e := 9) #[.string tx, .string st] [.string tx, .string st] rfl hbB.size (by unfold maxLen; simp)
set_option maxHeartbeats 4000000 in
set_option maxRecDepth 100000 in
theorem impl_LinesOf_c (a : Option Addr) (n c : Nat) (M : List (List Int)) (w : World) (h : TabAt w a n M) (hS : isSm M = true) (ht : TabW w) :
    Calls Tryz.prog 55 #[.slice a n c] w fun e w' => ∃ g, e = .returned (.slice (some ⟨g, 0, none⟩) 2 2) ∧ Hid (w'.ownsRow w.heap.size 9 1 (.slice (some ⟨g, 0, none⟩) 2 2) 2 (strVals (lnL M n))) ∧ Below w.heap.size w w' := by
  obtain ⟨_, hn, hR, hM⟩ := isSm_facts hS (tab_len h).1
  have HIS := hid (impl_IsSmall_c a n c M w h)
  rw [hS] at HIS
  have HGO := hid (impl_GroupOf_c a n c M w h hS)
  have HGT := hid (fun (ar : Option Addr) (cr : Nat) (V : World) (hV : Below w.heap.size w V) (hr : RowAt V ar (grpL M n).length (intVals (grpL M n))) => impl_GroupText_c ar _ cr (grpL M n) V hr (grpL_mem hn.2 hM) (by have := grpL_le M n; omega) (tab_below ht hV (Nat.le_refl _)))
  have HSG := hid (fun (V : World) (hV : Below w.heap.size w V) => impl_SignOf_c a n c M V (h.below hV (Nat.le_refl _)) hS)
  have hk := sigN_le (detZ M n)
  have HLN := hid (show lnL M n = [grT (grpL M n), sigT (sigN (detZ M n))] from rfl)
  obtain ⟨L, hL⟩ : ∃ L, L = lnL M n := ⟨_, rfl⟩
  rw [← hL] at HLN
  rw [← hL]
  obtain ⟨G, hG⟩ : ∃ G, G = grpL M n := ⟨_, rfl⟩
  rw [← hG] at HGO HGT HLN
  obtain ⟨tx, htx⟩ : ∃ tx, tx = grT G := ⟨_, rfl⟩
  rw [← htx] at HGT HLN
  obtain ⟨k, hke⟩ : ∃ k, k = sigN (detZ M n) := ⟨_, rfl⟩
  rw [← hke] at HSG hk HLN
  have hk3 : (k : Int) < 3 := by omega
  have hk0 : (0 : Int) ≤ (k : Int) := by omega
  have hwk : IntKind.i64.wrap ((k : Int) - 1 + 1) = (k : Int) := by rw [show (k : Int) - 1 + 1 = (k : Int) by omega]; exact IntWalk.i64_in _ (by omega)
  have hwk2 : IntKind.i64.wrap (k : Int) = (k : Int) := IntWalk.i64_in _ (by omega)
  have hkk : (k : Int) - 1 + 1 = (k : Int) := by omega
  have HCS := hid (fun (V U : World) (hV : Below (V.heap.size + 1) (V.alloc (.cells #[.string ⟨#[109, 105, 110, 117, 115]⟩, .string ⟨#[122, 101, 114, 111]⟩, .string ⟨#[112, 108, 117, 115]⟩] 9)) U) => show U.cell? ⟨V.heap.size, k, none⟩ = some (.string (sigT k)) from by
    refine (hV.cell (p := ⟨V.heap.size, k, none⟩) (by show V.heap.size < V.heap.size + 1; omega)).trans ?_
    rw [World.cell?_alloc_at _ _ _ _ rfl]
    match k, hk with
    | 0, _ => rfl
    | 1, _ => rfl
    | 2, _ => rfl)
  obtain ⟨st, hst⟩ : ∃ st, st = sigT k := ⟨_, rfl⟩
  rw [← hst] at HCS HLN
  have HSV := hid (show strVals L = [.string tx, .string st] from by rw [HLN.out]; rfl)
  clear h hS hR hM hL hG htx hke hst
  go_enter Tryz.func55, Tryz.ntmps55
  go_wp2_with fail
  refine HIS.out.mono ?_
  rintro e w' ⟨rfl, rfl⟩
  go_wp2_with (first | (go_at_call 107; refine HGO.out.mono ?_; rintro e w1 ⟨a1, c1, rfl, hr1, hb1⟩) | (go_at_call 106; refine (HGT.out _ _ _ hb1 hr1).mono ?_; rintro e w2 ⟨rfl, hb2⟩; have hb12 := hb1.trans (hb2.mono hb1.size); have hbA : Below w.heap.size w (w2.alloc (.cells #[.string ⟨#[109, 105, 110, 117, 115]⟩, .string ⟨#[122, 101, 114, 111]⟩, .string ⟨#[112, 108, 117, 115]⟩] 9)) := hb12.alloc hb12.size _) | (go_at_call 108; refine (HSG.out _ hbA).mono ?_; rintro e w3 ⟨rfl, hb3⟩; rw [World.size_alloc] at hb3; have hcell := HCS.out w2 w3 hb3))
  have hsA : w.heap.size ≤ w2.heap.size + 1 := by have := hb12.size; omega
  have hbB := hbA.trans (hb3.mono hsA)
  go_ret
  refine ⟨_, rfl, hid ?_, hbB.alloc hbB.size _⟩
  rw [HSV.out]
  exact owns_lit3 (w := w3) (base := w.heap.size) (e := 9) #[.string tx, .string st] [.string tx, .string st] rfl hbB.size (by unfold maxLen; simp)
end Go.Proofs.YtpfeflhcbcgbfaaGreatDoor
