/- The characteristic polynomial, the program's. Conditions: a small matrix. -/
import Derived.StillTail
import Derived.OrdersHeld
import Derived.Deep.RegionHeld3
import Derived.Test.YtpfeflhcbcgbfaaGreatDoorSmall
import Derived.Test.YtpfeflhcbcgbfaaGreatDoorMnrP
import Derived.Test.YtpfeflhcbcgbfaaGreatDoorSetI
import Derived.Test.YtpfeflhcbcgbfaaGreatDoorPartI
import Derived.Test.YtpfeflhcbcgbfaaGreatDoorDet
namespace Go.Proofs.YtpfeflhcbcgbfaaGreatDoor
open Go.RowKit
section
variable {P : Program} {ops : Array Oper} {Q : Exit → Act → World → Prop} {md : Region.Mode} {S : World → Prop} {n : Nat}
/-- As the kit's 'wpAnyH', but S is asked behind all operations but number n. -/
def wpAnyT (P : Program) (md : Region.Mode) (ops : Array Oper) (Q : Exit → Act → World → Prop) (S : World → Prop) (n : Nat) : Nat → Array Bool → Act → World → Prop
  | 0, listed, a, w => Region.ready md ops listed = [] ∧ Q .normal a w
  | fuel + 1, listed, a, w =>
    (Region.ready md ops listed = [] → Q .normal a w) ∧
    ∀ i ∈ Region.ready md ops listed, wpOp P ops Q i (fun a' w' => (i ≠ n → S w') ∧ wpAnyT P md ops Q S n fuel (listed.setIfInBounds i true) a' w') a w
theorem wpAny_of_T : ∀ (fuel : Nat) (listed : Array Bool) (a : Act) (w : World), wpAnyT P md ops Q S n fuel listed a w → wpAny P md ops Q fuel listed a w
  | 0, _, _, _, h => h
  | fuel + 1, _, _, _, h => ⟨h.1, fun i hi => wpOp_mono (fun a' w' h' => wpAny_of_T fuel _ a' w' h'.2) (h.2 i hi)⟩
theorem wpAnyT_first {i : Nat} {oi : Oper} {v : Value} (hi : ops[i]? = some oi) (hsel : ∀ (j : Nat) (o : Oper) cs b, ops[j]? = some o → o.op ≠ .select cs b)
    (hQ : ∀ c a w, Q (.panic c) (a.put oi.dst v) w → Q (.panic c) a w)
    (hs : Region.sinkB md ops n = true) (hc : Region.chainB md ops n = true) (hn : n < ops.size) (hin : i < n) :
    ∀ (fuel : Nat) (listed : Array Bool) (a : Act) (w : World), HeadInv md ops n listed →
      (∀ j oj, ops[j]? = some oj → j ≠ i → listed.getD j true = false → (∀ e ∈ oj.after, Region.binds md e = true → e.on ≠ i) → oi.apart ops oj = true) →
      i ∈ Region.ready md ops listed → YieldsIf P ops S oi v a → S w →
      wpAnyT P md ops Q S n fuel (listed.setIfInBounds i true) (a.put oi.dst v) w → wpAnyT P md ops Q S n (fuel + 1) listed a w := by
  intro fuel
  induction fuel with
  | zero =>
    intro listed a w _ _ hr hy hS H
    refine ⟨fun h => (by rw [h] at hr; cases hr), fun j hj => ?_⟩
    by_cases hji : j = i
    · subst hji; exact hy.wpOp hi hS ⟨fun _ => hS, H⟩
    · have := ready_mono hj hji
      rw [H.1] at this
      cases this
  | succ fuel ih =>
    intro listed a w inv hfree hr hy hS H
    have hun := (mem_ready.1 hr).1
    refine ⟨fun h => (by rw [h] at hr; cases hr), fun j hj => ?_⟩
    by_cases hji : j = i
    · subst hji; exact hy.wpOp hi hS ⟨fun _ => hS, H⟩
    · have hjn : j < n := by
        rcases Nat.lt_or_ge j n with h | h
        · exact h
        · exact absurd hj (tail_waits hs hc hn inv _ i rfl hin hun j h)
      have h1 := H.2 j (ready_mono hj hji)
      obtain ⟨hjun, oj, hoj, hall⟩ := mem_ready.1 hj
      have hnot : ∀ e ∈ oj.after, Region.binds md e = true → e.on ≠ i := fun e he hb heq => by
        have h1 := hall e he hb
        rw [heq, getD_both hun] at h1
        cases h1
      have h2 := wpOp_putIf hoj (hfree j oj hoj hji hjun hnot) (fun cs b => hsel i oi cs b hi) (fun cs b => hsel j oj cs b hoj) hQ hy h1
      have hfree' : ∀ k ok, ops[k]? = some ok → k ≠ i → (listed.setIfInBounds j true).getD k true = false →
          (∀ e ∈ ok.after, Region.binds md e = true → e.on ≠ i) → oi.apart ops ok = true := fun k ok hk hki hun hno => by
        refine hfree k ok hk hki ?_ hno
        by_cases hjk : j = k
        · subst hjk; exact hjun
        · rw [getD_set_ne true hjk] at hun; exact hun
      refine wpOp_mono (fun a' w' h3 => ?_) h2
      have hS' := h3.2.1 (by omega)
      refine ⟨fun _ => hS', ih (listed.setIfInBounds j true) a' w' (inv.set hj hjn) hfree' (ready_mono hr (Ne.symm hji)) h3.1 hS' ?_⟩
      rw [Array.setIfInBounds_comm _ _ hji]
      exact h3.2.2
/-- Take number i first. -/
theorem wpAnyT_take {i : Nat} {oi : Oper} {v : Value} {fuel : Nat} {listed : Array Bool} {a : Act} {w : World} (hi : ops[i]? = some oi)
    (hsl : Region.noSelect ops = true) (hT : (Region.sinkB md ops n && Region.chainB md ops n && decide (n < ops.size) && decide (i < n)) = true)
    (hf : Region.free md ops listed i = true) (hr : (Region.ready md ops listed).contains i = true)
    (hQ : ∀ c a w, Q (.panic c) (a.put oi.dst v) w → Q (.panic c) a w) (hy : YieldsIf P ops S oi v a) (hS : S w)
    (h : HeadInv md ops n (listed.setIfInBounds i true) → wpAnyT P md ops Q S n fuel (listed.setIfInBounds i true) (a.put oi.dst v) w) : HeadInv md ops n listed → wpAnyT P md ops Q S n (fuel + 1) listed a w := fun inv => by
  simp only [Bool.and_eq_true, decide_eq_true_eq] at hT
  obtain ⟨⟨⟨h1, h2⟩, h3⟩, h4⟩ := hT
  have hr' : i ∈ Region.ready md ops listed := by simpa using hr
  exact wpAnyT_first hi (Region.noSelect_spec hsl) hQ h1 h2 h3 h4 fuel listed a w inv (Region.free_spec hi hf) hr' hy hS (h (inv.set hr' h4))
/-- Number i comes up alone. -/
theorem wpAnyT_step {i : Nat} {o : Oper} {fuel : Nat} {listed : Array Bool} {a : Act} {w : World} (ho : ops[i]? = some o) (hr : Region.ready md ops listed = [i]) (hin : i < n)
    (h : ∀ K' : Act → World → Prop, Shut (∀ a w, S w → (HeadInv md ops n (listed.setIfInBounds i true) → wpAnyT P md ops Q S n fuel (listed.setIfInBounds i true) a w) → K' a w) → if Region.wanted o (yielded ops a.tmps) = true then Oper.wp P o a w K' Q else K' (a.put o.dst undef) w) :
    HeadInv md ops n listed → wpAnyT P md ops Q S n (fuel + 1) listed a w := fun inv => by
  have hi : i ∈ Region.ready md ops listed := by rw [hr]; exact List.mem_singleton.2 rfl
  refine ⟨fun h0 => (by rw [hr] at h0; cases h0), fun j hj => ?_⟩
  rw [hr] at hj
  obtain rfl := List.mem_singleton.1 hj
  exact wpOp_step ho (fun K' hK => h K' (fun a w hS hW => hK a w ⟨fun _ => hS, hW (inv.set hi hin)⟩))
/-- The last one. -/
theorem wpAnyT_last {o : Oper} {fuel : Nat} {listed : Array Bool} {a : Act} {w : World} (ho : ops[n]? = some o) (hr : Region.ready md ops listed = [n]) (hd : Region.ready md ops (listed.setIfInBounds n true) = [])
    (h : ∀ K' : Act → World → Prop, Shut (∀ a w, Q .normal a w → K' a w) → if Region.wanted o (yielded ops a.tmps) = true then Oper.wp P o a w K' Q else K' (a.put o.dst undef) w) :
    HeadInv md ops n listed → wpAnyT P md ops Q S n (fuel + 1) listed a w := fun _ => by
  refine ⟨fun h0 => (by rw [hr] at h0; cases h0), fun j hj => ?_⟩
  rw [hr] at hj
  obtain rfl := List.mem_singleton.1 hj
  refine wpOp_step ho (fun K' hK => h K' (fun a w hq => hK a w ⟨fun h => absurd rfl h, ?_⟩))
  cases fuel with
  | zero => exact ⟨hd, hq⟩
  | succ f => exact ⟨fun _ => hq, by rw [hd]; simp⟩
/-- The beginning. -/
theorem wp_region_T {id : Nat} {a : Act} {w : World} (n : Nat) (hm : P.follows .mixedOrders = true)
    (h : HeadInv .any ops n (Array.replicate ops.size false) → wpAnyT P .any ops Q S n ops.size (Array.replicate ops.size false) a w.drew) : (Code.region id ops true).wp P Q a w := by
  have inv0 : HeadInv .any ops n (Array.replicate ops.size false) :=
    ⟨by simp, fun j oj _ hl => (by rw [getD_replicate_false] at hl; cases hl), fun t _ ht => getD_in (by simpa using ht) (getD_replicate_false _ _)⟩
  exact wp_region_any hm (wpAny_of_T _ _ _ _ (h inv0))
end
end Go.Proofs.YtpfeflhcbcgbfaaGreatDoor
namespace Go.Proofs.YtpfeflhcbcgbfaaGreatDoor
open Go.RowKit
set_option maxHeartbeats 4000000 in
set_option maxRecDepth 100000 in
theorem impl_charPoly_c (a : Option Addr) (n c : Nat) (M : List (List Int)) (w : World) (h : TabAt w a n M) (hR : Rect M n n) (hn : n ≤ 4) (hb9 : Bd 9 M) :
    Calls Tryz.prog 104 #[.slice a n c] w fun e w' => ∃ g, e = .returned (.slice (some ⟨g, 0, none⟩) (n + 1) (n + 1)) ∧ RowAt w' (some ⟨g, 0, none⟩) (n + 1) (intVals (mkB n (polN M n) (n + 1) 0)) ∧ Below w.heap.size w w' := by
  have HCH := hid (fun (k : Nat) (hk : k ≤ n) (V : World) => impl_choices_c n k V hn (by omega))
  have HPA := hid (fun (k : Nat) (hk : k ≤ n) (gc : Option Addr) (cc : Nat) (C : List Nat) (V : World) (hV : Below w.heap.size w V) (hrc : RowAt V gc k (natV C)) (hCn : ∀ i ∈ C, i < n) (hm : C.length = k) => (impl_picked_c a gc n c k cc M C V (by
    obtain ⟨vs, h1, h2, h3⟩ := h
    exact ⟨vs, h1.below hV (Nat.le_refl _), h2, fun i x r hx hr => let ⟨a', c', e, q⟩ := h3 i x r hx hr; ⟨a', c', e, q.below hV (Nat.le_refl _)⟩⟩) hR hrc hCn (by omega)).mono (R' := fun e w' => ∃ am cm, e = .returned (.slice am k cm) ∧ TabC w' am k (partRC M C C) ∧ Below V.heap.size V w') (by
    rintro e w' ⟨v, rfl, hg, hbv⟩
    obtain ⟨am, cm, rfl, _, htm⟩ := grid_tabC hg (show Rect (partRC M C C) k k by rw [← hm]; exact partRC_rect M C C) (by omega)
    exact ⟨am, cm, rfl, htm, hbv⟩))
  have HDT := hid (fun (k : Nat) (hk : k ≤ n) (am : Option Addr) (cm : Nat) (C : List Nat) (V : World) (hm : C.length = k) (hC : ∀ i ∈ C, i < n) (ht : TabC V am k (partRC M C C)) => show Calls Tryz.prog 140 #[.slice am k cm] V fun e w' => e = .returned (.int .i64 (detL M C)) ∧ Below V.heap.size V w' from by
    have := impl_determinant_c 9 (by omega) (by omega) k (by omega) (partRC M C C) am cm V ht (by rw [← hm]; exact partRC_rect M C C) (partRC_bd hR hb9 hC hC)
    unfold detL
    rw [hm]
    exact this)
  have HDB := hid (fun (k : Nat) (hk : k ≤ n) (C : List Nat) (hm : C.length = k) (hC : ∀ i ∈ C, i < n) => detL_bd (L := C) hn hR hb9 (by omega) hC)
  have HSG := hid (fun k => show sgn (k + 1) = -sgn k from rfl)
  have HSL := hid (fun k => setsL_le n k (2 ^ n))
  have hp4 := pow4 n hn
  have HPOS := hid (fun (k : Nat) (hk : k ≤ n) => sets_pos n (by omega) k (by omega) hk)
  have HGETS := hid (fun (k i : Nat) (hi : i < (setsL n k (2 ^ n)).length) => show ∃ L, (setsI n k (2 ^ n))[i]? = some (intL L) ∧ L.length = k ∧ (∀ x ∈ L, x < n) ∧ parS M n k (i + 1) = parS M n k i + sgn k * detL M L from by
    obtain ⟨L, hL⟩ := get_some hi
    obtain ⟨h1, h2⟩ := setsL_mem (List.mem_of_getElem? hL)
    exact ⟨L, setsI_get hL, h1, h2, parS_succ hL⟩)
  have HPB := hid (fun (k i : Nat) (hk : k ≤ n) => parS_bd (i := i) hn hR hb9 hk)
  have HP0 := hid (fun k => parS_zero M n k)
  have HPE := hid (fun (k : Nat) => parS_end M n k)
  obtain ⟨g, hg⟩ : ∃ g, g = polN M n := ⟨_, rfl⟩
  rw [← hg] at HPE
  rw [← hg]
  have HBAT := hid (fun (k : Nat) (u : Int) (hk : k ≤ n) => mkB_at g u hk)
  have HBSET := hid (fun (k : Nat) (u u' : Int) (hk : k ≤ n) => mkB_set g u u' hk)
  have HBNX := hid (fun (k : Nat) (hk : k ≤ n) => mkB_next g hk)
  obtain ⟨N, hN⟩ : ∃ N, N = n + 1 := ⟨_, rfl⟩
  have hN9 : N ≤ 9 := by omega
  have hnN : n < N := by omega
  have hwN : IntKind.i64.wrap ((n : Int) + 1) = (N : Int) := by rw [IntWalk.i64_in _ (by omega)]; omega
  have HZ := hid (show mkB n g 0 0 = List.replicate N 0 from by rw [mkB_zero, hN])
  have HBL := hid (fun k u => show (mkB n g k u).length = N from by rw [mkB_len, hN])
  have HNE := hid hN
  rw [← hN]
  clear hN
  obtain ⟨ti, hti, hz, hz1, hz2⟩ := info_parts infoIntZ
  clear h hR hb9 hg
  go_enter Tryz.func104, Tryz.ntmps104
  go_wp2_with (first | (at_make; refine wpList_make_full _ rfl _ _ 39 rfl w.heap.size 3 ti (.int .i64 0) 1 Tryz.underlying39 hti hz hz1 .i64 .i64 _ _ N rfl rfl rfl rfl (by rw [hz2]; omega) (by unfold maxLen; omega) (Nat.le_refl _) ?_; intro w1 hown1 hgr1))
  have HO1 := hid (show w1.ownsRow w.heap.size 3 1 (.slice (some ⟨w.heap.size, 0, none⟩) N N) N (intVals (mkB n g 0 (parS M n 0 0))) from by rw [HP0.out, HZ.out, ← made_zeros N]; exact hown1)
  have HB1 := hid (show Below w.heap.size w w1 from (Below.refl _ _).grown hgr1 (Nat.le_refl _) (by intro k h; cases h))
  have hs1 : w.heap.size < w1.heap.size := (hown1.lt _ rfl).2
  obtain ⟨go, hgo⟩ : ∃ go, go = w.heap.size := ⟨_, rfl⟩
  have hgw : w.heap.size ≤ go := by omega
  rw [← hgo] at hs1 HO1
  rw [← hgo]
  clear hown1 hgr1 hgo
  go_loopw [5, 6] (fun s i wr => ∃ k : Nat, k ≤ N ∧ i = .int .i64 k ∧ s = .int .i64 (sgn k) ∧ Hid (wr.ownsRow go 3 1 (.slice (some ⟨go, 0, none⟩) N N) N (intVals (mkB n g k 0))) ∧ Hid (Below w.heap.size w wr) ∧ go < wr.heap.size) (fun _ i _ => N - (intOf i).toNat)
  case atStart => exact ⟨0, by omega, rfl, rfl, by rw [HP0.out] at HO1; exact HO1, HB1, hs1⟩
  case round =>
    clear HO1 HB1 hs1
    obtain ⟨k, hk, rfl, rfl, HOW, HBW, hgs⟩ := hrel
    obtain ⟨wo, hwo⟩ : ∃ wo, wo = wr := ⟨_, rfl⟩
    subst hwo
    by_cases hlt : k ≤ n
    · have hki : (k : Int) ≤ (n : Int) := by omega
      have HCQ := hid (HCH.out k hlt wo)
      have HPAk := hid (HPA.out k hlt)
      have HDTk := hid (HDT.out k hlt)
      have HDBk := hid (HDB.out k hlt)
      have HGk := hid (HGETS.out k)
      have HPBk := hid (fun i => HPB.out k i hlt)
      have HNXk := hid (HBNX.out k hlt)
      have HATk := hid (fun u => HBAT.out k u hlt)
      have HSETk := hid (fun u u' => HBSET.out k u u' hlt)
      have HPEk := hid (HPE.out k)
      have hsl := HSL.out k
      have hpos := HPOS.out k hlt
      have HSGk := HSG
      have HSGk := hid (HSG.out k)
      have hsgn := sgn_abs k
      obtain ⟨D, hD⟩ : ∃ D, D = (setsL n k (2 ^ n)).length := ⟨_, rfl⟩
      have HDE := hid (show D = (setsI n k (2 ^ n)).length by rw [setsI_len]; exact hD)
      rw [← hD] at HGk HPEk hsl hpos
      obtain ⟨SI, hSI⟩ : ∃ SI, SI = setsI n k (2 ^ n) := ⟨_, rfl⟩
      rw [← hSI] at HCQ HGk HDE
      obtain ⟨s, hs⟩ : ∃ s, s = sgn k := ⟨_, rfl⟩
      rw [← hs] at HGk HSGk hsgn
      rw [← hs]
      clear hD hSI hs
      obtain ⟨q, hq⟩ : ∃ q, q = n - k := ⟨_, rfl⟩
      have hqi : (n : Int) - (k : Int) = (q : Int) := by omega
      have hwq : IntKind.i64.wrap ((n : Int) - (k : Int)) = (q : Int) := by rw [hqi]; exact IntWalk.i64_in _ (by omega)
      have hqN : q < N := by omega
      have hqNi : (q : Int) < (N : Int) := by omega
      have hwqq : IntKind.i64.wrap (q : Int) = (q : Int) := IntWalk.i64_in _ (by omega)
      rw [← hq] at HATk HSETk
      clear hq
      have hw4 : IntKind.i64.wrap (-s) = -s := IntWalk.i64_in _ (by omega)
      go_wp2_with (go_at_call 139; refine HCQ.out.mono ?_; rintro e w2 ⟨v2, rfl, ⟨vs, ho2, hr2⟩, hb2⟩; obtain ⟨gs2, cs2, rfl, hsg, _⟩ := grid_form ⟨vs, ho2, hr2⟩ (n := D) (by rw [HDE.out]) hpos)
      rw [← HDE.out] at ho2
      have hsz2 := hb2.size
      have HO2 := hid (owns_below HOW.out hb2)
      have HS2 := hid (ho2)
      have HR2 := hid hr2
      have HB2 := hid (HBW.out.trans (hb2.mono HBW.out.size))
      have hgs2 : go < w2.heap.size := by omega
      have hz0 := HP0.out k
      obtain ⟨S, hSe⟩ : ∃ S, S = wo.heap.size := ⟨_, rfl⟩
      rw [← hSe] at HS2 HR2 hgs hsz2
      clear HOW ho2 hr2 hb2 HBW hSe HCQ
      go_loopw [23] (fun i wr => ∃ p : Nat, p ≤ D ∧ i = .int .i64 p ∧ Hid (wr.ownsRow go 3 1 (.slice (some ⟨go, 0, none⟩) N N) N (intVals (mkB n g k (parS M n k p)))) ∧ Hid (wr.ownsRow S 39 1 (.slice (some ⟨gs2, 0, none⟩) D cs2) D vs) ∧ Hid (TRows 3 wr S vs SI) ∧ Hid (Below w.heap.size w wr) ∧ go < wr.heap.size ∧ S ≤ wr.heap.size) (fun i _ => D - (intOf i).toNat)
      case atStart => exact ⟨0, by omega, rfl, by rw [hz0]; exact HO2, HS2, HR2, HB2, hgs2, hsz2⟩
      case round =>
        clear HO2 HS2 HR2 HB2 hgs2 hsz2 hz0
        obtain ⟨p, hp, rfl, HO2, HS2, HR2, HB2, hgs2, hsz2⟩ := hrel
        by_cases hlp : p < D
        · have hpi : (p : Int) < (D : Int) := by omega
          obtain ⟨L, hLg, hLl, hLn, hLp⟩ := HGk.out p hlp
          obtain ⟨x, hx⟩ := get_some (l := vs) (n := p) (by rw [HR2.out.len, ← HDE.out]; exact hlp)
          have hrow := HR2.out.own p x (intL L) hx hLg
          rw [intL_len, hLl, intL_vals] at hrow
          obtain ⟨ax, cx, rfl, hrowx⟩ := owns_rowAt hrow (by omega)
          have hcx := (HS2.out.cellAt p (by omega)).trans hx
          have hb1 := HPBk.out p
          have hb2' := HPBk.out (p + 1)
          have hdb := HDBk.out L hLl hLn
          have HLP := hid hLp
          rw [hLp] at hb2'
          obtain ⟨u, hu⟩ : ∃ u, u = parS M n k p := ⟨_, rfl⟩
          obtain ⟨d, hd⟩ : ∃ d, d = detL M L := ⟨_, rfl⟩
          have HDQ := hid (fun (am : Option Addr) (cm : Nat) (V : World) (ht : TabC V am k (partRC M L L)) => show Calls Tryz.prog 140 #[.slice am k cm] V fun e w' => e = .returned (.int .i64 d) ∧ Below V.heap.size V w' from by rw [hd]; exact HDTk.out am cm L V hLl hLn ht)
          have HPQ := hid (fun (V : World) (hV : Below wr.heap.size wr V) => HPAk.out ax cx L V (HB2.out.trans (hV.mono HB2.out.size)) (hrowx.below hV (Nat.le_refl _)) hLn hLl)
          have hcu := (HO2.out.cellAt q (by omega)).trans (intVals_get (HATk.out (parS M n k p)))
          have HUE := hid hu
          have HKEEP := hid (fun (V : World) (hV : Below wr.heap.size wr V) (u' : Int) => show (V.setCell ⟨go, q, none⟩ (.int .i64 u')).ownsRow go 3 1 (.slice (some ⟨go, 0, none⟩) N N) N (intVals (mkB n g k u')) ∧ (V.setCell ⟨go, q, none⟩ (.int .i64 u')).ownsRow S 39 1 (.slice (some ⟨gs2, 0, none⟩) D cs2) D vs ∧ TRows 3 (V.setCell ⟨go, q, none⟩ (.int .i64 u')) S vs SI ∧ Below w.heap.size w (V.setCell ⟨go, q, none⟩ (.int .i64 u')) ∧ go < (V.setCell ⟨go, q, none⟩ (.int .i64 u')).heap.size ∧ S ≤ (V.setCell ⟨go, q, none⟩ (.int .i64 u')).heap.size from by
            have h1 := (owns_below HO2.out hV).stored q (.int .i64 u')
            rw [intVals_put, HSETk.out] at h1
            have hsV := hV.size
            refine ⟨h1.1, own_setB (owns_below HS2.out hV) hgs _ _, (HR2.out.below hV).setC hgs _, (HB2.out.trans (hV.mono HB2.out.size)).setCell hgw _, ?_, ?_⟩
            · show go < (V.setCell ⟨go, q, none⟩ (.int .i64 u')).heap.size
              simp; omega
            · show S ≤ (V.setCell ⟨go, q, none⟩ (.int .i64 u')).heap.size
              simp; omega)
          have HFR := hid (fun (V : World) (hV : Below wr.heap.size wr V) => (owns_below HO2.out hV).frozenAt q)
          rw [← hu, ← hd] at hb2' HLP
          rw [← hu] at hcu hb1
          rw [← hd] at hdb
          have hw1 : IntKind.i64.wrap (s * d) = s * d := IntWalk.i64_in _ (by rcases hsgn with h | h <;> rw [h] <;> omega)
          have hw3 : IntKind.i64.wrap (u + s * d) = u + s * d := IntWalk.i64_in _ (by omega)
          obtain ⟨z, hzz⟩ : ∃ z, z = u + s * d := ⟨_, rfl⟩
          have HZE := hid (show parS M n k (p + 1) = z by rw [HLP.out, hzz])
          have hw5 : IntKind.i64.wrap (u + s * d) = z := by rw [hzz]; exact hw3
          have hcu0 := hcu
          clear hrow hrowx hLp hu hd hb1 hb2' hdb hw3 hzz hx hLg hLn hLl
          go_wp2
          have hcud : wr.drew.cell? ⟨go, q, none⟩ = some (.int .i64 u) := hcu
          obtain ⟨S', hSd⟩ : ∃ S' : World → Prop, S' = fun V => V.cell? ⟨go, q, none⟩ = some (.int .i64 u) := ⟨_, rfl⟩
          have HSO := hid (show ∀ V, S' V → V.cell? ⟨go, q, none⟩ = some (.int .i64 u) from fun V hV => by rw [hSd] at hV; exact hV)
          have hS0 : S' wr.drew := by rw [hSd]; exact hcud
          have HSK := hid (show ∀ V, Below wr.heap.size wr V → S' V from fun V hb => by
            rw [hSd]; exact (hb.cell (p := ⟨go, q, none⟩) hgs2).trans hcu0)
          clear hSd hcud
          refine wp_region_T (S := S') 14 (by kernel_rfl) ?_
          (refine wpAnyT_take (i := 0) (v := ?v0) rfl (by kernel_rfl) (by kernel_rfl) (by kernel_rfl) (by kernel_rfl) (fun _ _ _ h => h) (Or.inl ⟨by rfl, ?y0⟩) (by assumption) ?r0; case y0 => (intro V hSw; have hSw := HSO.out V hSw; go_split_ands; go_simp; first | done | with_reducible rfl); try simp only [Act.put, List.setIfInBounds_toArray, List.set_cons_zero, List.set_cons_succ])
          (refine wpAnyT_take (i := 1) (v := ?v1) rfl (by kernel_rfl) (by kernel_rfl) (by kernel_rfl) (by kernel_rfl) (fun _ _ _ h => h) (Or.inl ⟨by rfl, ?y1⟩) (by assumption) ?r1; case y1 => (intro V hSw; have hSw := HSO.out V hSw; go_split_ands; go_simp; first | done | with_reducible rfl); try simp only [Act.put, List.setIfInBounds_toArray, List.set_cons_zero, List.set_cons_succ])
          (refine wpAnyT_take (i := 2) (v := ?v2) rfl (by kernel_rfl) (by kernel_rfl) (by kernel_rfl) (by kernel_rfl) (fun _ _ _ h => h) (Or.inl ⟨by rfl, ?y2⟩) (by assumption) ?r2; case y2 => (intro V hSw; have hSw := HSO.out V hSw; go_split_ands; go_simp; first | done | with_reducible rfl); try simp only [Act.put, List.setIfInBounds_toArray, List.set_cons_zero, List.set_cons_succ])
          (refine wpAnyT_take (i := 3) (v := ?v3) rfl (by kernel_rfl) (by kernel_rfl) (by kernel_rfl) (by kernel_rfl) (fun _ _ _ h => h) (Or.inl ⟨by rfl, ?y3⟩) (by assumption) ?r3; case y3 => (intro V hSw; have hSw := HSO.out V hSw; go_split_ands; go_simp; first | done | with_reducible rfl); try simp only [Act.put, List.setIfInBounds_toArray, List.set_cons_zero, List.set_cons_succ])
          (refine wpAnyT_take (i := 4) (v := ?v4) rfl (by kernel_rfl) (by kernel_rfl) (by kernel_rfl) (by kernel_rfl) (fun _ _ _ h => h) (Or.inl ⟨by rfl, ?y4⟩) (by assumption) ?r4; case y4 => (intro V hSw; have hSw := HSO.out V hSw; go_split_ands; go_simp; first | done | with_reducible rfl); try simp only [Act.put, List.setIfInBounds_toArray, List.set_cons_zero, List.set_cons_succ])
          (refine wpAnyT_take (i := 5) (v := ?v5) rfl (by kernel_rfl) (by kernel_rfl) (by kernel_rfl) (by kernel_rfl) (fun _ _ _ h => h) (Or.inl ⟨by rfl, ?y5⟩) (by assumption) ?r5; case y5 => (intro V hSw; have hSw := HSO.out V hSw; go_split_ands; go_simp; first | done | with_reducible rfl); try simp only [Act.put, List.setIfInBounds_toArray, List.set_cons_zero, List.set_cons_succ])
          (refine wpAnyT_take (i := 6) (v := ?v6) rfl (by kernel_rfl) (by kernel_rfl) (by kernel_rfl) (by kernel_rfl) (fun _ _ _ h => h) (Or.inl ⟨by rfl, ?y6⟩) (by assumption) ?r6; case y6 => (intro V hSw; have hSw := HSO.out V hSw; go_split_ands; go_simp; first | done | with_reducible rfl); try simp only [Act.put, List.setIfInBounds_toArray, List.set_cons_zero, List.set_cons_succ])
          (refine wpAnyT_take (i := 7) (v := ?v7) rfl (by kernel_rfl) (by kernel_rfl) (by kernel_rfl) (by kernel_rfl) (fun _ _ _ h => h) (Or.inl ⟨by rfl, ?y7⟩) (by assumption) ?r7; case y7 => (intro V hSw; have hSw := HSO.out V hSw; go_split_ands; go_simp; first | done | with_reducible rfl); try simp only [Act.put, List.setIfInBounds_toArray, List.set_cons_zero, List.set_cons_succ])
          (refine wpAnyT_take (i := 8) (v := ?v8) rfl (by kernel_rfl) (by kernel_rfl) (by kernel_rfl) (by kernel_rfl) (fun _ _ _ h => h) (Or.inl ⟨by rfl, ?y8⟩) (by assumption) ?r8; case y8 => (intro V hSw; have hSw := HSO.out V hSw; go_split_ands; go_simp; first | done | with_reducible rfl); try simp only [Act.put, List.setIfInBounds_toArray, List.set_cons_zero, List.set_cons_succ])
          refine wpAnyT_step (i := 9) rfl (by kernel_rfl) (by decide) (fun K hK => ?_)
          go_simp
          go_at_call 141
          refine (HPQ.out _ (Below.refl _ _).drew).mono ?_
          rintro e w3 ⟨am, cm, rfl, htm, hb3⟩
          have hbZ := (Below.refl wr.heap.size wr).drew.trans hb3
          go_wp2_with fail
          refine hK.out _ _ (HSK.out _ hbZ) ?_
          clear hK K
          try simp only [Act.put, List.setIfInBounds_toArray, List.set_cons_zero, List.set_cons_succ]
          refine wpAnyT_step (i := 10) rfl (by kernel_rfl) (by decide) (fun K hK => ?_)
          go_simp
          go_at_call 140
          refine (HDQ.out am cm _ htm).mono ?_
          rintro e w4 ⟨rfl, hb4⟩
          have hbZ := hbZ.trans (hb4.mono hbZ.size)
          go_wp2_with fail
          have hS4 := HSK.out _ hbZ
          refine hK.out _ _ hS4 ?_
          clear hK K
          try simp only [Act.put, List.setIfInBounds_toArray, List.set_cons_zero, List.set_cons_succ]
          (refine wpAnyT_take (i := 11) (v := ?v11) rfl (by kernel_rfl) (by kernel_rfl) (by kernel_rfl) (by kernel_rfl) (fun _ _ _ h => h) (Or.inl ⟨by rfl, ?y11⟩) (by assumption) ?r11; case y11 => (intro V hSw; have hSw := HSO.out V hSw; go_split_ands; go_simp; first | done | with_reducible rfl); try simp only [Act.put, List.setIfInBounds_toArray, List.set_cons_zero, List.set_cons_succ])
          (refine wpAnyT_take (i := 12) (v := ?v12) rfl (by kernel_rfl) (by kernel_rfl) (by kernel_rfl) (by kernel_rfl) (fun _ _ _ h => h) (Or.inl ⟨by rfl, ?y12⟩) (by assumption) ?r12; case y12 => (intro V hSw; have hSw := HSO.out V hSw; go_split_ands; go_simp; first | done | with_reducible rfl); try simp only [Act.put, List.setIfInBounds_toArray, List.set_cons_zero, List.set_cons_succ])
          (refine wpAnyT_take (i := 13) (v := ?v13) rfl (by kernel_rfl) (by kernel_rfl) (by kernel_rfl) (by kernel_rfl) (fun _ _ _ h => h) (Or.inl ⟨by rfl, ?y13⟩) (by assumption) ?r13; case y13 => (intro V hSw; have hSw := HSO.out V hSw; go_split_ands; go_simp; first | done | with_reducible rfl); try simp only [Act.put, List.setIfInBounds_toArray, List.set_cons_zero, List.set_cons_succ])
          have hK4 := HKEEP.out w4 hbZ z
          have hfr4 := HFR.out w4 hbZ
          have hcu4 := HSO.out _ (HSK.out _ hbZ)
          rw [← HZE.out] at hK4
          have HK4 := hid hK4
          clear hK4 HKEEP HFR hcu hcu0
          refine wpAnyT_last rfl (by kernel_rfl) (by kernel_rfl) (fun K hK => ?_)
          go_simp
          refine hK.out _ _ ?_
          clear hK K
          go_wp2
          go_roundw
          case rel =>
            obtain ⟨k1, k2, k3, k4, k5, k6⟩ := HK4.out
            rw [HZE.out] at k1 k2 k3 k4 k5 k6
            exact ⟨p + 1, by omega, by go_num, by rw [HZE.out]; exact hid k1, hid k2, hid k3, hid k4, k5, k6⟩
          case measure => simp [intOf]; omega
        · obtain rfl : p = D := by omega
          have HO3 := hid (show wr.ownsRow go 3 1 (.slice (some ⟨go, 0, none⟩) N N) N (intVals (mkB n g (k + 1) 0)) from by rw [← HNXk.out, ← HPEk.out]; exact HO2.out)
          clear HO2 HS2 HR2
          go_wp2
          go_roundw
          case rel => exact ⟨k + 1, by omega, by go_num, by rw [HSGk.out], HO3, HB2, hgs2⟩
          case measure => simp [intOf]; omega
    · have HKN := hid (show k = N by have := HNE.out; omega)
      have hki : (n : Int) < (k : Int) := by omega
      have HF := hid (show RowAt wo (some ⟨go, 0, none⟩) N (intVals (mkB n g N 0)) from by
        have := HKN.out
        subst this
        obtain ⟨ax, cx, he, hrw⟩ := owns_rowAt HOW.out (by omega)
        simp only [Value.slice.injEq] at he
        obtain ⟨rfl, -, -⟩ := he
        exact hrw)
      go_wp2
      go_ret
      exact ⟨go, rfl, HF.out, HBW.out⟩
end Go.Proofs.YtpfeflhcbcgbfaaGreatDoor
