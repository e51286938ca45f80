/- Labelled graphs: what is left of some states, the reference's way. Conditions: a valid labelled graph. -/
import Derived.StillTail
import Derived.OrdersHeld
import Derived.Deep.RegionHeld3
import Derived.Deep.AppendLies
import Derived.Test.YtpfeflhcbcgbfaaDoorBoxC
import Derived.Test.YtpfeflhcbcgbfaaDoorTrimA
import Derived.Test.YtpfeflhcbcgbfaaDoorKeepQ
import Derived.Test.YtpfeflhcbcgbfaaDoorRunL
namespace Go.Proofs.YtpfeflhcbcgbfaaDoor
open Go.RowKit
section
variable {P : Program} {ops : Array Oper} {Q : Exit → Act → World → Prop} {md : Region.Mode} {S : World → Prop} {n : Nat}
/-- As the kit's 'wpAnyH', but S is asked behind all operations but number n. -/
def wpAnyT (P : Program) (md : Region.Mode) (ops : Array Oper) (Q : Exit → Act → World → Prop) (S : World → Prop) (n : Nat) : Nat → Array Bool → Act → World → Prop
  | 0, listed, a, w => Region.ready md ops listed = [] ∧ Q .normal a w
  | fuel + 1, listed, a, w =>
    (Region.ready md ops listed = [] → Q .normal a w) ∧
    ∀ i ∈ Region.ready md ops listed, wpOp P ops Q i (fun a' w' => (i ≠ n → S w') ∧ wpAnyT P md ops Q S n fuel (listed.setIfInBounds i true) a' w') a w
theorem wpAny_of_T : ∀ (fuel : Nat) (listed : Array Bool) (a : Act) (w : World), wpAnyT P md ops Q S n fuel listed a w → wpAny P md ops Q fuel listed a w
  | 0, _, _, _, h => h
  | fuel + 1, _, _, _, h => ⟨h.1, fun i hi => wpOp_mono (fun a' w' h' => wpAny_of_T fuel _ a' w' h'.2) (h.2 i hi)⟩
theorem wpAnyT_first {i : Nat} {oi : Oper} {v : Value} (hi : ops[i]? = some oi) (hsel : ∀ (j : Nat) (o : Oper) cs b, ops[j]? = some o → o.op ≠ .select cs b)
    (hQ : ∀ c a w, Q (.panic c) (a.put oi.dst v) w → Q (.panic c) a w)
    (hs : Region.sinkB md ops n = true) (hc : Region.chainB md ops n = true) (hn : n < ops.size) (hin : i < n) :
    ∀ (fuel : Nat) (listed : Array Bool) (a : Act) (w : World), HeadInv md ops n listed →
      (∀ j oj, ops[j]? = some oj → j ≠ i → listed.getD j true = false → (∀ e ∈ oj.after, Region.binds md e = true → e.on ≠ i) → oi.apart ops oj = true) →
      i ∈ Region.ready md ops listed → YieldsIf P ops S oi v a → S w →
      wpAnyT P md ops Q S n fuel (listed.setIfInBounds i true) (a.put oi.dst v) w → wpAnyT P md ops Q S n (fuel + 1) listed a w := by
  intro fuel
  induction fuel with
  | zero =>
    intro listed a w _ _ hr hy hS H
    refine ⟨fun h => (by rw [h] at hr; cases hr), fun j hj => ?_⟩
    by_cases hji : j = i
    · subst hji; exact hy.wpOp hi hS ⟨fun _ => hS, H⟩
    · have := ready_mono hj hji
      rw [H.1] at this
      cases this
  | succ fuel ih =>
    intro listed a w inv hfree hr hy hS H
    have hun := (mem_ready.1 hr).1
    refine ⟨fun h => (by rw [h] at hr; cases hr), fun j hj => ?_⟩
    by_cases hji : j = i
    · subst hji; exact hy.wpOp hi hS ⟨fun _ => hS, H⟩
    · have hjn : j < n := by
        rcases Nat.lt_or_ge j n with h | h
        · exact h
        · exact absurd hj (tail_waits hs hc hn inv _ i rfl hin hun j h)
      have h1 := H.2 j (ready_mono hj hji)
      obtain ⟨hjun, oj, hoj, hall⟩ := mem_ready.1 hj
      have hnot : ∀ e ∈ oj.after, Region.binds md e = true → e.on ≠ i := fun e he hb heq => by
        have h1 := hall e he hb
        rw [heq, getD_both hun] at h1
        cases h1
      have h2 := wpOp_putIf hoj (hfree j oj hoj hji hjun hnot) (fun cs b => hsel i oi cs b hi) (fun cs b => hsel j oj cs b hoj) hQ hy h1
      have hfree' : ∀ k ok, ops[k]? = some ok → k ≠ i → (listed.setIfInBounds j true).getD k true = false →
          (∀ e ∈ ok.after, Region.binds md e = true → e.on ≠ i) → oi.apart ops ok = true := fun k ok hk hki hun hno => by
        refine hfree k ok hk hki ?_ hno
        by_cases hjk : j = k
        · subst hjk; exact hjun
        · rw [getD_set_ne true hjk] at hun; exact hun
      refine wpOp_mono (fun a' w' h3 => ?_) h2
      have hS' := h3.2.1 (by omega)
      refine ⟨fun _ => hS', ih (listed.setIfInBounds j true) a' w' (inv.set hj hjn) hfree' (ready_mono hr (Ne.symm hji)) h3.1 hS' ?_⟩
      rw [Array.setIfInBounds_comm _ _ hji]
      exact h3.2.2
/-- Take number i first. -/
theorem wpAnyT_take {i : Nat} {oi : Oper} {v : Value} {fuel : Nat} {listed : Array Bool} {a : Act} {w : World} (hi : ops[i]? = some oi)
    (hsl : Region.noSelect ops = true) (hT : (Region.sinkB md ops n && Region.chainB md ops n && decide (n < ops.size) && decide (i < n)) = true)
    (hf : Region.free md ops listed i = true) (hr : (Region.ready md ops listed).contains i = true)
    (hQ : ∀ c a w, Q (.panic c) (a.put oi.dst v) w → Q (.panic c) a w) (hy : YieldsIf P ops S oi v a) (hS : S w)
    (h : HeadInv md ops n (listed.setIfInBounds i true) → wpAnyT P md ops Q S n fuel (listed.setIfInBounds i true) (a.put oi.dst v) w) : HeadInv md ops n listed → wpAnyT P md ops Q S n (fuel + 1) listed a w := fun inv => by
  simp only [Bool.and_eq_true, decide_eq_true_eq] at hT
  obtain ⟨⟨⟨h1, h2⟩, h3⟩, h4⟩ := hT
  have hr' : i ∈ Region.ready md ops listed := by simpa using hr
  exact wpAnyT_first hi (Region.noSelect_spec hsl) hQ h1 h2 h3 h4 fuel listed a w inv (Region.free_spec hi hf) hr' hy hS (h (inv.set hr' h4))
/-- Number i comes up alone. -/
theorem wpAnyT_step {i : Nat} {o : Oper} {fuel : Nat} {listed : Array Bool} {a : Act} {w : World} (ho : ops[i]? = some o) (hr : Region.ready md ops listed = [i]) (hin : i < n)
    (h : ∀ K' : Act → World → Prop, Shut (∀ a w, S w → (HeadInv md ops n (listed.setIfInBounds i true) → wpAnyT P md ops Q S n fuel (listed.setIfInBounds i true) a w) → K' a w) → if Region.wanted o (yielded ops a.tmps) = true then Oper.wp P o a w K' Q else K' (a.put o.dst undef) w) :
    HeadInv md ops n listed → wpAnyT P md ops Q S n (fuel + 1) listed a w := fun inv => by
  have hi : i ∈ Region.ready md ops listed := by rw [hr]; exact List.mem_singleton.2 rfl
  refine ⟨fun h0 => (by rw [hr] at h0; cases h0), fun j hj => ?_⟩
  rw [hr] at hj
  obtain rfl := List.mem_singleton.1 hj
  exact wpOp_step ho (fun K' hK => h K' (fun a w hS hW => hK a w ⟨fun _ => hS, hW (inv.set hi hin)⟩))
/-- The last one. -/
theorem wpAnyT_last {o : Oper} {fuel : Nat} {listed : Array Bool} {a : Act} {w : World} (ho : ops[n]? = some o) (hr : Region.ready md ops listed = [n]) (hd : Region.ready md ops (listed.setIfInBounds n true) = [])
    (h : ∀ K' : Act → World → Prop, Shut (∀ a w, Q .normal a w → K' a w) → if Region.wanted o (yielded ops a.tmps) = true then Oper.wp P o a w K' Q else K' (a.put o.dst undef) w) :
    HeadInv md ops n listed → wpAnyT P md ops Q S n (fuel + 1) listed a w := fun _ => by
  refine ⟨fun h0 => (by rw [hr] at h0; cases h0), fun j hj => ?_⟩
  rw [hr] at hj
  obtain rfl := List.mem_singleton.1 hj
  refine wpOp_step ho (fun K' hK => h K' (fun a w hq => hK a w ⟨fun h => absurd rfl h, ?_⟩))
  cases fuel with
  | zero => exact ⟨hd, hq⟩
  | succ f => exact ⟨fun _ => hq, by rw [hd]; simp⟩
/-- The beginning. -/
theorem wp_region_T {id : Nat} {a : Act} {w : World} (n : Nat) (hm : P.follows .mixedOrders = true)
    (h : HeadInv .any ops n (Array.replicate ops.size false) → wpAnyT P .any ops Q S n ops.size (Array.replicate ops.size false) a w.drew) : (Code.region id ops true).wp P Q a w := by
  have inv0 : HeadInv .any ops n (Array.replicate ops.size false) :=
    ⟨by simp, fun j oj _ hl => (by rw [getD_replicate_false] at hl; cases hl), fun t _ ht => getD_in (by simpa using ht) (getD_replicate_false _ _)⟩
  exact wp_region_any hm (wpAny_of_T _ _ _ _ (h inv0))
end
end Go.Proofs.YtpfeflhcbcgbfaaDoor
namespace Go.Proofs.YtpfeflhcbcgbfaaDoor
open Go.RowKit

def labV (L S : Nat) (g : Option Addr) (m c : Nat) : Value := .agg #[.int .i64 L, .int .i64 S, .slice g m c]
/-- A labelled graph of the call's own. -/
def LabsPost (L S : Nat) (A : List (Nat × Nat × Nat)) (w : World) (e : Ending) (w' : World) : Prop :=
  ∃ g c, e = .returned (labV L S g A.length c) ∧ w'.ownsRow w.heap.size 53 3 (.slice g A.length c) A.length (arcVals (arcN A)) ∧ Below w.heap.size w w'
theorem slice_form {w : World} {base e s n : Nat} {v : Value} {xs : List Value} (h : w.ownsRow base e s v n xs) : ∃ g c, v = .slice g n c := by
  rcases h.2 with ⟨rfl, rfl⟩ | ⟨g, cap, cur, rfl, _⟩
  · exact ⟨none, 0, rfl⟩
  · exact ⟨_, cap, rfl⟩
theorem keep_cell {w : World} {a : Option Addr} {S i : Nat} {K : Nat → Bool} (h : RowAt w a S (boolVals (rowB K S))) (hi : i < S) : ∃ b off, a = some ⟨b, off, none⟩ ∧ b < w.heap.size ∧ ∀ j, j < S → w.cell? ⟨b, off + j, none⟩ = some (.bool (K j)) := by
  obtain ⟨b, off, rfl, hb, hc⟩ := h.at_ (by omega)
  exact ⟨b, off, rfl, hb, fun j hj => hc j _ (rowB_get hj)⟩
/-- An arc appended in a region that draws its order. -/
theorem step_appA {P : Program} {wr : World} {ops : Array Oper} {o : Oper} {a : Act} {K : Act → World → Prop} {Q : Exit → Act → World → Prop} {E : Prop}
    (hg : o.guard = none) (s x : Operand) (t : TypeId) (hop : o.op = Op.call { callee := Callee.builtin Builtin.append, args := #[s, x], argTypes := #[t, t] })
    (B : Nat) (e : TypeId) (h1 : P.underlying t = some (.slice e)) (hinfo : (P.info? e).map (fun i => (i.zero, i.size, i.bytes)) = some (some (.agg #[.int .i64 0, .int .i64 0, .int .i64 0]), 3, 24))
    (v : Value) (m : Nat) (xs : List Value) (x0 x1 x2 : Int) (hown : wr.ownsRow B e 3 v m xs) (hs : a.eval s = v) (hx : a.eval x = .slice (some ⟨wr.heap.size, 0, none⟩) 1 1)
    (hlim : m ≤ 1048576) (hB : B ≤ wr.heap.size)
    (hK : ∀ g' c' w1, w1.ownsRow B e 3 (.slice (some ⟨g', 0, none⟩) (m + 1) c') (m + 1) (xs ++ [.int .i64 x0, .int .i64 x1, .int .i64 x2]) → Below B wr w1 → wr.grownBy w1 v.ownBlock → K (a.put o.dst (.slice (some ⟨g', 0, none⟩) (m + 1) c')) w1) :
    if Region.wanted o (yielded ops a.tmps) = true then Oper.wp P o a (wr.alloc (.cells #[.int .i64 x0, .int .i64 x1, .int .i64 x2] e)) K Q else E := by
  obtain ⟨i, hi, hz, hz1, hz2⟩ := info_parts hinfo
  refine step_append_lies _ hg s x t hop B e i _ 3 24 h1 hi hz hz1 hz2 rfl (by decide) v m xs hs (hown.alloc _) ⟨wr.heap.size, 0, none⟩ 1 1 (intVals [x0, x1, x2]) hx rfl ?_ (by intro u hu; obtain ⟨x, _, rfl⟩ := List.mem_map.1 hu; rfl) (by omega) (by unfold maxLen; omega) (by omega) (by simp; omega) (wr.heap.size + 1) (by simp) ?_
  · intro j y hj
    have ha : (⟨wr.heap.size, 0, none⟩ : Addr).add j = ⟨wr.heap.size, j, none⟩ := by
      unfold Addr.add
      split
      · rename_i h0; subst h0; rfl
      · simp
    rw [ha, World.cell?_alloc_at _ _ _ _ rfl]
    rw [← hj]
    simp [intVals]
  · intro g cap w1 hown' hgrow _ _
    exact hK g cap w1 hown' (((Below.refl _ _).alloc hB _).grown hgrow (by simp; omega) (fun k hk => (hown.lt k hk).1)) (grown_trans (World.grownBy_alloc _ _ _) hgrow)
set_option maxHeartbeats 4000000 in
set_option maxRecDepth 100000 in
theorem l14Keep_c (L S : Nat) (a ak : Option Addr) (n c ck : Nat) (G : List (Nat × Nat × Nat)) (K : Nat → Bool) (w : World) (hr : RowAt w a (n * 3) (arcVals (arcN G))) (hk : RowAt w ak S (boolVals (rowB K S))) (hG : LabG L S G) (hn : n ≤ 1000000) :
    Calls Tryd.prog 62 #[.agg #[.int .i64 L, .int .i64 S, .slice a n c], .slice ak S ck] w (LabsPost L (numTo K S) (keepG K G) w) := by
  have h12 := hG.s12
  have h1 := hG.s1
  have HAR := hid (garcs_at hr (Below.refl _ _))
  obtain ⟨bk, ok, rfl, hbk, hck⟩ := keep_cell hk h1
  have HKK := hid (fun (V : World) (hV : Below w.heap.size w V) (j : Nat) (hj : j < S) => show V.cell? ⟨bk, ok + j, none⟩ = some (.bool (K j)) from (hV.cell (p := ⟨bk, ok + j, none⟩) hbk).trans (hck j hj))
  have HGL := hid hG
  obtain ⟨ti, hi, hz, hz1, hz2⟩ := info_parts infoIntZ
  unfold LabsPost labV
  clear hr hk hG hck
  obtain ⟨W2, hW2⟩ : ∃ W2, W2 = (w.alloc (.cells #[.int .i64 L, .int .i64 S, .slice a n c] 29)).alloc (.cells #[.int .i64 0, .int .i64 0, .slice none 0 0] 29) := ⟨_, rfl⟩
  have hs2 : W2.heap.size = w.heap.size + 1 + 1 := by rw [hW2]; simp
  have HBX := hid (fun (V : World) (hV : Below W2.heap.size W2 V) => show BoxC V w.heap.size #[.int .i64 L, .int .i64 S, .slice a n c] ∧ BoxC V (w.heap.size + 1) #[.int .i64 0, .int .i64 0, .slice none 0 0] ∧ Below w.heap.size w V from by
    rw [hW2] at hV
    obtain ⟨⟨c0, f0⟩, ⟨c1, f1⟩, h4, h5⟩ := box2 hV
    exact ⟨⟨by omega, c0, f0⟩, ⟨h4, c1, f1⟩, h5⟩)
  go_enter Tryd.func62, Tryd.ntmps62
  go_wp2_with (first | (at_make; refine wpList_make_full _ rfl _ _ 41 rfl (w.heap.size + 1 + 1) 3 ti (.int .i64 0) 1 Tryd.underlying41 hi hz hz1 .i64 .i64 _ _ S rfl rfl rfl rfl (by rw [hz2]; omega) (by unfold maxLen; omega) (by simp) ?_; intro w1 hown1 hgr1; rw [← hW2] at hgr1 hown1; rw [hs2] at hown1; have hb1 : Below W2.heap.size W2 w1 := (Below.refl _ _).grown hgr1 (Nat.le_refl _) (by intro k h; cases h); obtain ⟨HX0, HX1, hbw⟩ := HBX.out w1 hb1; obtain ⟨p0, p1, p2⟩ := HX0.c3.1))
  have hN1 : w.heap.size + 1 + 1 < w1.heap.size := (hown1.lt _ rfl).2
  rw [← numV_zero K S] at hown1
  obtain ⟨W4, hW4⟩ : ∃ W4, W4 = w1.alloc (.cells #[.int .i64 L, .int .i64 0, .slice none 0 0] 29) := ⟨_, rfl⟩
  obtain ⟨bO, hbO⟩ : ∃ bO, bO = w1.heap.size := ⟨_, rfl⟩
  have HQ0 := hid (show KeepQ 3 53 w W4 w.heap.size (w.heap.size + 1) (w.heap.size + 1 + 1) bO (bO + 1) #[.int .i64 L, .int .i64 S, .slice a n c] #[.int .i64 0, .int .i64 0, .slice none 0 0] S (numV K S 0) (.int .i64 L) (.int .i64 ((numTo K 0 : Nat) : Int)) (.slice none 0 0) 0 (arcVals (arcN (keepG K (G.take 0)))) from by
    have hz4 : W4.heap.size = bO + 1 := by rw [hW4, hbO]; simp
    have hb4 : Below w1.heap.size w1 W4 := by rw [hW4]; exact (Below.refl _ _).alloc (Nat.le_refl _) _
    exact ⟨hbw.trans (hb4.mono hbw.size), by omega, by omega, HX0.below hb4, HX1.below hb4, owns_below hown1 hb4, by rw [hW4, hbO]; exact BoxC.new _ _ _, World.ownsRow_nil _ _ _ _⟩)
  rw [← hW4, ← hbO]
  clear hW4 hbO hown1 hgr1 hb1 hbw HX0 HX1 p0 p1 p2 HBX hW2
  go_loopw [7] (fun i wr => ∃ q : Nat, q ≤ S ∧ i = .int .i64 q ∧ KeepQ 3 53 w wr w.heap.size (w.heap.size + 1) (w.heap.size + 1 + 1) bO (bO + 1) #[.int .i64 L, .int .i64 S, .slice a n c] #[.int .i64 0, .int .i64 0, .slice none 0 0] S (numV K S q) (.int .i64 L) (.int .i64 ((numTo K q : Nat) : Int)) (.slice none 0 0) 0 (arcVals (arcN (keepG K (G.take 0))))) (fun i _ => S - (intOf i).toNat)
  case atStart => exact ⟨0, by omega, rfl, HQ0.out⟩
  case round =>
    obtain ⟨q, hq, rfl, HQ⟩ := hrel
    obtain ⟨p0, p1, p2⟩ := HQ.b0.c3.1
    by_cases hlt : q < S
    · have hkc := HKK.out wr HQ.bel q hlt
      obtain ⟨⟨o0, o1, o2⟩, f0, f1, f2⟩ := HQ.b3.c3
      have hqi : (q : Int) < (S : Int) := by omega
      have hnc := (HQ.num.cellAt q (by omega)).trans (numV_get hlt)
      rw [if_neg (by omega)] at hnc
      have hnf := HQ.num.frozenAt q
      have hord := HQ.ord
      have hne1 : ¬ (bO = w.heap.size + 1 + 1) := by omega
      have hne2 : ¬ (w.heap.size + 1 + 1 = bO) := by omega
      have hm := numTo_le K q
      have HQH := hid HQ
      have HYES := hid (fun h : K q = true => numV_yes (S := S) h hlt)
      have HNO := hid (fun h : K q = false => numV_no (S := S) h)
      have HY2 := hid (fun h : K q = true => numTo_yes h)
      have HN2 := hid (fun h : K q = false => numTo_no h)
      obtain ⟨x, hx⟩ : ∃ x, x = K q := ⟨_, rfl⟩
      obtain ⟨y, hy⟩ : ∃ y, y = numTo K q := ⟨_, rfl⟩
      rw [← hx] at hkc HYES HNO HY2 HN2
      rw [← hy] at o1 HY2 HN2 hm HYES HQH
      clear hx hy HQ hord
      cases x
      · have H1 := hid (HNO.out rfl)
        have H2 := hid (HN2.out rfl)
        clear HYES HNO HY2 HN2
        go_wp2
        go_roundw
        case rel => exact ⟨q + 1, by omega, by go_num, by rw [H1.out, H2.out]; exact HQH.out⟩
        case measure => simp [intOf] <;> omega
      · have H1 := hid (HYES.out rfl)
        have H2 := hid (HY2.out rfl)
        clear HYES HNO HY2 HN2
        go_wp2
        go_roundw
        case rel => exact ⟨q + 1, by omega, by go_num, by
          have h1 := (HQH.out.setNum q (.int .i64 (y : Int))).setQ (.int .i64 ((y : Int) + 1))
          rw [H1.out] at h1
          rw [H2.out]
          exact h1⟩
        case measure => simp [intOf] <;> omega
    · obtain rfl : q = S := by omega
      have HQ0 := hid HQ
      clear HQ
      go_wp2
      go_loopw [8] (fun i wr => ∃ (k : Nat) (v : Value), k ≤ n ∧ i = .int .i64 k ∧ KeepQ 3 53 w wr w.heap.size (w.heap.size + 1) (w.heap.size + 1 + 1) bO (bO + 1) #[.int .i64 L, .int .i64 q, .slice a n c] #[.int .i64 0, .int .i64 0, .slice none 0 0] q (numV K q q) (.int .i64 L) (.int .i64 ((numTo K q : Nat) : Int)) v (keepG K (G.take k)).length (arcVals (arcN (keepG K (G.take k))))) (fun i _ => n - (intOf i).toNat)
      case atStart => exact ⟨0, _, by omega, rfl, HQ0.out⟩
      case round =>
        clear HQ0 p0 p1 p2
        obtain ⟨k, v, hk, rfl, HQ⟩ := hrel
        obtain ⟨p0, p1, p2⟩ := HQ.b0.c3.1
        by_cases hlt : k < n
        · obtain ⟨y, hy⟩ := get_some (l := G) (n := k) (by rw [HAR.out.1]; exact hlt)
          obtain ⟨b1, off1, rfl, hb1, hc1⟩ := HAR.out.2 k y hy
          have hya := HGL.out.arc y (List.mem_of_getElem? hy)
          have HYES := hid (fun h : keepArc K y = true => keepG_yes hy h)
          have HNO := hid (fun h : keepArc K y = false => keepG_no hy h)
          obtain ⟨f, t, l⟩ := y
          obtain ⟨g0, g1, g2⟩ := hc1 wr HQ.bel
          have hki : (k : Int) < (n : Int) := by omega
          simp only [] at g0 g1 g2 hya
          have hfS : (f : Int) < (q : Int) := by omega
          have htS : (t : Int) < (q : Int) := by omega
          obtain ⟨WA, hWA⟩ : ∃ WA, WA = wr.alloc (.cells #[.int .i64 f, .int .i64 t, .int .i64 l] 53) := ⟨_, rfl⟩
          have hbA : Below wr.heap.size wr WA := by rw [hWA]; exact (Below.refl _ _).alloc (Nat.le_refl _) _
          have HQA := hid (HQ.below hbA)
          have HBA := hid (show BoxC WA wr.heap.size #[.int .i64 f, .int .i64 t, .int .i64 l] by rw [hWA]; exact BoxC.new _ _ _)
          have hkf : (wr.alloc (.cells #[.int .i64 f, .int .i64 t, .int .i64 l] 53)).cell? ⟨bk, ok + f, none⟩ = some (.bool (K f)) := by rw [← hWA]; exact HKK.out WA HQA.out.bel f hya.1
          have hkt : (wr.alloc (.cells #[.int .i64 f, .int .i64 t, .int .i64 l] 53)).cell? ⟨bk, ok + t, none⟩ = some (.bool (K t)) := by rw [← hWA]; exact HKK.out WA HQA.out.bel t hya.2.1
          have hlen := keepG_len K (G.take k)
          have hlen2 : (G.take k).length ≤ n := by rw [List.length_take, HAR.out.1]; omega
          have hnf := fun h : K f = true => (HQA.out.num.cellAt f (by omega)).trans (numV_get (K := K) (i := q) hya.1) |>.trans (by rw [if_pos ⟨h, hya.1⟩])
          have hnt := fun h : K t = true => (HQA.out.num.cellAt t (by omega)).trans (numV_get (K := K) (i := q) hya.2.1) |>.trans (by rw [if_pos ⟨h, hya.2.1⟩])
          have hka : keepArc K (f, t, l) = (K f && K t) := rfl
          rw [hka] at HYES HNO
          have HNF := hid hnf
          have HNT := hid hnt
          obtain ⟨x, hx⟩ : ∃ x, x = K f := ⟨_, rfl⟩
          obtain ⟨z, hz⟩ : ∃ z, z = K t := ⟨_, rfl⟩
          rw [← hx] at hkf HYES HNO HNF
          rw [← hz] at hkt HYES HNO HNT
          have HWA := hid hWA
          have HVL := hid (fun (g : Nat) (h : v.ownBlock = some g) => (HQ.own.lt g h).2)
          clear hx hz hy hc1 hya hnf hnt hka hWA hbA HQ
          cases x
          · have H1 := hid (HNO.out rfl)
            clear HYES HNO HNF HNT
            go_wp2
            rw [← HWA.out]
            go_roundw
            case rel => exact ⟨k + 1, v, by omega, by go_num, by rw [H1.out]; exact HQA.out⟩
            case measure => simp [intOf] <;> omega
          · cases z
            · have H1 := hid (HNO.out rfl)
              clear HYES HNO HNF HNT
              go_wp2
              rw [← HWA.out]
              go_roundw
              case rel => exact ⟨k + 1, v, by omega, by go_num, by rw [H1.out]; exact HQA.out⟩
              case measure => simp [intOf] <;> omega
            · have H1 := hid (HYES.out rfl)
              have HNF1 := hid (HNF.out rfl)
              have HNT1 := hid (HNT.out rfl)
              clear HYES HNO HNF HNT
              obtain ⟨⟨o0, o1, o2⟩, f0, f1, f2⟩ := HQA.out.b3.c3
              obtain ⟨⟨y0, y1, y2⟩, _⟩ := HBA.out.c3
              go_wp2_with fail
              rw [← HWA.out]
              obtain ⟨S', hSd⟩ : ∃ S' : World → Prop, S' = fun V => V.cell? ⟨bO, 2, none⟩ = some v ∧ V.cell? ⟨w.heap.size + 1 + 1, f, none⟩ = some (.int .i64 (numTo K f : Nat)) ∧ V.cell? ⟨w.heap.size + 1 + 1, t, none⟩ = some (.int .i64 (numTo K t : Nat)) ∧ V.cell? ⟨wr.heap.size, 0, none⟩ = some (.int .i64 f) ∧ V.cell? ⟨wr.heap.size, 1, none⟩ = some (.int .i64 t) ∧ V.cell? ⟨wr.heap.size, 2, none⟩ = some (.int .i64 l) := ⟨_, rfl⟩
              have HSO := hid (show ∀ V, S' V → V.cell? ⟨bO, 2, none⟩ = some v ∧ V.cell? ⟨w.heap.size + 1 + 1, f, none⟩ = some (.int .i64 (numTo K f : Nat)) ∧ V.cell? ⟨w.heap.size + 1 + 1, t, none⟩ = some (.int .i64 (numTo K t : Nat)) ∧ V.cell? ⟨wr.heap.size, 0, none⟩ = some (.int .i64 f) ∧ V.cell? ⟨wr.heap.size, 1, none⟩ = some (.int .i64 t) ∧ V.cell? ⟨wr.heap.size, 2, none⟩ = some (.int .i64 l) from fun V hV => by rw [hSd] at hV; exact hV)
              have HSK := hid (show ∀ V, Below WA.heap.size WA V → S' V from fun V hb => by
                obtain ⟨⟨_, _, z2⟩, _⟩ := (HQA.out.b3.below hb).c3
                obtain ⟨⟨z3, z4, z5⟩, _⟩ := (HBA.out.below hb).c3
                have hl1 : w.heap.size + 1 + 1 < WA.heap.size := (HQA.out.num.lt _ rfl).2
                rw [hSd]; exact ⟨z2, (hb.cell (p := ⟨w.heap.size + 1 + 1, f, none⟩) hl1).trans HNF1.out, (hb.cell (p := ⟨w.heap.size + 1 + 1, t, none⟩) hl1).trans HNT1.out, z3, z4, z5⟩)
              have hS0 : S' WA.drew := HSK.out _ (Below.refl _ _).drew
              have hS1' : S' (WA.drew.alloc (.cells #[.int .i64 (numTo K f : Nat), .int .i64 (numTo K t : Nat), .int .i64 l] 53)) := HSK.out _ ((Below.refl _ _).drew.alloc (Nat.le_refl _) _)
              have hszA : bO + 1 ≤ WA.drew.heap.size := HQA.out.sz
              have HOWN := hid (owns_below HQA.out.own (Below.refl _ _).drew)
              have HSG := hid (show ∀ V, WA.drew.grownBy V v.ownBlock → Below (bO + 1) WA.drew V → S' V from fun V hg hb => by
                have hbY := HBA.out.below (Below.refl _ _).drew
                have ho := HQA.out.ord
                obtain ⟨⟨_, _, z2⟩, _⟩ := ((HQA.out.b3.below (Below.refl _ _).drew).at_ hb (by omega)).c3
                obtain ⟨⟨z3, z4, z5⟩, _⟩ := (hbY.keep hg (fun e => by have := HVL.out _ e; omega)).c3
                have hl1 : w.heap.size + 1 + 1 < bO + 1 := by omega
                rw [hSd]; exact ⟨z2, (hb.cell (p := ⟨w.heap.size + 1 + 1, f, none⟩) hl1).trans HNF1.out, (hb.cell (p := ⟨w.heap.size + 1 + 1, t, none⟩) hl1).trans HNT1.out, z3, z4, z5⟩)
              clear hSd
              refine wp_region_T (S := S') 18 (by kernel_rfl) ?_
              (refine wpAnyT_take (i := 0) (v := ?v0) rfl (by kernel_rfl) (by kernel_rfl) (by kernel_rfl) (by kernel_rfl) (fun _ _ _ h => h) (Or.inl ⟨by rfl, ?y0⟩) (by assumption) ?r0; case y0 => (intro V hSw; have hSw := HSO.out V hSw; go_split_ands; go_simp; first | done | with_reducible rfl); try simp only [Act.put, List.setIfInBounds_toArray, List.set_cons_zero, List.set_cons_succ])
              (refine wpAnyT_take (i := 1) (v := ?v1) rfl (by kernel_rfl) (by kernel_rfl) (by kernel_rfl) (by kernel_rfl) (fun _ _ _ h => h) (Or.inl ⟨by rfl, ?y1⟩) (by assumption) ?r1; case y1 => (intro V hSw; have hSw := HSO.out V hSw; go_split_ands; go_simp; first | done | with_reducible rfl); try simp only [Act.put, List.setIfInBounds_toArray, List.set_cons_zero, List.set_cons_succ])
              (refine wpAnyT_take (i := 2) (v := ?v2) rfl (by kernel_rfl) (by kernel_rfl) (by kernel_rfl) (by kernel_rfl) (fun _ _ _ h => h) (Or.inl ⟨by rfl, ?y2⟩) (by assumption) ?r2; case y2 => (intro V hSw; have hSw := HSO.out V hSw; go_split_ands; go_simp; first | done | with_reducible rfl); try simp only [Act.put, List.setIfInBounds_toArray, List.set_cons_zero, List.set_cons_succ])
              (refine wpAnyT_take (i := 3) (v := ?v3) rfl (by kernel_rfl) (by kernel_rfl) (by kernel_rfl) (by kernel_rfl) (fun _ _ _ h => h) (Or.inl ⟨by rfl, ?y3⟩) (by assumption) ?r3; case y3 => (intro V hSw; have hSw := HSO.out V hSw; go_split_ands; go_simp; first | done | with_reducible rfl); try simp only [Act.put, List.setIfInBounds_toArray, List.set_cons_zero, List.set_cons_succ])
              (refine wpAnyT_take (i := 4) (v := ?v4) rfl (by kernel_rfl) (by kernel_rfl) (by kernel_rfl) (by kernel_rfl) (fun _ _ _ h => h) (Or.inl ⟨by rfl, ?y4⟩) (by assumption) ?r4; case y4 => (intro V hSw; have hSw := HSO.out V hSw; go_split_ands; go_simp; first | done | with_reducible rfl); try simp only [Act.put, List.setIfInBounds_toArray, List.set_cons_zero, List.set_cons_succ])
              (refine wpAnyT_take (i := 5) (v := ?v5) rfl (by kernel_rfl) (by kernel_rfl) (by kernel_rfl) (by kernel_rfl) (fun _ _ _ h => h) (Or.inl ⟨by rfl, ?y5⟩) (by assumption) ?r5; case y5 => (intro V hSw; have hSw := HSO.out V hSw; go_split_ands; go_simp; first | done | with_reducible rfl); try simp only [Act.put, List.setIfInBounds_toArray, List.set_cons_zero, List.set_cons_succ])
              (refine wpAnyT_take (i := 6) (v := ?v6) rfl (by kernel_rfl) (by kernel_rfl) (by kernel_rfl) (by kernel_rfl) (fun _ _ _ h => h) (Or.inl ⟨by rfl, ?y6⟩) (by assumption) ?r6; case y6 => (intro V hSw; have hSw := HSO.out V hSw; go_split_ands; go_simp; first | done | with_reducible rfl); try simp only [Act.put, List.setIfInBounds_toArray, List.set_cons_zero, List.set_cons_succ])
              (refine wpAnyT_take (i := 7) (v := ?v7) rfl (by kernel_rfl) (by kernel_rfl) (by kernel_rfl) (by kernel_rfl) (fun _ _ _ h => h) (Or.inl ⟨by rfl, ?y7⟩) (by assumption) ?r7; case y7 => (intro V hSw; have hSw := HSO.out V hSw; go_split_ands; go_simp; first | done | with_reducible rfl); try simp only [Act.put, List.setIfInBounds_toArray, List.set_cons_zero, List.set_cons_succ])
              (refine wpAnyT_take (i := 8) (v := ?v8) rfl (by kernel_rfl) (by kernel_rfl) (by kernel_rfl) (by kernel_rfl) (fun _ _ _ h => h) (Or.inl ⟨by rfl, ?y8⟩) (by assumption) ?r8; case y8 => (intro V hSw; have hSw := HSO.out V hSw; go_split_ands; go_simp; first | done | with_reducible rfl); try simp only [Act.put, List.setIfInBounds_toArray, List.set_cons_zero, List.set_cons_succ])
              (refine wpAnyT_take (i := 9) (v := ?v9) rfl (by kernel_rfl) (by kernel_rfl) (by kernel_rfl) (by kernel_rfl) (fun _ _ _ h => h) (Or.inl ⟨by rfl, ?y9⟩) (by assumption) ?r9; case y9 => (intro V hSw; have hSw := HSO.out V hSw; go_split_ands; go_simp; first | done | with_reducible rfl); try simp only [Act.put, List.setIfInBounds_toArray, List.set_cons_zero, List.set_cons_succ])
              (refine wpAnyT_take (i := 10) (v := ?v10) rfl (by kernel_rfl) (by kernel_rfl) (by kernel_rfl) (by kernel_rfl) (fun _ _ _ h => h) (Or.inl ⟨by rfl, ?y10⟩) (by assumption) ?r10; case y10 => (intro V hSw; have hSw := HSO.out V hSw; go_split_ands; go_simp; first | done | with_reducible rfl); try simp only [Act.put, List.setIfInBounds_toArray, List.set_cons_zero, List.set_cons_succ])
              (refine wpAnyT_take (i := 11) (v := ?v11) rfl (by kernel_rfl) (by kernel_rfl) (by kernel_rfl) (by kernel_rfl) (fun _ _ _ h => h) (Or.inl ⟨by rfl, ?y11⟩) (by assumption) ?r11; case y11 => (intro V hSw; have hSw := HSO.out V hSw; go_split_ands; go_simp; first | done | with_reducible rfl); try simp only [Act.put, List.setIfInBounds_toArray, List.set_cons_zero, List.set_cons_succ])
              (refine wpAnyT_take (i := 12) (v := ?v12) rfl (by kernel_rfl) (by kernel_rfl) (by kernel_rfl) (by kernel_rfl) (fun _ _ _ h => h) (Or.inl ⟨by rfl, ?y12⟩) (by assumption) ?r12; case y12 => (intro V hSw; have hSw := HSO.out V hSw; go_split_ands; go_simp; first | done | with_reducible rfl); try simp only [Act.put, List.setIfInBounds_toArray, List.set_cons_zero, List.set_cons_succ])
              (refine wpAnyT_take (i := 13) (v := ?v13) rfl (by kernel_rfl) (by kernel_rfl) (by kernel_rfl) (by kernel_rfl) (fun _ _ _ h => h) (Or.inl ⟨by rfl, ?y13⟩) (by assumption) ?r13; case y13 => (intro V hSw; have hSw := HSO.out V hSw; go_split_ands; go_simp; first | done | with_reducible rfl); try simp only [Act.put, List.setIfInBounds_toArray, List.set_cons_zero, List.set_cons_succ])
              (refine wpAnyT_take (i := 14) (v := ?v14) rfl (by kernel_rfl) (by kernel_rfl) (by kernel_rfl) (by kernel_rfl) (fun _ _ _ h => h) (Or.inl ⟨by rfl, ?y14⟩) (by assumption) ?r14; case y14 => (intro V hSw; have hSw := HSO.out V hSw; go_split_ands; go_simp; first | done | with_reducible rfl); try simp only [Act.put, List.setIfInBounds_toArray, List.set_cons_zero, List.set_cons_succ])
              refine wpAnyT_step (i := 15) rfl (by kernel_rfl) (by decide) (fun K hK => ?_)
              go_simp
              refine hK.out _ _ hS1' ?_
              clear hK K
              try simp only [Act.put, List.setIfInBounds_toArray, List.set_cons_zero, List.set_cons_succ]
              refine wpAnyT_step (i := 16) rfl (by kernel_rfl) (by decide) (fun K hK => ?_)
              refine step_appA (by rfl) _ _ 27 (by rfl) (bO + 1) 53 Tryd.underlying27 infoArc v _ _ _ _ _ HOWN.out (by rfl) (by rfl) (by omega) hszA ?_
              intro g6 c6 w6 hown6 hbel6 hgr6
              refine hK.out _ _ (HSG.out _ hgr6 hbel6) ?_
              clear hK K
              try simp only [Act.put, List.setIfInBounds_toArray, List.set_cons_zero, List.set_cons_succ]
              have hS6 := HSG.out _ hgr6 hbel6
              have hQ6 := (HQA.out.below (Below.refl _ _).drew).app hbel6 hown6
              obtain ⟨⟨_, _, z2⟩, _, _, z3⟩ := ((HQA.out.b3.below (Below.refl _ _).drew).at_ hbel6 (Nat.lt_succ_self _)).c3
              have HQ6 := hid hQ6
              clear hQ6 hown6 hgr6
              (refine wpAnyT_take (i := 17) (v := ?v17) rfl (by kernel_rfl) (by kernel_rfl) (by kernel_rfl) (by kernel_rfl) (fun _ _ _ h => h) (Or.inl ⟨by rfl, ?y17⟩) (by assumption) ?r17; case y17 => (intro V hSw; have hSw := HSO.out V hSw; go_split_ands; go_simp; first | done | with_reducible rfl); try simp only [Act.put, List.setIfInBounds_toArray, List.set_cons_zero, List.set_cons_succ])
              refine wpAnyT_last rfl (by kernel_rfl) (by kernel_rfl) (fun K hK => ?_)
              go_simp
              refine hK.out _ _ ?_
              clear hK K
              go_wp2
              go_roundw
              case rel => exact ⟨k + 1, .slice (some ⟨g6, 0, none⟩) ((keepG K (G.take k)).length + 1) c6, by omega, by go_num, by rw [H1.out, List.length_append, arcN_snoc, arcVals_snoc]; exact HQ6.out⟩
              case measure => simp [intOf] <;> omega
        · obtain rfl : k = n := by omega
          have hGt : G.take k = G := List.take_of_length_le (by rw [HAR.out.1]; omega)
          rw [hGt] at HQ
          obtain ⟨⟨o0, o1, o2⟩, _⟩ := HQ.b3.c3
          obtain ⟨⟨r0, r1, r2⟩, f0, f1, f2⟩ := HQ.b1.c3
          have HQH := hid HQ
          obtain ⟨gq, cq, rfl⟩ := slice_form HQ.own
          clear HQ hGt
          go_wp2
          have hordH := HQH.out.ord
          have HS1 := hid ((HQH.out.own.lt))
          refine bodyPost_ret (v := .agg #[.int .i64 L, .int .i64 ((numTo K q : Nat) : Int), .slice gq (keepG K G).length cq]) (by simp [results, Tryd.results62, go_sem, r0, r1, r2]) rfl ⟨_, _, rfl, ?_, ?_⟩
          · exact owns_base (own_setB (own_setB (own_setB HQH.out.own (by omega) _ _) (by omega) _ _) (by omega) _ _) (by omega)
          · exact ((HQH.out.bel.setCell (by show w.heap.size ≤ w.heap.size + 1; omega) _).setCell (by show w.heap.size ≤ w.heap.size + 1; omega) _).setCell (by show w.heap.size ≤ w.heap.size + 1; omega) _
end Go.Proofs.YtpfeflhcbcgbfaaDoor
