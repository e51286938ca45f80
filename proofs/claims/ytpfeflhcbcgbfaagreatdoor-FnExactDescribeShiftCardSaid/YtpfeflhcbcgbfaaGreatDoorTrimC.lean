/- Labelled graphs: trimmed ones, the reference's way. Conditions: the arcs lie in memory. -/
import Derived.StillTail
import Derived.OrdersHeld
import Derived.Deep.RegionHeld3
import Derived.Deep.AppendLies
import Derived.Test.YtpfeflhcbcgbfaaGreatDoorBoxC
import Derived.Test.YtpfeflhcbcgbfaaGreatDoorLabP
import Derived.Test.YtpfeflhcbcgbfaaGreatDoorSessC
import Derived.Test.YtpfeflhcbcgbfaaGreatDoorTrimA
import Derived.Test.YtpfeflhcbcgbfaaGreatDoorRunL
namespace Go.Proofs.YtpfeflhcbcgbfaaGreatDoor
open Go.RowKit
section
variable {P : Program} {ops : Array Oper} {Q : Exit → Act → World → Prop} {md : Region.Mode} {S : World → Prop} {n : Nat}
/-- As the kit's 'wpAnyH', but S is asked behind all operations but number n. -/
def wpAnyT (P : Program) (md : Region.Mode) (ops : Array Oper) (Q : Exit → Act → World → Prop) (S : World → Prop) (n : Nat) : Nat → Array Bool → Act → World → Prop
  | 0, listed, a, w => Region.ready md ops listed = [] ∧ Q .normal a w
  | fuel + 1, listed, a, w =>
    (Region.ready md ops listed = [] → Q .normal a w) ∧
    ∀ i ∈ Region.ready md ops listed, wpOp P ops Q i (fun a' w' => (i ≠ n → S w') ∧ wpAnyT P md ops Q S n fuel (listed.setIfInBounds i true) a' w') a w
theorem wpAny_of_T : ∀ (fuel : Nat) (listed : Array Bool) (a : Act) (w : World), wpAnyT P md ops Q S n fuel listed a w → wpAny P md ops Q fuel listed a w
  | 0, _, _, _, h => h
  | fuel + 1, _, _, _, h => ⟨h.1, fun i hi => wpOp_mono (fun a' w' h' => wpAny_of_T fuel _ a' w' h'.2) (h.2 i hi)⟩
theorem wpAnyT_first {i : Nat} {oi : Oper} {v : Value} (hi : ops[i]? = some oi) (hsel : ∀ (j : Nat) (o : Oper) cs b, ops[j]? = some o → o.op ≠ .select cs b)
    (hQ : ∀ c a w, Q (.panic c) (a.put oi.dst v) w → Q (.panic c) a w)
    (hs : Region.sinkB md ops n = true) (hc : Region.chainB md ops n = true) (hn : n < ops.size) (hin : i < n) :
    ∀ (fuel : Nat) (listed : Array Bool) (a : Act) (w : World), HeadInv md ops n listed →
      (∀ j oj, ops[j]? = some oj → j ≠ i → listed.getD j true = false → (∀ e ∈ oj.after, Region.binds md e = true → e.on ≠ i) → oi.apart ops oj = true) →
      i ∈ Region.ready md ops listed → YieldsIf P ops S oi v a → S w →
      wpAnyT P md ops Q S n fuel (listed.setIfInBounds i true) (a.put oi.dst v) w → wpAnyT P md ops Q S n (fuel + 1) listed a w := by
  intro fuel
  induction fuel with
  | zero =>
    intro listed a w _ _ hr hy hS H
    refine ⟨fun h => (by rw [h] at hr; cases hr), fun j hj => ?_⟩
    by_cases hji : j = i
    · subst hji; exact hy.wpOp hi hS ⟨fun _ => hS, H⟩
    · have := ready_mono hj hji
      rw [H.1] at this
      cases this
  | succ fuel ih =>
    intro listed a w inv hfree hr hy hS H
    have hun := (mem_ready.1 hr).1
    refine ⟨fun h => (by rw [h] at hr; cases hr), fun j hj => ?_⟩
    by_cases hji : j = i
    · subst hji; exact hy.wpOp hi hS ⟨fun _ => hS, H⟩
    · have hjn : j < n := by
        rcases Nat.lt_or_ge j n with h | h
        · exact h
        · exact absurd hj (tail_waits hs hc hn inv _ i rfl hin hun j h)
      have h1 := H.2 j (ready_mono hj hji)
      obtain ⟨hjun, oj, hoj, hall⟩ := mem_ready.1 hj
      have hnot : ∀ e ∈ oj.after, Region.binds md e = true → e.on ≠ i := fun e he hb heq => by
        have h1 := hall e he hb
        rw [heq, getD_both hun] at h1
        cases h1
      have h2 := wpOp_putIf hoj (hfree j oj hoj hji hjun hnot) (fun cs b => hsel i oi cs b hi) (fun cs b => hsel j oj cs b hoj) hQ hy h1
      have hfree' : ∀ k ok, ops[k]? = some ok → k ≠ i → (listed.setIfInBounds j true).getD k true = false →
          (∀ e ∈ ok.after, Region.binds md e = true → e.on ≠ i) → oi.apart ops ok = true := fun k ok hk hki hun hno => by
        refine hfree k ok hk hki ?_ hno
        by_cases hjk : j = k
        · subst hjk; exact hjun
        · rw [getD_set_ne true hjk] at hun; exact hun
      refine wpOp_mono (fun a' w' h3 => ?_) h2
      have hS' := h3.2.1 (by omega)
      refine ⟨fun _ => hS', ih (listed.setIfInBounds j true) a' w' (inv.set hj hjn) hfree' (ready_mono hr (Ne.symm hji)) h3.1 hS' ?_⟩
      rw [Array.setIfInBounds_comm _ _ hji]
      exact h3.2.2
/-- Take number i first. -/
theorem wpAnyT_take {i : Nat} {oi : Oper} {v : Value} {fuel : Nat} {listed : Array Bool} {a : Act} {w : World} (hi : ops[i]? = some oi)
    (hsl : Region.noSelect ops = true) (hT : (Region.sinkB md ops n && Region.chainB md ops n && decide (n < ops.size) && decide (i < n)) = true)
    (hf : Region.free md ops listed i = true) (hr : (Region.ready md ops listed).contains i = true)
    (hQ : ∀ c a w, Q (.panic c) (a.put oi.dst v) w → Q (.panic c) a w) (hy : YieldsIf P ops S oi v a) (hS : S w)
    (h : HeadInv md ops n (listed.setIfInBounds i true) → wpAnyT P md ops Q S n fuel (listed.setIfInBounds i true) (a.put oi.dst v) w) : HeadInv md ops n listed → wpAnyT P md ops Q S n (fuel + 1) listed a w := fun inv => by
  simp only [Bool.and_eq_true, decide_eq_true_eq] at hT
  obtain ⟨⟨⟨h1, h2⟩, h3⟩, h4⟩ := hT
  have hr' : i ∈ Region.ready md ops listed := by simpa using hr
  exact wpAnyT_first hi (Region.noSelect_spec hsl) hQ h1 h2 h3 h4 fuel listed a w inv (Region.free_spec hi hf) hr' hy hS (h (inv.set hr' h4))
/-- Number i comes up alone. -/
theorem wpAnyT_step {i : Nat} {o : Oper} {fuel : Nat} {listed : Array Bool} {a : Act} {w : World} (ho : ops[i]? = some o) (hr : Region.ready md ops listed = [i]) (hin : i < n)
    (h : ∀ K' : Act → World → Prop, Shut (∀ a w, S w → (HeadInv md ops n (listed.setIfInBounds i true) → wpAnyT P md ops Q S n fuel (listed.setIfInBounds i true) a w) → K' a w) → if Region.wanted o (yielded ops a.tmps) = true then Oper.wp P o a w K' Q else K' (a.put o.dst undef) w) :
    HeadInv md ops n listed → wpAnyT P md ops Q S n (fuel + 1) listed a w := fun inv => by
  have hi : i ∈ Region.ready md ops listed := by rw [hr]; exact List.mem_singleton.2 rfl
  refine ⟨fun h0 => (by rw [hr] at h0; cases h0), fun j hj => ?_⟩
  rw [hr] at hj
  obtain rfl := List.mem_singleton.1 hj
  exact wpOp_step ho (fun K' hK => h K' (fun a w hS hW => hK a w ⟨fun _ => hS, hW (inv.set hi hin)⟩))
/-- The last one. -/
theorem wpAnyT_last {o : Oper} {fuel : Nat} {listed : Array Bool} {a : Act} {w : World} (ho : ops[n]? = some o) (hr : Region.ready md ops listed = [n]) (hd : Region.ready md ops (listed.setIfInBounds n true) = [])
    (h : ∀ K' : Act → World → Prop, Shut (∀ a w, Q .normal a w → K' a w) → if Region.wanted o (yielded ops a.tmps) = true then Oper.wp P o a w K' Q else K' (a.put o.dst undef) w) :
    HeadInv md ops n listed → wpAnyT P md ops Q S n (fuel + 1) listed a w := fun _ => by
  refine ⟨fun h0 => (by rw [hr] at h0; cases h0), fun j hj => ?_⟩
  rw [hr] at hj
  obtain rfl := List.mem_singleton.1 hj
  refine wpOp_step ho (fun K' hK => h K' (fun a w hq => hK a w ⟨fun h => absurd rfl h, ?_⟩))
  cases fuel with
  | zero => exact ⟨hd, hq⟩
  | succ f => exact ⟨fun _ => hq, by rw [hd]; simp⟩
/-- The beginning. -/
theorem wp_region_T {id : Nat} {a : Act} {w : World} (n : Nat) (hm : P.follows .mixedOrders = true)
    (h : HeadInv .any ops n (Array.replicate ops.size false) → wpAnyT P .any ops Q S n ops.size (Array.replicate ops.size false) a w.drew) : (Code.region id ops true).wp P Q a w := by
  have inv0 : HeadInv .any ops n (Array.replicate ops.size false) :=
    ⟨by simp, fun j oj _ hl => (by rw [getD_replicate_false] at hl; cases hl), fun t _ ht => getD_in (by simpa using ht) (getD_replicate_false _ _)⟩
  exact wp_region_any hm (wpAny_of_T _ _ _ _ (h inv0))
end
end Go.Proofs.YtpfeflhcbcgbfaaGreatDoor
namespace Go.Proofs.YtpfeflhcbcgbfaaGreatDoor
open Go.RowKit

theorem owns_at {w w' : World} {base e size D : Nat} {v : Value} {n : Nat} {xs : List Value} (h : w.ownsRow base e size v n xs) (hb : Below D w w') (hv : ∀ g, v.ownBlock = some g → g < D) : w'.ownsRow base e size v n xs := by
  obtain ⟨h1, h2⟩ := h
  refine ⟨h1, ?_⟩
  rcases h2 with h2 | ⟨g, cap, cur, rfl, hg, hh, r⟩
  · exact Or.inl h2
  · exact Or.inr ⟨g, cap, cur, rfl, hg, by rw [hb.block g (hv g rfl)]; exact hh, r⟩
/-- The boxes of the graph, of the result and of the graph under way, the row of names, the arcs. -/
structure KeepQ (T1 T3 : TypeId) (w wr : World) (bL bR bN bO D : Nat) (A0 A1 : Array Value) (S : Nat) (nums : List Value) (x0 x1 : Value) (v : Value) (m : Nat) (A : List Value) : Prop where
  bel : Below w.heap.size w wr
  ord : w.heap.size ≤ bL ∧ bL < bR ∧ bR < bN ∧ bN < bO ∧ bO < D
  sz : D ≤ wr.heap.size
  b0 : BoxC wr bL A0
  b1 : BoxC wr bR A1
  num : wr.ownsRow bN T1 1 (.slice (some ⟨bN, 0, none⟩) S S) S nums
  b3 : BoxC wr bO #[x0, x1, v]
  own : wr.ownsRow D T3 3 v m A
section
variable {T1 T3 : TypeId} {w wr w' : World} {bL bR bN bO D S m : Nat} {A0 A1 : Array Value} {nums A : List Value} {x0 x1 v : Value}
theorem KeepQ.below (h : KeepQ T1 T3 w wr bL bR bN bO D A0 A1 S nums x0 x1 v m A) (hb : Below wr.heap.size wr w') : KeepQ T1 T3 w w' bL bR bN bO D A0 A1 S nums x0 x1 v m A :=
  ⟨h.bel.trans (hb.mono h.bel.size), h.ord, Nat.le_trans h.sz hb.size, h.b0.below hb, h.b1.below hb, owns_below h.num hb, h.b3.below hb, owns_below h.own hb⟩
theorem KeepQ.setNum (h : KeepQ T1 T3 w wr bL bR bN bO D A0 A1 S nums x0 x1 v m A) (i : Nat) (u : Value) : KeepQ T1 T3 w (wr.setCell ⟨bN, i, none⟩ u) bL bR bN bO D A0 A1 S (nums.set i u) x0 x1 v m A := by
  have ho := h.ord
  exact ⟨h.bel.setCell (by show w.heap.size ≤ bN; omega) _, ho, by simpa using h.sz, h.b0.other (by omega) _, h.b1.other (by omega) _, (h.num.stored i u).1, h.b3.other (by omega) _, own_setB h.own (by omega) _ _⟩
theorem KeepQ.setQ (h : KeepQ T1 T3 w wr bL bR bN bO D A0 A1 S nums x0 x1 v m A) (u : Value) : KeepQ T1 T3 w (wr.setCell ⟨bO, 1, none⟩ u) bL bR bN bO D A0 A1 S nums x0 u v m A := by
  have ho := h.ord
  have hn : wr.grownBy (wr.setCell ⟨bO, 1, none⟩ u) (some bO) := ⟨rfl, rfl, rfl, by simp, fun p hq hr => Below.heap_setCell _ _ _ _ (fun e => hr (by rw [show p = bO from e]))⟩
  exact ⟨h.bel.setCell (by show w.heap.size ≤ bO; omega) _, ho, by simpa using h.sz, h.b0.other (by omega) _, h.b1.other (by omega) _, h.num.kept hn (.inr (by simp [Value.ownBlock]; omega)), h.b3.set1 _, own_setB h.own (by omega) _ _⟩
theorem KeepQ.app {w1 : World} {v' : Value} {m' : Nat} {A' : List Value} (h : KeepQ T1 T3 w wr bL bR bN bO D A0 A1 S nums x0 x1 v m A) (hb : Below D wr w1) (ho1 : w1.ownsRow D T3 3 v' m' A') : KeepQ T1 T3 w (w1.setCell ⟨bO, 2, none⟩ v') bL bR bN bO D A0 A1 S nums x0 x1 v' m' A' := by
  have ho := h.ord
  have hn : w1.grownBy (w1.setCell ⟨bO, 2, none⟩ v') (some bO) := ⟨rfl, rfl, rfl, by simp, fun p hq hr => Below.heap_setCell _ _ _ _ (fun e => hr (by rw [show p = bO from e]))⟩
  have hb2 : Below w.heap.size w w1 := h.bel.trans (hb.mono (by omega))
  have hnum : w1.ownsRow bN T1 1 (.slice (some ⟨bN, 0, none⟩) S S) S nums := owns_at h.num hb (by rintro g ⟨⟩; show bN < D; omega)
  exact ⟨hb2.setCell (by show w.heap.size ≤ bO; omega) _, ho, by simpa using Nat.le_trans h.sz hb.size, (h.b0.at_ hb (by omega)).other (by omega) _, (h.b1.at_ hb (by omega)).other (by omega) _, hnum.kept hn (.inr (by simp [Value.ownBlock]; omega)), (h.b3.at_ hb (by omega)).set2 _, own_setB ho1 (by omega) _ _⟩
end
/-- The names of the first i states. -/
def numV (K : Nat → Bool) (S i : Nat) : List Value := (List.range S).map fun j => .int .i64 ((if K j = true ∧ j < i then numTo K j else 0 : Nat) : Int)
theorem numV_len (K : Nat → Bool) (S i : Nat) : (numV K S i).length = S := by simp [numV]
theorem numV_get {K : Nat → Bool} {S i j : Nat} (h : j < S) : (numV K S i)[j]? = some (.int .i64 ((if K j = true ∧ j < i then numTo K j else 0 : Nat) : Int)) := by simp [numV, h]
theorem numV_zero (K : Nat → Bool) (S : Nat) : numV K S 0 = (madeCells (Value.int .i64 0).cells (S * 1)).toList := by
  rw [made_zeros]
  unfold numV intVals
  rw [List.map_replicate]
  refine List.ext_getElem (by simp) fun i h1 h2 => by simp
theorem numV_yes {K : Nat → Bool} {S i : Nat} (h : K i = true) (hi : i < S) : (numV K S i).set i (.int .i64 ((numTo K i : Nat) : Int)) = numV K S (i + 1) := by
  refine List.ext_getElem (by simp [numV]) fun j h1 h2 => ?_
  rw [List.getElem_set]
  simp only [numV, List.getElem_map, List.getElem_range]
  by_cases e : i = j
  · subst e
    rw [if_pos rfl, if_pos ⟨h, by omega⟩]
  · rw [if_neg e]
    by_cases k : K j = true ∧ j < i
    · rw [if_pos k, if_pos ⟨k.1, by omega⟩]
    · rw [if_neg k, if_neg (fun e2 => k ⟨e2.1, by omega⟩)]
theorem numV_no {K : Nat → Bool} {S i : Nat} (h : K i = false) : numV K S (i + 1) = numV K S i := by
  unfold numV
  refine List.map_congr_left fun j _ => ?_
  by_cases e : j = i
  · subst e
    rw [if_neg (by rw [h]; simp), if_neg (by rw [h]; simp)]
  · by_cases k : K j = true ∧ j < i
    · rw [if_pos k, if_pos ⟨k.1, by omega⟩]
    · rw [if_neg k, if_neg (fun e2 => k ⟨e2.1, by omega⟩)]
end Go.Proofs.YtpfeflhcbcgbfaaGreatDoor
namespace Go.Proofs.YtpfeflhcbcgbfaaGreatDoor
open Go.RowKit

def sameFL (a b : Int × Int × Int) : Bool := decide (b.1 = a.1) && decide (b.2.2 = a.2.2)
def resStep (A : List (Int × Int × Int)) (k : Nat) : Bool := k == 0 || !sameFL (arcAt A (k - 1)) (arcAt A k)
def resTo (A : List (Int × Int × Int)) : Nat → Bool | 0 => true | k + 1 => resTo A k && resStep A k
theorem resTo_stop {A : List (Int × Int × Int)} {k : Nat} (h : resStep A k = false) : ∀ j, resTo A (k + 1 + j) = false
  | 0 => by show (resTo A k && resStep A k) = false; rw [h]; simp
  | j + 1 => by show (resTo A (k + 1 + j) && _) = false; rw [resTo_stop h j]; rfl
def resolvB (L S : Int) (A : List (Int × Int × Int)) : Bool := labsB L S A && resTo A A.length
/-- What is sorted by beginning and letter, none twice, is valid and resolving. -/
theorem sorted_resolv {L S : Nat} {G : List (Nat × Nat × Nat)} (h : LabG L S G) (hs : SortG G) : resolvB L S (arcN G) = true := by
  have hk1 := h.k1
  have hk3 := h.k3
  have hs1 := h.s1
  have hs12 := h.s12
  have hget : ∀ k, k < G.length → ∃ a, G[k]? = some a ∧ arcAt (arcN G) k = ((a.1 : Int), (a.2.1 : Int), (a.2.2 : Int)) ∧ a.1 < S ∧ a.2.1 < S ∧ a.2.2 < L := fun k hk => by
    obtain ⟨a, ha⟩ := get_some hk
    exact ⟨a, ha, arcAt_get (arcN_get ha), h.arc a (List.mem_of_getElem? ha)⟩
  have hord : ∀ k a b, G[k]? = some a → G[k + 1]? = some b → a.1 < b.1 ∨ (a.1 = b.1 ∧ a.2.2 < b.2.2) := fun k a b ha hb => by
    have ha' := List.getElem?_eq_some_iff.1 ha
    have hb' := List.getElem?_eq_some_iff.1 hb
    have := List.pairwise_iff_getElem.1 hs k (k + 1) ha'.1 hb'.1 (by omega)
    rw [ha'.2, hb'.2] at this
    exact this
  have hprev : ∀ k, k < G.length → ∃ a, G[k]? = some a ∧ arcAt (arcN G) k = ((a.1 : Int), (a.2.1 : Int), (a.2.2 : Int)) ∧ (a.1 < S ∧ a.2.1 < S ∧ a.2.2 < L) ∧ (k = 0 ∨ ∃ b : Nat × Nat × Nat, arcAt (arcN G) (k - 1) = ((b.1 : Int), (b.2.1 : Int), (b.2.2 : Int)) ∧ (b.1 < a.1 ∨ (b.1 = a.1 ∧ b.2.2 < a.2.2))) := fun k hk => by
    obtain ⟨a, ha, h1, h2⟩ := hget k hk
    refine ⟨a, ha, h1, h2, ?_⟩
    rcases Nat.eq_zero_or_pos k with h0 | h0
    · exact .inl h0
    · obtain ⟨b, hb, h3, _⟩ := hget (k - 1) (by omega)
      exact .inr ⟨b, h3, hord (k - 1) b a hb (by rw [Nat.sub_add_cancel h0]; exact ha)⟩
  have h1 : ∀ n, n ≤ G.length → arcsTo L S (arcN G) n = true := fun n => by
    induction n with
    | zero => intro _; rfl
    | succ k ih =>
      intro hk
      unfold arcsTo
      rw [ih (by omega), Bool.true_and]
      obtain ⟨a, ha, e, b1, hb⟩ := hprev k (by omega)
      unfold arcStep arcOkB
      rw [e, inB_t (by simp only []; omega), inB_t (by simp only []; omega), inB_t (by simp only []; omega)]
      rcases hb with rfl | ⟨b, e2, hb⟩
      · rfl
      · rw [e2]
        have : befB ((b.1 : Int), (b.2.1 : Int), (b.2.2 : Int)) ((a.1 : Int), (a.2.1 : Int), (a.2.2 : Int)) = true := by
          rw [befB_iff]; simp only []; omega
        rw [this]; simp
  have h2 : ∀ n, n ≤ G.length → resTo (arcN G) n = true := fun n => by
    induction n with
    | zero => intro _; rfl
    | succ k ih =>
      intro hk
      unfold resTo
      rw [ih (by omega), Bool.true_and]
      obtain ⟨a, ha, e, b1, hb⟩ := hprev k (by omega)
      unfold resStep sameFL
      rw [e]
      rcases hb with rfl | ⟨b, e2, hb⟩
      · rfl
      · rw [e2]
        simp only []
        by_cases hf : (a.1 : Int) = (b.1 : Int)
        · rw [decide_eq_false (p := (a.2.2 : Int) = (b.2.2 : Int)) (by omega)]; simp
        · rw [decide_eq_false hf]; simp
  unfold resolvB labsB
  rw [arcN_len, h1 _ (Nat.le_refl _), h2 _ (Nat.le_refl _), inB_t (by omega), inB_t (by omega)]
  rfl
theorem labs_eq {L S : Int} {n : Nat} {A : List (Int × Int × Int)} (hn : A.length = n) : (arcsTo (IntKind.i64.wrap (L - 1) + 1) (IntKind.i64.wrap (S - 1) + 1) A n && inB L 1 3 && inB S 1 12) = labsB L S A := by
  unfold labsB
  rw [hn]
  by_cases hL : 1 ≤ L ∧ L ≤ 3
  · by_cases hS : 1 ≤ S ∧ S ≤ 12
    · rw [IntWalk.i64_in (L - 1) (by omega), IntWalk.i64_in (S - 1) (by omega), Int.sub_add_cancel, Int.sub_add_cancel]
      cases arcsTo L S A n <;> cases inB L 1 3 <;> cases inB S 1 12 <;> rfl
    · rw [inB_f (x := S) (by omega)]; simp
  · rw [inB_f (x := L) (by omega)]; simp
end Go.Proofs.YtpfeflhcbcgbfaaGreatDoor
namespace Go.Proofs.YtpfeflhcbcgbfaaGreatDoor
open Go.RowKit

def labV (L S : Nat) (g : Option Addr) (m c : Nat) : Value := .agg #[.int .i64 L, .int .i64 S, .slice g m c]
theorem slice_form {w : World} {base e s n : Nat} {v : Value} {xs : List Value} (h : w.ownsRow base e s v n xs) : ∃ g c, v = .slice g n c := by
  rcases h.2 with ⟨rfl, rfl⟩ | ⟨g, cap, cur, rfl, _⟩
  · exact ⟨none, 0, rfl⟩
  · exact ⟨_, cap, rfl⟩
theorem keep_cell {w : World} {a : Option Addr} {S i : Nat} {K : Nat → Bool} (h : RowAt w a S (boolVals (rowB K S))) (hi : i < S) : ∃ b off, a = some ⟨b, off, none⟩ ∧ b < w.heap.size ∧ ∀ j, j < S → w.cell? ⟨b, off + j, none⟩ = some (.bool (K j)) := by
  obtain ⟨b, off, rfl, hb, hc⟩ := h.at_ (by omega)
  exact ⟨b, off, rfl, hb, fun j hj => hc j _ (rowB_get hj)⟩
/-- An arc appended in a region that draws its order. -/
theorem step_appA {P : Program} {wr : World} {ops : Array Oper} {o : Oper} {a : Act} {K : Act → World → Prop} {Q : Exit → Act → World → Prop} {E : Prop}
    (hg : o.guard = none) (s x : Operand) (t : TypeId) (hop : o.op = Op.call { callee := Callee.builtin Builtin.append, args := #[s, x], argTypes := #[t, t] })
    (B : Nat) (e : TypeId) (h1 : P.underlying t = some (.slice e)) (hinfo : (P.info? e).map (fun i => (i.zero, i.size, i.bytes)) = some (some (.agg #[.int .i64 0, .int .i64 0, .int .i64 0]), 3, 24))
    (v : Value) (m : Nat) (xs : List Value) (x0 x1 x2 : Int) (hown : wr.ownsRow B e 3 v m xs) (hs : a.eval s = v) (hx : a.eval x = .slice (some ⟨wr.heap.size, 0, none⟩) 1 1)
    (hlim : m ≤ 1048576) (hB : B ≤ wr.heap.size)
    (hK : ∀ g' c' w1, w1.ownsRow B e 3 (.slice (some ⟨g', 0, none⟩) (m + 1) c') (m + 1) (xs ++ [.int .i64 x0, .int .i64 x1, .int .i64 x2]) → Below B wr w1 → wr.grownBy w1 v.ownBlock → K (a.put o.dst (.slice (some ⟨g', 0, none⟩) (m + 1) c')) w1) :
    if Region.wanted o (yielded ops a.tmps) = true then Oper.wp P o a (wr.alloc (.cells #[.int .i64 x0, .int .i64 x1, .int .i64 x2] e)) K Q else E := by
  obtain ⟨i, hi, hz, hz1, hz2⟩ := info_parts hinfo
  refine step_append_lies _ hg s x t hop B e i _ 3 24 h1 hi hz hz1 hz2 rfl (by decide) v m xs hs (hown.alloc _) ⟨wr.heap.size, 0, none⟩ 1 1 (intVals [x0, x1, x2]) hx rfl ?_ (by intro u hu; obtain ⟨x, _, rfl⟩ := List.mem_map.1 hu; rfl) (by omega) (by unfold maxLen; omega) (by omega) (by simp; omega) (wr.heap.size + 1) (by simp) ?_
  · intro j y hj
    have ha : (⟨wr.heap.size, 0, none⟩ : Addr).add j = ⟨wr.heap.size, j, none⟩ := by
      unfold Addr.add
      split
      · rename_i h0; subst h0; rfl
      · simp
    rw [ha, World.cell?_alloc_at _ _ _ _ rfl]
    rw [← hj]
    simp [intVals]
  · intro g cap w1 hown' hgrow _ _
    exact hK g cap w1 hown' (((Below.refl _ _).alloc hB _).grown hgrow (by simp; omega) (fun k hk => (hown.lt k hk).1)) (grown_trans (World.grownBy_alloc _ _ _) hgrow)
end Go.Proofs.YtpfeflhcbcgbfaaGreatDoor
namespace Go.Proofs.YtpfeflhcbcgbfaaGreatDoor
open Go.RowKit

end Go.Proofs.YtpfeflhcbcgbfaaGreatDoor
namespace Go.Proofs.YtpfeflhcbcgbfaaGreatDoor
open Go.RowKit

end Go.Proofs.YtpfeflhcbcgbfaaGreatDoor
namespace Go.Proofs.YtpfeflhcbcgbfaaGreatDoor
open Go.RowKit

end Go.Proofs.YtpfeflhcbcgbfaaGreatDoor
namespace Go.Proofs.YtpfeflhcbcgbfaaGreatDoor
open Go.RowKit

end Go.Proofs.YtpfeflhcbcgbfaaGreatDoor
namespace Go.Proofs.YtpfeflhcbcgbfaaGreatDoor
open Go.RowKit

theorem alloc_both {W2 V : World} (cs : Array Value) (T : TypeId) (h : Below W2.heap.size W2 V) : Below W2.heap.size W2 (V.alloc (.cells cs T)) ∧ BoxC (V.alloc (.cells cs T)) V.heap.size cs ∧ Below V.heap.size V (V.alloc (.cells cs T)) ∧ W2.heap.size ≤ V.heap.size :=
  ⟨h.alloc h.size _, BoxC.new _ _ _, (Below.refl _ _).alloc (Nat.le_refl _) _, h.size⟩
theorem own_setN {wr : World} {B e s n b : Nat} {v : Value} {xs : List Value} (h : wr.ownsRow B e s v n xs) (hb : ∀ q, v.ownBlock = some q → q ≠ b) (q : Nat) (y : Value) : (wr.setCell ⟨b, q, none⟩ y).ownsRow B e s v n xs :=
  h.kept (row := some b) ⟨rfl, rfl, rfl, by simp, fun p hq hr => Below.heap_setCell _ _ _ _ (fun e => hr (by rw [show p = b from e]))⟩ (by
    cases hv : v.ownBlock with
    | none => exact .inl rfl
    | some q => exact .inr fun e => hb q hv (by injection e))
theorem box_name {w : World} {b B : Nat} {A : Array Value} (h : BoxC w b A) (hB : B ≤ b) : ∃ b', b' = b ∧ B ≤ b' ∧ BoxC w b' A := ⟨b, rfl, hB, h⟩
section
open Go
variable {P : Program} {ops : Array Oper} {Q : Exit → Act → World → Prop} {md : Region.Mode} {S : World → Prop} {n : Nat}
/-- Two come up: whichever goes first. -/
theorem wpAnyT_two {i j : Nat} {oi oj : Oper} {fuel : Nat} {listed : Array Bool} {a : Act} {w : World} (hi : ops[i]? = some oi) (hj : ops[j]? = some oj) (hr : Region.ready md ops listed = [i, j]) (hin : i < n) (hjn : j < n)
    (h : ∀ K' : Act → World → Prop, Shut (∀ a w, S w → (HeadInv md ops n (listed.setIfInBounds i true) → wpAnyT P md ops Q S n fuel (listed.setIfInBounds i true) a w) → K' a w) → if Region.wanted oi (yielded ops a.tmps) = true then Oper.wp P oi a w K' Q else K' (a.put oi.dst undef) w)
    (k : ∀ K' : Act → World → Prop, Shut (∀ a w, S w → (HeadInv md ops n (listed.setIfInBounds j true) → wpAnyT P md ops Q S n fuel (listed.setIfInBounds j true) a w) → K' a w) → if Region.wanted oj (yielded ops a.tmps) = true then Oper.wp P oj a w K' Q else K' (a.put oj.dst undef) w) :
    HeadInv md ops n listed → wpAnyT P md ops Q S n (fuel + 1) listed a w := fun inv => by
  have h1 : i ∈ Region.ready md ops listed := by rw [hr]; simp
  have h2 : j ∈ Region.ready md ops listed := by rw [hr]; simp
  refine ⟨fun h0 => (by rw [hr] at h0; cases h0), fun q hq => ?_⟩
  rw [hr] at hq
  rcases List.mem_cons.1 hq with rfl | hq
  · exact wpOp_step hi (fun K' hK => h K' (fun a w hS hW => hK a w ⟨fun _ => hS, hW (inv.set h1 hin)⟩))
  · obtain rfl := List.mem_singleton.1 hq
    exact wpOp_step hj (fun K' hK => k K' (fun a w hS hW => hK a w ⟨fun _ => hS, hW (inv.set h2 hjn)⟩))
end
def trimO (K : Nat → Bool) (S : Nat) (G : List (Nat × Nat × Nat)) : Option (Nat × List (Nat × Nat × Nat)) := if numTo K S = 0 then none else some (numTo K S, keepG K G)
end Go.Proofs.YtpfeflhcbcgbfaaGreatDoor
