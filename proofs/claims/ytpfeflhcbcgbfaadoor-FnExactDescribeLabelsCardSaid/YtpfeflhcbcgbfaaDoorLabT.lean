/- Labelled graphs: resolving ones, both sides. Conditions: the arcs lie in memory. -/
import Derived.Test.YtpfeflhcbcgbfaaDoorLabW
import Derived.Test.YtpfeflhcbcgbfaaDoorLabX
import Derived.Test.YtpfeflhcbcgbfaaDoorLabY
namespace Go.Proofs.YtpfeflhcbcgbfaaDoor
open Go.RowKit

def sameFL (a b : Int × Int × Int) : Bool := decide (b.1 = a.1) && decide (b.2.2 = a.2.2)
def resStep (A : List (Int × Int × Int)) (k : Nat) : Bool := k == 0 || !sameFL (arcAt A (k - 1)) (arcAt A k)
def resTo (A : List (Int × Int × Int)) : Nat → Bool | 0 => true | k + 1 => resTo A k && resStep A k
theorem resTo_stop {A : List (Int × Int × Int)} {k : Nat} (h : resStep A k = false) : ∀ j, resTo A (k + 1 + j) = false
  | 0 => by show (resTo A k && resStep A k) = false; rw [h]; simp
  | j + 1 => by show (resTo A (k + 1 + j) && _) = false; rw [resTo_stop h j]; rfl
def resolvB (L S : Int) (A : List (Int × Int × Int)) : Bool := labsB L S A && resTo A A.length
/-- What is sorted by beginning and letter, none twice, is valid and resolving. -/
theorem sorted_resolv {L S : Nat} {G : List (Nat × Nat × Nat)} (h : LabG L S G) (hs : SortG G) : resolvB L S (arcN G) = true := by
  have hk1 := h.k1
  have hk3 := h.k3
  have hs1 := h.s1
  have hs12 := h.s12
  have hget : ∀ k, k < G.length → ∃ a, G[k]? = some a ∧ arcAt (arcN G) k = ((a.1 : Int), (a.2.1 : Int), (a.2.2 : Int)) ∧ a.1 < S ∧ a.2.1 < S ∧ a.2.2 < L := fun k hk => by
    obtain ⟨a, ha⟩ := get_some hk
    exact ⟨a, ha, arcAt_get (arcN_get ha), h.arc a (List.mem_of_getElem? ha)⟩
  have hord : ∀ k a b, G[k]? = some a → G[k + 1]? = some b → a.1 < b.1 ∨ (a.1 = b.1 ∧ a.2.2 < b.2.2) := fun k a b ha hb => by
    have ha' := List.getElem?_eq_some_iff.1 ha
    have hb' := List.getElem?_eq_some_iff.1 hb
    have := List.pairwise_iff_getElem.1 hs k (k + 1) ha'.1 hb'.1 (by omega)
    rw [ha'.2, hb'.2] at this
    exact this
  have hprev : ∀ k, k < G.length → ∃ a, G[k]? = some a ∧ arcAt (arcN G) k = ((a.1 : Int), (a.2.1 : Int), (a.2.2 : Int)) ∧ (a.1 < S ∧ a.2.1 < S ∧ a.2.2 < L) ∧ (k = 0 ∨ ∃ b : Nat × Nat × Nat, arcAt (arcN G) (k - 1) = ((b.1 : Int), (b.2.1 : Int), (b.2.2 : Int)) ∧ (b.1 < a.1 ∨ (b.1 = a.1 ∧ b.2.2 < a.2.2))) := fun k hk => by
    obtain ⟨a, ha, h1, h2⟩ := hget k hk
    refine ⟨a, ha, h1, h2, ?_⟩
    rcases Nat.eq_zero_or_pos k with h0 | h0
    · exact .inl h0
    · obtain ⟨b, hb, h3, _⟩ := hget (k - 1) (by omega)
      exact .inr ⟨b, h3, hord (k - 1) b a hb (by rw [Nat.sub_add_cancel h0]; exact ha)⟩
  have h1 : ∀ n, n ≤ G.length → arcsTo L S (arcN G) n = true := fun n => by
    induction n with
    | zero => intro _; rfl
    | succ k ih =>
      intro hk
      unfold arcsTo
      rw [ih (by omega), Bool.true_and]
      obtain ⟨a, ha, e, b1, hb⟩ := hprev k (by omega)
      unfold arcStep arcOkB
      rw [e, inB_t (by simp only []; omega), inB_t (by simp only []; omega), inB_t (by simp only []; omega)]
      rcases hb with rfl | ⟨b, e2, hb⟩
      · rfl
      · rw [e2]
        have : befB ((b.1 : Int), (b.2.1 : Int), (b.2.2 : Int)) ((a.1 : Int), (a.2.1 : Int), (a.2.2 : Int)) = true := by
          rw [befB_iff]; simp only []; omega
        rw [this]; simp
  have h2 : ∀ n, n ≤ G.length → resTo (arcN G) n = true := fun n => by
    induction n with
    | zero => intro _; rfl
    | succ k ih =>
      intro hk
      unfold resTo
      rw [ih (by omega), Bool.true_and]
      obtain ⟨a, ha, e, b1, hb⟩ := hprev k (by omega)
      unfold resStep sameFL
      rw [e]
      rcases hb with rfl | ⟨b, e2, hb⟩
      · rfl
      · rw [e2]
        simp only []
        by_cases hf : (a.1 : Int) = (b.1 : Int)
        · rw [decide_eq_false (p := (a.2.2 : Int) = (b.2.2 : Int)) (by omega)]; simp
        · rw [decide_eq_false hf]; simp
  unfold resolvB labsB
  rw [arcN_len, h1 _ (Nat.le_refl _), h2 _ (Nat.le_refl _), inB_t (by omega), inB_t (by omega)]
  rfl
theorem labs_eq {L S : Int} {n : Nat} {A : List (Int × Int × Int)} (hn : A.length = n) : (arcsTo (IntKind.i64.wrap (L - 1) + 1) (IntKind.i64.wrap (S - 1) + 1) A n && inB L 1 3 && inB S 1 12) = labsB L S A := by
  unfold labsB
  rw [hn]
  by_cases hL : 1 ≤ L ∧ L ≤ 3
  · by_cases hS : 1 ≤ S ∧ S ≤ 12
    · rw [IntWalk.i64_in (L - 1) (by omega), IntWalk.i64_in (S - 1) (by omega), Int.sub_add_cancel, Int.sub_add_cancel]
      cases arcsTo L S A n <;> cases inB L 1 3 <;> cases inB S 1 12 <;> rfl
    · rw [inB_f (x := S) (by omega)]; simp
  · rw [inB_f (x := L) (by omega)]; simp
set_option maxHeartbeats 4000000 in
set_option maxRecDepth 100000 in
theorem l15Resolving_c (L S : Int) (a : Option Addr) (n c : Nat) (A : List (Int × Int × Int)) (w : World) (hr : RowAt w a (n * 3) (arcVals A)) (hn : n ≤ 1048576) :
    Calls Tryd.prog 34 #[.agg #[.int .i64 L, .int .i64 S, .slice a n c]] w fun e w' => e = .returned (.bool (resTo A n)) ∧ Below w.heap.size w w' := by
  have HBX := hid (fun (V : World) (hV : Below (w.heap.size + 1) (w.alloc (.cells #[.int .i64 L, .int .i64 S, .slice a n c] 29)) V) => lab_box hV)
  obtain ⟨W2, hW2⟩ : ∃ W2, W2 = w.alloc (.cells #[.int .i64 L, .int .i64 S, .slice a n c] 29) := ⟨_, rfl⟩
  have hB : Below w.heap.size w W2 := by rw [hW2]; exact (Below.refl _ _).alloc (Nat.le_refl _) _
  have hsz : W2.heap.size = w.heap.size + 1 := by rw [hW2]; simp
  rw [← hW2, ← hsz] at HBX
  have HAR := hid (arcs_at hr hB)
  have HB := hid hB
  have hzB : w.heap.size ≤ W2.heap.size := hB.size
  have HSTOP := hid (fun (k : Nat) (hk : k < n) (h : resStep A k = false) => show resTo A n = false from by
    have := resTo_stop h (n - (k + 1))
    rw [show k + 1 + (n - (k + 1)) = n by omega] at this
    exact this)
  have HSU := hid (fun (k : Nat) => show resTo A (k + 1) = (resTo A k && resStep A k) from rfl)
  obtain ⟨Z, hZ⟩ : ∃ Z : Nat → Bool, Z = resTo A := ⟨_, rfl⟩
  rw [← hZ] at HSTOP HSU
  rw [← hZ]
  have HZ0 := hid (show Z 0 = true by rw [hZ]; rfl)
  have HZ1 := hid (show Z 1 = true by rw [hZ]; rfl)
  clear hr hB hZ
  go_enter Tryd.func34, Tryd.ntmps34
  go_wp2
  rw [← hW2]
  clear hW2
  go_loopw [3] (fun i wr => ∃ k : Nat, k ≤ n ∧ i = .int .i64 ((k : Int) + 1) ∧ Hid (Z (k + 1) = true ∨ n = k) ∧ Hid (Z k = true) ∧ Below W2.heap.size W2 wr) (fun i _ => n - (intOf i).toNat)
  case atStart => exact ⟨0, by omega, rfl, hid (.inl HZ1.out), HZ0, Below.refl _ _⟩
  case round =>
    obtain ⟨j, hk, rfl, HZK, HZJ, hbel⟩ := hrel
    obtain ⟨⟨p0, p1, p2⟩, hz, hbw⟩ := HBX.out wr hbel
    by_cases hlt : j + 1 < n
    · obtain ⟨x, hx⟩ := get_some (l := A) (n := j + 1) (by rw [HAR.out.1]; exact hlt)
      obtain ⟨b1, off1, rfl, hb1, hc1⟩ := HAR.out.2 (j + 1) x hx
      obtain ⟨y, hy⟩ := get_some (l := A) (n := j) (by rw [HAR.out.1]; omega)
      obtain ⟨b1', off1', he, _, hd1⟩ := HAR.out.2 j y hy
      injection he with he
      injection he with he1 he2
      subst he1 he2
      have hst : resStep A (j + 1) = !sameFL y x := by
        unfold resStep
        rw [Nat.add_sub_cancel, arcAt_get hy, arcAt_get hx]
        rfl
      obtain ⟨f, t, l⟩ := y
      obtain ⟨f', t', l'⟩ := x
      obtain ⟨e0, e1, e2⟩ := hd1 wr hbel
      obtain ⟨g0, g1, g2⟩ := hc1 wr hbel
      have hji : (j : Int) + 1 < (n : Int) := by omega
      have hji2 : (j : Int) < (n : Int) := by omega
      simp only [] at e0 e1 e2 g0 g1 g2
      have hst2 : resStep A (j + 1) = !((f' == f) && (l' == l)) := by
        rw [hst]; unfold sameFL; simp only []
        by_cases h1 : f' = f <;> by_cases h2 : l' = l <;> simp [h1, h2]
      clear hst hx hy hc1 hd1
      obtain ⟨v1, hv1⟩ : ∃ v, v = (f' == f) := ⟨_, rfl⟩
      obtain ⟨v2, hv2⟩ : ∃ v, v = (l' == l) := ⟨_, rfl⟩
      rw [← hv1, ← hv2] at hst2
      replace hv1 := hv1.symm
      replace hv2 := hv2.symm
      cases v1
      · have HN := hid (show Z (j + 1 + 1) = true by rw [HSU.out, hst2]; rcases HZK.out with h | h; rw [h]; rfl; omega)
        clear hst2 hv2
        go_wp2
        go_quiet (fail)
        go_wp2
        go_roundw
        case rel => exact ⟨j + 1, by omega, by go_num, hid (.inl HN.out), hid (by rcases HZK.out with h | h; exact h; omega), below_drewN hbel _⟩
        case measure => simp [intOf] <;> omega
      · cases v2
        · have HN := hid (show Z (j + 1 + 1) = true by rw [HSU.out, hst2]; rcases HZK.out with h | h; rw [h]; rfl; omega)
          clear hst2
          go_wp2
          go_quiet (fail)
          go_wp2
          go_roundw
          case rel => exact ⟨j + 1, by omega, by go_num, hid (.inl HN.out), hid (by rcases HZK.out with h | h; exact h; omega), below_drewN hbel _⟩
          case measure => simp [intOf] <;> omega
        · have HR := hid (HSTOP.out (j + 1) hlt (by rw [hst2]; rfl))
          clear hst2
          go_wp2
          go_quiet (fail)
          go_wp2
          go_ret
          exact ⟨ret_bool HR.out.symm, below_drewN hbw _⟩
    · have HR := hid (show Z n = true by rcases Nat.lt_or_ge j n with h | h; rcases HZK.out with h2 | h2; rw [show n = j + 1 by omega]; exact h2; omega; rw [show n = j by omega]; exact HZJ.out)
      have hge : ¬ ((j : Int) + 1 < (n : Int)) := by omega
      go_wp2
      go_ret
      exact ⟨ret_bool HR.out.symm, hbw⟩
end Go.Proofs.YtpfeflhcbcgbfaaDoor
namespace Go.Proofs.YtpfeflhcbcgbfaaDoor
open Go.RowKit

set_option maxHeartbeats 4000000 in
set_option maxRecDepth 100000 in
theorem impl_isResolving_c (L S : Int) (a : Option Addr) (n c : Nat) (A : List (Int × Int × Int)) (w : World) (hr : RowAt w a (n * 3) (arcVals A)) (hn : n ≤ 1048576) :
    Calls Tryd.prog 22 #[.agg #[.int .i64 L, .int .i64 S, .slice a n c]] w fun e w' => e = .returned (.bool (resTo A n)) ∧ Below w.heap.size w w' := by
  have HBX := hid (fun (V : World) (hV : Below (w.heap.size + 1) (w.alloc (.cells #[.int .i64 L, .int .i64 S, .slice a n c] 29)) V) => lab_box hV)
  obtain ⟨W2, hW2⟩ : ∃ W2, W2 = w.alloc (.cells #[.int .i64 L, .int .i64 S, .slice a n c] 29) := ⟨_, rfl⟩
  have hB : Below w.heap.size w W2 := by rw [hW2]; exact (Below.refl _ _).alloc (Nat.le_refl _) _
  have hsz : W2.heap.size = w.heap.size + 1 := by rw [hW2]; simp
  rw [← hW2, ← hsz] at HBX
  have HAR := hid (arcs_at hr hB)
  have HB := hid hB
  have hzB : w.heap.size ≤ W2.heap.size := hB.size
  have HSTOP := hid (fun (k : Nat) (hk : k < n) (h : resStep A k = false) => show resTo A n = false from by
    have := resTo_stop h (n - (k + 1))
    rw [show k + 1 + (n - (k + 1)) = n by omega] at this
    exact this)
  have HSU := hid (fun (k : Nat) => show resTo A (k + 1) = (resTo A k && resStep A k) from rfl)
  obtain ⟨Z, hZ⟩ : ∃ Z : Nat → Bool, Z = resTo A := ⟨_, rfl⟩
  rw [← hZ] at HSTOP HSU
  rw [← hZ]
  have HZ0 := hid (show Z 0 = true by rw [hZ]; rfl)
  have HZ1 := hid (show Z 1 = true by rw [hZ]; rfl)
  clear hr hB hZ
  go_enter Tryd.func22, Tryd.ntmps22
  go_wp2
  rw [← hW2]
  clear hW2
  go_loopw [8] (fun i wr => ∃ k : Nat, k ≤ n ∧ i = .int .i64 k ∧ Hid (Z k = true) ∧ Below W2.heap.size W2 wr) (fun i _ => n - (intOf i).toNat)
  case atStart => exact ⟨0, by omega, rfl, HZ0, Below.refl _ _⟩
  case round =>
    obtain ⟨k, hk, rfl, HZK, hbel⟩ := hrel
    obtain ⟨⟨p0, p1, p2⟩, hz, hbw⟩ := HBX.out wr hbel
    by_cases hlt : k < n
    · obtain ⟨x, hx⟩ := get_some (l := A) (n := k) (by rw [HAR.out.1]; exact hlt)
      obtain ⟨b1, off1, rfl, hb1, hc1⟩ := HAR.out.2 k x hx
      by_cases hk0 : k = 0
      · subst hk0
        obtain ⟨f', t', l'⟩ := x
        obtain ⟨g0, g1, g2⟩ := hc1 wr hbel
        simp only [Nat.zero_mul, Nat.add_zero] at g0 g1 g2
        clear hx hc1
        go_wp2
        go_quiet (fail)
        go_wp2
        go_roundw
        case rel => exact ⟨0 + 1, by omega, by go_num, hid HZ1.out, below_drewN (hbel.alloc hbel.size _) _⟩
        case measure => simp [intOf] <;> omega
      · obtain ⟨j, rfl⟩ : ∃ j, k = j + 1 := ⟨k - 1, by omega⟩
        obtain ⟨y, hy⟩ := get_some (l := A) (n := j) (by rw [HAR.out.1]; omega)
        obtain ⟨b1', off1', he, _, hd1⟩ := HAR.out.2 j y hy
        injection he with he
        injection he with he1 he2
        subst he1 he2
        have hst : resStep A (j + 1) = !sameFL y x := by
          unfold resStep
          rw [Nat.add_sub_cancel, arcAt_get hy, arcAt_get hx]
          rfl
        obtain ⟨f, t, l⟩ := y
        obtain ⟨f', t', l'⟩ := x
        obtain ⟨e0, e1, e2⟩ := hd1 wr hbel
        obtain ⟨g0, g1, g2⟩ := hc1 wr hbel
        have hji : (j : Int) + 1 < (n : Int) := by omega
        have hji2 : (j : Int) < (n : Int) := by omega
        simp only [] at e0 e1 e2 g0 g1 g2
        have hst2 : resStep A (j + 1) = !((f' == f) && (l' == l)) := by
          rw [hst]; unfold sameFL; simp only []
          by_cases h1 : f' = f <;> by_cases h2 : l' = l <;> simp [h1, h2]
        clear hst hx hy hc1 hd1
        obtain ⟨v1, hv1⟩ : ∃ v, v = (f' == f) := ⟨_, rfl⟩
        obtain ⟨v2, hv2⟩ : ∃ v, v = (l' == l) := ⟨_, rfl⟩
        rw [← hv1, ← hv2] at hst2
        replace hv1 : (f == f') = v1 := by rw [hv1]; exact Bool.eq_iff_iff.2 (by simp only [beq_iff_eq]; exact eq_comm)
        replace hv2 : (l == l') = v2 := by rw [hv2]; exact Bool.eq_iff_iff.2 (by simp only [beq_iff_eq]; exact eq_comm)
        obtain ⟨WA, hWA⟩ : ∃ WA, WA = wr.alloc (.cells #[.int .i64 f', .int .i64 t', .int .i64 l'] 53) := ⟨_, rfl⟩
        have hbA : Below W2.heap.size W2 (wr.alloc (.cells #[.int .i64 f', .int .i64 t', .int .i64 l'] 53)) := hbel.alloc hbel.size _
        have hbF : Below w.heap.size w (wr.alloc (.cells #[.int .i64 f', .int .i64 t', .int .i64 l'] 53)) := hbw.alloc (by have := hbw.size; omega) _
        have hb1r : b1 < wr.heap.size := Nat.lt_of_lt_of_le hb1 hbel.size
        clear hWA
        cases v1
        · have HN := hid (show Z (j + 1 + 1) = true by rw [HSU.out, hst2, HZK.out]; rfl)
          clear hst2 hv2
          go_wp2
          go_quiet (fail)
          go_wp2
          go_roundw
          case rel => exact ⟨j + 1 + 1, by omega, by go_num, HN, below_drewN hbA _⟩
          case measure => simp [intOf] <;> omega
        · cases v2
          · have HN := hid (show Z (j + 1 + 1) = true by rw [HSU.out, hst2, HZK.out]; rfl)
            clear hst2
            go_wp2
            go_quiet (fail)
            go_wp2
            go_roundw
            case rel => exact ⟨j + 1 + 1, by omega, by go_num, HN, below_drewN hbA _⟩
            case measure => simp [intOf] <;> omega
          · have HR := hid (HSTOP.out (j + 1) hlt (by rw [hst2]; rfl))
            clear hst2
            go_wp2
            go_quiet (fail)
            go_wp2
            go_ret
            exact ⟨ret_bool HR.out.symm, below_drewN hbF _⟩
    · obtain rfl : k = n := by omega
      go_wp2
      go_ret
      exact ⟨ret_bool HZK.out.symm, hbw⟩
end Go.Proofs.YtpfeflhcbcgbfaaDoor
namespace Go.Proofs.YtpfeflhcbcgbfaaDoor
open Go.RowKit

theorem spec_IsLabels_c (L S : Int) (a : Option Addr) (n c : Nat) (A : List (Int × Int × Int)) (w : World) (hr : RowAt w a (n * 3) (arcVals A)) (hn : n ≤ 1048576) :
    Calls Tryd.prog 10 #[.agg #[.int .i64 L, .int .i64 S, .slice a n c]] w fun e w' => e = .returned (.bool (labsB L S A)) ∧ Below w.heap.size w w' := by
  rw [← labs_eq (L := L) (S := S) (A := A) (n := n) (by have := hr.len; rw [arcVals_len] at this; omega)]
  exact spec_IsLabels_w L S _ _ a n c A w hr rfl rfl hn
theorem spec_IsResolving_c (L S : Int) (a : Option Addr) (n c : Nat) (A : List (Int × Int × Int)) (w : World) (hr : RowAt w a (n * 3) (arcVals A)) (hn : n ≤ 1048576) :
    Calls Tryd.prog 12 #[.agg #[.int .i64 L, .int .i64 S, .slice a n c]] w fun e w' => e = .returned (.bool (resolvB L S A)) ∧ Below w.heap.size w w' := by
  have HBX := hid (fun (V : World) (hV : Below (w.heap.size + 1) (w.alloc (.cells #[.int .i64 L, .int .i64 S, .slice a n c] 29)) V) => lab_box hV)
  obtain ⟨W2, hW2⟩ : ∃ W2, W2 = w.alloc (.cells #[.int .i64 L, .int .i64 S, .slice a n c] 29) := ⟨_, rfl⟩
  have hB : Below w.heap.size w W2 := by rw [hW2]; exact (Below.refl _ _).alloc (Nat.le_refl _) _
  have hsz : W2.heap.size = w.heap.size + 1 := by rw [hW2]; simp
  rw [← hW2, ← hsz] at HBX
  have hlen : A.length = n := by have := hr.len; rw [arcVals_len] at this; omega
  have HI := hid (fun (W : World) (hW : Below w.heap.size w W) => spec_IsLabels_c L S a n c A W (hr.below hW (Nat.le_refl _)) hn)
  have HR := hid (fun (W : World) (hW : Below w.heap.size w W) => l15Resolving_c L S a n c A W (hr.below hW (Nat.le_refl _)) hn)
  have HB := hid hB
  have HV := hid (show resolvB L S A = (labsB L S A && resTo A n) by unfold resolvB; rw [hlen])
  obtain ⟨u1, hu1⟩ : ∃ u, u = labsB L S A := ⟨_, rfl⟩
  obtain ⟨u2, hu2⟩ : ∃ u, u = resTo A n := ⟨_, rfl⟩
  obtain ⟨u3, hu3⟩ : ∃ u, u = resolvB L S A := ⟨_, rfl⟩
  rw [← hu1] at HI
  rw [← hu2] at HR
  rw [← hu1, ← hu2, ← hu3] at HV
  rw [← hu3]
  obtain ⟨⟨p0, p1, p2⟩, _⟩ := HBX.out W2 (Below.refl _ _)
  clear hr hB hu1 hu2 hu3 hlen
  go_enter Tryd.func12, Tryd.ntmps12
  go_wp2_with (rw [← hW2])
  first | rw [← hW2] | skip
  clear hW2
  refine (HI.out _ HB.out).mono ?_
  rintro e w1 ⟨rfl, hb1⟩
  have HB1 := hid (HB.out.trans (hb1.mono HB.out.size))
  obtain ⟨⟨q0, q1, q2⟩, _⟩ := HBX.out w1 hb1
  cases u1
  · go_wp2
    go_ret
    exact ⟨ret_bool (by rw [HV.out]; rfl), HB1.out⟩
  · go_wp2_with fail
    refine (HR.out _ HB1.out).mono ?_
    rintro e w2 ⟨rfl, hb2⟩
    go_wp2
    go_ret
    exact ⟨ret_bool (by rw [HV.out]; rfl), HB1.out.trans (hb2.mono HB1.out.size)⟩
theorem impl_IsResolving_c (L S : Int) (a : Option Addr) (n c : Nat) (A : List (Int × Int × Int)) (w : World) (hr : RowAt w a (n * 3) (arcVals A)) (hn : n ≤ 1048576) :
    Calls Tryd.prog 47 #[.agg #[.int .i64 L, .int .i64 S, .slice a n c]] w fun e w' => e = .returned (.bool (resolvB L S A)) ∧ Below w.heap.size w w' := by
  have HBX := hid (fun (V : World) (hV : Below (w.heap.size + 1) (w.alloc (.cells #[.int .i64 L, .int .i64 S, .slice a n c] 29)) V) => lab_box hV)
  obtain ⟨W2, hW2⟩ : ∃ W2, W2 = w.alloc (.cells #[.int .i64 L, .int .i64 S, .slice a n c] 29) := ⟨_, rfl⟩
  have hB : Below w.heap.size w W2 := by rw [hW2]; exact (Below.refl _ _).alloc (Nat.le_refl _) _
  have hsz : W2.heap.size = w.heap.size + 1 := by rw [hW2]; simp
  rw [← hW2, ← hsz] at HBX
  have hlen : A.length = n := by have := hr.len; rw [arcVals_len] at this; omega
  have HI := hid (fun (W : World) (hW : Below w.heap.size w W) => impl_IsLabels_w L S a n c A W (hr.below hW (Nat.le_refl _)) hn)
  have HR := hid (fun (W : World) (hW : Below w.heap.size w W) => impl_isResolving_c L S a n c A W (hr.below hW (Nat.le_refl _)) hn)
  have HB := hid hB
  have HV := hid (show resolvB L S A = (labsB L S A && resTo A n) by unfold resolvB; rw [hlen])
  obtain ⟨u1, hu1⟩ : ∃ u, u = labsB L S A := ⟨_, rfl⟩
  obtain ⟨u2, hu2⟩ : ∃ u, u = resTo A n := ⟨_, rfl⟩
  obtain ⟨u3, hu3⟩ : ∃ u, u = resolvB L S A := ⟨_, rfl⟩
  rw [← hu1] at HI
  rw [← hu2] at HR
  rw [← hu1, ← hu2, ← hu3] at HV
  rw [← hu3]
  obtain ⟨⟨p0, p1, p2⟩, _⟩ := HBX.out W2 (Below.refl _ _)
  clear hr hB hu1 hu2 hu3 hlen
  go_enter Tryd.func47, Tryd.ntmps47
  go_wp2_with (rw [← hW2])
  first | rw [← hW2] | skip
  clear hW2
  refine (HI.out _ HB.out).mono ?_
  rintro e w1 ⟨rfl, hb1⟩
  have HB1 := hid (HB.out.trans (hb1.mono HB.out.size))
  obtain ⟨⟨q0, q1, q2⟩, _⟩ := HBX.out w1 hb1
  cases u1
  · go_wp2
    go_ret
    exact ⟨ret_bool (by rw [HV.out]; rfl), HB1.out⟩
  · go_wp2_with fail
    refine (HR.out _ HB1.out).mono ?_
    rintro e w2 ⟨rfl, hb2⟩
    go_wp2
    go_ret
    exact ⟨ret_bool (by rw [HV.out]; rfl), HB1.out.trans (hb2.mono HB1.out.size)⟩
end Go.Proofs.YtpfeflhcbcgbfaaDoor
