/- Rows of arcs: compared, marked, held. Conditions: the rows lie in memory. -/
import Derived.Test.YtomeinlaiidmpaaOpen
import Derived.Test.YtomeinlaiidmpaaAppN
import Derived.Test.YtomeinlaiidmpaaBox
import Derived.Deep.RegionHeld3
namespace Go.Proofs.Ytomeinlaiidmpaa
open Go.RowKit

theorem three_get {xs : List Int} {n j : Nat} (hl : xs.length = n * 3) (hj : j < n) : ∃ x y z, xs[j * 3]? = some x ∧ xs[j * 3 + 1]? = some y ∧ xs[j * 3 + 2]? = some z := by
  obtain ⟨x, hx⟩ := get_some (l := xs) (n := j * 3) (by omega)
  obtain ⟨y, hy⟩ := get_some (l := xs) (n := j * 3 + 1) (by omega)
  obtain ⟨z, hz⟩ := get_some (l := xs) (n := j * 3 + 2) (by omega)
  exact ⟨x, y, z, hx, hy, hz⟩
/-- The three cells of an element. -/
def Cell3 (w : World) (b o : Nat) (x y z : Int) : Prop := w.cell? ⟨b, o, none⟩ = some (.int .i64 x) ∧ w.cell? ⟨b, o + 1, none⟩ = some (.int .i64 y) ∧ w.cell? ⟨b, o + 2, none⟩ = some (.int .i64 z)
theorem Cell3.below {B : Nat} {w w' : World} {b o : Nat} {x y z : Int} (h : Cell3 w b o x y z) (hb : Below B w w') (hB : b < B) : Cell3 w' b o x y z :=
  ⟨(hb.cell (p := ⟨b, o, none⟩) hB).trans h.1, (hb.cell (p := ⟨b, o + 1, none⟩) hB).trans h.2.1, (hb.cell (p := ⟨b, o + 2, none⟩) hB).trans h.2.2⟩
theorem row3 {w : World} {b off n : Nat} {xs : List Int} {j : Nat} (hc : ∀ k v, (intVals xs)[k]? = some v → w.cell? ⟨b, off + k, none⟩ = some v) (hl : xs.length = n * 3) (hj : j < n) : ∃ x y z, Cell3 w b (off + j * 3) x y z ∧ xs[j * 3]? = some x ∧ xs[j * 3 + 1]? = some y ∧ xs[j * 3 + 2]? = some z := by
  obtain ⟨x, y, z, hx, hy, hz⟩ := three_get hl hj
  refine ⟨x, y, z, ⟨hc _ _ (intVals_get hx), ?_, ?_⟩, hx, hy, hz⟩
  · have := hc _ _ (intVals_get hy); rwa [← Nat.add_assoc] at this
  · have := hc _ _ (intVals_get hz); rwa [← Nat.add_assoc] at this
theorem eqArc_c (x y z : Int) (w : World) :
    Calls Try.prog 74 #[.agg #[.int .i64 x, .int .i64 y, .int .i64 z], .agg #[.int .i64 x, .int .i64 y, .int .i64 z]] w fun e w' => e = .returned (.bool true) ∧ Below w.heap.size w w' := by
  go_enter Try.func74, Try.ntmps74
  go_wp2
  go_ret
  exact ⟨rfl, ((Below.refl _ _).alloc (Nat.le_refl _) _).alloc (by simp) _⟩
set_option maxHeartbeats 1000000 in
theorem eqArcS_c (a b : Option Addr) (n c d : Nat) (xs : List Int) (w : World) (hn : n ≤ 1000000) (ha : RowAt w a (n * 3) (intVals xs)) (hb : RowAt w b (n * 3) (intVals xs)) :
    Calls Try.prog 55 #[.slice a n c, .slice b n d] w fun e w' => e = .returned (.bool true) ∧ Below w.heap.size w w' := by
  obtain ⟨hl, hlim, hat⟩ := ha
  obtain ⟨_, _, hbt⟩ := hb
  have hlen := hid (show xs.length = n * 3 by simpa [intVals] using hl)
  have HA := hid hat
  have HB := hid hbt
  clear hl hlim hat hbt
  go_enter Try.func55, Try.ntmps55
  go_wp2
  go_loopw [5] (fun i wr => ∃ k : Nat, k ≤ n ∧ i = .int .i64 k ∧ Below w.heap.size w wr) (fun i _ => n - (intOf i).toNat)
  case atStart => exact ⟨0, by omega, rfl, Below.refl _ _⟩
  case round =>
    obtain ⟨k, hk, rfl, hbel⟩ := hrel
    by_cases hlt : k < n
    · obtain ⟨b1, off1, rfl, hb1, hc1⟩ := HA.out (by omega)
      obtain ⟨b2, off2, rfl, hb2, hc2⟩ := HB.out (by omega)
      obtain ⟨x, y, z, h1, hx, hy, hz⟩ := row3 hc1 hlen.out hlt
      obtain ⟨x', y', z', h2, hx', hy', hz'⟩ := row3 hc2 hlen.out hlt
      obtain rfl : x = x' := Option.some.inj (hx.symm.trans hx')
      obtain rfl : y = y' := Option.some.inj (hy.symm.trans hy')
      obtain rfl : z = z' := Option.some.inj (hz.symm.trans hz')
      have H1 := hid (h1.below hbel hb1)
      have H2 := hid (h2.below hbel hb2)
      have hb1' : b1 < wr.heap.size := Nat.lt_of_lt_of_le hb1 hbel.size
      have hb2' : b2 < wr.heap.size := Nat.lt_of_lt_of_le hb2 hbel.size
      have HK := hid (fun (V : World) (hV : Below wr.heap.size wr V) => show V.cell? ⟨b1, off1 + k * 3, none⟩ = some (.int .i64 x) ∧ V.cell? ⟨b1, off1 + k * 3 + 1, none⟩ = some (.int .i64 y) ∧ V.cell? ⟨b1, off1 + k * 3 + 2, none⟩ = some (.int .i64 z) ∧ V.cell? ⟨b2, off2 + k * 3, none⟩ = some (.int .i64 x) ∧ V.cell? ⟨b2, off2 + k * 3 + 1, none⟩ = some (.int .i64 y) ∧ V.cell? ⟨b2, off2 + k * 3 + 2, none⟩ = some (.int .i64 z) ∧ Below wr.heap.size wr V from by
        have q1 := H1.out.below hV hb1'
        have q2 := H2.out.below hV hb2'
        exact ⟨q1.1, q1.2.1, q1.2.2, q2.1, q2.2.1, q2.2.2, hV⟩)
      have hbZ : Below wr.heap.size wr wr.drew := (Below.refl _ _).drew
      have HE := hid (fun w => eqArc_c x y z w)
      clear hx hy hz hx' hy' hz' hc1 hc2 h1 h2
      go_wp2
      go_region_held3 (fun V => V.cell? ⟨b1, off1 + k * 3, none⟩ = some (.int .i64 x) ∧ V.cell? ⟨b1, off1 + k * 3 + 1, none⟩ = some (.int .i64 y) ∧ V.cell? ⟨b1, off1 + k * 3 + 2, none⟩ = some (.int .i64 z) ∧ V.cell? ⟨b2, off2 + k * 3, none⟩ = some (.int .i64 x) ∧ V.cell? ⟨b2, off2 + k * 3 + 1, none⟩ = some (.int .i64 y) ∧ V.cell? ⟨b2, off2 + k * 3 + 2, none⟩ = some (.int .i64 z) ∧ Below wr.heap.size wr V)
        (first | with_reducible exact HK.out _ hbZ)
        (first | (go_at_call 74; refine (HE.out _).mono ?_; rintro e w3 ⟨rfl, hb3⟩; have hbZ := hbZ.trans (hb3.mono hbZ.size)))
      go_wp2
      go_roundw
      case rel => exact ⟨k + 1, by omega, by go_num, hbel.trans (hbZ.mono hbel.size)⟩
      case measure => simp [intOf]; omega
    · go_wp2
      go_ret
      exact ⟨rfl, hbel⟩
theorem marked_three {xs : List Value} {k n j : Nat} (hl : xs.length = n * 3) (hj : j < n) :
    (((marked (marks k (n * 3)) xs (j * 3)).set (j * 3) (.int .i64 ((k : Int) + j * 3))).set (j * 3 + 1) (.int .i64 ((k : Int) + j * 3 + 1))).set (j * 3 + 2) (.int .i64 ((k : Int) + j * 3 + 2)) = marked (marks k (n * 3)) xs ((j + 1) * 3) := by
  rw [marked_step (xs := xs) (ms := marks k (n * 3)) (n := n * 3) (j := j * 3) (u := .int .i64 ((k : Int) + j * 3)) hl (marks_len k _) (by omega) (by rw [marks_get (by omega)]; simp)]
  rw [marked_step (xs := xs) (ms := marks k (n * 3)) (n := n * 3) (j := j * 3 + 1) (u := .int .i64 ((k : Int) + j * 3 + 1)) hl (marks_len k _) (by omega) (by rw [marks_get (by omega)]; simp; omega)]
  rw [marked_step (xs := xs) (ms := marks k (n * 3)) (n := n * 3) (j := j * 3 + 1 + 1) (u := .int .i64 ((k : Int) + j * 3 + 2)) hl (marks_len k _) (by omega) (by rw [marks_get (by omega)]; simp; omega)]
  congr 1
  omega
set_option maxHeartbeats 1000000 in
theorem markArcS_c (base : Nat) (v : Value) (n k : Nat) (xs : List Value) (w : World) (ho : w.ownsRow base 71 3 v n xs) (hk : k ≤ 1000000) (hlim : n ≤ 1000000) :
    Calls Try.prog 56 #[v, .int .i64 k] w fun e w' => e = .returned (.int .i64 ((k + n * 3 : Nat) : Int)) ∧ w'.ownsRow base 71 3 v n (marks k (n * 3)) ∧ w.grownBy w' v.ownBlock := by
  have hxl := hid ho.1
  rcases hid ho.2 with ⟨rfl, rfl⟩ | ⟨g, cap, cur, rfl, hbg, hg, hnc, hcm, hcs, htake⟩
  · go_enter Try.func56, Try.ntmps56
    go_wp2
    refine wp_loop_rounds 1 ?_
    rw [rounds_succ]
    go_wp2
    go_ret
    exact ⟨rfl, World.ownsRow_nil _ _ _ _, World.grownBy.refl _ _⟩
  · clear hg hcs htake hcm
    go_enter Try.func56, Try.ntmps56
    go_wp2
    go_loopw [1, 5] (fun m i wr => ∃ j : Nat, j ≤ n ∧ i = .int .i64 j ∧ m = .int .i64 ((k + j * 3 : Nat) : Int) ∧ wr.ownsRow base 71 3 (.slice (some ⟨g, 0, none⟩) n cap) n (marked (marks k (n * 3)) xs (j * 3)) ∧ w.grownBy wr (some g)) (fun _ i _ => n - (intOf i).toNat)
    case atStart => exact ⟨0, by omega, rfl, rfl, by rw [Nat.zero_mul, marked_zero]; exact ho, World.grownBy.refl _ _⟩
    case round =>
      obtain ⟨j, hj, rfl, rfl, hown, hgr⟩ := hrel
      by_cases hlt : j < n
      · obtain ⟨u, hu⟩ := get_some (l := marked (marks k (n * 3)) xs (j * 3)) (n := j * 3) (by rw [hown.1]; omega)
        obtain ⟨u1, hu1⟩ := get_some (l := marked (marks k (n * 3)) xs (j * 3)) (n := j * 3 + 1) (by rw [hown.1]; omega)
        obtain ⟨u2, hu2⟩ := get_some (l := marked (marks k (n * 3)) xs (j * 3)) (n := j * 3 + 2) (by rw [hown.1]; omega)
        have hcell : wr.cell? ⟨g, j * 3, none⟩ = some u := (hown.cellAt (j * 3) (by omega)).trans hu
        have hcell1 : wr.cell? ⟨g, j * 3 + 1, none⟩ = some u1 := (hown.cellAt (j * 3 + 1) (by omega)).trans hu1
        have hcell2 : wr.cell? ⟨g, j * 3 + 2, none⟩ = some u2 := (hown.cellAt (j * 3 + 2) (by omega)).trans hu2
        have hfr := hown.frozenAt (j * 3)
        have hfr1 := hown.frozenAt (j * 3 + 1)
        have hfr2 := hown.frozenAt (j * 3 + 2)
        have HM := hid (marked_three (xs := xs) (k := k) (n := n) (j := j) hxl.out hlt)
        have hsum : ((k + j * 3 : Nat) : Int) = (k : Int) + (j : Int) * 3 := by omega
        clear hu hu1 hu2
        go_wp2
        go_roundw
        case rel =>
          have hst := hown.stored (j * 3) (.int .i64 ((k : Int) + j * 3))
          have hst1 := hst.1.stored (j * 3 + 1) (.int .i64 ((k : Int) + j * 3 + 1))
          have hst2 := hst1.1.stored (j * 3 + 2) (.int .i64 ((k : Int) + j * 3 + 2))
          rw [HM.out] at hst2
          exact ⟨j + 1, by omega, by go_num, by go_num, hst2.1, grown_trans hgr (grown_trans hst.2 (grown_trans hst1.2 hst2.2))⟩
        case measure => simp [intOf]; omega
      · obtain rfl : j = n := by omega
        go_wp2
        go_ret
        exact ⟨rfl, by rw [← marked_all (xs := xs) (ms := marks k (j * 3)) (by have := hxl.out; omega) (marks_len k _)]; exact hown, hgr⟩
set_option maxHeartbeats 1000000 in
theorem heldArcS_c (a : Option Addr) (n c k : Nat) (w : World) (hr : RowAt w a (n * 3) (marks k (n * 3))) (hk : k ≤ 1000000) (hn2 : n ≤ 1000000) :
    Calls Try.prog 57 #[.slice a n c, .int .i64 k] w fun e w' => e = .returned (.int .i64 ((k + n * 3 : Nat) : Int)) ∧ w = w' := by
  obtain ⟨_, hlim, hat⟩ := hr
  by_cases hn : n = 0
  · subst hn
    clear hat
    go_enter Try.func57, Try.ntmps57
    go_wp2
    refine wp_loop_rounds 1 ?_
    rw [rounds_succ]
    go_wp2
    go_ret
    exact ⟨rfl, rfl⟩
  · obtain ⟨b1, off1, rfl, hb1, hc1⟩ := hat (by omega)
    clear hat
    have HC1 := hid hc1
    clear hc1
    go_enter Try.func57, Try.ntmps57
    go_wp2
    go_loop [1, 5] (fun m i => ∃ j : Nat, j ≤ n ∧ i = .int .i64 j ∧ m = .int .i64 ((k + j * 3 : Nat) : Int)) (fun _ i => n - (intOf i).toNat)
    case atStart => exact ⟨0, by omega, rfl, rfl⟩
    case round =>
      obtain ⟨j, hjn, rfl, rfl⟩ := hrel
      by_cases hlt : j < n
      · have hcell1 := HC1.out (j * 3) _ (marks_get (by omega))
        have hcell2 := HC1.out (j * 3 + 1) _ (marks_get (by omega))
        have hcell3 := HC1.out (j * 3 + 2) _ (marks_get (by omega))
        rw [← Nat.add_assoc] at hcell2 hcell3
        have hs1 : ((k + j * 3 : Nat) : Int) = (k : Int) + (j : Int) * 3 := by omega
        have hs2 : ((k + (j * 3 + 1) : Nat) : Int) = (k : Int) + (j : Int) * 3 + 1 := by omega
        have hs3 : ((k + (j * 3 + 2) : Nat) : Int) = (k : Int) + (j : Int) * 3 + 2 := by omega
        rw [hs1] at hcell1
        rw [hs2] at hcell2
        rw [hs3] at hcell3
        clear hs2 hs3
        go_wp2
        go_round
        case rel => exact ⟨j + 1, by omega, by go_num, by go_num⟩
        case measure => simp [intOf]; omega
      · obtain rfl : j = n := by omega
        go_wp2
        go_ret
        exact ⟨rfl, rfl⟩
end Go.Proofs.Ytomeinlaiidmpaa
