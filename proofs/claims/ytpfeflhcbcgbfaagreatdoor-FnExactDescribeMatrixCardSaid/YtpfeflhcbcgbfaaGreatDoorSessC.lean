/- What the laws do with tables and sessions: sized, copied, compared. Conditions: what came in lies in memory. -/
import Derived.Test.YtpfeflhcbcgbfaaGreatDoorOpenM
import Derived.Test.YtpfeflhcbcgbfaaGreatDoorSmal
namespace Go.Proofs.YtpfeflhcbcgbfaaGreatDoor
open Go.RowKit

/-- What is left of a size: a number up to L, or -1. -/
def SzP (L : Nat) (w : World) (e : Ending) (w' : World) : Prop :=
  ∃ r : Int, e = .returned (.int .i64 r) ∧ (r = -1 ∨ ∃ m : Nat, r = (m : Int) ∧ m ≤ L) ∧ Below w.heap.size w w'
/-- A table of the call's own, whatever its rows share among themselves. -/
def TabOwn (T1 T0 : TypeId) (w : World) (base : Nat) (v : Value) (n : Nat) (rows : List (List Int)) : Prop :=
  rows.length = n ∧ ∃ xs, w.ownsRow base T1 1 v n xs ∧ ∀ (i : Nat) (x : Value) (r : List Int), xs[i]? = some x → rows[i]? = some r → w.ownsRow base T0 1 x r.length (intVals r)
theorem own_setB {wr : World} {B e s n b : Nat} {v : Value} {xs : List Value} (h : wr.ownsRow B e s v n xs) (hb : b < B) (q : Nat) (y : Value) : (wr.setCell ⟨b, q, none⟩ y).ownsRow B e s v n xs :=
  h.kept (row := some b) ⟨rfl, rfl, rfl, by simp, fun p hq hr => Below.heap_setCell _ _ _ _ (fun e => hr (by rw [show p = b from e]))⟩ (by
    cases hv : v.ownBlock with
    | none => exact .inl rfl
    | some q =>
      refine .inr fun e => ?_
      injection e with e
      have := (h.lt q hv).1
      omega)
theorem TabOwn.set {T1 T0 : TypeId} {w : World} {base n b : Nat} {v : Value} {rows : List (List Int)} (h : TabOwn T1 T0 w base v n rows) (hb : b < base) (q : Nat) (y : Value) : TabOwn T1 T0 (w.setCell ⟨b, q, none⟩ y) base v n rows := by
  obtain ⟨hl, xs, h1, h2⟩ := h
  exact ⟨hl, xs, own_setB h1 hb _ _, fun i x r hx hr => own_setB (h2 i x r hx hr) hb _ _⟩
theorem TabOwn.below {T1 T0 : TypeId} {w w' : World} {base n : Nat} {v : Value} {rows : List (List Int)} (h : TabOwn T1 T0 w base v n rows) (hb : Below w.heap.size w w') : TabOwn T1 T0 w' base v n rows := by
  obtain ⟨hl, xs, h1, h2⟩ := h
  exact ⟨hl, xs, owns_below h1 hb, fun i x r hx hr => owns_below (h2 i x r hx hr) hb⟩
theorem TabOwn.base {T1 T0 : TypeId} {w : World} {base base' n : Nat} {v : Value} {rows : List (List Int)} (h : TabOwn T1 T0 w base v n rows) (hb : base' ≤ base) : TabOwn T1 T0 w base' v n rows := by
  obtain ⟨hl, xs, h1, h2⟩ := h
  exact ⟨hl, xs, owns_base h1 hb, fun i x r hx hr => owns_base (h2 i x r hx hr) hb⟩
theorem TabOwn.at_ {T1 T0 : TypeId} {w : World} {base n c : Nat} {a : Option Addr} {rows : List (List Int)} (h : TabOwn T1 T0 w base (.slice a n c) n rows) (hlim : n ≤ 140737488351232) (hs : ∀ r ∈ rows, r.length * 8 ≤ 140737488355328) : TabAt w a n rows := by
  obtain ⟨hl, xs, h1, h2⟩ := h
  obtain ⟨q, c2, he, hra⟩ := owns_rowAt h1 hlim
  injection he with e1 _ e2
  subst e1 e2
  exact ⟨xs, hra, by have := hra.len; rw [hl]; exact this, fun i x r hx hr => owns_rowAt (h2 i x r hx hr) (by have := hs r (List.mem_of_getElem? hr); omega)⟩
theorem szIntS_yes (a : Option Addr) (n c L : Nat) (w : World) (hL : L ≤ 1048576) (h : n ≤ L) :
    Calls Tryz.prog 37 #[.slice a n c, .int .i64 L] w fun e w' => e = .returned (.int .i64 ((L - n : Nat) : Int)) ∧ w = w' := by
  go_enter Tryz.func37, Tryz.ntmps37
  go_wp2
  go_ret
  exact ⟨ret_int (by omega), rfl⟩
theorem szIntS_no (a : Option Addr) (n c L : Nat) (w : World) (hL : L ≤ 1048576) (h : L < n) (hn : n ≤ 140737488355328) :
    Calls Tryz.prog 37 #[.slice a n c, .int .i64 L] w fun e w' => e = .returned (.int .i64 (-1)) ∧ w = w' := by
  go_enter Tryz.func37, Tryz.ntmps37
  go_wp2
  go_ret
  exact ⟨rfl, rfl⟩
set_option maxHeartbeats 1000000 in
theorem szIntSS_c (a : Option Addr) (n c L : Nat) (rows : List (List Int)) (w : World) (hr : TabAt w a n rows) (hL : L ≤ 1048576) (hs : ∀ r ∈ rows, r.length * 8 ≤ 140737488355328) :
    Calls Tryz.prog 10 #[.slice a n c, .int .i64 L] w (SzP L w) := by
  obtain ⟨hlen, hlim⟩ := tab_len hr
  have HLEN := hid hlen
  have HR := hid hr
  clear hlen hr
  unfold SzP
  by_cases hLn : n ≤ L
  · go_enter Tryz.func10, Tryz.ntmps10
    go_wp2
    go_loop [1, 5] (fun l i => ∃ (j r : Nat), j ≤ n ∧ i = .int .i64 j ∧ l = .int .i64 r ∧ r ≤ L) (fun _ i => n - (intOf i).toNat)
    case atStart => exact ⟨0, L - n, by omega, rfl, by go_num, by omega⟩
    case round =>
      obtain ⟨j, r, hj, rfl, rfl, hrl⟩ := hrel
      by_cases hlt : j < n
      · obtain ⟨row, hrow⟩ := get_some (l := rows) (n := j) (by rw [HLEN.out]; omega)
        obtain ⟨b1, off1, a', c', rfl, hbs, hcell1, hra⟩ := tab_row HR.out hlt hrow
        have hrl8 := hs row (List.mem_of_getElem? hrow)
        clear hrow hra
        by_cases hfit : row.length ≤ r
        · have HS := hid (szIntS_yes a' row.length c' r w (by omega) hfit)
          go_wp2_with (go_at_call 37; refine HS.out.mono ?_; rintro e w1 ⟨rfl, rfl⟩)
          go_round
          case rel => exact ⟨j + 1, r - row.length, by omega, by go_num, rfl, by omega⟩
          case measure => simp [intOf]; omega
        · have HS := hid (szIntS_no a' row.length c' r w (by omega) (by omega) (by omega))
          go_wp2_with (go_at_call 37; refine HS.out.mono ?_; rintro e w1 ⟨rfl, rfl⟩)
          go_ret
          exact ⟨_, rfl, .inl rfl, Below.refl _ _⟩
      · go_wp2
        go_ret
        exact ⟨_, rfl, .inr ⟨r, rfl, hrl⟩, Below.refl _ _⟩
  · go_enter Tryz.func10, Tryz.ntmps10
    go_wp2
    go_ret
    exact ⟨_, rfl, .inl rfl, Below.refl _ _⟩
theorem infoSliceI : (Tryz.prog.info? 39).map (fun i => (i.zero, i.size, i.bytes)) = some (some (.slice none 0 0), 1, 24) := by kernel_rfl
set_option maxHeartbeats 1000000 in
theorem toIntSS_c (a : Option Addr) (n c : Nat) (rows : List (List Int)) (w : World) (hr : TabAt w a n rows) (hlim : n * 24 ≤ 140737488355328) (hs : ∀ r ∈ rows, r.length * 8 ≤ 140737488355328) :
    Calls Tryz.prog 12 #[.slice a n c] w fun e w' => ∃ a' c', e = .returned (.slice a' n c') ∧ TabOwn 39 3 w' w.heap.size (.slice a' n c') n rows ∧ Below w.heap.size w w' := by
  have HLEN := hid (tab_len hr).1
  have HR := hid hr
  clear hr
  obtain ⟨i, hi, hz, hz1, hz2⟩ := info_parts infoSliceI
  go_enter Tryz.func12, Tryz.ntmps12
  go_wp2_with (first | (at_make; refine wpList_make_full _ rfl _ _ 31 rfl w.heap.size 39 i (.slice none 0 0) 1 Tryz.underlying31 hi hz hz1 .i64 .i64 _ _ n rfl rfl rfl rfl (by rw [hz2]; omega) (by unfold maxLen; omega) (Nat.le_refl _) ?_; intro w1 hown1 hgr1))
  have hb1 : Below w.heap.size w w1 := (Below.refl _ _).grown hgr1 (Nat.le_refl _) (by intro k h; cases h)
  have hs1 : w.heap.size + 1 ≤ w1.heap.size := by have := (hown1.lt w.heap.size rfl).2; omega
  clear hgr1
  go_loopw [4] (fun i wr => ∃ (j : Nat) (xs : List Value), j ≤ n ∧ i = .int .i64 j ∧ wr.ownsRow w.heap.size 39 1 (.slice (some ⟨w.heap.size, 0, none⟩) n n) n xs ∧ (∀ (i : Nat) (x : Value) (r : List Int), i < j → xs[i]? = some x → rows[i]? = some r → wr.ownsRow (w.heap.size + 1) 3 1 x r.length (intVals r)) ∧ Below w.heap.size w wr ∧ w.heap.size + 1 ≤ wr.heap.size) (fun i _ => n - (intOf i).toNat)
  case atStart => exact ⟨0, _, by omega, rfl, hown1, fun i x r hi => by omega, hb1, hs1⟩
  case round =>
    obtain ⟨j, xs, hj, rfl, hown, hin, hbel, hsz⟩ := hrel
    by_cases hlt : j < n
    · obtain ⟨row, hrow⟩ := get_some (l := rows) (n := j) (by rw [HLEN.out]; omega)
      obtain ⟨b1, off1, a', c', rfl, hbs, hcell1, hra⟩ := tab_row HR.out hlt hrow
      have hcell1 := (hbel.cell (p := ⟨b1, off1 + j, none⟩) hbs).trans hcell1
      have hrl8 := hs row (List.mem_of_getElem? hrow)
      have HT := hid (toIntS_c a' row.length c' row wr (hra.below hbel (Nat.le_refl _)) hrl8)
      have hxl : xs.length = n := by simpa using hown.1
      obtain ⟨u, hu⟩ := get_some (l := xs) (n := j) (by omega)
      have HIN := hid hin
      have HROW := hid hrow
      clear hra hrow hin
      go_wp2_with (go_at_call 46; refine HT.out.mono ?_; rintro e w2 ⟨v, rfl, ho2, hb2⟩; obtain ⟨aq, cq, rfl, hrq⟩ := owns_rowAt ho2 (by omega); clear hrq; have hown2 := owns_below hown hb2; have hcell : w2.cell? ⟨w.heap.size, j, none⟩ = some u := (hown2.cellAt j (by omega)).trans hu; have hfr := hown2.frozenAt j)
      go_roundw
      case rel =>
        have hst := hown2.stored j (.slice aq row.length cq)
        refine ⟨j + 1, xs.set j (.slice aq row.length cq), by omega, by go_num, hst.1, fun i x r hi hx hr => ?_, ((hbel.trans (hb2.mono hbel.size)).grown hst.2 (Nat.le_trans hbel.size hb2.size) (by rintro k ⟨⟩; exact Nat.le_refl _)), by simp; have := hb2.size; omega⟩
        by_cases hij : i = j
        · subst hij
          rw [List.getElem?_set_self (by omega)] at hx
          rw [HROW.out] at hr
          injection hx with hx
          injection hr with hr
          subst hx hr
          exact own_setB (owns_base ho2 hsz) (by omega) _ _
        · rw [List.getElem?_set_ne (by omega)] at hx
          exact own_setB (owns_below (HIN.out i x r (by omega) hx hr) hb2) (by omega) _ _
      case measure => simp [intOf]; omega
    · obtain rfl : j = n := by omega
      go_wp2
      go_ret
      exact ⟨_, _, rfl, ⟨HLEN.out, xs, hown, fun i x r hx hr => owns_base (hin i x r (by have h1 := (List.getElem?_eq_some_iff.1 hx).1; have h2 : xs.length = j := by simpa using hown.1
                                                                                         omega) hx hr) (by omega)⟩, hbel⟩
end Go.Proofs.YtpfeflhcbcgbfaaGreatDoor
