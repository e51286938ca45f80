/- What the laws do with tables and sessions: sized, copied, compared. Conditions: what came in lies in memory. -/
import Derived.Deep.Slices
import Derived.Deep.Strs
import Derived.Test.YtpfeflhcbcgbfaaGreatDoorSrch
import Derived.Test.YtpfeflhcbcgbfaaGreatDoorIntsIn
import Derived.Test.YtpfeflhcbcgbfaaGreatDoorZero
import Derived.Test.YtpfeflhcbcgbfaaGreatDoorMat
namespace Go.Proofs.YtpfeflhcbcgbfaaGreatDoor
open Go.ChangeShapes Go.WideShapes Go.ChangeAt Go.RowKit
open Go.ChangeMaps (open_string shut_string)

/-- What a session says. -/
structure Ses where
  rows : List (List Int)
  l : Int
  ss : List ByteArray
  k : Int
  q : Int
  o : ByteArray
structure SesFit (s : Ses) : Prop where
  rows : s.rows.length * 24 ≤ 140737488355328
  row : ∀ r ∈ s.rows, r.length * 8 ≤ 140737488355328
  ss : s.ss.length * 16 ≤ 140737488355328
  sz : ∀ x ∈ s.ss, x.size ≤ maxLen
  o : s.o.size ≤ maxLen
/-- A session as it reads. -/
def SesAt (W : World) (v : Value) (s : Ses) : Prop :=
  ∃ a c b d, v = .agg #[.slice a s.rows.length c, .int .i64 s.l, .slice b s.ss.length d, .int .i64 s.k, .int .i64 s.q, .string s.o] ∧ TabAt W a s.rows.length s.rows ∧ RowAt W b s.ss.length (strVals s.ss)
theorem SesAt.below {B : Nat} {w w' : World} {v : Value} {s : Ses} (h : SesAt w v s) (hb : Below B w w') (hB : w.heap.size ≤ B) : SesAt w' v s := by
  obtain ⟨a, c, b, d, e, h1, h2⟩ := h
  exact ⟨a, c, b, d, e, h1.below hb hB, h2.below hb hB⟩
def SesIn (W : World) (v : Value) : Prop := ∃ s, SesAt W v s ∧ SesFit s
theorem cellsSliceI : Tryz.prog.cellsOf 39 = 1 := by kernel_rfl
theorem cellsSliceII : Tryz.prog.cellsOf 31 = 1 := by kernel_rfl
theorem cellsSliceS : Tryz.prog.cellsOf 22 = 1 := by kernel_rfl
theorem bytesSliceI : Tryz.prog.bytesOf 39 = 24 := by kernel_rfl
theorem cellsShift : Tryz.prog.cellsOf 24 = 2 := by kernel_rfl
theorem cellsInt1 : Tryz.prog.cellsOf 3 = 1 := by kernel_rfl
theorem plain_of {W : World} {a : Addr} {v : Value} (h : W.cell? (a.add 0) = some v) : ∃ b off, a = ⟨b, off, none⟩ ∧ b < W.heap.size := by
  obtain ⟨b, off, spot⟩ := a
  have hspot : spot = none := by simpa [Addr.add] using World.cell?_spot h
  subst hspot
  exact ⟨b, off, rfl, by have := World.block_lt_of_cell? W _ h; simpa [Addr.add] using this⟩
theorem weightsAll_mem {H : Type} {P : Program} {e : TypeId} {d : DataW H} {x : Nat} : ∀ {l : List (DataW H)}, d ∈ l → x ∈ d.weights P e → x ∈ DataW.weightsAll P e l
  | a :: r, hd, hx => by
    rw [DataW.weightsAll, List.mem_append]
    rcases List.mem_cons.1 hd with rfl | h
    · exact .inl hx
    · exact .inr (weightsAll_mem h hx)
set_option maxRecDepth 100000 in
theorem ints_in {H : Type} {enc : TypeId × Value → H} {W : World} {v : Value} {fuel : Nat} {y : DataW H × List MemPlace} {ws : List Nat}
    (hf : DataW.trod enc Tryz.prog W 0 (fun _ => true) true fuel 39 [v] = some y)
    (hm : ∀ x ∈ y.1.weights Tryz.prog 39, x ∈ ws) (hall : ws.all (· ≤ reachBytes) = true) : ∃ a c xs, v = .slice a xs.length c ∧ RowAt W a xs.length (intVals xs) ∧ xs.length * 8 ≤ 140737488355328 := by
  rcases open_ints Tryz.underlying39 Tryz.underlying3 cellsIntV hf with ⟨hcs, hx⟩ | ⟨a, len, cap, zs, hcs, _, hl, hm2, hz, hx, hcell, hwz⟩
  · simp at hcs
    exact ⟨none, 0, [], hcs, ⟨rfl, by simp, fun h => by simp at h⟩, by simp⟩
  · simp at hcs
    subst hx
    simp only [if_true] at hz
    have hre : len * 8 ≤ 140737488351232 := by
      have h1 := hm ((len + (zs.length - len)) * Tryz.prog.bytesOf 3) (by simp [DataW.weights, Tryz.underlying39, lits, hz, hl])
      have h2 := List.all_eq_true.1 hall _ h1
      rw [bytesIntV] at h2
      have h2 := of_decide_eq_true h2; simp only [reachBytes] at h2
      omega
    have hl2 : (zs.take len).length = len := by simp; omega
    refine ⟨some a, cap, zs.take len, by rw [hl2]; exact hcs, ?_, by rw [hl2]; omega⟩
    rw [hl2]
    refine ⟨by simp [intVals]; omega, by omega, fun hn => ?_⟩
    obtain ⟨b, off, rfl, hb⟩ := plain_of (hcell 0 (by omega))
    refine ⟨b, off, rfl, hb, fun k x hx => ?_⟩
    have hk : k < len := by
      have := (List.getElem?_eq_some_iff.1 hx).1
      simp [intVals] at this; omega
    have hc := hcell k (by omega)
    rw [add_plain] at hc
    rw [hc]
    simp only [intVals, List.getElem?_map, List.getElem?_take, hk, if_true] at hx
    obtain ⟨s, hs, rfl⟩ := Option.map_eq_some_iff.1 hx
    simp [List.getD, hs]
set_option maxRecDepth 100000 in
theorem strs_in {H : Type} {enc : TypeId × Value → H} {W : World} {v : Value} {fuel : Nat} {y : DataW H × List MemPlace} {ws : List Nat}
    (hf : DataW.trod enc Tryz.prog W 0 (fun _ => true) true fuel 22 [v] = some y)
    (hm : ∀ x ∈ y.1.weights Tryz.prog 22, x ∈ ws) (hall : ws.all (· ≤ reachBytes) = true) : ∃ a c ss, v = .slice a ss.length c ∧ RowAt W a ss.length (strVals ss) ∧ ss.length * 16 ≤ 140737488355328 ∧ ∀ s ∈ ss, s.size ≤ maxLen := by
  rcases open_strings Tryz.underlying22 Tryz.underlying9 cellsStr hf with ⟨hcs, hx⟩ | ⟨a, len, cap, ss, hcs, _, hl, hm2, hz, hx, hcell, hsz⟩
  · simp at hcs
    exact ⟨none, 0, [], hcs, ⟨rfl, by simp, fun h => by simp at h⟩, by simp, fun s hs => by simp at hs⟩
  · simp at hcs
    subst hx
    simp only [if_true] at hz
    have hre : len * 16 ≤ 140737488351232 := by
      have h1 := hm ((len + (ss.length - len)) * Tryz.prog.bytesOf 9) (by simp [DataW.weights, Tryz.underlying22, strs, hz, hl])
      have h2 := List.all_eq_true.1 hall _ h1
      rw [bytesStr] at h2
      have h2 := of_decide_eq_true h2; simp only [reachBytes] at h2
      omega
    have hl2 : (ss.take len).length = len := by simp; omega
    refine ⟨some a, cap, ss.take len, by rw [hl2]; exact hcs, ?_, by rw [hl2]; omega, fun s hs => hsz s (List.mem_of_mem_take hs)⟩
    rw [hl2]
    refine ⟨by simp [strVals]; omega, by omega, fun hn => ?_⟩
    obtain ⟨b, off, rfl, hb⟩ := plain_of (hcell 0 (by omega))
    refine ⟨b, off, rfl, hb, fun k x hx => ?_⟩
    have hk : k < len := by
      have := (List.getElem?_eq_some_iff.1 hx).1
      simp [strVals] at this; omega
    have hc := hcell k (by omega)
    rw [add_plain] at hc
    rw [hc]
    simp only [strVals, List.getElem?_map, List.getElem?_take, hk, if_true] at hx
    obtain ⟨s, hs, rfl⟩ := Option.map_eq_some_iff.1 hx
    simp [List.getD, hs]
set_option maxRecDepth 100000 in
theorem rows_in {H : Type} {enc : TypeId × Value → H} {W : World} {v : Value} {fuel : Nat} {y : DataW H × List MemPlace} {ws : List Nat}
    (hf : DataW.trod enc Tryz.prog W 0 (fun _ => true) true fuel 31 [v] = some y)
    (hm : ∀ x ∈ y.1.weights Tryz.prog 31, x ∈ ws) (hall : ws.all (· ≤ reachBytes) = true) : ∃ a c rows, v = .slice a rows.length c ∧ TabAt W a rows.length rows ∧ rows.length * 24 ≤ 140737488355328 ∧ ∀ r ∈ rows, r.length * 8 ≤ 140737488355328 := by
  rcases Go.Deep.open_slice1 Tryz.underlying31 cellsSliceI hf with ⟨hcs, hx⟩ | ⟨a, len, cap, m, n, V, D, Pl, hcs, _, hl, hm2, hmm, hx, hcell⟩
  · simp at hcs
    exact ⟨none, 0, [], hcs, ⟨[], ⟨rfl, by simp, fun h => by simp at h⟩, rfl, fun i x r hx => by simp at hx⟩, by simp, fun s hs => by simp at hs⟩
  · simp at hcs
    subst hx
    simp only [if_true] at hmm
    subst hmm
    have hre : len * 24 ≤ 140737488351232 := by
      have h1 := hm ((len + (m - len)) * Tryz.prog.bytesOf 39) (by simp [DataW.weights, Tryz.underlying31])
      have h2 := List.all_eq_true.1 hall _ h1
      rw [bytesSliceI] at h2
      have h2 := of_decide_eq_true h2; simp only [reachBytes] at h2
      omega
    obtain ⟨Z, hZ⟩ := Go.Deep.choose_lt (α := List Int) (n := len) (p := fun i xs => ∃ a' c', V i = .slice a' xs.length c' ∧ RowAt W a' xs.length (intVals xs) ∧ xs.length * 8 ≤ 140737488355328) (fun i hi => by
      obtain ⟨a', c', xs, h1, h2, h3⟩ := ints_in (ws := ws) (hcell i (by omega)).2 (fun x hx => hm x (by
        simp only [DataW.weights, Tryz.underlying31]
        exact List.mem_cons_of_mem _ (List.mem_append_left _ (weightsAll_mem (List.mem_map.2 ⟨i, List.mem_range.2 hi, rfl⟩) hx)))) hall
      exact ⟨xs, a', c', h1, h2, h3⟩)
    have hl2 : ((List.range len).map Z).length = len := by simp
    refine ⟨some a, _, (List.range len).map Z, by rw [hl2]; exact hcs, ?_, by rw [hl2]; omega, fun r hr => ?_⟩
    · rw [hl2]
      refine ⟨(List.range len).map V, ⟨by simp, by omega, fun hn => ?_⟩, by simp, fun i x r hx hr => ?_⟩
      · obtain ⟨b, off, rfl, hb⟩ := plain_of (hcell 0 (by omega)).1
        refine ⟨b, off, rfl, hb, fun k x hx => ?_⟩
        have hk : k < len := by simpa using (List.getElem?_eq_some_iff.1 hx).1
        have hc := (hcell k (by omega)).1
        rw [add_plain] at hc
        rw [hc]
        simpa [hk] using hx
      · have hi : i < len := by simpa using (List.getElem?_eq_some_iff.1 hx).1
        simp only [List.getElem?_map, List.getElem?_range hi, Option.map_some, Option.some.injEq] at hx hr
        subst hx hr
        obtain ⟨a', c', h1, h2, _⟩ := hZ i hi
        exact ⟨a', c', h1, h2⟩
    · obtain ⟨i, hi, rfl⟩ := List.mem_map.1 hr
      obtain ⟨_, _, _, _, h3⟩ := hZ i (List.mem_range.1 hi)
      exact h3
end Go.Proofs.YtpfeflhcbcgbfaaGreatDoor
namespace Go.Proofs.YtpfeflhcbcgbfaaGreatDoor
open Go.RowKit

/-- What is left of a size: a number up to L, or -1. -/
def SzP (L : Nat) (w : World) (e : Ending) (w' : World) : Prop :=
  ∃ r : Int, e = .returned (.int .i64 r) ∧ (r = -1 ∨ ∃ m : Nat, r = (m : Int) ∧ m ≤ L) ∧ Below w.heap.size w w'
/-- A table of the call's own, whatever its rows share among themselves. -/
def TabOwn (T1 T0 : TypeId) (w : World) (base : Nat) (v : Value) (n : Nat) (rows : List (List Int)) : Prop :=
  rows.length = n ∧ ∃ xs, w.ownsRow base T1 1 v n xs ∧ ∀ (i : Nat) (x : Value) (r : List Int), xs[i]? = some x → rows[i]? = some r → w.ownsRow base T0 1 x r.length (intVals r)
theorem own_setB {wr : World} {B e s n b : Nat} {v : Value} {xs : List Value} (h : wr.ownsRow B e s v n xs) (hb : b < B) (q : Nat) (y : Value) : (wr.setCell ⟨b, q, none⟩ y).ownsRow B e s v n xs :=
  h.kept (row := some b) ⟨rfl, rfl, rfl, by simp, fun p hq hr => Below.heap_setCell _ _ _ _ (fun e => hr (by rw [show p = b from e]))⟩ (by
    cases hv : v.ownBlock with
    | none => exact .inl rfl
    | some q =>
      refine .inr fun e => ?_
      injection e with e
      have := (h.lt q hv).1
      omega)
theorem TabOwn.set {T1 T0 : TypeId} {w : World} {base n b : Nat} {v : Value} {rows : List (List Int)} (h : TabOwn T1 T0 w base v n rows) (hb : b < base) (q : Nat) (y : Value) : TabOwn T1 T0 (w.setCell ⟨b, q, none⟩ y) base v n rows := by
  obtain ⟨hl, xs, h1, h2⟩ := h
  exact ⟨hl, xs, own_setB h1 hb _ _, fun i x r hx hr => own_setB (h2 i x r hx hr) hb _ _⟩
theorem TabOwn.below {T1 T0 : TypeId} {w w' : World} {base n : Nat} {v : Value} {rows : List (List Int)} (h : TabOwn T1 T0 w base v n rows) (hb : Below w.heap.size w w') : TabOwn T1 T0 w' base v n rows := by
  obtain ⟨hl, xs, h1, h2⟩ := h
  exact ⟨hl, xs, owns_below h1 hb, fun i x r hx hr => owns_below (h2 i x r hx hr) hb⟩
theorem TabOwn.base {T1 T0 : TypeId} {w : World} {base base' n : Nat} {v : Value} {rows : List (List Int)} (h : TabOwn T1 T0 w base v n rows) (hb : base' ≤ base) : TabOwn T1 T0 w base' v n rows := by
  obtain ⟨hl, xs, h1, h2⟩ := h
  exact ⟨hl, xs, owns_base h1 hb, fun i x r hx hr => owns_base (h2 i x r hx hr) hb⟩
theorem TabOwn.at_ {T1 T0 : TypeId} {w : World} {base n c : Nat} {a : Option Addr} {rows : List (List Int)} (h : TabOwn T1 T0 w base (.slice a n c) n rows) (hlim : n ≤ 140737488351232) (hs : ∀ r ∈ rows, r.length * 8 ≤ 140737488355328) : TabAt w a n rows := by
  obtain ⟨hl, xs, h1, h2⟩ := h
  obtain ⟨q, c2, he, hra⟩ := owns_rowAt h1 hlim
  injection he with e1 _ e2
  subst e1 e2
  exact ⟨xs, hra, by have := hra.len; rw [hl]; exact this, fun i x r hx hr => owns_rowAt (h2 i x r hx hr) (by have := hs r (List.mem_of_getElem? hr); omega)⟩
theorem szIntS_yes (a : Option Addr) (n c L : Nat) (w : World) (hL : L ≤ 1048576) (h : n ≤ L) :
    Calls Tryz.prog 37 #[.slice a n c, .int .i64 L] w fun e w' => e = .returned (.int .i64 ((L - n : Nat) : Int)) ∧ w = w' := by
  go_enter Tryz.func37, Tryz.ntmps37
  go_wp2
  go_ret
  exact ⟨ret_int (by omega), rfl⟩
theorem szIntS_no (a : Option Addr) (n c L : Nat) (w : World) (hL : L ≤ 1048576) (h : L < n) (hn : n ≤ 140737488355328) :
    Calls Tryz.prog 37 #[.slice a n c, .int .i64 L] w fun e w' => e = .returned (.int .i64 (-1)) ∧ w = w' := by
  go_enter Tryz.func37, Tryz.ntmps37
  go_wp2
  go_ret
  exact ⟨rfl, rfl⟩
set_option maxHeartbeats 1000000 in
theorem szIntSS_c (a : Option Addr) (n c L : Nat) (rows : List (List Int)) (w : World) (hr : TabAt w a n rows) (hL : L ≤ 1048576) (hs : ∀ r ∈ rows, r.length * 8 ≤ 140737488355328) :
    Calls Tryz.prog 10 #[.slice a n c, .int .i64 L] w (SzP L w) := by
  obtain ⟨hlen, hlim⟩ := tab_len hr
  have HLEN := hid hlen
  have HR := hid hr
  clear hlen hr
  unfold SzP
  by_cases hLn : n ≤ L
  · go_enter Tryz.func10, Tryz.ntmps10
    go_wp2
    go_loop [1, 5] (fun l i => ∃ (j r : Nat), j ≤ n ∧ i = .int .i64 j ∧ l = .int .i64 r ∧ r ≤ L) (fun _ i => n - (intOf i).toNat)
    case atStart => exact ⟨0, L - n, by omega, rfl, by go_num, by omega⟩
    case round =>
      obtain ⟨j, r, hj, rfl, rfl, hrl⟩ := hrel
      by_cases hlt : j < n
      · obtain ⟨row, hrow⟩ := get_some (l := rows) (n := j) (by rw [HLEN.out]; omega)
        obtain ⟨b1, off1, a', c', rfl, hbs, hcell1, hra⟩ := tab_row HR.out hlt hrow
        have hrl8 := hs row (List.mem_of_getElem? hrow)
        clear hrow hra
        by_cases hfit : row.length ≤ r
        · have HS := hid (szIntS_yes a' row.length c' r w (by omega) hfit)
          go_wp2_with (go_at_call 37; refine HS.out.mono ?_; rintro e w1 ⟨rfl, rfl⟩)
          go_round
          case rel => exact ⟨j + 1, r - row.length, by omega, by go_num, rfl, by omega⟩
          case measure => simp [intOf]; omega
        · have HS := hid (szIntS_no a' row.length c' r w (by omega) (by omega) (by omega))
          go_wp2_with (go_at_call 37; refine HS.out.mono ?_; rintro e w1 ⟨rfl, rfl⟩)
          go_ret
          exact ⟨_, rfl, .inl rfl, Below.refl _ _⟩
      · go_wp2
        go_ret
        exact ⟨_, rfl, .inr ⟨r, rfl, hrl⟩, Below.refl _ _⟩
  · go_enter Tryz.func10, Tryz.ntmps10
    go_wp2
    go_ret
    exact ⟨_, rfl, .inl rfl, Below.refl _ _⟩
theorem infoSliceI : (Tryz.prog.info? 39).map (fun i => (i.zero, i.size, i.bytes)) = some (some (.slice none 0 0), 1, 24) := by kernel_rfl
set_option maxHeartbeats 1000000 in
theorem toIntSS_c (a : Option Addr) (n c : Nat) (rows : List (List Int)) (w : World) (hr : TabAt w a n rows) (hlim : n * 24 ≤ 140737488355328) (hs : ∀ r ∈ rows, r.length * 8 ≤ 140737488355328) :
    Calls Tryz.prog 12 #[.slice a n c] w fun e w' => ∃ a' c', e = .returned (.slice a' n c') ∧ TabOwn 39 3 w' w.heap.size (.slice a' n c') n rows ∧ Below w.heap.size w w' := by
  have HLEN := hid (tab_len hr).1
  have HR := hid hr
  clear hr
  obtain ⟨i, hi, hz, hz1, hz2⟩ := info_parts infoSliceI
  go_enter Tryz.func12, Tryz.ntmps12
  go_wp2_with (first | (at_make; refine wpList_make_full _ rfl _ _ 31 rfl w.heap.size 39 i (.slice none 0 0) 1 Tryz.underlying31 hi hz hz1 .i64 .i64 _ _ n rfl rfl rfl rfl (by rw [hz2]; omega) (by unfold maxLen; omega) (Nat.le_refl _) ?_; intro w1 hown1 hgr1))
  have hb1 : Below w.heap.size w w1 := (Below.refl _ _).grown hgr1 (Nat.le_refl _) (by intro k h; cases h)
  have hs1 : w.heap.size + 1 ≤ w1.heap.size := by have := (hown1.lt w.heap.size rfl).2; omega
  clear hgr1
  go_loopw [4] (fun i wr => ∃ (j : Nat) (xs : List Value), j ≤ n ∧ i = .int .i64 j ∧ wr.ownsRow w.heap.size 39 1 (.slice (some ⟨w.heap.size, 0, none⟩) n n) n xs ∧ (∀ (i : Nat) (x : Value) (r : List Int), i < j → xs[i]? = some x → rows[i]? = some r → wr.ownsRow (w.heap.size + 1) 3 1 x r.length (intVals r)) ∧ Below w.heap.size w wr ∧ w.heap.size + 1 ≤ wr.heap.size) (fun i _ => n - (intOf i).toNat)
  case atStart => exact ⟨0, _, by omega, rfl, hown1, fun i x r hi => by omega, hb1, hs1⟩
  case round =>
    obtain ⟨j, xs, hj, rfl, hown, hin, hbel, hsz⟩ := hrel
    by_cases hlt : j < n
    · obtain ⟨row, hrow⟩ := get_some (l := rows) (n := j) (by rw [HLEN.out]; omega)
      obtain ⟨b1, off1, a', c', rfl, hbs, hcell1, hra⟩ := tab_row HR.out hlt hrow
      have hcell1 := (hbel.cell (p := ⟨b1, off1 + j, none⟩) hbs).trans hcell1
      have hrl8 := hs row (List.mem_of_getElem? hrow)
      have HT := hid (toIntS_c a' row.length c' row wr (hra.below hbel (Nat.le_refl _)) hrl8)
      have hxl : xs.length = n := by simpa using hown.1
      obtain ⟨u, hu⟩ := get_some (l := xs) (n := j) (by omega)
      have HIN := hid hin
      have HROW := hid hrow
      clear hra hrow hin
      go_wp2_with (go_at_call 46; refine HT.out.mono ?_; rintro e w2 ⟨v, rfl, ho2, hb2⟩; obtain ⟨aq, cq, rfl, hrq⟩ := owns_rowAt ho2 (by omega); clear hrq; have hown2 := owns_below hown hb2; have hcell : w2.cell? ⟨w.heap.size, j, none⟩ = some u := (hown2.cellAt j (by omega)).trans hu; have hfr := hown2.frozenAt j)
      go_roundw
      case rel =>
        have hst := hown2.stored j (.slice aq row.length cq)
        refine ⟨j + 1, xs.set j (.slice aq row.length cq), by omega, by go_num, hst.1, fun i x r hi hx hr => ?_, ((hbel.trans (hb2.mono hbel.size)).grown hst.2 (Nat.le_trans hbel.size hb2.size) (by rintro k ⟨⟩; exact Nat.le_refl _)), by simp; have := hb2.size; omega⟩
        by_cases hij : i = j
        · subst hij
          rw [List.getElem?_set_self (by omega)] at hx
          rw [HROW.out] at hr
          injection hx with hx
          injection hr with hr
          subst hx hr
          exact own_setB (owns_base ho2 hsz) (by omega) _ _
        · rw [List.getElem?_set_ne (by omega)] at hx
          exact own_setB (owns_below (HIN.out i x r (by omega) hx hr) hb2) (by omega) _ _
      case measure => simp [intOf]; omega
    · obtain rfl : j = n := by omega
      go_wp2
      go_ret
      exact ⟨_, _, rfl, ⟨HLEN.out, xs, hown, fun i x r hx hr => owns_base (hin i x r (by have h1 := (List.getElem?_eq_some_iff.1 hx).1; have h2 : xs.length = j := by simpa using hown.1
                                                                                         omega) hx hr) (by omega)⟩, hbel⟩
end Go.Proofs.YtpfeflhcbcgbfaaGreatDoor
