/- Boxes of the call's own, with their cells. No condition. -/
import Derived.Test.YtpfeflhcbcgbfaaGreatDoorProg
import Derived.WalkKit
import Derived.WalkSpells
import Derived.WalkLawsBesides
import Derived.Deep.QuietTactic
import Derived.BigQuiet
import Derived.ShutString
import Derived.Laws.BytesArg
namespace Go.Proofs.YtpfeflhcbcgbfaaGreatDoor
open Go.RowKit

theorem bcell {W w1 : World} (hb : Below W.heap.size W w1) : (∀ b o, b < W.heap.size → w1.cell? ⟨b, o, none⟩ = W.cell? ⟨b, o, none⟩) ∧ (∀ b o, b < W.heap.size → w1.frozen? ⟨b, o, none⟩ = W.frozen? ⟨b, o, none⟩) :=
  ⟨fun b o h => hb.cell (p := ⟨b, o, none⟩) h, fun b o h => hb.frozen (p := ⟨b, o, none⟩) h⟩
theorem hid {p : Prop} (h : p) : Hid p := h
theorem ret_bool {a b : Bool} (h : a = b) : Ending.returned (.bool a) = .returned (.bool b) := by rw [h]
theorem ret_int {k : IntKind} {a b : Int} (h : a = b) : Ending.returned (.int k a) = .returned (.int k b) := by rw [h]
theorem ret_str {a b : ByteArray} (h : a = b) : Ending.returned (.string a) = .returned (.string b) := by rw [h]
theorem below_drewN {B : Nat} {a w : World} (h : Below B a w) (n : Nat) : Below B a (w.drewN n) := ⟨h.os, h.tape, h.output, h.size, h.block⟩

/-- x lies from lo to hi. -/
def inB (x lo hi : Int) : Bool := decide (lo ≤ x ∧ x ≤ hi)
theorem inB_t {x lo hi : Int} (h : lo ≤ x ∧ x ≤ hi) : inB x lo hi = true := by simp [inB, h]
theorem inB_f {x lo hi : Int} (h : x < lo ∨ hi < x) : inB x lo hi = false := by simp [inB]; omega
theorem inB_iff {x lo hi : Int} : inB x lo hi = true ↔ lo ≤ x ∧ x ≤ hi := by simp [inB]

/-! Loops that ask every element. -/
section
variable {α : Type} {p : α → Bool} {l : List α} {n : Nat}
theorem all_stop {x : α} (h : l[n]? = some x) (hp : p x = false) : l.all p = false := by
  have hm := List.mem_of_getElem? h
  rw [List.all_eq_false]
  exact ⟨x, hm, by simp [hp]⟩
theorem all_step {x : α} (h : l[n]? = some x) (ht : (l.take n).all p = true) (hp : p x = true) : (l.take (n + 1)).all p = true := by
  rw [List.take_add_one, h]; simp [List.all_append, ht, hp]
theorem all_end (h : (l.take n).all p = true) (hn : l.length ≤ n) : l.all p = true := by rwa [List.take_of_length_le hn] at h
end

/-! Bytes of a text. -/
theorem byte_at (s : ByteArray) (n : Nat) (h : n < s.size) : s.data.toList[n]? = some s[n] := by
  have h' : n < s.data.size := h
  rw [Array.getElem?_toList, Array.getElem?_eq_getElem h']; rfl
theorem size_list (s : ByteArray) : s.data.toList.length = s.size := by simp
theorem get_some {α : Type} {l : List α} {n : Nat} (h : n < l.length) : ∃ x, l[n]? = some x := ⟨l[n], List.getElem?_eq_getElem h⟩

/-- The slice with the address a and the length n reads as the values xs. -/
structure RowAt (w : World) (a : Option Addr) (n : Nat) (xs : List Value) : Prop where
  len : xs.length = n
  lim : n ≤ 140737488351232
  at_ : 0 < n → ∃ b off, a = some ⟨b, off, none⟩ ∧ b < w.heap.size ∧ ∀ k x, xs[k]? = some x → w.cell? ⟨b, off + k, none⟩ = some x

theorem RowAt.below {B : Nat} {w w' : World} {a : Option Addr} {n : Nat} {xs : List Value} (h : RowAt w a n xs) (hb : Below B w w') (hB : w.heap.size ≤ B) : RowAt w' a n xs :=
  ⟨h.len, h.lim, fun hn => let ⟨b, off, ha, hlt, hc⟩ := h.at_ hn
    ⟨b, off, ha, Nat.lt_of_lt_of_le hlt hb.size, fun k x hx => (hb.cell (p := ⟨b, off + k, none⟩) (by show b < B; omega)).trans (hc k x hx)⟩⟩

theorem owns_rowAt {w : World} {base e : Nat} {v : Value} {n : Nat} {xs : List Value} (h : w.ownsRow base e 1 v n xs) (hlim : n ≤ 140737488351232) :
    ∃ a cap, v = .slice a n cap ∧ RowAt w a n xs := by
  have hl := h.1
  rcases h.2 with ⟨rfl, rfl⟩ | ⟨g, cap, cur, rfl, hb, hg, hnc, hcm, hcs, htake⟩
  · exact ⟨none, 0, rfl, by simpa using hl, hlim, fun h => by omega⟩
  · refine ⟨_, cap, rfl, by simpa using hl, hlim, fun hn => ⟨g, 0, rfl, (Array.getElem?_eq_some_iff.1 hg).1, fun k x hx => ?_⟩⟩
    rw [cell_of_row w g (0 + k) cur e (0, 0) hg]
    rw [← htake, List.getElem?_take] at hx
    split at hx
    · simpa using hx
    · cases hx

/-- A value appended to a slice of the call's own: what is owned, and that what lies below B is as it was. -/
theorem wpList_app1 {P : Program} {w0 wr : World} {ops : Array Oper} {rest : List Oper} {o : Oper} {a : Act} {Q : Exit → Act → World → Prop}
    (hg : o.guard = none) (s x : Operand) (t : TypeId) (hop : o.op = Op.call { callee := Callee.builtin Builtin.append, args := #[s, x], argTypes := #[t, t] })
    (B : Nat) (e : TypeId) (z : Value) (bytes : Nat) (h1 : P.underlying t = some (.slice e)) (hinfo : (P.info? e).map (fun i => (i.zero, i.size, i.bytes)) = some (some z, 1, bytes)) (hzs : z.cells.size = 1)
    (v : Value) (m : Nat) (xs : List Value) (u : Value) (hown : wr.ownsRow B e 1 v m xs) (hs : a.eval s = v) (hx : a.eval x = .slice (some ⟨wr.heap.size, 0, none⟩) 1 1)
    (hu : u.oneCell' = true) (hlim : (m + 1) * bytes ≤ 140737488355328) (hlim2 : m + 1 ≤ maxLen) (hbel : Below B w0 wr) (hB : B ≤ wr.heap.size)
    (hK : ∀ v' w1, w1.ownsRow B e 1 v' (m + 1) (xs ++ [u]) → Below B w0 w1 → wpList P ops Q rest (a.put o.dst v') w1) :
    wpList P ops Q (o :: rest) a (wr.alloc (.cells #[u] e)) := by
  obtain ⟨i, hi, hz, hz1, hz2⟩ := info_parts hinfo
  refine wpList_append_own _ hg s x t hop B e i z 1 bytes h1 hi hz hz1 hz2 hzs (by decide) v m xs hs (hown.alloc _) ⟨wr.heap.size, 0, none⟩ 1 1 [u] hx rfl ?_ ?_ hlim2 hlim (by simp; omega) ?_
  · intro j y hj
    match j, hj with
    | 0, hj => simp at hj; subst hj; simp [Addr.add]
  · intro y hy; simp at hy; subst hy; exact hu
  · intro v' w1 hown' hgrow _
    exact hK v' w1 hown' ((hbel.alloc hB _).grown hgrow (by simp; omega) (fun k hk => (hown.lt k hk).1))

/-- The cells of a block, one of them stored. -/
theorem cells_set {w : World} {b : Nat} {cs : Array Value} (h : ∀ k, w.cell? ⟨b, k, none⟩ = cs[k]?) (i : Nat) (hi : i < cs.size) (u : Value) (k : Nat) :
    (w.setCell ⟨b, i, none⟩ u).cell? ⟨b, k, none⟩ = (cs.setIfInBounds i u)[k]? := by
  by_cases hk : k = i
  · subst hk
    rw [World.cell?_setCell_same _ _ _ ((h k).trans (Array.getElem?_eq_getElem hi))]
    simp [hi]
  · rw [World.cell?_setCell_other _ _ _ _ (fun e => hk (by injection e with _ e2; exact e2.symm)), h k]
    rw [Array.getElem?_setIfInBounds, if_neg (by omega)]

theorem box_kept {w wr : World} {cs : Array Value} {T : TypeId} (h : Below (w.heap.size + 1) (w.alloc (.cells cs T)) wr) (k : Nat) :
    wr.cell? ⟨w.heap.size, k, none⟩ = cs[k]? ∧ wr.frozen? ⟨w.heap.size, k, none⟩ = false :=
  ⟨(h.cell (p := ⟨w.heap.size, k, none⟩) (by simp)).trans (World.cell?_alloc_at _ _ _ _ rfl), (h.frozen (p := ⟨w.heap.size, k, none⟩) (by simp)).trans (World.frozen?_alloc_at _ _ _ _ rfl)⟩

def byteVals (xs : List UInt8) : List Value := xs.map fun c => .int .u8 (c.toNat : Int)

theorem run_conv_row {P : Program} {w : World} (S D E : TypeId) (hs : P.underlying S = some (.slice E)) (he : P.underlying E = some (.int .u8)) (hd : P.underlying D = some .string)
    (ad : Option Addr) (n c : Nat) (xs : List UInt8) (hr : RowAt w ad n (byteVals xs)) : (convert S D (.slice ad n c)).run P w = .ok (.string ⟨xs.toArray⟩) w := by
  obtain ⟨hl, _, hat⟩ := hr
  have hlen : xs.length = n := by simpa [byteVals] using hl
  by_cases hn : n = 0
  · subst hn
    obtain rfl : xs = [] := List.eq_nil_of_length_eq_zero hlen
    cases ad with
    | none => rw [run_convert_bytes_nil w S E hs he 0 c D hd]; rfl
    | some ad =>
      rw [run_convert_bytes_string w S D E _ 0 c hs he hd, run_bytesToString w ad 0 c [] (run_loadCells_list (P := P) w ad [] (by intro j v h; simp at h))]
      rfl
  · obtain ⟨b, off, rfl, _, hc⟩ := hat (by omega)
    rw [run_convert_bytes_arg w S E hs he b off n c (xs.map fun c => (c.toNat : Int)) (by simpa using hlen) (fun i hi => ?_) D hd]
    · congr 2
      simp only [strOfNums, List.map_map]
      congr 2
      rw [List.map_congr_left (g := id) (by intro c _; simp), List.map_id]
    · obtain ⟨x, hx⟩ := get_some (l := xs) (n := i) (by omega)
      rw [hc i (.int .u8 (x.toNat : Int)) (by simp [byteVals, hx])]
      simp [List.getD, hx]

theorem wpList_convs {P : Program} {w : World} {ops : Array Oper} {rest : List Oper} {o : Oper} {a : Act} {Q : Exit → Act → World → Prop}
    (hg : o.guard = none) (x : Operand) (S D E : TypeId) (hop : o.op = Op.convert S D x) (hs : P.underlying S = some (.slice E)) (he : P.underlying E = some (.int .u8)) (hd : P.underlying D = some .string)
    (ad : Option Addr) (n c : Nat) (xs : List UInt8) (hx : a.eval x = .slice ad n c) (hr : RowAt w ad n (byteVals xs)) (hK : wpList P ops Q rest (a.put o.dst (.string ⟨xs.toArray⟩)) w) :
    wpList P ops Q (o :: rest) a w := by
  refine wpList_plain hg fun K hK' => ?_
  have hrun := run_conv_row (P := P) (w := w) S D E hs he hd ad n c xs hr
  unfold Oper.wp
  simp [execOp, hop, hx, hrun, Result.andThen]
  exact hK' _ _ hK

/-- A one-byte slice that has just been made. -/
theorem rowAt_byte1 (w : World) (E : TypeId) (x : Int) (c : UInt8) (h : (c.toNat : Int) = x) : RowAt (w.alloc (.cells #[.int .u8 x] E)) (some ⟨w.heap.size, 0, none⟩) 1 (byteVals [c]) := by
  refine ⟨rfl, by omega, fun _ => ⟨_, 0, rfl, by simp, fun k y hk => ?_⟩⟩
  match k, hk with
  | 0, hk =>
    simp only [byteVals, List.map_cons, List.map_nil, List.getElem?_cons_zero, Option.some.injEq] at hk
    rw [← hk, World.cell?_alloc_at _ _ _ _ rfl, ← h]; rfl
end Go.Proofs.YtpfeflhcbcgbfaaGreatDoor
namespace Go.Proofs.YtpfeflhcbcgbfaaGreatDoor
open Go.RowKit

/-- All letters of a text lie from a on, below a + k. -/
def lets (k : Int) (l : List UInt8) : Bool := l.all fun c => inB ((c.toNat : Int) - 97) 0 (k - 1)
def strVals (ss : List ByteArray) : List Value := ss.map Value.string

theorem strVals_get {ss : List ByteArray} {k : Nat} {s : ByteArray} (h : ss[k]? = some s) : (strVals ss)[k]? = some (.string s) := by simp [strVals, h]

/-- A substitution. -/
def isSubst (ss : List ByteArray) : Bool := decide (ss.length = 2 ∨ ss.length = 3) && ss.all (fun s => inB s.size 1 4 && lets ss.length s.data.toList)
set_option maxHeartbeats 400000 in
theorem l1In_c (x lo hi : Int) (w : World) :
    Calls Tryz.prog 58 #[.int .i64 x, .int .i64 lo, .int .i64 hi] w fun e w' => e = .returned (.bool (inB x lo hi)) ∧ w = w' := by
  by_cases h1 : lo ≤ x <;> by_cases h2 : x ≤ hi <;> {
      go_enter Tryz.func58, Tryz.ntmps58
      go_wp2
      go_ret
      exact ⟨by simp [inB, h1, h2], rfl⟩ }

set_option maxHeartbeats 400000 in
theorem areLetters_c (k : Int) (s : ByteArray) (w : World) (hs : s.size ≤ maxLen) (hk : -100 ≤ k ∧ k ≤ 140737488355328) :
    Calls Tryz.prog 70 #[.int .i64 k, .string s] w fun e w' => e = .returned (.bool (lets k s.data.toList)) ∧ w = w' := by
  unfold maxLen at hs
  go_enter Tryz.func70, Tryz.ntmps70
  go_wp2
  go_loop [8] (fun i => ∃ n : Nat, n ≤ s.size ∧ i = .int .i64 n ∧ Hid (lets k (s.data.toList.take n) = true)) (fun i => s.size - (intOf i).toNat)
  case atStart => exact ⟨0, Nat.zero_le _, rfl, rfl⟩
  case round =>
    obtain ⟨n, hn, rfl, H⟩ := hrel
    by_cases hlt : n < s.size
    · have hb : s[n].toNat < 256 := s[n].toNat_lt
      go_wp2
      · have hc : k ≤ (s[n].toNat : Int) - 97 := by omega
        go_ret
        exact ⟨ret_bool (by rw [show lets k s.data.toList = false from all_stop (byte_at s n hlt) (inB_f (by omega))]), rfl⟩
      · have hc : (s[n].toNat : Int) - 97 < k := by omega
        go_round
        case rel => exact ⟨n + 1, by omega, by go_num, all_step (byte_at s n hlt) H.out (inB_t (by omega))⟩
        case measure => simp [intOf]; omega
      · go_ret
        exact ⟨ret_bool (by rw [show lets k s.data.toList = false from all_stop (byte_at s n hlt) (inB_f (by omega))]), rfl⟩
    · go_wp2
      go_ret
      exact ⟨ret_bool (all_end H.out (by rw [size_list]; omega)).symm, rfl⟩


theorem isSubst_no {ss : List ByteArray} {k n : Nat} {s : ByteArray} (h : ss[k]? = some s) (hn : ss.length = n) (hb : ((s.size : Int) < 1 ∨ 4 < (s.size : Int)) ∨ (!lets n s.data.toList) = true) : isSubst ss = false := by
  rw [isSubst, all_stop h ?_, Bool.and_false]
  rw [hn]
  rcases hb with hb | hb
  · rw [inB_f hb]; rfl
  · simp at hb; rw [hb, Bool.and_false]

end Go.Proofs.YtpfeflhcbcgbfaaGreatDoor
namespace Go.Proofs.YtpfeflhcbcgbfaaGreatDoor
open Go.RowKit

def intVals (xs : List Int) : List Value := xs.map (Value.int .i64)
theorem intVals_get {ss : List Int} {k : Nat} {s : Int} (h : ss[k]? = some s) : (intVals ss)[k]? = some (.int .i64 s) := by simp [intVals, h]

theorem owns_below {w w' : World} {base e size : Nat} {v : Value} {n : Nat} {xs : List Value} (h : w.ownsRow base e size v n xs) (hb : Below w.heap.size w w') : w'.ownsRow base e size v n xs := by
  obtain ⟨h1, h2⟩ := h
  refine ⟨h1, ?_⟩
  rcases h2 with h2 | ⟨g, cap, cur, hv, hg, hh, r⟩
  · exact Or.inl h2
  · exact Or.inr ⟨g, cap, cur, hv, hg, by rw [hb.block g (Array.getElem?_eq_some_iff.1 hh).1]; exact hh, r⟩
theorem owns_base {w : World} {base base' e size : Nat} {v : Value} {n : Nat} {xs : List Value} (h : w.ownsRow base e size v n xs) (hb : base' ≤ base) : w.ownsRow base' e size v n xs := by
  obtain ⟨h1, h2⟩ := h
  refine ⟨h1, ?_⟩
  rcases h2 with h2 | ⟨g, cap, cur, hv, hg, hh, r⟩
  · exact Or.inl h2
  · exact Or.inr ⟨g, cap, cur, hv, Nat.le_trans hb hg, hh, r⟩

theorem grown_trans {a b c : World} {row : Option Nat} (h : a.grownBy b row) (k : b.grownBy c row) : a.grownBy c row :=
  ⟨k.os.trans h.os, k.tape.trans h.tape, k.output.trans h.output, Nat.le_trans h.size k.size, fun i hi hr => (k.block i (Nat.lt_of_lt_of_le hi h.size) hr).trans (h.block i hi hr)⟩

theorem below_grown {a b : World} (h : Below a.heap.size a b) (row : Option Nat) : a.grownBy b row := ⟨h.os, h.tape, h.output, h.size, fun k hk _ => h.block k hk⟩

def marks (k n : Nat) : List Value := (List.range n).map fun i => .int .i64 ((k + i : Nat) : Int)
theorem marks_len (k n : Nat) : (marks k n).length = n := by simp [marks]
theorem marks_get {k n i : Nat} (h : i < n) : (marks k n)[i]? = some (.int .i64 ((k + i : Nat) : Int)) := by simp [marks, h]

/-- The first j cells bear marks, the others are as they were. -/
def marked (ms xs : List Value) (j : Nat) : List Value := ms.take j ++ xs.drop j
theorem marked_zero (ms xs : List Value) : marked ms xs 0 = xs := by simp [marked]
theorem marked_all {ms xs : List Value} {n : Nat} (h : xs.length = n) (h2 : ms.length = n) : marked ms xs n = ms := by
  simp [marked, List.drop_of_length_le (Nat.le_of_eq h), List.take_of_length_le (Nat.le_of_eq h2)]
theorem marked_step {ms xs : List Value} {j n : Nat} {u : Value} (hn : xs.length = n) (h2 : ms.length = n) (h : j < n) (hu : ms[j]? = some u) : (marked ms xs j).set j u = marked ms xs (j + 1) := by
  have h3 : (ms.take j).length = j := by simp; omega
  unfold marked
  rw [List.set_append_right _ _ (by omega), h3, Nat.sub_self, List.take_add_one, hu]
  have hd : xs.drop j = xs[j]'(by omega) :: xs.drop (j + 1) := List.drop_eq_getElem_cons (by omega)
  rw [hd, List.set_cons_zero]; simp

set_option maxHeartbeats 1000000 in
theorem eqIntS_c (a b : Option Addr) (n c d : Nat) (xs : List Int) (w : World) (ha : RowAt w a n (intVals xs)) (hb : RowAt w b n (intVals xs)) :
    Calls Tryz.prog 56 #[.slice a n c, .slice b n d] w fun e w' => e = .returned (.bool true) ∧ Below w.heap.size w w' := by
  obtain ⟨hl, hlim, hat⟩ := ha
  obtain ⟨_, _, hbt⟩ := hb
  have hlen := hid (show xs.length = n by simpa [intVals] using hl)
  clear hl
  by_cases hn : n = 0
  · subst hn
    clear hat hbt
    go_enter Tryz.func56, Tryz.ntmps56
    go_wp2
    refine wp_loop_rounds 1 ?_
    rw [rounds_succ]
    go_wp2
    go_ret
    exact ⟨rfl, Below.refl _ _⟩
  · obtain ⟨b1, off1, rfl, hb1, hc1⟩ := hat (by omega)
    obtain ⟨b2, off2, rfl, hb2, hc2⟩ := hbt (by omega)
    clear hat hbt
    have HC1 := hid hc1
    have HC2 := hid hc2
    clear hc1 hc2
    go_enter Tryz.func56, Tryz.ntmps56
    go_wp2
    go_loopw [5] (fun i wr => ∃ k : Nat, k ≤ n ∧ i = .int .i64 k ∧ Below w.heap.size w wr) (fun i _ => n - (intOf i).toNat)
    case atStart => exact ⟨0, by omega, rfl, Below.refl _ _⟩
    case round =>
      obtain ⟨k, hk, rfl, hbel⟩ := hrel
      by_cases hlt : k < n
      · obtain ⟨s, hsk⟩ := get_some (l := xs) (n := k) (by rw [hlen.out]; exact hlt)
        have hcell1 := (hbel.cell (p := ⟨b1, off1 + k, none⟩) hb1).trans (HC1.out k _ (intVals_get hsk))
        have hcell2 := (hbel.cell (p := ⟨b2, off2 + k, none⟩) hb2).trans (HC2.out k _ (intVals_get hsk))
        clear hsk
        go_wp2
        go_quiet (fail)
        go_wp2
        go_roundw
        case rel => exact ⟨k + 1, by omega, by go_num, below_drewN hbel _⟩
        case measure => simp [intOf]; omega
      · go_wp2
        go_ret
        exact ⟨rfl, hbel⟩

set_option maxHeartbeats 1000000 in
theorem eqStringS_c (a b : Option Addr) (n c d : Nat) (xs : List ByteArray) (w : World) (ha : RowAt w a n (strVals xs)) (hb : RowAt w b n (strVals xs)) :
    Calls Tryz.prog 36 #[.slice a n c, .slice b n d] w fun e w' => e = .returned (.bool true) ∧ Below w.heap.size w w' := by
  obtain ⟨hl, hlim, hat⟩ := ha
  obtain ⟨_, _, hbt⟩ := hb
  have hlen := hid (show xs.length = n by simpa [strVals] using hl)
  clear hl
  by_cases hn : n = 0
  · subst hn
    clear hat hbt
    go_enter Tryz.func36, Tryz.ntmps36
    go_wp2
    refine wp_loop_rounds 1 ?_
    rw [rounds_succ]
    go_wp2
    go_ret
    exact ⟨rfl, Below.refl _ _⟩
  · obtain ⟨b1, off1, rfl, hb1, hc1⟩ := hat (by omega)
    obtain ⟨b2, off2, rfl, hb2, hc2⟩ := hbt (by omega)
    clear hat hbt
    have HC1 := hid hc1
    have HC2 := hid hc2
    clear hc1 hc2
    go_enter Tryz.func36, Tryz.ntmps36
    go_wp2
    go_loopw [5] (fun i wr => ∃ k : Nat, k ≤ n ∧ i = .int .i64 k ∧ Below w.heap.size w wr) (fun i _ => n - (intOf i).toNat)
    case atStart => exact ⟨0, by omega, rfl, Below.refl _ _⟩
    case round =>
      obtain ⟨k, hk, rfl, hbel⟩ := hrel
      by_cases hlt : k < n
      · obtain ⟨s, hsk⟩ := get_some (l := xs) (n := k) (by rw [hlen.out]; exact hlt)
        have hcell1 := (hbel.cell (p := ⟨b1, off1 + k, none⟩) hb1).trans (HC1.out k _ (strVals_get hsk))
        have hcell2 := (hbel.cell (p := ⟨b2, off2 + k, none⟩) hb2).trans (HC2.out k _ (strVals_get hsk))
        clear hsk
        go_wp2
        go_quiet (fail)
        go_wp2
        go_roundw
        case rel => exact ⟨k + 1, by omega, by go_num, below_drewN hbel _⟩
        case measure => simp [intOf]; omega
      · go_wp2
        go_ret
        exact ⟨rfl, hbel⟩

end Go.Proofs.YtpfeflhcbcgbfaaGreatDoor
namespace Go.Proofs.YtpfeflhcbcgbfaaGreatDoor
open Go.RowKit

/-- A box of the call's own, with its cells. -/
structure BoxC (w : World) (b : Nat) (A : Array Value) : Prop where
  lt : b < w.heap.size
  cell : ∀ k, w.cell? ⟨b, k, none⟩ = A[k]?
  froz : ∀ k, w.frozen? ⟨b, k, none⟩ = false
theorem BoxC.new (w : World) (A : Array Value) (T : TypeId) : BoxC (w.alloc (.cells A T)) w.heap.size A :=
  ⟨by simp, fun k => World.cell?_alloc_at _ _ _ _ rfl, fun k => World.frozen?_alloc_at _ _ _ _ rfl⟩
theorem BoxC.below {w w' : World} {b : Nat} {A : Array Value} (h : BoxC w b A) (hb : Below w.heap.size w w') : BoxC w' b A :=
  ⟨Nat.lt_of_lt_of_le h.lt hb.size, fun k => (hb.cell (p := ⟨b, k, none⟩) h.lt).trans (h.cell k), fun k => (hb.frozen (p := ⟨b, k, none⟩) h.lt).trans (h.froz k)⟩
theorem BoxC.grown {w w' : World} {b g : Nat} {A : Array Value} (h : BoxC w b A) (hg : w.grownBy w' (some g)) (hne : b ≠ g) : BoxC w' b A :=
  ⟨Nat.lt_of_lt_of_le h.lt hg.size, fun k => (World.cell?_of_block (a := ⟨b, k, none⟩) (hg.block b h.lt (by simpa using hne))).trans (h.cell k), fun k => (World.frozen?_of_block (a := ⟨b, k, none⟩) (hg.block b h.lt (by simpa using hne))).trans (h.froz k)⟩
theorem BoxC.other {w : World} {b q i : Nat} {A : Array Value} (h : BoxC w b A) (hne : q ≠ b) (v : Value) : BoxC (w.setCell ⟨q, i, none⟩ v) b A :=
  ⟨by simpa using h.lt, fun k => (World.cell?_setCell_other _ _ _ _ (fun e => hne (by injection e))).trans (h.cell k), fun k => (World.frozen?_setCell _ _ _ _).trans (h.froz k)⟩
theorem BoxC.alloc {w : World} {b : Nat} {A : Array Value} (h : BoxC w b A) (o : Obj) : BoxC (w.alloc o) b A := h.below ((Below.refl _ _).alloc (Nat.le_refl _) _)
theorem BoxC.c3 {w : World} {b : Nat} {x y z : Value} (h : BoxC w b #[x, y, z]) : (w.cell? ⟨b, 0, none⟩ = some x ∧ w.cell? ⟨b, 1, none⟩ = some y ∧ w.cell? ⟨b, 2, none⟩ = some z) ∧ (w.frozen? ⟨b, 0, none⟩ = false ∧ w.frozen? ⟨b, 1, none⟩ = false ∧ w.frozen? ⟨b, 2, none⟩ = false) :=
  ⟨⟨h.cell 0, h.cell 1, h.cell 2⟩, h.froz 0, h.froz 1, h.froz 2⟩
theorem BoxC.set {w : World} {b i : Nat} {A A' : Array Value} (h : BoxC w b A) (v : Value) (hi : i < A.size) (hA : ∀ k, A'[k]? = if k = i then some v else A[k]?) : BoxC (w.setCell ⟨b, i, none⟩ v) b A' := by
  refine ⟨by simpa using h.lt, fun k => ?_, fun k => (World.frozen?_setCell _ _ _ _).trans (h.froz k)⟩
  rw [hA k]
  by_cases hk : k = i
  · subst hk
    rw [if_pos rfl]
    exact World.cell?_setCell_same _ _ _ ((h.cell k).trans (Array.getElem?_eq_getElem hi))
  · rw [if_neg hk]
    exact (World.cell?_setCell_other _ _ _ _ (fun e => hk (by injection e with _ e2; exact e2.symm))).trans (h.cell k)
theorem boxD {w wr : World} {A : Array Value} {T : TypeId} (h : Below (w.alloc (.cells A T)).heap.size (w.alloc (.cells A T)) wr) :
    (∀ k, wr.cell? ⟨w.heap.size, k, none⟩ = A[k]?) ∧ (∀ k, wr.frozen? ⟨w.heap.size, k, none⟩ = false) ∧ w.heap.size < wr.heap.size ∧ Below w.heap.size w wr :=
  let h1 := (BoxC.new w A T).below h
  ⟨h1.cell, h1.froz, h1.lt, ((Below.refl _ _).alloc (Nat.le_refl _) _).trans (h.mono (by simp))⟩
theorem BoxC.at_ {w w' : World} {b B : Nat} {A : Array Value} (h : BoxC w b A) (hb : Below B w w') (hB : b < B) : BoxC w' b A :=
  ⟨Nat.lt_of_lt_of_le h.lt hb.size, fun k => (hb.cell (p := ⟨b, k, none⟩) hB).trans (h.cell k), fun k => (hb.frozen (p := ⟨b, k, none⟩) hB).trans (h.froz k)⟩
theorem BoxC.keep {w w' : World} {b : Nat} {row : Option Nat} {A : Array Value} (h : BoxC w b A) (hg : w.grownBy w' row) (hne : row ≠ some b) : BoxC w' b A :=
  ⟨Nat.lt_of_lt_of_le h.lt hg.size, fun k => (World.cell?_of_block (a := ⟨b, k, none⟩) (hg.block b h.lt (fun e => hne e.symm))).trans (h.cell k), fun k => (World.frozen?_of_block (a := ⟨b, k, none⟩) (hg.block b h.lt (fun e => hne e.symm))).trans (h.froz k)⟩
theorem BoxC.set0 {w : World} {b : Nat} {x y z : Value} (h : BoxC w b #[x, y, z]) (v : Value) : BoxC (w.setCell ⟨b, 0, none⟩ v) b #[v, y, z] :=
  h.set v (by simp) fun k => match k with | 0 => rfl | 1 => rfl | 2 => rfl | k + 3 => by simp
theorem BoxC.set1 {w : World} {b : Nat} {x y z : Value} (h : BoxC w b #[x, y, z]) (v : Value) : BoxC (w.setCell ⟨b, 1, none⟩ v) b #[x, v, z] :=
  h.set v (by simp) fun k => match k with | 0 => rfl | 1 => rfl | 2 => rfl | k + 3 => by simp
theorem BoxC.set2 {w : World} {b : Nat} {x y z : Value} (h : BoxC w b #[x, y, z]) (v : Value) : BoxC (w.setCell ⟨b, 2, none⟩ v) b #[x, y, v] :=
  h.set v (by simp) fun k => match k with | 0 => rfl | 1 => rfl | 2 => rfl | k + 3 => by simp
end Go.Proofs.YtpfeflhcbcgbfaaGreatDoor
