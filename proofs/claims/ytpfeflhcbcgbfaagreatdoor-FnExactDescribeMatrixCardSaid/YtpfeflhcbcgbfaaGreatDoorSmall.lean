/- Small functions of the reference: a bit, the lesser, the greater. No condition. -/
import Derived.Test.YtpfeflhcbcgbfaaGreatDoorProg
import Derived.WalkKit
import Derived.WalkSpells
import Derived.WalkLawsBesides
import Derived.Deep.QuietTactic
import Derived.BigQuiet
import Derived.ShutString
import Derived.Laws.BytesArg
namespace Go.Proofs.YtpfeflhcbcgbfaaGreatDoor
open Go.RowKit

theorem bcell {W w1 : World} (hb : Below W.heap.size W w1) : (∀ b o, b < W.heap.size → w1.cell? ⟨b, o, none⟩ = W.cell? ⟨b, o, none⟩) ∧ (∀ b o, b < W.heap.size → w1.frozen? ⟨b, o, none⟩ = W.frozen? ⟨b, o, none⟩) :=
  ⟨fun b o h => hb.cell (p := ⟨b, o, none⟩) h, fun b o h => hb.frozen (p := ⟨b, o, none⟩) h⟩
theorem hid {p : Prop} (h : p) : Hid p := h
theorem ret_bool {a b : Bool} (h : a = b) : Ending.returned (.bool a) = .returned (.bool b) := by rw [h]
theorem ret_int {k : IntKind} {a b : Int} (h : a = b) : Ending.returned (.int k a) = .returned (.int k b) := by rw [h]
theorem ret_str {a b : ByteArray} (h : a = b) : Ending.returned (.string a) = .returned (.string b) := by rw [h]
theorem below_drewN {B : Nat} {a w : World} (h : Below B a w) (n : Nat) : Below B a (w.drewN n) := ⟨h.os, h.tape, h.output, h.size, h.block⟩

/-- x lies from lo to hi. -/
def inB (x lo hi : Int) : Bool := decide (lo ≤ x ∧ x ≤ hi)
theorem inB_t {x lo hi : Int} (h : lo ≤ x ∧ x ≤ hi) : inB x lo hi = true := by simp [inB, h]
theorem inB_f {x lo hi : Int} (h : x < lo ∨ hi < x) : inB x lo hi = false := by simp [inB]; omega
theorem inB_iff {x lo hi : Int} : inB x lo hi = true ↔ lo ≤ x ∧ x ≤ hi := by simp [inB]

/-! Loops that ask every element. -/
section
variable {α : Type} {p : α → Bool} {l : List α} {n : Nat}
theorem all_stop {x : α} (h : l[n]? = some x) (hp : p x = false) : l.all p = false := by
  have hm := List.mem_of_getElem? h
  rw [List.all_eq_false]
  exact ⟨x, hm, by simp [hp]⟩
theorem all_step {x : α} (h : l[n]? = some x) (ht : (l.take n).all p = true) (hp : p x = true) : (l.take (n + 1)).all p = true := by
  rw [List.take_add_one, h]; simp [List.all_append, ht, hp]
theorem all_end (h : (l.take n).all p = true) (hn : l.length ≤ n) : l.all p = true := by rwa [List.take_of_length_le hn] at h
end

/-! Bytes of a text. -/
theorem byte_at (s : ByteArray) (n : Nat) (h : n < s.size) : s.data.toList[n]? = some s[n] := by
  have h' : n < s.data.size := h
  rw [Array.getElem?_toList, Array.getElem?_eq_getElem h']; rfl
theorem size_list (s : ByteArray) : s.data.toList.length = s.size := by simp
theorem get_some {α : Type} {l : List α} {n : Nat} (h : n < l.length) : ∃ x, l[n]? = some x := ⟨l[n], List.getElem?_eq_getElem h⟩

/-- The slice with the address a and the length n reads as the values xs. -/
structure RowAt (w : World) (a : Option Addr) (n : Nat) (xs : List Value) : Prop where
  len : xs.length = n
  lim : n ≤ 140737488351232
  at_ : 0 < n → ∃ b off, a = some ⟨b, off, none⟩ ∧ b < w.heap.size ∧ ∀ k x, xs[k]? = some x → w.cell? ⟨b, off + k, none⟩ = some x

theorem RowAt.below {B : Nat} {w w' : World} {a : Option Addr} {n : Nat} {xs : List Value} (h : RowAt w a n xs) (hb : Below B w w') (hB : w.heap.size ≤ B) : RowAt w' a n xs :=
  ⟨h.len, h.lim, fun hn => let ⟨b, off, ha, hlt, hc⟩ := h.at_ hn
    ⟨b, off, ha, Nat.lt_of_lt_of_le hlt hb.size, fun k x hx => (hb.cell (p := ⟨b, off + k, none⟩) (by show b < B; omega)).trans (hc k x hx)⟩⟩

theorem owns_rowAt {w : World} {base e : Nat} {v : Value} {n : Nat} {xs : List Value} (h : w.ownsRow base e 1 v n xs) (hlim : n ≤ 140737488351232) :
    ∃ a cap, v = .slice a n cap ∧ RowAt w a n xs := by
  have hl := h.1
  rcases h.2 with ⟨rfl, rfl⟩ | ⟨g, cap, cur, rfl, hb, hg, hnc, hcm, hcs, htake⟩
  · exact ⟨none, 0, rfl, by simpa using hl, hlim, fun h => by omega⟩
  · refine ⟨_, cap, rfl, by simpa using hl, hlim, fun hn => ⟨g, 0, rfl, (Array.getElem?_eq_some_iff.1 hg).1, fun k x hx => ?_⟩⟩
    rw [cell_of_row w g (0 + k) cur e (0, 0) hg]
    rw [← htake, List.getElem?_take] at hx
    split at hx
    · simpa using hx
    · cases hx

/-- A value appended to a slice of the call's own: what is owned, and that what lies below B is as it was. -/
theorem wpList_app1 {P : Program} {w0 wr : World} {ops : Array Oper} {rest : List Oper} {o : Oper} {a : Act} {Q : Exit → Act → World → Prop}
    (hg : o.guard = none) (s x : Operand) (t : TypeId) (hop : o.op = Op.call { callee := Callee.builtin Builtin.append, args := #[s, x], argTypes := #[t, t] })
    (B : Nat) (e : TypeId) (z : Value) (bytes : Nat) (h1 : P.underlying t = some (.slice e)) (hinfo : (P.info? e).map (fun i => (i.zero, i.size, i.bytes)) = some (some z, 1, bytes)) (hzs : z.cells.size = 1)
    (v : Value) (m : Nat) (xs : List Value) (u : Value) (hown : wr.ownsRow B e 1 v m xs) (hs : a.eval s = v) (hx : a.eval x = .slice (some ⟨wr.heap.size, 0, none⟩) 1 1)
    (hu : u.oneCell' = true) (hlim : (m + 1) * bytes ≤ 140737488355328) (hlim2 : m + 1 ≤ maxLen) (hbel : Below B w0 wr) (hB : B ≤ wr.heap.size)
    (hK : ∀ v' w1, w1.ownsRow B e 1 v' (m + 1) (xs ++ [u]) → Below B w0 w1 → wpList P ops Q rest (a.put o.dst v') w1) :
    wpList P ops Q (o :: rest) a (wr.alloc (.cells #[u] e)) := by
  obtain ⟨i, hi, hz, hz1, hz2⟩ := info_parts hinfo
  refine wpList_append_own _ hg s x t hop B e i z 1 bytes h1 hi hz hz1 hz2 hzs (by decide) v m xs hs (hown.alloc _) ⟨wr.heap.size, 0, none⟩ 1 1 [u] hx rfl ?_ ?_ hlim2 hlim (by simp; omega) ?_
  · intro j y hj
    match j, hj with
    | 0, hj => simp at hj; subst hj; simp [Addr.add]
  · intro y hy; simp at hy; subst hy; exact hu
  · intro v' w1 hown' hgrow _
    exact hK v' w1 hown' ((hbel.alloc hB _).grown hgrow (by simp; omega) (fun k hk => (hown.lt k hk).1))

/-- The cells of a block, one of them stored. -/
theorem cells_set {w : World} {b : Nat} {cs : Array Value} (h : ∀ k, w.cell? ⟨b, k, none⟩ = cs[k]?) (i : Nat) (hi : i < cs.size) (u : Value) (k : Nat) :
    (w.setCell ⟨b, i, none⟩ u).cell? ⟨b, k, none⟩ = (cs.setIfInBounds i u)[k]? := by
  by_cases hk : k = i
  · subst hk
    rw [World.cell?_setCell_same _ _ _ ((h k).trans (Array.getElem?_eq_getElem hi))]
    simp [hi]
  · rw [World.cell?_setCell_other _ _ _ _ (fun e => hk (by injection e with _ e2; exact e2.symm)), h k]
    rw [Array.getElem?_setIfInBounds, if_neg (by omega)]

theorem box_kept {w wr : World} {cs : Array Value} {T : TypeId} (h : Below (w.heap.size + 1) (w.alloc (.cells cs T)) wr) (k : Nat) :
    wr.cell? ⟨w.heap.size, k, none⟩ = cs[k]? ∧ wr.frozen? ⟨w.heap.size, k, none⟩ = false :=
  ⟨(h.cell (p := ⟨w.heap.size, k, none⟩) (by simp)).trans (World.cell?_alloc_at _ _ _ _ rfl), (h.frozen (p := ⟨w.heap.size, k, none⟩) (by simp)).trans (World.frozen?_alloc_at _ _ _ _ rfl)⟩

def byteVals (xs : List UInt8) : List Value := xs.map fun c => .int .u8 (c.toNat : Int)

theorem run_conv_row {P : Program} {w : World} (S D E : TypeId) (hs : P.underlying S = some (.slice E)) (he : P.underlying E = some (.int .u8)) (hd : P.underlying D = some .string)
    (ad : Option Addr) (n c : Nat) (xs : List UInt8) (hr : RowAt w ad n (byteVals xs)) : (convert S D (.slice ad n c)).run P w = .ok (.string ⟨xs.toArray⟩) w := by
  obtain ⟨hl, _, hat⟩ := hr
  have hlen : xs.length = n := by simpa [byteVals] using hl
  by_cases hn : n = 0
  · subst hn
    obtain rfl : xs = [] := List.eq_nil_of_length_eq_zero hlen
    cases ad with
    | none => rw [run_convert_bytes_nil w S E hs he 0 c D hd]; rfl
    | some ad =>
      rw [run_convert_bytes_string w S D E _ 0 c hs he hd, run_bytesToString w ad 0 c [] (run_loadCells_list (P := P) w ad [] (by intro j v h; simp at h))]
      rfl
  · obtain ⟨b, off, rfl, _, hc⟩ := hat (by omega)
    rw [run_convert_bytes_arg w S E hs he b off n c (xs.map fun c => (c.toNat : Int)) (by simpa using hlen) (fun i hi => ?_) D hd]
    · congr 2
      simp only [strOfNums, List.map_map]
      congr 2
      rw [List.map_congr_left (g := id) (by intro c _; simp), List.map_id]
    · obtain ⟨x, hx⟩ := get_some (l := xs) (n := i) (by omega)
      rw [hc i (.int .u8 (x.toNat : Int)) (by simp [byteVals, hx])]
      simp [List.getD, hx]

theorem wpList_convs {P : Program} {w : World} {ops : Array Oper} {rest : List Oper} {o : Oper} {a : Act} {Q : Exit → Act → World → Prop}
    (hg : o.guard = none) (x : Operand) (S D E : TypeId) (hop : o.op = Op.convert S D x) (hs : P.underlying S = some (.slice E)) (he : P.underlying E = some (.int .u8)) (hd : P.underlying D = some .string)
    (ad : Option Addr) (n c : Nat) (xs : List UInt8) (hx : a.eval x = .slice ad n c) (hr : RowAt w ad n (byteVals xs)) (hK : wpList P ops Q rest (a.put o.dst (.string ⟨xs.toArray⟩)) w) :
    wpList P ops Q (o :: rest) a w := by
  refine wpList_plain hg fun K hK' => ?_
  have hrun := run_conv_row (P := P) (w := w) S D E hs he hd ad n c xs hr
  unfold Oper.wp
  simp [execOp, hop, hx, hrun, Result.andThen]
  exact hK' _ _ hK

/-- A one-byte slice that has just been made. -/
theorem rowAt_byte1 (w : World) (E : TypeId) (x : Int) (c : UInt8) (h : (c.toNat : Int) = x) : RowAt (w.alloc (.cells #[.int .u8 x] E)) (some ⟨w.heap.size, 0, none⟩) 1 (byteVals [c]) := by
  refine ⟨rfl, by omega, fun _ => ⟨_, 0, rfl, by simp, fun k y hk => ?_⟩⟩
  match k, hk with
  | 0, hk =>
    simp only [byteVals, List.map_cons, List.map_nil, List.getElem?_cons_zero, Option.some.injEq] at hk
    rw [← hk, World.cell?_alloc_at _ _ _ _ rfl, ← h]; rfl
end Go.Proofs.YtpfeflhcbcgbfaaGreatDoor
namespace Go.Proofs.YtpfeflhcbcgbfaaGreatDoor
open Go.RowKit

set_option maxHeartbeats 400000 in
theorem l1Bit_c (b : Bool) (w : World) : Calls Tryz.prog 130 #[.bool b] w fun e w' => e = .returned (.int .i64 (if b then 1 else 0)) ∧ w = w' := by
  cases b <;> {
    go_enter Tryz.func130, Tryz.ntmps130
    go_wp2
    go_ret
    exact ⟨rfl, rfl⟩ }

set_option maxHeartbeats 400000 in
theorem l1Max_c (a b : Int) (w : World) : Calls Tryz.prog 131 #[.int .i64 a, .int .i64 b] w fun e w' => e = .returned (.int .i64 (max a b)) ∧ w = w' := by
  by_cases h : b < a <;> {
    go_enter Tryz.func131, Tryz.ntmps131
    go_wp2
    go_ret
    exact ⟨ret_int (by omega), rfl⟩ }
end Go.Proofs.YtpfeflhcbcgbfaaGreatDoor
