/- Numbers written with a text between them: both functions. Conditions: the numbers are ints, the table of powers of ten reads as the program lays it. -/
import Derived.Lib.Join
import Derived.Lib.AppendStr
import Derived.WalkSmall
import Derived.Test.YtcmmlldincflkaaDoorOpen
import Derived.Test.YtcmmlldincflkaaDoorAppN
import Derived.Test.YtcmmlldincflkaaDoorBox
import Derived.Test.YtcmmlldincflkaaDoorShelf
import Derived.Test.YtcmmlldincflkaaDoorFmt
namespace Go.Proofs.YtcmmlldincflkaaDoor
open Go.RowKit

theorem join_step {L : List (List UInt8)} {sep y : List UInt8} {j : Nat} (h : L[j]? = some y) : Lib.join (L.take (j + 1)) sep = Lib.join (L.take j) sep ++ (if j = 0 then [] else sep) ++ y := by
  match L, j, h with
  | x :: r, 0, h =>
    simp at h
    subst h
    simp [Lib.join_one, Lib.join_nil]
  | x :: r, j + 1, h =>
    have h' : r[j]? = some y := by simpa using h
    rw [List.take_succ_cons, List.take_succ_cons, Lib.join_cons, Lib.join_cons, Lib.joinTail_take_succ sep r j y h']
    simp
theorem join_take_le (L : List (List UInt8)) (sep : List UInt8) (j : Nat) : (Lib.join (L.take j) sep).length ≤ (Lib.join L sep).length := by
  match L, j with
  | [], j => simp
  | x :: r, 0 => simp [Lib.join_nil]
  | x :: r, j + 1 =>
    have := Lib.joinTail_take_le sep r j
    rw [List.take_succ_cons, Lib.join_cons, Lib.join_cons]
    simp
    exact this
theorem strCells_byte (s : ByteArray) : Lib.strCells s = byteVals s.data.toList := rfl
theorem byteVals_append (a b : List UInt8) : byteVals (a ++ b) = byteVals a ++ byteVals b := by simp [byteVals]
def dlj (b : ByteArray) : List UInt8 := b.data.toList
theorem owns_nilJ (w : World) (e : Nat) : (w.alloc (.cells #[] e)).ownsRow w.heap.size e 1 (.slice (some ⟨w.heap.size, 0, none⟩) 0 0) 0 [] :=
  ⟨rfl, Or.inr ⟨w.heap.size, 0, #[], rfl, Nat.le_refl _, by show (w.heap.push _)[w.heap.size]? = _; simp, Nat.le_refl _, by unfold maxLen; omega, rfl, rfl⟩⟩
theorem infoU8J : (Tryd.prog.info? 5).map (fun i => (i.zero, i.size, i.bytes)) = some (some (.int .u8 0), 1, 1) := by kernel_rfl
def joinV (xs : List ByteArray) (sep : ByteArray) : ByteArray := ⟨(Lib.join (xs.map dlj) sep.data.toList).toArray⟩
/-- A text appended to bytes of the call's own. -/
theorem wpList_appS {P : Program} {wr : World} {ops : Array Oper} {rest : List Oper} {o : Oper} {a : Act} {Q : Exit → Act → World → Prop}
    (hgd : o.guard = none) (sl x : Operand) (t u : TypeId) (ho : o.op = .call { callee := .builtin .append, args := #[sl, x], argTypes := #[t, u] })
    (B : Nat) (e : TypeId) (ht : P.underlying t = some (.slice e)) (hu : P.underlying u = some .string) (hinfo : (P.info? e).map (fun i => (i.zero, i.size, i.bytes)) = some (some (.int .u8 0), 1, 1))
    (v : Value) (xs : List UInt8) (n : Nat) (hs : a.eval sl = v) (hown : wr.ownsRow B e 1 v n (byteVals xs)) (s : ByteArray) (hx : a.eval x = .string s) (hlim : n + s.size ≤ 140737488355328) (hB : B ≤ wr.heap.size) (w : World) (hbel : Below B w wr)
    (hK : ∀ v' w1, w1.ownsRow B e 1 v' (n + s.size) (byteVals (xs ++ s.data.toList)) → Below B w w1 → wpList P ops Q rest (a.put o.dst v') w1) : wpList P ops Q (o :: rest) a wr := by
  obtain ⟨i, hi, hz, hz1, hz2⟩ := info_parts hinfo
  refine Lib.wpList_append_own_string wr hgd sl x t u ho B e i ht hu hi hz hz1 hz2 v n (byteVals xs) hs hown s hx (by unfold maxLen; omega) hlim hB ?_
  intro v' w1 hown' hgr _
  exact hK v' w1 (by rw [byteVals_append]; exact hown') (hbel.grown hgr hB (fun k hk => (hown.lt k hk).1))
theorem implJoin_c (B g c n : Nat) (xs : List ByteArray) (sep : ByteArray) (w : World) (hn : xs.length = n) (hown : w.ownsRow B 9 1 (.slice (some ⟨g, 0, none⟩) n c) n (strVals xs)) (hlim : n ≤ 1000000000) (hlen : (Lib.join (xs.map dlj) sep.data.toList).length ≤ 1000000000) :
    Calls Tryd.prog 31 #[.slice (some ⟨g, 0, none⟩) n c, .string sep] w fun e w' => e = .returned (.string (joinV xs sep)) ∧ Below w.heap.size w w' := by
  subst hn
  obtain ⟨cur, hb, hg, h1, h2, h3, h4⟩ := owns_block hown
  exact Tryd.strings_Join g 0 c xs sep w (fun j x hj => by
    have hjl := (List.getElem?_eq_some_iff.1 hj).1
    rw [Nat.zero_add, hown.cellAt j (by omega)]
    exact strVals_get hj) (hown.lt g rfl).2 (by omega) h1 (by exact Nat.le_trans hlen (by omega))
end Go.Proofs.YtcmmlldincflkaaDoor
namespace Go.Proofs.YtcmmlldincflkaaDoor
open Go.RowKit

theorem nd_le : ∀ (k u : Nat), 1 ≤ k → u < 10 ^ k → Lib.nDigits u ≤ k
  | 0, _, h, _ => by omega
  | k + 1, u, _, h => by
    by_cases h10 : u < 10
    · rw [Lib.nDigits_small h10]; omega
    · rw [Lib.nDigits_big h10]
      have hk : 1 ≤ k := by
        rcases Nat.eq_zero_or_pos k with h0 | h0
        · subst h0; simp at h; omega
        · exact h0
      have := nd_le k (u / 10) hk (by rw [Nat.pow_succ] at h; exact Nat.div_lt_of_lt_mul (by rw [Nat.mul_comm]; exact h))
      omega
def I64 (x : Int) : Prop := -9223372036854775808 ≤ x ∧ x ≤ 9223372036854775807
theorem itoa_le {x : Int} (h : I64 x) : (Lib.itoa x).length ≤ 21 := by
  unfold Lib.itoa
  unfold I64 at h
  split
  · have := nd_le 20 x.natAbs (by omega) (by have : (10 ^ 20 : Nat) = 100000000000000000000 := by decide
                                             omega)
    rw [List.length_cons, Lib.decDigits_length]; omega
  · have := nd_le 20 x.toNat (by omega) (by have : (10 ^ 20 : Nat) = 100000000000000000000 := by decide
                                            omega)
    rw [Lib.decDigits_length]; omega
theorem nums_lens {xs : List Int} (h : ∀ x ∈ xs, I64 x) : Lib.lens ((xs.map fmtB).map dlj) ≤ 21 * xs.length := by
  induction xs with
  | nil => simp [Lib.lens]
  | cons x xs ih =>
    have h1 := itoa_le (h x (by simp))
    have h2 := ih fun y hy => h y (by simp [hy])
    simp only [Lib.lens, List.map_cons, List.sum_cons, List.length_cons] at h2 ⊢
    have h3 : (dlj (fmtB x)).length = (Lib.itoa x).length := by simp [dlj, fmtB]
    omega
theorem join_le (L : List (List UInt8)) (sep : List UInt8) : (Lib.join L sep).length ≤ sep.length * L.length + Lib.lens L := by
  match L with
  | [] => simp [Lib.join_nil]
  | x :: r =>
    rw [Lib.join_cons, List.length_append, Lib.joinTail_length]
    have : sep.length * (r.length + 1) = sep.length * r.length + sep.length := Nat.mul_succ _ _
    simp only [Lib.lens, List.map_cons, List.sum_cons, List.length_cons]
    omega
theorem nums_join {xs : List Int} (h : ∀ x ∈ xs, I64 x) {sep : ByteArray} (hs : sep.size = 1) : (Lib.join ((xs.map fmtB).map dlj) sep.data.toList).length ≤ 22 * xs.length := by
  have h1 := join_le ((xs.map fmtB).map dlj) sep.data.toList
  have h2 := nums_lens h
  rw [size_list, hs] at h1
  rw [List.length_map, List.length_map] at h1
  omega
def fms (xs : List Int) (j : Nat) : List ByteArray := (xs.take j).map fmtB
theorem fms_succ {xs : List Int} {j : Nat} {x : Int} (h : xs[j]? = some x) : strVals (fms xs (j + 1)) = strVals (fms xs j) ++ [.string (fmtB x)] := by
  simp [fms, strVals, List.take_add_one, h]
/-- The table of powers of ten, as Go's own text lays it. -/
def TabW (w : World) : Prop := Lib.TabIs Tryd.prog w "internal/strconv.uint64pow10" .u64 Lib.pow10Tab
theorem tab_below {B : Nat} {w w' : World} (h : TabW w) (hb : Below B w w') (hB : w.heap.size ≤ B) : TabW w' := by
  obtain ⟨g, hg⟩ : ∃ g, Tryd.prog.globalNamed "internal/strconv.uint64pow10" = some g := Option.isSome_iff_exists.1 (by kernel_rfl)
  have hc := Lib.TabIs.cell h hg 0 (by rw [Lib.pow10Tab_length]; omega)
  exact var?_below hb hg (Nat.lt_of_lt_of_le (World.block_lt_of_cell? w _ hc) hB) h
theorem below_growN (w : World) (k : Nat) (os : Array Obj) : Below w.heap.size w (Sort.grow (w.drewN k) os) :=
  ⟨rfl, rfl, rfl, by simp [Sort.grow], fun k hk => by simp [Sort.grow, Array.getElem?_append_left hk]⟩
theorem impl_FormatInt_c (n : Int) (w : World) (h : I64 n) (ht : TabW w) :
    Calls Tryd.prog 19 #[.int .i64 n] w fun e w' => e = .returned (.string (fmtB n)) ∧ Below w.heap.size w w' := by
  have HI := hid (Tryd.strconv_Itoa n h.1 h.2 w ht)
  unfold fmtB
  obtain ⟨r, hr⟩ : ∃ r : ByteArray, r = ⟨(Lib.itoa n).toArray⟩ := ⟨_, rfl⟩
  rw [← hr] at HI
  rw [← hr]
  clear hr ht h
  go_enter Tryd.func19, Tryd.ntmps19
  go_wp2_with fail
  refine HI.out.mono ?_
  rintro e w1 ⟨rfl, k, os, rfl⟩
  have hb := below_growN w k os
  generalize Sort.grow (w.drewN k) os = w2 at *
  go_wp2
  go_ret
  exact ⟨rfl, hb⟩
def numsT (xs : List Int) : ByteArray := if xs.length = 0 then ⟨#[45]⟩ else joinV (xs.map fmtB) ⟨#[44]⟩
end Go.Proofs.YtcmmlldincflkaaDoor
