/- Numbers written with a text between them: both functions. Conditions: the numbers are ints, the table of powers of ten reads as the program lays it. -/
import Derived.Test.YtpncmmdjkcdemaaGreatDoorJoin
import Derived.Test.YtpncmmdjkcdemaaGreatDoorFmt
import Derived.WalkSmall
namespace Go.Proofs.YtpncmmdjkcdemaaGreatDoor
open Go.RowKit

theorem nd_le : ∀ (k u : Nat), 1 ≤ k → u < 10 ^ k → Lib.nDigits u ≤ k
  | 0, _, h, _ => by omega
  | k + 1, u, _, h => by
    by_cases h10 : u < 10
    · rw [Lib.nDigits_small h10]; omega
    · rw [Lib.nDigits_big h10]
      have hk : 1 ≤ k := by
        rcases Nat.eq_zero_or_pos k with h0 | h0
        · subst h0; simp at h; omega
        · exact h0
      have := nd_le k (u / 10) hk (by rw [Nat.pow_succ] at h; exact Nat.div_lt_of_lt_mul (by rw [Nat.mul_comm]; exact h))
      omega
def I64 (x : Int) : Prop := -9223372036854775808 ≤ x ∧ x ≤ 9223372036854775807
theorem itoa_le {x : Int} (h : I64 x) : (Lib.itoa x).length ≤ 21 := by
  unfold Lib.itoa
  unfold I64 at h
  split
  · have := nd_le 20 x.natAbs (by omega) (by have : (10 ^ 20 : Nat) = 100000000000000000000 := by decide
                                             omega)
    rw [List.length_cons, Lib.decDigits_length]; omega
  · have := nd_le 20 x.toNat (by omega) (by have : (10 ^ 20 : Nat) = 100000000000000000000 := by decide
                                            omega)
    rw [Lib.decDigits_length]; omega
theorem nums_lens {xs : List Int} (h : ∀ x ∈ xs, I64 x) : Lib.lens ((xs.map fmtB).map dlj) ≤ 21 * xs.length := by
  induction xs with
  | nil => simp [Lib.lens]
  | cons x xs ih =>
    have h1 := itoa_le (h x (by simp))
    have h2 := ih fun y hy => h y (by simp [hy])
    simp only [Lib.lens, List.map_cons, List.sum_cons, List.length_cons] at h2 ⊢
    have h3 : (dlj (fmtB x)).length = (Lib.itoa x).length := by simp [dlj, fmtB]
    omega
theorem join_le (L : List (List UInt8)) (sep : List UInt8) : (Lib.join L sep).length ≤ sep.length * L.length + Lib.lens L := by
  match L with
  | [] => simp [Lib.join_nil]
  | x :: r =>
    rw [Lib.join_cons, List.length_append, Lib.joinTail_length]
    have : sep.length * (r.length + 1) = sep.length * r.length + sep.length := Nat.mul_succ _ _
    simp only [Lib.lens, List.map_cons, List.sum_cons, List.length_cons]
    omega
theorem nums_join {xs : List Int} (h : ∀ x ∈ xs, I64 x) {sep : ByteArray} (hs : sep.size = 1) : (Lib.join ((xs.map fmtB).map dlj) sep.data.toList).length ≤ 22 * xs.length := by
  have h1 := join_le ((xs.map fmtB).map dlj) sep.data.toList
  have h2 := nums_lens h
  rw [size_list, hs] at h1
  rw [List.length_map, List.length_map] at h1
  omega
def fms (xs : List Int) (j : Nat) : List ByteArray := (xs.take j).map fmtB
theorem fms_succ {xs : List Int} {j : Nat} {x : Int} (h : xs[j]? = some x) : strVals (fms xs (j + 1)) = strVals (fms xs j) ++ [.string (fmtB x)] := by
  simp [fms, strVals, List.take_add_one, h]
/-- The table of powers of ten, as Go's own text lays it. -/
def TabW (w : World) : Prop := Lib.TabIs Tryz.prog w "internal/strconv.uint64pow10" .u64 Lib.pow10Tab
theorem tab_below {B : Nat} {w w' : World} (h : TabW w) (hb : Below B w w') (hB : w.heap.size ≤ B) : TabW w' := by
  obtain ⟨g, hg⟩ : ∃ g, Tryz.prog.globalNamed "internal/strconv.uint64pow10" = some g := Option.isSome_iff_exists.1 (by kernel_rfl)
  have hc := Lib.TabIs.cell h hg 0 (by rw [Lib.pow10Tab_length]; omega)
  exact var?_below hb hg (Nat.lt_of_lt_of_le (World.block_lt_of_cell? w _ hc) hB) h
theorem below_growN (w : World) (k : Nat) (os : Array Obj) : Below w.heap.size w (Sort.grow (w.drewN k) os) :=
  ⟨rfl, rfl, rfl, by simp [Sort.grow], fun k hk => by simp [Sort.grow, Array.getElem?_append_left hk]⟩
theorem impl_FormatInt_c (n : Int) (w : World) (h : I64 n) (ht : TabW w) :
    Calls Tryz.prog 60 #[.int .i64 n] w fun e w' => e = .returned (.string (fmtB n)) ∧ Below w.heap.size w w' := by
  have HI := hid (Tryz.strconv_Itoa n h.1 h.2 w ht)
  unfold fmtB
  obtain ⟨r, hr⟩ : ∃ r : ByteArray, r = ⟨(Lib.itoa n).toArray⟩ := ⟨_, rfl⟩
  rw [← hr] at HI
  rw [← hr]
  clear hr ht h
  go_enter Tryz.func60, Tryz.ntmps60
  go_wp2_with fail
  refine HI.out.mono ?_
  rintro e w1 ⟨rfl, k, os, rfl⟩
  have hb := below_growN w k os
  generalize Sort.grow (w.drewN k) os = w2 at *
  go_wp2
  go_ret
  exact ⟨rfl, hb⟩
def numsT (xs : List Int) : ByteArray := if xs.length = 0 then ⟨#[45]⟩ else joinV (xs.map fmtB) ⟨#[44]⟩
