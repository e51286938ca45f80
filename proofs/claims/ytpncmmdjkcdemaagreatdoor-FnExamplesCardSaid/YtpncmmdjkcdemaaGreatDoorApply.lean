/- Codes upon words and rings: both functions. Conditions: valid codes, words of their letters. -/
import Derived.Test.YtpncmmdjkcdemaaGreatDoorBase
import Derived.Test.YtpncmmdjkcdemaaGreatDoorGive
import Derived.Test.YtpncmmdjkcdemaaGreatDoorShelf
import Derived.Lib.Repeat
import Derived.Deep.RegionHeld3
import Derived.Deep.AppendLies
namespace Go.Proofs.YtpncmmdjkcdemaaGreatDoor
open Go.RowKit

/-- A value appended, the new row's block being the last. -/
theorem step_app2 {P : Program} {w0 wr : World} {ops : Array Oper} {o : Oper} {a : Act} {K : Act → World → Prop} {Q : Exit → Act → World → Prop} {E : Prop}
    (hg : o.guard = none) (s x : Operand) (t : TypeId) (hop : o.op = Op.call { callee := Callee.builtin Builtin.append, args := #[s, x], argTypes := #[t, t] })
    (B : Nat) (e : TypeId) (z : Value) (bytes : Nat) (h1 : P.underlying t = some (.slice e)) (hinfo : (P.info? e).map (fun i => (i.zero, i.size, i.bytes)) = some (some z, 1, bytes)) (hzs : z.cells.size = 1)
    (v : Value) (m : Nat) (xs : List Value) (u : Value) (hown : wr.ownsRow B e 1 v m xs) (hs : a.eval s = v) (hx : a.eval x = .slice (some ⟨wr.heap.size, 0, none⟩) 1 1)
    (hu : u.oneCell' = true) (hlim : (m + 1) * bytes ≤ 140737488355328) (hlim2 : m + 1 ≤ maxLen) (hbel : Below B w0 wr) (hB : B ≤ wr.heap.size)
    (hK : ∀ v' w1, w1.ownsRow B e 1 v' (m + 1) (xs ++ [u]) → Below B w0 w1 → wr.grownBy w1 v.ownBlock → K (a.put o.dst v') w1) :
    if Region.wanted o (yielded ops a.tmps) = true then Oper.wp P o a (wr.alloc (.cells #[u] e)) K Q else E := by
  obtain ⟨i, hi, hz, hz1, hz2⟩ := info_parts hinfo
  refine step_append_lies _ hg s x t hop B e i z 1 bytes h1 hi hz hz1 hz2 hzs (by decide) v m xs hs (hown.alloc _) ⟨wr.heap.size, 0, none⟩ 1 1 [u] hx rfl ?_ ?_ (by decide) hlim2 hlim (by simp; omega) (wr.heap.size + 1) (by simp) ?_
  · intro j y hj
    match j, hj with
    | 0, hj => simp at hj; subst hj; simp [Addr.add]
  · intro y hy; simp at hy; subst hy; exact hu
  · intro g cap w1 hown' hgrow _ _
    have hgr : wr.grownBy w1 v.ownBlock := grown_trans (World.grownBy_alloc _ _ _) hgrow
    exact hK _ w1 hown' (hbel.grown hgr hB (fun k hk => (hown.lt k hk).1)) hgr

set_option maxHeartbeats 1000000 in
theorem spec_IsWord_c (k : Nat) (s : ByteArray) (w : World) (hk : 1 ≤ k ∧ k ≤ 3) (hs : s.size ≤ maxLen) :
    Calls Tryz.prog 35 #[.int .i64 k, .string s] w fun e w' => e = .returned (.bool (decide (s.size ≤ 16) && lets k s.data.toList)) ∧ w = w' := by
  unfold maxLen at hs
  have hin := inB_t (x := (k : Int)) (lo := 1) (hi := 3) (by omega)
  go_enter Tryz.func35, Tryz.ntmps35
  go_wp2
  go_loop [5] (fun i => ∃ n : Nat, n ≤ s.size ∧ i = .int .i64 n ∧ Hid (lets k (s.data.toList.take n) = true)) (fun i => s.size - (intOf i).toNat)
  case atStart => exact ⟨0, Nat.zero_le _, rfl, rfl⟩
  case round =>
    obtain ⟨n, hn, rfl, H⟩ := hrel
    by_cases hlt : n < s.size
    · have hb : s[n].toNat < 256 := s[n].toNat_lt
      by_cases h1 : s[n].toNat < 97
      · go_wp2
        go_ret
        exact ⟨ret_bool (by rw [show lets k s.data.toList = false from all_stop (byte_at s n hlt) (inB_f (by omega)), Bool.and_false]), rfl⟩
      · by_cases h2 : (k : Int) ≤ (s[n].toNat : Int) - 97
        · go_wp2
          go_ret
          exact ⟨ret_bool (by rw [show lets k s.data.toList = false from all_stop (byte_at s n hlt) (inB_f (by omega)), Bool.and_false]), rfl⟩
        · go_wp2
          go_round
          case rel => exact ⟨n + 1, by omega, by go_num, all_step (byte_at s n hlt) H.out (inB_t (by omega))⟩
          case measure => simp [intOf]; omega
    · have HE := hid (show lets k s.data.toList = true from all_end H.out (by rw [size_list]; omega))
      go_wp2_with (go_at_call 34; refine (l1In_c _ _ _ _).mono ?_; rintro e w' ⟨rfl, rfl⟩)
      go_ret
      exact ⟨ret_bool (by rw [HE.out, Bool.and_true]; congr 1; rw [eq_iff_iff]; omega), rfl⟩

/-! Words that a code gives. -/
def madeB (f : Nat → UInt8) (m : Nat) : List UInt8 := (List.range m).map f
theorem madeB_succ (f : Nat → UInt8) (m : Nat) : madeB f (m + 1) = madeB f m ++ [f m] := by simp [madeB, List.range_succ]
theorem madeB_len (f : Nat → UInt8) (m : Nat) : (madeB f m).length = m := by simp [madeB]
/-- The letter for the part of the width n from i on. -/
def apB (o : ByteArray) (k n : Nat) (l : List UInt8) (i : Nat) : UInt8 := giveB o (idxOf k ((l.drop i).take n))
theorem lets_part {k : Int} {l : List UInt8} (h : lets k l = true) (i n : Nat) : lets k ((l.drop i).take n) = true := by
  unfold lets at *
  rw [List.all_eq_true] at *
  exact fun c hc => h c (List.mem_of_mem_drop (List.mem_of_mem_take hc))
theorem part_ext {s : ByteArray} {i n : Nat} : (s.extract i (i + n)).data.toList = (s.data.toList.drop i).take n := by
  rw [ByteArray.data_extract, Array.toList_extract]
  simp [List.extract_eq_take_drop]
theorem part_size {s : ByteArray} {i n : Nat} (h : i + n ≤ s.size) : (s.extract i (i + n)).size = n := by rw [ByteArray.size_extract]; omega
theorem byteVals_madeB (f : Nat → UInt8) (m : Nat) : byteVals (madeB f (m + 1)) = byteVals (madeB f m) ++ [.int .u8 ((f m).toNat : Int)] := by rw [madeB_succ]; simp [byteVals]

