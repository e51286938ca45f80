/- Counting letters. Conditions: sizes within the reach. -/
import Derived.Test.YtcfjchaklgjmkaaLong
import Derived.Lib.Strings
import Derived.Lib.Slices
import Derived.Lib.Walk
import Derived.Lib.Bytealg
namespace Go.Proofs.Ytcfjchaklgjmkaa
open Go.RowKit

theorem infoInt2 : (Try.prog.info? 3).map (fun i => (i.zero, i.size, i.bytes)) = some (some (.int .i64 0), 1, 8) := by kernel_rfl
def cnt (l : List UInt8) (c : UInt8) : Int := (Lib.countByte l c : Nat)
theorem cnt_snoc (l : List UInt8) (c x : UInt8) : cnt (l ++ [x]) c = cnt l c + (if x = c then 1 else 0) := by
  unfold cnt Lib.countByte
  rw [List.count_append, List.count_singleton]
  by_cases h : x = c
  · simp [h]
  · simp [h]
theorem cnt_bd (l : List UInt8) (c : UInt8) : 0 ≤ cnt l c ∧ cnt l c ≤ l.length := by
  unfold cnt Lib.countByte
  have := List.count_le_length (a := c) (l := l)
  omega

set_option maxHeartbeats 1000000 in
set_option maxRecDepth 100000 in
theorem stringsCount1_c (s : ByteArray) (c : UInt8) (w : World) :
    Calls Try.prog 78 #[.string s, .string ⟨#[c]⟩] w fun e w' => e = .returned (.int .i64 (cnt s.data.toList c)) ∧ w = w' := by
  go_enter Try.func78, Try.ntmps78
  go_wp2
  rw [run_callFunc_extern Try.func90 (by kernel_rfl) (by kernel_rfl) (by kernel_rfl) (e := Extern.BytealgCount.count) (by kernel_rfl), Lib.run_countString]
  simp only [Result.andThen]
  rw [Oper.upon_value]
  go_wp2
  go_ret
  exact ⟨rfl, rfl⟩

def lc3 (l : List UInt8) : List Int := [cnt l 97, cnt l 98, cnt l 99]
/-- The numbers of the letters of a long word. -/
def lcOf (s : ByteArray) : List Int := if longB 3 s = true then lc3 s.data.toList else []
theorem lcOf_len (s : ByteArray) : (lcOf s).length ≤ 3 := by unfold lcOf lc3; split <;> simp
def LcPost (s : ByteArray) (w : World) (e : Ending) (w' : World) : Prop :=
  ∃ v, e = .returned v ∧ w'.ownsRow w.heap.size 3 1 v (lcOf s).length (intVals (lcOf s)) ∧ Below w.heap.size w w'
theorem owns_lit2 {w : World} {base e : Nat} (cs : Array Value) (xs : List Value) (h : cs.toList = xs) (hb : base ≤ w.heap.size) (hm : cs.size ≤ maxLen) :
    (w.alloc (.cells cs e)).ownsRow base e 1 (.slice (some ⟨w.heap.size, 0, none⟩) cs.size cs.size) xs.length xs := by
  subst h
  have := World.ownsRow_lit (base := base) (e := e) (size := 1) w cs cs.size hb hm (by simp)
  simpa using this

set_option maxHeartbeats 1000000 in
theorem impl_LetterCounts_c (s : ByteArray) (w : World) (hs : s.size ≤ maxLen) :
    Calls Try.prog 46 #[.string s] w (LcPost s w) := by
  by_cases hl : longB 3 s = true
  · have HX := hid (show lcOf s = lc3 s.data.toList by rw [lcOf, if_pos hl])
    go_enter Try.func46, Try.ntmps46
    go_wp2_with (first | (go_at_call 55; refine (isLongB_c _ _ _ hs (by omega)).mono ?_; rintro e w' ⟨rfl, rfl⟩) | (go_at_call 78; refine (stringsCount1_c _ _ _).mono ?_; rintro e w' ⟨rfl, rfl⟩))
    go_ret
    exact ⟨_, rfl, by rw [HX.out]; exact owns_lit2 #[_, _, _] _ rfl (Nat.le_refl _) (by unfold maxLen; simp), (Below.refl _ _).alloc (Nat.le_refl _) _⟩
  · have hl2 : longB 3 s = false := by simpa using hl
    have HX := hid (show lcOf s = [] by rw [lcOf, if_neg hl])
    clear hl
    go_enter Try.func46, Try.ntmps46
    go_wp2_with (first | (go_at_call 55; refine (isLongB_c _ _ _ hs (by omega)).mono ?_; rintro e w' ⟨rfl, rfl⟩))
    go_ret
    exact ⟨_, rfl, by rw [HX.out]; exact World.ownsRow_nil _ _ _ _, Below.refl _ _⟩

theorem lc3_step {l : List UInt8} {j : Nat} {c : UInt8} (h : l[j]? = some c) (k : Nat) (hk : c.toNat = 97 + k) (hk3 : k < 3) :
    (intVals (lc3 (l.take j)))[k]? = some (.int .i64 (cnt (l.take j) c)) ∧ (intVals (lc3 (l.take j))).set k (.int .i64 (cnt (l.take j) c + 1)) = intVals (lc3 (l.take (j + 1))) := by
  have e : l.take (j + 1) = l.take j ++ [c] := by rw [List.take_add_one, h]; rfl
  have hc : c = UInt8.ofNat (97 + k) := by rw [← hk]; simp
  have h3 : k = 0 ∨ k = 1 ∨ k = 2 := by omega
  rw [e]
  unfold lc3
  simp only [cnt_snoc]
  rcases h3 with rfl | rfl | rfl <;> subst hc <;> exact ⟨rfl, rfl⟩
set_option maxHeartbeats 1000000 in
theorem spec_LetterCounts_c (s : ByteArray) (w : World) (hs : s.size ≤ maxLen) :
    Calls Try.prog 47 #[.string s] w (LcPost s w) := by
  by_cases hl : longB 3 s = true
  · have HX := hid (show lcOf s = lc3 s.data.toList by rw [lcOf, if_pos hl])
    have hs300 : s.size ≤ 300 := (longB_iff.1 hl).2
    have HLT := hid (longB_iff.1 hl).1
    have hown0 : (w.alloc (.cells #[.int .i64 0, .int .i64 0, .int .i64 0] 3)).ownsRow w.heap.size 3 1 (.slice (some ⟨w.heap.size, 0, none⟩) 3 3) 3 (intVals (lc3 (s.data.toList.take 0))) :=
      owns_lit2 #[.int .i64 0, .int .i64 0, .int .i64 0] _ rfl (Nat.le_refl _) (by unfold maxLen; simp)
    have HO := hid hown0
    clear hown0
    go_enter Try.func47, Try.ntmps47
    go_wp2_with (first | (go_at_call 74; refine (l31FitsB_c _ _ hs).mono ?_; rintro e w' ⟨rfl, rfl⟩))
    go_loopw [4, 5] (fun i _ wr => ∃ j : Nat, j ≤ s.size ∧ i = .int .i64 j ∧ wr.ownsRow w.heap.size 3 1 (.slice (some ⟨w.heap.size, 0, none⟩) 3 3) 3 (intVals (lc3 (s.data.toList.take j))) ∧ Below w.heap.size w wr) (fun i _ _ => s.size - (intOf i).toNat)
    case atStart => exact ⟨0, by omega, rfl, HO.out, (Below.refl _ _).alloc (Nat.le_refl _) _⟩
    case round =>
      obtain ⟨j, hj, rfl, hown, hbel⟩ := hrel
      by_cases hlt : j < s.size
      · have hji : (j : Int) < (s.size : Int) := by omega
        have hlet := List.all_eq_true.1 HLT.out _ (List.mem_of_getElem? (byte_at s j hlt))
        rw [inB_iff] at hlet
        obtain ⟨k, hk⟩ : ∃ k : Nat, s[j].toNat = 97 + k := ⟨s[j].toNat - 97, by omega⟩
        have hk3 : k < 3 := by omega
        have hst := lc3_step (byte_at s j hlt) k hk hk3
        have hcell : wr.cell? ⟨w.heap.size, k, none⟩ = some (.int .i64 (cnt (s.data.toList.take j) s[j])) := (hown.cellAt k (by omega)).trans hst.1
        have hfr := hown.frozenAt k
        have hcb := cnt_bd (s.data.toList.take j) s[j]
        have hcl : (s.data.toList.take j).length ≤ j := List.length_take_le _ _
        have HST := hid hst.2
        clear hst hlet
        obtain ⟨q, hq⟩ : ∃ q, q = cnt (s.data.toList.take j) s[j] := ⟨_, rfl⟩
        rw [← hq] at hcell hcb
        have HQ := hid hq
        clear hq
        go_wp2
        go_roundw
        case rel =>
          have hsto := hown.stored k (.int .i64 (q + 1))
          rw [HQ.out, HST.out] at hsto
          exact ⟨j + 1, by omega, by go_num, by rw [HQ.out]; exact hsto.1, hbel.setCell (Nat.le_refl _) _⟩
        case measure => simp [intOf]; omega
      · have HT := hid (show s.data.toList.take j = s.data.toList from List.take_of_length_le (by rw [size_list]; omega))
        go_wp2
        go_ret
        exact ⟨_, rfl, by rw [HX.out, ← HT.out]; exact hown, hbel⟩
  · have hl2 : longB 3 s = false := by simpa using hl
    have HX := hid (show lcOf s = [] by rw [lcOf, if_neg hl])
    clear hl
    go_enter Try.func47, Try.ntmps47
    go_wp2_with (first | (go_at_call 74; refine (l31FitsB_c _ _ hs).mono ?_; rintro e w' ⟨rfl, rfl⟩))
    go_ret
    exact ⟨_, rfl, by rw [HX.out]; exact owns_lit2 #[] _ rfl (Nat.le_refl _) (by unfold maxLen; simp), (Below.refl _ _).alloc (Nat.le_refl _) _⟩
end Go.Proofs.Ytcfjchaklgjmkaa
