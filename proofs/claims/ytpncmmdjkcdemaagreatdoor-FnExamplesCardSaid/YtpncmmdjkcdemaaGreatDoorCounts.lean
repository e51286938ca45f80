import Derived.Test.YtpncmmdjkcdemaaGreatDoorLaw2
import Derived.Lib.Strings
import Derived.Lib.Slices
import Derived.Lib.Walk
import Derived.Lib.Bytealg
namespace Go.Proofs.YtpncmmdjkcdemaaGreatDoor
open Go.RowKit

/-- A long word of k letters. -/
def longB (k : Int) (s : ByteArray) : Bool := lets k s.data.toList && decide (s.size ≤ 300)
theorem longB_iff {k : Int} {s : ByteArray} : longB k s = true ↔ lets k s.data.toList = true ∧ s.size ≤ 300 := by simp [longB]

theorem l30LongB_c (k : Int) (s : ByteArray) (w : World) (hs : s.size ≤ maxLen) (hk : -100 ≤ k ∧ k ≤ 140737488355328) :
    Calls Tryz.prog 38 #[.int .i64 k, .string s] w fun e w' => e = .returned (.bool (longB k s)) ∧ w = w' := l30Long_c k s w hs hk
end Go.Proofs.YtpncmmdjkcdemaaGreatDoor
namespace Go.Proofs.YtpncmmdjkcdemaaGreatDoor
open Go.RowKit

theorem infoInt2 : (Tryz.prog.info? 3).map (fun i => (i.zero, i.size, i.bytes)) = some (some (.int .i64 0), 1, 8) := by kernel_rfl
def cnt (l : List UInt8) (c : UInt8) : Int := (Lib.countByte l c : Nat)
theorem cnt_snoc (l : List UInt8) (c x : UInt8) : cnt (l ++ [x]) c = cnt l c + (if x = c then 1 else 0) := by
  unfold cnt Lib.countByte
  rw [List.count_append, List.count_singleton]
  by_cases h : x = c
  · simp [h]
  · simp [h]
theorem cnt_bd (l : List UInt8) (c : UInt8) : 0 ≤ cnt l c ∧ cnt l c ≤ l.length := by
  unfold cnt Lib.countByte
  have := List.count_le_length (a := c) (l := l)
  omega

set_option maxHeartbeats 1000000 in
set_option maxRecDepth 100000 in
theorem stringsCount1_c (s : ByteArray) (c : UInt8) (w : World) :
    Calls Tryz.prog 57 #[.string s, .string ⟨#[c]⟩] w fun e w' => e = .returned (.int .i64 (cnt s.data.toList c)) ∧ w = w' := by
  go_enter Tryz.func57, Tryz.ntmps57
  go_wp2
  rw [run_callFunc_extern Tryz.func64 (by kernel_rfl) (by kernel_rfl) (by kernel_rfl) (e := Extern.BytealgCount.count) (by kernel_rfl), Lib.run_countString]
  simp only [Result.andThen]
  rw [Oper.upon_value]
  go_wp2
  go_ret
  exact ⟨rfl, rfl⟩

def lc3 (l : List UInt8) : List Int := [cnt l 97, cnt l 98, cnt l 99]
/-- The numbers of the letters of a long word. -/
def lcOf (s : ByteArray) : List Int := if longB 3 s = true then lc3 s.data.toList else []
theorem lcOf_len (s : ByteArray) : (lcOf s).length ≤ 3 := by unfold lcOf lc3; split <;> simp
def LcPost (s : ByteArray) (w : World) (e : Ending) (w' : World) : Prop :=
  ∃ v, e = .returned v ∧ w'.ownsRow w.heap.size 3 1 v (lcOf s).length (intVals (lcOf s)) ∧ Below w.heap.size w w'
theorem owns_lit2 {w : World} {base e : Nat} (cs : Array Value) (xs : List Value) (h : cs.toList = xs) (hb : base ≤ w.heap.size) (hm : cs.size ≤ maxLen) :
    (w.alloc (.cells cs e)).ownsRow base e 1 (.slice (some ⟨w.heap.size, 0, none⟩) cs.size cs.size) xs.length xs := by
  subst h
  have := World.ownsRow_lit (base := base) (e := e) (size := 1) w cs cs.size hb hm (by simp)
  simpa using this

