/- Long words, told by one name. Conditions: sizes within the reach. -/
import Derived.Test.YtcfjchaklgjmkaaLaw2
namespace Go.Proofs.Ytcfjchaklgjmkaa
open Go.RowKit

/-- A long word of k letters. -/
def longB (k : Int) (s : ByteArray) : Bool := lets k s.data.toList && decide (s.size ≤ 300)
theorem longB_iff {k : Int} {s : ByteArray} : longB k s = true ↔ lets k s.data.toList = true ∧ s.size ≤ 300 := by simp [longB]

theorem l30LongB_c (k : Int) (s : ByteArray) (w : World) (hs : s.size ≤ maxLen) (hk : -100 ≤ k ∧ k ≤ 140737488355328) :
    Calls Try.prog 56 #[.int .i64 k, .string s] w fun e w' => e = .returned (.bool (longB k s)) ∧ w = w' := l30Long_c k s w hs hk
theorem isLongB_c (k : Int) (s : ByteArray) (w : World) (hs : s.size ≤ maxLen) (hk : -100 ≤ k ∧ k ≤ 140737488355328) :
    Calls Try.prog 55 #[.int .i64 k, .string s] w fun e w' => e = .returned (.bool (longB k s)) ∧ w = w' := isLong_c k s w hs hk
theorem l31FitsB_c (s : ByteArray) (w : World) (hs : s.size ≤ maxLen) :
    Calls Try.prog 74 #[.string s] w fun e w' => e = .returned (.bool (longB 3 s)) ∧ w = w' := l31Fits_c s w hs
end Go.Proofs.Ytcfjchaklgjmkaa
