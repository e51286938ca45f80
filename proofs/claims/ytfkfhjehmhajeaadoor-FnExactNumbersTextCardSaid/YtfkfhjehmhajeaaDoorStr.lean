/- Letters, slices of strings: the walks of the functions that only read, and of the copies. Conditions: sizes within the reach. -/
import Derived.Test.YtfkfhjehmhajeaaDoorBase
namespace Go.Proofs.YtfkfhjehmhajeaaDoor
open Go.RowKit

/-- All letters of a text lie from a on, below a + k. -/
def lets (k : Int) (l : List UInt8) : Bool := l.all fun c => inB ((c.toNat : Int) - 97) 0 (k - 1)
def strVals (ss : List ByteArray) : List Value := ss.map Value.string

theorem strVals_get {ss : List ByteArray} {k : Nat} {s : ByteArray} (h : ss[k]? = some s) : (strVals ss)[k]? = some (.string s) := by simp [strVals, h]

