import Derived.Test.YtpncmmdjkcdemaaGreatDoorLaw
import Derived.Deep.RegionHeld3
namespace Go.Proofs.YtpncmmdjkcdemaaGreatDoor
open Go.RowKit

def digB (k : Nat) : UInt8 := UInt8.ofNat (48 + k % 10)
theorem digB_nat (k : Nat) : ((digB k).toNat : Int) = 48 + (k : Int) % 10 := by unfold digB; simp [UInt8.toNat_ofNat']; omega
def mtLoop (k : Nat) (out : ByteArray) : ByteArray := if h : k = 0 then out else mtLoop (k / 10) (⟨#[digB k]⟩ ++ out)
termination_by k
decreasing_by omega
def mText (k : Nat) : ByteArray := ⟨#[109]⟩ ++ mtLoop k ByteArray.empty

def smarks (k n : Nat) : List ByteArray := (List.range n).map fun i => mText (k + i)
theorem smarks_len (k n : Nat) : (strVals (smarks k n)).length = n := by simp [smarks, strVals]
theorem smarks_get {k n i : Nat} (h : i < n) : (strVals (smarks k n))[i]? = some (.string (mText (k + i))) := by simp [smarks, strVals, h]

theorem infoStr : (Tryz.prog.info? 9).map (fun i => (i.zero, i.size, i.bytes)) = some (some (.string ByteArray.empty), 1, 16) := by kernel_rfl

