/- Codes with a number. Condition: numbers from 0 to 255 where said. -/
import Derived.Test.YtpncmmdjkcdemaaGreatDoorLaw2
namespace Go.Proofs.YtpncmmdjkcdemaaGreatDoor
open Go.RowKit

def codeV (k n : Int) (o : ByteArray) : Value := .agg #[.int .i64 k, .int .i64 n, .string o]
theorem box3 {w wr : World} {a b c : Value} {T : TypeId} (h : Below (w.alloc (.cells #[a, b, c] T)).heap.size (w.alloc (.cells #[a, b, c] T)) wr) :
    (wr.cell? ⟨w.heap.size, 0, none⟩ = some a ∧ wr.cell? ⟨w.heap.size, 1, none⟩ = some b ∧ wr.cell? ⟨w.heap.size, 2, none⟩ = some c) ∧
    (wr.frozen? ⟨w.heap.size, 0, none⟩ = false ∧ wr.frozen? ⟨w.heap.size, 1, none⟩ = false ∧ wr.frozen? ⟨w.heap.size, 2, none⟩ = false) ∧ w.heap.size < wr.heap.size := by
  have h' : Below (w.heap.size + 1) (w.alloc (.cells #[a, b, c] T)) wr := by simpa using h
  have hb := box_kept h'
  have hs := h'.size
  simp at hs
  exact ⟨⟨(hb 0).1, (hb 1).1, (hb 2).1⟩, ⟨(hb 0).2, (hb 1).2, (hb 2).2⟩, by omega⟩

/-- The letter of bit i. -/
def bitB (n i : Nat) : UInt8 := if n / 2 ^ i % 2 = 1 then 98 else 97
def ruleOut (n : Nat) (i : Nat) : List UInt8 := (List.range i).map (bitB n)
theorem bit_and : ∀ n : Nat, n < 256 → ∀ i : Nat, i < 8 → bits BinOp.and IntKind.i64 ((n : Int) / 2 ^ i) 1 = ((n / 2 ^ i % 2 : Nat) : Int) := by decide +kernel

theorem infoU8 : (Tryz.prog.info? 5).map (fun i => (i.zero, i.size, i.bytes)) = some (some (.int .u8 0), 1, 1) := by kernel_rfl

theorem ruleOut_succ (n j : Nat) : byteVals (ruleOut n (j + 1)) = byteVals (ruleOut n j) ++ [Value.int .u8 (97 + (n : Int) / 2 ^ j % 2)] := by
  simp only [ruleOut, List.range_succ, List.map_append, byteVals, List.map_cons, List.map_nil]
  congr 3
  unfold bitB
  have h2 : ((n / 2 ^ j % 2 : Nat) : Int) = (n : Int) / 2 ^ j % 2 := by simp
  rw [← h2]
  rcases Nat.mod_two_eq_zero_or_one (n / 2 ^ j) with h | h <;> rw [h] <;> rfl

