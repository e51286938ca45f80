/- Codes with a number. Condition: numbers from 0 to 255 where said. -/
import Derived.Test.YtcmmlldincflkaaBox
namespace Go.Proofs.Ytcmmlldincflkaa
open Go.RowKit

def codeV (k n : Int) (o : ByteArray) : Value := .agg #[.int .i64 k, .int .i64 n, .string o]
theorem box3 {w wr : World} {a b c : Value} {T : TypeId} (h : Below (w.alloc (.cells #[a, b, c] T)).heap.size (w.alloc (.cells #[a, b, c] T)) wr) :
    (wr.cell? ⟨w.heap.size, 0, none⟩ = some a ∧ wr.cell? ⟨w.heap.size, 1, none⟩ = some b ∧ wr.cell? ⟨w.heap.size, 2, none⟩ = some c) ∧
    (wr.frozen? ⟨w.heap.size, 0, none⟩ = false ∧ wr.frozen? ⟨w.heap.size, 1, none⟩ = false ∧ wr.frozen? ⟨w.heap.size, 2, none⟩ = false) ∧ w.heap.size < wr.heap.size := by
  have h' : Below (w.heap.size + 1) (w.alloc (.cells #[a, b, c] T)) wr := by simpa using h
  have hb := box_kept h'
  have hs := h'.size
  simp at hs
  exact ⟨⟨(hb 0).1, (hb 1).1, (hb 2).1⟩, ⟨(hb 0).2, (hb 1).2, (hb 2).2⟩, by omega⟩

/-- The letter of bit i. -/
def bitB (n i : Nat) : UInt8 := if n / 2 ^ i % 2 = 1 then 98 else 97
def ruleOut (n : Nat) (i : Nat) : List UInt8 := (List.range i).map (bitB n)
theorem bit_and : ∀ n : Nat, n < 256 → ∀ i : Nat, i < 8 → bits BinOp.and IntKind.i64 ((n : Int) / 2 ^ i) 1 = ((n / 2 ^ i % 2 : Nat) : Int) := by decide +kernel

theorem infoU8 : (Try.prog.info? 5).map (fun i => (i.zero, i.size, i.bytes)) = some (some (.int .u8 0), 1, 1) := by kernel_rfl

theorem ruleOut_succ (n j : Nat) : byteVals (ruleOut n (j + 1)) = byteVals (ruleOut n j) ++ [Value.int .u8 (97 + (n : Int) / 2 ^ j % 2)] := by
  simp only [ruleOut, List.range_succ, List.map_append, byteVals, List.map_cons, List.map_nil]
  congr 3
  unfold bitB
  have h2 : ((n / 2 ^ j % 2 : Nat) : Int) = (n : Int) / 2 ^ j % 2 := by simp
  rw [← h2]
  rcases Nat.mod_two_eq_zero_or_one (n / 2 ^ j) with h | h <;> rw [h] <;> rfl

set_option maxHeartbeats 1000000 in
theorem impl_ruleCode_c (n : Nat) (hn : n < 256) (w : World) :
    Calls Try.prog 28 #[.int .i64 n] w fun e w' => e = .returned (.agg #[.int .i64 2, .int .i64 3, .string ⟨(ruleOut n 8).toArray⟩]) ∧ Below w.heap.size w w' := by
  have h1 : (0 : Int) ≤ n := by omega
  have h2 : (n : Int) ≤ 255 := by omega
  go_enter Try.func28, Try.ntmps28
  go_wp2
  go_loopw [3, 4, 6] (fun v _ i wr => ∃ j : Nat, j ≤ 8 ∧ i = .int .i64 j ∧ wr.ownsRow (w.heap.size + 1) 5 1 v j (byteVals (ruleOut n j)) ∧ Below (w.heap.size + 1) (w.alloc (.cells #[.int .i64 0, .int .i64 0, .string ⟨#[]⟩] 26)) wr) (fun _ _ i _ => 8 - (intOf i).toNat)
  case atStart => exact ⟨0, by omega, rfl, by rw [show byteVals (ruleOut n 0) = [] from rfl]; simpa using World.ownsRow_made (w.alloc (.cells #[.int .i64 0, .int .i64 0, .string ⟨#[]⟩] 26)) #[] 0 (e := 5) (size := 1) (base := w.heap.size + 1) (by simp) (by omega) rfl, (Below.refl _ _).alloc (by simp) _⟩
  case round =>
    obtain ⟨j, hj, rfl, hown, hbel⟩ := hrel
    by_cases hlt : j < 8
    · have hbit := bit_and n hn j hlt
      have hb2 : n / 2 ^ j % 2 < 2 := Nat.mod_lt _ (by omega)
      go_wp2_with (first | (at_builtin; go_must (refine wpList_app1 rfl _ _ 22 rfl (w.heap.size + 1) 5 (.int .u8 0) 1 Try.underlying22 infoU8 rfl _ j (byteVals (ruleOut n j)) _ hown rfl rfl rfl (by omega) (by unfold maxLen; omega) hbel (Nat.le_trans (by simp) hbel.size) ?_); intro v' w1 hown' hbel'))
      go_roundw
      case rel => exact ⟨j + 1, by omega, by go_num, by rw [ruleOut_succ]; exact hown', hbel'⟩
      case measure => simp [intOf]; omega
    · obtain rfl : j = 8 := by omega
      obtain ⟨ad, c, rfl, hr⟩ := owns_rowAt hown (by omega)
      have hbox := box_kept hbel
      have hc0 : wr.cell? ⟨w.heap.size, 0, none⟩ = some (.int .i64 0) := (hbox 0).1
      have hc1 : wr.cell? ⟨w.heap.size, 1, none⟩ = some (.int .i64 0) := (hbox 1).1
      have hc2 : wr.cell? ⟨w.heap.size, 2, none⟩ = some (.string ⟨#[]⟩) := (hbox 2).1
      have hf0 := (hbox 0).2
      have hf1 := (hbox 1).2
      have hf2 := (hbox 2).2
      clear hbox
      go_wp2_with (with_reducible refine wpList_convs rfl _ 22 9 5 rfl Try.underlying22 Try.underlying5 Try.underlying9 _ 8 _ (ruleOut n 8) rfl hr ?_)
      refine bodyPost_ret (v := .agg #[.int .i64 2, .int .i64 3, .string ⟨(ruleOut n 8).toArray⟩]) (by simp [results, Try.results28, go_sem, hc0, hc1, hc2]) rfl ⟨rfl, ?_⟩
      exact ((((Below.refl _ _).alloc (Nat.le_refl _) _).trans (hbel.mono (by omega))).setCell (by simp) _).setCell (by simp) _ |>.setCell (by simp) _

set_option maxHeartbeats 1000000 in
theorem spec_RuleCode_c (n : Nat) (hn : n < 256) (w : World) :
    Calls Try.prog 7 #[.int .i64 n] w fun e w' => e = .returned (.tuple #[.agg #[.int .i64 2, .int .i64 3, .string ⟨(ruleOut n 8).toArray⟩], .bool true]) ∧ Below w.heap.size w w' := by
  have hin := inB_t (x := (n : Int)) (lo := 0) (hi := 255) (by omega)
  have h1 : (0 : Int) ≤ n := by omega
  have h2 : (n : Int) ≤ 255 := by omega
  go_enter Try.func7, Try.ntmps7
  go_wp2_with (go_at_call 29; refine (l1In_c _ _ _ _).mono ?_; rintro e w' ⟨rfl, rfl⟩)
  go_loopw [5] (fun i wr => ∃ j : Nat, j ≤ 8 ∧ i = .int .i64 j ∧ (∀ k, wr.cell? ⟨w.heap.size + 1, k, none⟩ = (#[.int .i64 2, .int .i64 3, .string ⟨(ruleOut n j).toArray⟩] : Array Value)[k]?) ∧ (∀ k, wr.frozen? ⟨w.heap.size + 1, k, none⟩ = false) ∧ Below (w.heap.size + 1) (w.alloc (.cells #[.int .i64 0, .int .i64 0, .string ⟨#[]⟩] 26)) wr) (fun i _ => 8 - (intOf i).toNat)
  case atStart => exact ⟨0, by omega, rfl, fun k => World.cell?_alloc_at _ _ _ _ (by simp), fun k => World.frozen?_alloc_at _ _ _ _ (by simp), (Below.refl _ _).alloc (by simp) _⟩
  case round =>
    obtain ⟨j, hj, rfl, hcs, hfs, hbel⟩ := hrel
    by_cases hlt : j < 8
    · have hbit := bit_and n hn j hlt
      have hb2 : n / 2 ^ j % 2 < 2 := Nat.mod_lt _ (by omega)
      have hl : (ruleOut n j).length = j := by simp [ruleOut]
      have hc2 : wr.cell? ⟨w.heap.size + 1, 2, none⟩ = some (.string ⟨(ruleOut n j).toArray⟩) := hcs 2
      have hf2 := hfs 2
      have HC := hid hcs
      have HF := hid hfs
      clear hcs hfs
      obtain ⟨q, hq⟩ : ∃ q : Nat, q = n / 2 ^ j % 2 := ⟨_, rfl⟩
      rw [← hq] at hbit hb2
      have hex : (ByteArray.mk #[97, 98]).extract q (q + 1) = ⟨#[bitB n j]⟩ := by
        have : q = 0 ∨ q = 1 := by omega
        rcases this with h | h <;> rw [h] at hq ⊢ <;> simp [bitB, ← hq] <;> rfl
      have HQ := hid hq
      clear hq
      go_wp2
      go_region
      go_wp2
      go_roundw
      case rel =>
        refine ⟨j + 1, by omega, by go_num, fun k => ?_, fun k => (World.frozen?_setCell _ _ _ _).trans (HF.out k), (hbel.setCell (by simp) _).drew⟩
        have := cells_set HC.out 2 (by simp) (.string (⟨(ruleOut n j).toArray⟩ ++ ⟨#[bitB n j]⟩)) k
        refine this.trans ?_
        rw [show (ByteArray.mk (ruleOut n j).toArray ++ ⟨#[bitB n j]⟩) = ⟨(ruleOut n (j + 1)).toArray⟩ from ?_]
        · rfl
        · rw [show (ByteArray.mk #[bitB n j]) = ⟨[bitB n j].toArray⟩ from rfl, ByteArray.mk_append_mk]
          simp [ruleOut, List.range_succ]
      case measure => simp [intOf]; omega
    · obtain rfl : j = 8 := by omega
      have hc0 : wr.cell? ⟨w.heap.size + 1, 0, none⟩ = some (.int .i64 2) := hcs 0
      have hc1 : wr.cell? ⟨w.heap.size + 1, 1, none⟩ = some (.int .i64 3) := hcs 1
      have hc2 : wr.cell? ⟨w.heap.size + 1, 2, none⟩ = some (.string ⟨(ruleOut n 8).toArray⟩) := hcs 2
      have hbox := box_kept hbel
      have hd0 : wr.cell? ⟨w.heap.size, 0, none⟩ = some (.int .i64 0) := (hbox 0).1
      have hd1 : wr.cell? ⟨w.heap.size, 1, none⟩ = some (.int .i64 0) := (hbox 1).1
      have hd2 : wr.cell? ⟨w.heap.size, 2, none⟩ = some (.string ⟨#[]⟩) := (hbox 2).1
      have hf0 := (hbox 0).2
      have hf1 := (hbox 1).2
      have hf2 := (hbox 2).2
      clear hbox hcs hfs
      go_wp2
      refine bodyPost_ret (v := .tuple #[.agg #[.int .i64 2, .int .i64 3, .string ⟨(ruleOut n 8).toArray⟩], .bool true]) (by simp [results, Try.results7, go_sem, hd0, hd1, hd2]) rfl ⟨rfl, ?_⟩
      exact ((((Below.refl _ _).alloc (Nat.le_refl _) _).trans (hbel.mono (by omega))).setCell (by simp) _).setCell (by simp) _ |>.setCell (by simp) _
end Go.Proofs.Ytcmmlldincflkaa
