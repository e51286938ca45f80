/- The letter that a code gives to a word: both functions. Conditions: a word of the code's letters, at most 4 places, the code's letters for each. -/
import Derived.Test.YtcmmlldincflkaaDoorOpen
import Derived.Test.YtcmmlldincflkaaDoorCode
import Derived.Test.YtcmmlldincflkaaDoorAll
namespace Go.Proofs.YtcmmlldincflkaaDoor
open Go.ChangeShapes Go.WideShapes Go.ChangeAt Go.RowKit
open Go.ChangeMaps (open_string shut_string)

/-- A code that came in. -/
def CodeIn (v : Value) : Prop := ∃ k n o, v = .agg #[.int .i64 k, .int .i64 n, .string o] ∧ o.size ≤ maxLen

theorem cellsLawCode : Tryd.prog.cellsOf 23 = 3 := by kernel_rfl
set_option maxRecDepth 100000 in
theorem open_code {H : Type} {enc : TypeId × Value → H} {W : World} {base : Nat} {v : Value} {d : DataW H} {p : List MemPlace} {ws : List Nat}
    (hval : Value.okWide Tryd.prog W .any base 23 v) (h : DataW.Trod enc Tryd.prog W 0 (fun _ => true) true 23 v d p)
    (_hm : ∀ x ∈ d.weights Tryd.prog 23, x ∈ ws) (_hall : ws.all (· ≤ reachBytes) = true) : CodeIn v := by
  obtain ⟨c0, c1, c2, y0, y1, y2, m, rfl, rfl, rfl, hy0, hy1, hy2⟩ := Go.Joins.open_agg3 Tryd.underlying23 (by kernel_rfl) cellsLawCode hval h
  obtain ⟨a0, e0, _, _⟩ := DataW.trod_int Tryd.underlying3 hy0
  obtain ⟨a1, e1, _, _⟩ := DataW.trod_int Tryd.underlying3 hy1
  obtain ⟨a2, e2, _, w2⟩ := DataW.trod_string Tryd.underlying9 hy2
  simp at e0 e1 e2
  subst e0 e1 e2
  exact ⟨a0, a1, a2, rfl, w2⟩

set_option maxHeartbeats 1000000 in
theorem szCode_c (k n : Int) (o : ByteArray) (L : Nat) (w : World) (hL : L ≤ 1048576) (ho : o.size ≤ maxLen) :
    Calls Tryd.prog 4 #[.agg #[.int .i64 k, .int .i64 n, .string o], .int .i64 L] w fun e w' => e = .returned (.int .i64 (if L < o.size then -1 else (L : Int) - o.size)) ∧ Below w.heap.size w w' := by
  unfold maxLen at ho
  by_cases h : L < o.size
  · go_enter Tryd.func4, Tryd.ntmps4
    go_wp2
    go_ret
    exact ⟨ret_int (by simp [h]), (Below.refl _ _).alloc (Nat.le_refl _) _⟩
  · go_enter Tryd.func4, Tryd.ntmps4
    go_wp2
    go_ret
    exact ⟨ret_int (by simp [h]), (Below.refl _ _).alloc (Nat.le_refl _) _⟩

set_option maxHeartbeats 1000000 in
theorem toCode_c (k n : Int) (o : ByteArray) (w : World) :
    Calls Tryd.prog 6 #[.agg #[.int .i64 k, .int .i64 n, .string o]] w fun e w' => e = .returned (.agg #[.int .i64 k, .int .i64 n, .string o]) ∧ Below w.heap.size w w' := by
  go_enter Tryd.func6, Tryd.ntmps6
  go_wp2
  refine bodyPost_ret (v := .agg #[.int .i64 k, .int .i64 n, .string o]) (by simp [results, Tryd.results6, go_sem]) rfl ⟨rfl, ?_⟩
  exact (((Below.refl _ _).alloc (Nat.le_refl _) _).alloc (by simp) _).alloc (by simp; omega) _
end Go.Proofs.YtcmmlldincflkaaDoor
namespace Go.Proofs.YtcmmlldincflkaaDoor
open Go.RowKit

def giveB (o : ByteArray) (q : Nat) : UInt8 := o.data.toList.getD q 0
theorem giveB_at {o : ByteArray} {q : Nat} (h : q < o.size) : giveB o q = o[q] := by
  unfold giveB; rw [List.getD_eq_getElem?_getD, byte_at o q h]; rfl
theorem one_ext {o : ByteArray} {q : Nat} (h : q < o.size) : o.extract q (q + 1) = ⟨#[giveB o q]⟩ := by
  rw [giveB_at h]
  have h' : q < o.data.size := h
  apply ByteArray.ext
  rw [ByteArray.data_extract]
  apply Array.ext
  · simp; omega
  · intro i h1 h2
    have hi : i = 0 := by simp at h2; omega
    subst hi
    simp
    rfl
theorem idx_bd {k : Nat} {l : List UInt8} (hl : lets k l = true) (hk : k ≤ 3) : idxOf k l < k ^ l.length := by
  have := idxOf_lt hl hk l.length (Nat.le_refl _)
  rwa [List.take_length] at this

/-- What a code is, as facts. -/
theorem code_facts {k n : Int} {o : ByteArray} (h : isCode k n o = true) : ∃ kk nn : Nat, k = kk ∧ n = nn ∧ (kk = 2 ∨ kk = 3) ∧ (1 ≤ nn ∧ nn ≤ 4) ∧ kk ^ nn ≤ 27 ∧ o.size = kk ^ nn ∧ lets kk o.data.toList = true := by
  simp only [isCode, Bool.and_eq_true, decide_eq_true_eq] at h
  obtain ⟨⟨h1, h2, h3, h4⟩, h5⟩ := h
  obtain ⟨kk, rfl⟩ : ∃ kk : Nat, k = kk := ⟨k.toNat, by omega⟩
  obtain ⟨nn, rfl⟩ : ∃ nn : Nat, n = nn := ⟨n.toNat, by omega⟩
  rw [Int.toNat_natCast, Int.toNat_natCast] at h3 h4
  exact ⟨kk, nn, rfl, rfl, by omega, by omega, h3, h4, h5⟩

set_option maxHeartbeats 1000000 in
theorem gives_c (k n : Nat) (o s : ByteArray) (w : World) (hk : k ≤ 3) (hl : lets k s.data.toList = true) (hs : s.size ≤ 16) (ho : k ^ s.size ≤ o.size) :
    Calls Tryd.prog 58 #[.agg #[.int .i64 k, .int .i64 n, .string o], .string s] w fun e w' => e = .returned (.int .u8 ((giveB o (idxOf k s.data.toList)).toNat : Int)) ∧ Below w.heap.size w w' := by
  have hq := idx_bd hl hk
  rw [size_list] at hq
  obtain ⟨q, hqq⟩ : ∃ q, q = idxOf k s.data.toList := ⟨_, rfl⟩
  have HI := hid (fun w : World => indexOf_c k s w hk hl hs)
  rw [← hqq] at hq HI
  rw [← hqq]
  have hqo : q < o.size := by omega
  have hqi : (q : Int) < (o.size : Int) := by omega
  have HG := hid (giveB_at hqo)
  clear hl hqq ho hq hs
  go_enter Tryd.func58, Tryd.ntmps58
  go_wp2_with fail
  go_quiet ((go_at_call 48; exact Calls.quiet_of_same ((HI.out _).mono (fun e w' h => ⟨h.1, h.2.symm⟩))))
  go_wp2
  go_ret
  exact ⟨ret_int (by rw [HG.out]), below_drewN ((Below.refl _ _).alloc (Nat.le_refl _) _) _⟩

set_option maxHeartbeats 1000000 in
theorem l11Letter_c (k n : Nat) (o s : ByteArray) (w : World) (hk : k ≤ 3) (hl : lets k s.data.toList = true) (hs : s.size ≤ 16) (ho : k ^ s.size ≤ o.size) (ho2 : o.size ≤ 1048576) :
    Calls Tryd.prog 50 #[.agg #[.int .i64 k, .int .i64 n, .string o], .string s] w fun e w' => e = .returned (.string ⟨#[giveB o (idxOf k s.data.toList)]⟩) ∧ Below w.heap.size w w' := by
  have hq := idx_bd hl hk
  rw [size_list] at hq
  have hqo : idxOf k s.data.toList < o.size := by omega
  have HQO := hid hqo
  have HL := hid hl
  have hi63 : o.size ≤ 9223372036854775806 := by omega
  clear hl ho hq hqo
  go_enter Tryd.func50, Tryd.ntmps50
  go_wp2
  go_loopw [5, 6] (fun o' i wr => ∃ j q : Nat, j ≤ s.size ∧ i = .int .i64 j ∧ o' = .int .i64 q ∧ Hid (q = idxOf k (s.data.toList.take j)) ∧ Below (w.heap.size + 1) (w.alloc (.cells #[.int .i64 k, .int .i64 n, .string o] 26)) wr) (fun _ i _ => s.size - (intOf i).toNat)
  case atStart => exact ⟨0, 0, by omega, rfl, rfl, by show _ = _; simp [idxOf], Below.refl _ _⟩
  case round =>
    obtain ⟨j, q, hj, rfl, rfl, HQ, hbel⟩ := hrel
    have hbox := box_kept hbel
    have hc0 : wr.cell? ⟨w.heap.size, 0, none⟩ = some (.int .i64 k) := (hbox 0).1
    have hc2 : wr.cell? ⟨w.heap.size, 2, none⟩ = some (.string o) := (hbox 2).1
    clear hbox
    by_cases hlt : j < s.size
    · have hji : (j : Int) < (s.size : Int) := by omega
      have hlet := List.all_eq_true.1 HL.out _ (List.mem_of_getElem? (byte_at s j hlt))
      rw [inB_iff] at hlet
      obtain ⟨t, ht⟩ : ∃ t : Nat, s[j].toNat = 97 + t := ⟨s[j].toNat - 97, by omega⟩
      have ht3 : t < 3 := by omega
      have hq1 : q < k ^ j := by rw [HQ.out]; exact idxOf_lt HL.out hk j (by rw [size_list]; omega)
      have hq2 : k ^ j ≤ 3 ^ 16 := Nat.le_trans (Nat.pow_le_pow_left hk j) (Nat.pow_le_pow_right (by omega) (by omega))
      have hq3 : q ≤ 43046721 := by have : (3 : Nat) ^ 16 = 43046721 := by decide
                                    omega
      have hqk : q * k ≤ 43046721 * 3 := Nat.mul_le_mul hq3 hk
      obtain ⟨m, hm⟩ : ∃ m, m = q * k := ⟨_, rfl⟩
      have hmi : (q : Int) * (k : Int) = (m : Int) := by rw [hm]; simp
      rw [← hm] at hqk
      have HST := hid (show idxOf k (s.data.toList.take (j + 1)) = m + t by rw [idxOf_take (byte_at s j hlt), ← HQ.out, ht, hm]; omega)
      have HT := hid ht
      obtain ⟨b, hb⟩ : ∃ b : Nat, b = s[j].toNat := ⟨_, rfl⟩
      have hb97 : b = 97 + t := by rw [hb, ht]
      have HB97 := hid hb97
      have hb2 : b < 100 := by omega
      have hw1 : IntKind.i64.wrap ((m : Int)) = (m : Int) := IntWalk.i64_in _ (by omega)
      have hw2 : IntKind.i64.wrap ((m : Int) + (s[j].toNat : Int)) = (m : Int) + (s[j].toNat : Int) := IntWalk.i64_in _ (by omega)
      have hw3 : IntKind.i64.wrap ((m : Int) + (s[j].toNat : Int) - 97) = (m : Int) + (s[j].toNat : Int) - 97 := IntWalk.i64_in _ (by omega)
      clear hq1 hq2 hlet hm hb97 ht
      go_wp2
      go_quiet (fail)
      go_wp2
      go_roundw
      case rel => exact ⟨j + 1, m + t, by omega, by go_num, by (have := HT.out; go_num), by show _ = _; rw [HST.out], below_drewN hbel _⟩
      case measure => simp [intOf]; omega
    · have HE := hid (show s.data.toList.take j = s.data.toList from List.take_of_length_le (by rw [size_list]; omega))
      have hqo : q < o.size := by rw [HQ.out, HE.out]; exact HQO.out
      have hb1 : (q : Int) + 1 ≤ (o.size : Int) := by omega
      have hx := one_ext hqo
      go_wp2
      go_ret
      exact ⟨ret_str (by rw [HQ.out, HE.out]), ((Below.refl _ _).alloc (Nat.le_refl _) _).trans (hbel.mono (by omega))⟩
end Go.Proofs.YtcmmlldincflkaaDoor
