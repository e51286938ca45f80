/- Labelled graphs: where letters and words lead, both sides. Conditions: a valid labelled graph. -/
import Derived.Test.YtpfeflhcbcgbfaaDoorLabW
namespace Go.Proofs.YtpfeflhcbcgbfaaDoor
open Go.RowKit

theorem bit_and12a : ∀ i : Nat, i < 12 → ∀ n : Nat, n < 64 → ∀ m : Nat, m < 64 → bits BinOp.and IntKind.i64 (((64 * n + m : Nat) : Int) / 2 ^ i) 1 = (((64 * n + m) / 2 ^ i % 2 : Nat) : Int) := by decide +kernel
theorem bit_or12a : ∀ i : Nat, i < 12 → ∀ n : Nat, n < 64 → ∀ m : Nat, m < 64 → bits BinOp.or IntKind.i64 ((64 * n + m : Nat) : Int) (wrap64 (2 ^ i)) = ((64 * n + m ||| 2 ^ i : Nat) : Int) := by decide +kernel
theorem bit_and12 (i : Nat) (hi : i < 12) (n : Nat) (hn : n < 4096) : bits BinOp.and IntKind.i64 ((n : Int) / 2 ^ i) 1 = ((n / 2 ^ i % 2 : Nat) : Int) := by
  have := bit_and12a i hi (n / 64) (by omega) (n % 64) (by omega)
  rwa [Nat.div_add_mod] at this
theorem bit_or12 (i : Nat) (hi : i < 12) (n : Nat) (hn : n < 4096) : bits BinOp.or IntKind.i64 (n : Int) (wrap64 (2 ^ i)) = ((n ||| 2 ^ i : Nat) : Int) := by
  have := bit_or12a i hi (n / 64) (by omega) (n % 64) (by omega)
  rwa [Nat.div_add_mod] at this
theorem pow_shift12a : ∀ S : Nat, S < 13 → wrap64 (2 ^ S) = ((2 ^ S : Nat) : Int) := by decide +kernel
theorem bit01 (s v : Nat) : s / 2 ^ v % 2 = 0 ∨ s / 2 ^ v % 2 = 1 := by omega
/-- The arcs of a valid graph as a function reads them. -/
theorem garcs_at {w W2 : World} {a : Option Addr} {n : Nat} {G : List (Nat × Nat × Nat)} (hr : RowAt w a (n * 3) (arcVals (arcN G))) (hb : Below w.heap.size w W2) : G.length = n ∧ ∀ k x, G[k]? = some x → ∃ b off, a = some ⟨b, off, none⟩ ∧ b < W2.heap.size ∧ ∀ V, Below W2.heap.size W2 V → Cell3 V b (off + k * 3) (x.1 : Int) (x.2.1 : Int) (x.2.2 : Int) := by
  obtain ⟨h1, h2⟩ := arcs_at hr hb
  rw [arcN_len] at h1
  exact ⟨h1, fun k x hx => h2 k _ (arcN_get hx)⟩
set_option maxHeartbeats 4000000 in
set_option maxRecDepth 100000 in
theorem l14Step_c (L S : Nat) (a : Option Addr) (n c : Nat) (G : List (Nat × Nat × Nat)) (set x : Nat) (w : World) (hr : RowAt w a (n * 3) (arcVals (arcN G))) (hG : LabG L S G) (hset : set < 4096) (hx3 : x < 1000) (hn : n ≤ 1048576) :
    Calls Tryd.prog 36 #[.agg #[.int .i64 L, .int .i64 S, .slice a n c], .int .i64 set, .int .i64 x] w fun e w' => e = .returned (.int .i64 (stp G set x : Nat)) ∧ Below w.heap.size w w' := by
  have HBX := hid (fun (V : World) (hV : Below (w.heap.size + 1) (w.alloc (.cells #[.int .i64 L, .int .i64 S, .slice a n c] 29)) V) => lab_box hV)
  obtain ⟨W2, hW2⟩ : ∃ W2, W2 = w.alloc (.cells #[.int .i64 L, .int .i64 S, .slice a n c] 29) := ⟨_, rfl⟩
  have hB : Below w.heap.size w W2 := by rw [hW2]; exact (Below.refl _ _).alloc (Nat.le_refl _) _
  have hsz : W2.heap.size = w.heap.size + 1 := by rw [hW2]; simp
  rw [← hW2, ← hsz] at HBX
  have HAR := hid (garcs_at hr hB)
  have HB := hid hB
  have hzB : w.heap.size ≤ W2.heap.size := hB.size
  have HGL := hid hG
  have HLT := hid (fun k => show stpTo G set x k < 4096 from Nat.lt_of_lt_of_le (stpTo_lt (s := S) (fun a ha => (hG.arc a ha).2.1) k) (two_pow12 hG.s12))
  have HYES := hid (fun (k : Nat) (y : Nat × Nat × Nat) (h : G[k]? = some y) (h1 : y.2.2 = x ∧ set / 2 ^ y.1 % 2 = 1) => stpTo_yes h h1)
  have HNO := hid (fun (k : Nat) (y : Nat × Nat × Nat) (h : G[k]? = some y) (h1 : ¬ (y.2.2 = x ∧ set / 2 ^ y.1 % 2 = 1)) => stpTo_no h h1)
  have HEND := hid (show stpTo G set x n = stp G set x by unfold stp; rw [HAR.out.1])
  obtain ⟨Z, hZ⟩ : ∃ Z : Nat → Nat, Z = stpTo G set x := ⟨_, rfl⟩
  obtain ⟨R, hR⟩ : ∃ R, R = stp G set x := ⟨_, rfl⟩
  have HZ0 := hid (show Z 0 = 0 by rw [hZ]; rfl)
  rw [← hZ] at HLT HYES HNO HEND
  rw [← hR] at HEND
  rw [← hR]
  have h12 := hG.s12
  clear hr hB hZ hG hR
  go_enter Tryd.func36, Tryd.ntmps36
  go_wp2
  rw [← hW2]
  clear hW2
  go_loopw [7, 8] (fun o i wr => ∃ k : Nat, k ≤ n ∧ i = .int .i64 k ∧ o = .int .i64 (Z k : Nat) ∧ Below W2.heap.size W2 wr) (fun _ i _ => n - (intOf i).toNat)
  case atStart => exact ⟨0, by omega, rfl, by rw [HZ0.out]; rfl, Below.refl _ _⟩
  case round =>
    obtain ⟨k, hk, rfl, rfl, hbel⟩ := hrel
    obtain ⟨⟨p0, p1, p2⟩, hz, _⟩ := HBX.out wr hbel
    by_cases hlt : k < n
    · obtain ⟨y, hy⟩ := get_some (l := G) (n := k) (by rw [HAR.out.1]; exact hlt)
      obtain ⟨b1, off1, rfl, hb1, hc1⟩ := HAR.out.2 k y hy
      have hya := HGL.out.arc y (List.mem_of_getElem? hy)
      have HY := hid (HYES.out k y hy)
      have HN := hid (HNO.out k y hy)
      obtain ⟨f, t, l⟩ := y
      obtain ⟨g0, g1, g2⟩ := hc1 wr hbel
      have hki : (k : Int) < (n : Int) := by omega
      have hf12 : f < 12 := by have := hya.1; simp only [] at this; omega
      have ht12 : t < 12 := by have := hya.2.1; simp only [] at this; omega
      have hband := bit_and12 f hf12 set hset
      have hbor := bit_or12 t ht12 (Z k) (HLT.out k)
      clear hy hya hc1
      obtain ⟨z, hz⟩ : ∃ z, z = Z k := ⟨_, rfl⟩
      rw [← hz] at hbor HY HN
      rw [← hz]
      simp only [] at g0 g1 g2 HY HN
      by_cases hx : l = x
      · have gx : ((l : Int) == (x : Int)) = true := by simp [hx]
        rcases bit01 set f with h0 | h1
        · rw [h0] at hband
          have HE := hid (HN.out (by omega))
          clear HY HN hx h0 hz
          go_wp2
          go_roundw
          case rel => exact ⟨k + 1, by omega, by go_num, by rw [HE.out], hbel.alloc hbel.size _⟩
          case measure => simp [intOf] <;> omega
        · rw [h1] at hband
          have HE := hid (HY.out ⟨hx, h1⟩)
          clear HY HN hx h1 hz
          go_wp2
          go_roundw
          case rel => exact ⟨k + 1, by omega, by go_num, by rw [HE.out], hbel.alloc hbel.size _⟩
          case measure => simp [intOf] <;> omega
      · have gx : ((l : Int) == (x : Int)) = false := by simp; omega
        have HE := hid (HN.out (fun h => hx h.1))
        rcases bit01 set f with h0 | h1
        · rw [h0] at hband
          clear HY HN hx h0 hz
          go_wp2
          go_roundw
          case rel => exact ⟨k + 1, by omega, by go_num, by rw [HE.out], hbel.alloc hbel.size _⟩
          case measure => simp [intOf] <;> omega
        · rw [h1] at hband
          clear HY HN hx h1 hz
          go_wp2
          go_roundw
          case rel => exact ⟨k + 1, by omega, by go_num, by rw [HE.out], hbel.alloc hbel.size _⟩
          case measure => simp [intOf] <;> omega
    · obtain rfl : k = n := by omega
      go_wp2
      go_ret
      exact ⟨ret_int (by rw [HEND.out]), HB.out.trans (hbel.mono hzB)⟩
set_option maxHeartbeats 4000000 in
set_option maxRecDepth 100000 in
theorem impl_step_c (L S : Nat) (a : Option Addr) (n c : Nat) (G : List (Nat × Nat × Nat)) (set x : Nat) (w : World) (hr : RowAt w a (n * 3) (arcVals (arcN G))) (hG : LabG L S G) (hset : set < 4096) (hx3 : x < 1000) (hn : n ≤ 1048576) :
    Calls Tryd.prog 53 #[.agg #[.int .i64 L, .int .i64 S, .slice a n c], .int .i64 set, .int .i64 x] w fun e w' => e = .returned (.int .i64 (stp G set x : Nat)) ∧ Below w.heap.size w w' := by
  have HBX := hid (fun (V : World) (hV : Below (w.heap.size + 1) (w.alloc (.cells #[.int .i64 L, .int .i64 S, .slice a n c] 29)) V) => lab_box hV)
  obtain ⟨W2, hW2⟩ : ∃ W2, W2 = w.alloc (.cells #[.int .i64 L, .int .i64 S, .slice a n c] 29) := ⟨_, rfl⟩
  have hB : Below w.heap.size w W2 := by rw [hW2]; exact (Below.refl _ _).alloc (Nat.le_refl _) _
  have hsz : W2.heap.size = w.heap.size + 1 := by rw [hW2]; simp
  rw [← hW2, ← hsz] at HBX
  have HAR := hid (garcs_at hr hB)
  have HB := hid hB
  have hzB : w.heap.size ≤ W2.heap.size := hB.size
  have HGL := hid hG
  have HLT := hid (fun k => show stpTo G set x k < 4096 from Nat.lt_of_lt_of_le (stpTo_lt (s := S) (fun a ha => (hG.arc a ha).2.1) k) (two_pow12 hG.s12))
  have HYES := hid (fun (k : Nat) (y : Nat × Nat × Nat) (h : G[k]? = some y) (h1 : y.2.2 = x ∧ set / 2 ^ y.1 % 2 = 1) => stpTo_yes h h1)
  have HNO := hid (fun (k : Nat) (y : Nat × Nat × Nat) (h : G[k]? = some y) (h1 : ¬ (y.2.2 = x ∧ set / 2 ^ y.1 % 2 = 1)) => stpTo_no h h1)
  have HEND := hid (show stpTo G set x n = stp G set x by unfold stp; rw [HAR.out.1])
  obtain ⟨Z, hZ⟩ : ∃ Z : Nat → Nat, Z = stpTo G set x := ⟨_, rfl⟩
  obtain ⟨R, hR⟩ : ∃ R, R = stp G set x := ⟨_, rfl⟩
  have HZ0 := hid (show Z 0 = 0 by rw [hZ]; rfl)
  rw [← hZ] at HLT HYES HNO HEND
  rw [← hR] at HEND
  rw [← hR]
  have h12 := hG.s12
  clear hr hB hZ hG hR
  go_enter Tryd.func53, Tryd.ntmps53
  go_wp2
  rw [← hW2]
  clear hW2
  go_loopw [7, 13] (fun o i wr => ∃ k : Nat, k ≤ n ∧ i = .int .i64 k ∧ o = .int .i64 (Z k : Nat) ∧ Below W2.heap.size W2 wr) (fun _ i _ => n - (intOf i).toNat)
  case atStart => exact ⟨0, by omega, rfl, by rw [HZ0.out]; rfl, Below.refl _ _⟩
  case round =>
    obtain ⟨k, hk, rfl, rfl, hbel⟩ := hrel
    obtain ⟨⟨p0, p1, p2⟩, hz, _⟩ := HBX.out wr hbel
    by_cases hlt : k < n
    · obtain ⟨y, hy⟩ := get_some (l := G) (n := k) (by rw [HAR.out.1]; exact hlt)
      obtain ⟨b1, off1, rfl, hb1, hc1⟩ := HAR.out.2 k y hy
      have hya := HGL.out.arc y (List.mem_of_getElem? hy)
      have HY := hid (HYES.out k y hy)
      have HN := hid (HNO.out k y hy)
      obtain ⟨f, t, l⟩ := y
      obtain ⟨g0, g1, g2⟩ := hc1 wr hbel
      have hki : (k : Int) < (n : Int) := by omega
      have hf12 : f < 12 := by have := hya.1; simp only [] at this; omega
      have ht12 : t < 12 := by have := hya.2.1; simp only [] at this; omega
      have hband := bit_and12 f hf12 set hset
      have hbor := bit_or12 t ht12 (Z k) (HLT.out k)
      clear hy hya hc1
      obtain ⟨z, hz⟩ : ∃ z, z = Z k := ⟨_, rfl⟩
      rw [← hz] at hbor HY HN
      rw [← hz]
      simp only [] at g0 g1 g2 HY HN
      by_cases hx : l = x
      · have gx : ((l : Int) == (x : Int)) = true := by simp [hx]
        rcases bit01 set f with h0 | h1
        · rw [h0] at hband
          have HE := hid (HN.out (by omega))
          clear HY HN hx h0 hz
          go_wp2
          go_roundw
          case rel => exact ⟨k + 1, by omega, by go_num, by rw [HE.out], hbel.alloc hbel.size _⟩
          case measure => simp [intOf] <;> omega
        · rw [h1] at hband
          have HE := hid (HY.out ⟨hx, h1⟩)
          clear HY HN hx h1 hz
          go_wp2
          go_roundw
          case rel => exact ⟨k + 1, by omega, by go_num, by rw [HE.out], hbel.alloc hbel.size _⟩
          case measure => simp [intOf] <;> omega
      · have gx : ((l : Int) == (x : Int)) = false := by simp; omega
        have HE := hid (HN.out (fun h => hx h.1))
        rcases bit01 set f with h0 | h1
        · rw [h0] at hband
          clear HY HN hx h0 hz
          go_wp2
          go_roundw
          case rel => exact ⟨k + 1, by omega, by go_num, by rw [HE.out], hbel.alloc hbel.size _⟩
          case measure => simp [intOf] <;> omega
        · rw [h1] at hband
          clear HY HN hx h1 hz
          go_wp2
          go_roundw
          case rel => exact ⟨k + 1, by omega, by go_num, by rw [HE.out], hbel.alloc hbel.size _⟩
          case measure => simp [intOf] <;> omega
    · obtain rfl : k = n := by omega
      go_wp2
      go_ret
      exact ⟨ret_int (by rw [HEND.out]), HB.out.trans (hbel.mono hzB)⟩
end Go.Proofs.YtpfeflhcbcgbfaaDoor
