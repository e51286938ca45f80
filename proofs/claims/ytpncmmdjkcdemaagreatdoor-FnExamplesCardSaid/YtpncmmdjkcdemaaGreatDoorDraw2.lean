/- The cursor made; words drawn. Conditions: the bytes lie in memory. -/
import Derived.Test.YtpncmmdjkcdemaaGreatDoorDraw
namespace Go.Proofs.YtpncmmdjkcdemaaGreatDoor
open Go.RowKit

theorem newCur {w : World} {a : Option Addr} {n c : Nat} {bs : List UInt8} (hr : RowAt w a n (byteVals bs)) (T : TypeId) (h : Int) : CurX w (w.alloc (.cells #[.slice a n c, .int .i64 0, .int .i64 h] T)) w.heap.size a n c bs 0 h where
  row := hr
  bel := (Below.refl _ _).alloc (Nat.le_refl _) _
  lo := Nat.le_refl _
  hi := by simp
  f1 := World.frozen?_alloc_at _ _ _ _ rfl
  f2 := World.frozen?_alloc_at _ _ _ _ rfl
  c0 := World.cell?_alloc_at _ _ _ _ rfl
  il := Nat.zero_le _
  c1 := World.cell?_alloc_at _ _ _ _ rfl
  c2 := World.cell?_alloc_at _ _ _ _ rfl
set_option maxHeartbeats 2000000 in
set_option maxRecDepth 100000 in
theorem l1New_c (a : Option Addr) (n c : Nat) (bs : List UInt8) (w : World) (hr : RowAt w a n (byteVals bs)) :
    Calls Tryz.prog 26 #[.slice a n c] w fun e w' => ∃ g, e = .returned (.pointer (some ⟨g, 0, none⟩)) ∧ Cur w w' g a n c bs ∧ Below w.heap.size w w' := by
  have HR := hid hr
  have hlim := hr.lim
  have hlen := hid (show bs.length = n by have := hr.len; simpa [byteVals] using this)
  have HAT := hid hr.at_
  clear hr
  go_enter Tryz.func26, Tryz.ntmps26
  go_wp2
  go_loop [3, 4] (fun h i => ∃ j k : Nat, j ≤ n ∧ i = .int .i64 j ∧ h = .int .i64 k ∧ k ≤ 140737488400000) (fun _ i => n - (intOf i).toNat)
  case atStart => exact ⟨0, 26583 + n, by omega, rfl, by go_num, by omega⟩
  case round =>
    obtain ⟨j, k, hj, rfl, rfl, hk⟩ := hrel
    by_cases hlt : j < n
    · by_cases h4 : j < 4000
      · have h4' : (j : Int) < 4000 := by omega
        obtain ⟨b, off, rfl, hb, hc⟩ := HAT.out (by omega)
        obtain ⟨u, hu⟩ := get_some (l := bs) (n := j) (by rw [hlen.out]; exact hlt)
        have hcell := hc j (.int .u8 (u.toNat : Int)) (by simp [byteVals, hu])
        have hub := u.toNat_lt
        obtain ⟨y, hy, hy2⟩ := mask_nat ((k : Int) * 131 + (u.toNat : Int) + 7) 1073741823 (by omega)
        have hy : bits BinOp.and IntKind.i64 ((k : Int) * 131 + (u.toNat : Int) + 7) 1073741823 = (y : Int) := hy
        clear hc hu HAT
        go_wp2
        go_round
        case rel => exact ⟨j + 1, y, by omega, by go_num, by first | rw [hy] | go_num, by omega⟩
        case measure => simp [intOf] <;> omega
      · have h4' : ¬ ((j : Int) < 4000) := by omega
        go_wp2
        go_ret
        exact ⟨w.heap.size, rfl, ⟨0, _, newCur HR.out _ _⟩, (Below.refl _ _).alloc (Nat.le_refl _) _⟩
    · go_wp2
      go_ret
      exact ⟨w.heap.size, rfl, ⟨0, _, newCur HR.out _ _⟩, (Below.refl _ _).alloc (Nat.le_refl _) _⟩
def abc : List ByteArray := [⟨#[97]⟩, ⟨#[98]⟩, ⟨#[99]⟩]
theorem abc_size {k : Nat} {s : ByteArray} (h : s ∈ abc.take k) : s.size = 1 := by
  have := List.mem_of_mem_take h
  simp [abc] at this
  rcases this with rfl | rfl | rfl <;> rfl
theorem lit_row {w : World} {e : TypeId} (cs : Array Value) (zs : List ByteArray) (k : Nat) (hz : zs.length = k) (hcs : ∀ (j : Nat) (v : Value), (strVals zs)[j]? = some v → cs[j]? = some v) (hk : k ≤ 1000) :
    RowAt (w.alloc (.cells cs e)) (some ⟨w.heap.size, 0, none⟩) k (strVals zs) :=
  ⟨by simp [strVals, hz], by omega, fun _ => ⟨w.heap.size, 0, rfl, by simp, fun j v hj => by
    rw [World.cell?_alloc_at _ _ _ _ rfl, Nat.zero_add]; exact hcs j v hj⟩⟩
theorem Drew.trans {W w w1 w2 : World} {g : Nat} {a : Option Addr} {n c : Nat} {bs : List UInt8} (h : Drew W w w1 g a n c bs) (k : Drew W w1 w2 g a n c bs) : Drew W w w2 g a n c bs := ⟨k.1, grown_trans h.2 k.2⟩
theorem Drew.alloc {W w w1 : World} {g : Nat} {a : Option Addr} {n c : Nat} {bs : List UInt8} (h : Drew W w w1 g a n c bs) (o : Obj) : Drew W w (w1.alloc o) g a n c bs :=
  ⟨h.1.below ((Below.refl _ _).alloc (Nat.le_refl _) _), grown_trans h.2 (World.grownBy_alloc _ _ _)⟩
