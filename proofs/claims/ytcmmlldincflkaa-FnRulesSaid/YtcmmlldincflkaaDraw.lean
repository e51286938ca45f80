/- The cursor that draws, as it lies in memory; what it draws. Conditions: the bytes lie in memory. -/
import Derived.Laws.Bits64b
import Derived.Deep.AppendLies
import Derived.Test.YtcmmlldincflkaaBase
import Derived.Test.YtcmmlldincflkaaBytes
import Derived.Test.YtcmmlldincflkaaOpen
namespace Go.Proofs.Ytcmmlldincflkaa

theorem mask_nat (x : Int) (m : Nat) (hm : m < 9223372036854775808) : ∃ n : Nat, bits BinOp.and IntKind.i64 x (m : Int) = (n : Int) ∧ n ≤ m := by
  have h2 : (BitVec.ofInt 64 (m : Int)).toNat = m := by
    rw [BitVec.ofInt_natCast, BitVec.toNat_ofNat]; exact Nat.mod_eq_of_lt (by omega)
  have hle : (BitVec.ofInt 64 x).toNat &&& m ≤ m := Nat.and_le_right
  refine ⟨(BitVec.ofInt 64 x).toNat &&& m, ?_, hle⟩
  show IntKind.i64.wrap ((BitVec.ofInt 64 x &&& BitVec.ofInt 64 (m : Int)).toNat : Int) = _
  rw [BitVec.toNat_and, h2]
  generalize (BitVec.ofInt 64 x).toNat &&& m = n at hle
  simp only [IntKind.wrap, IntKind.bits, IntKind.signed]
  simp
  split <;> omega
theorem mask255 (x : Int) : ∃ n : Nat, bits BinOp.and IntKind.i64 x 255 = (n : Int) ∧ n ≤ 255 := mask_nat x 255 (by omega)
end Go.Proofs.Ytcmmlldincflkaa
namespace Go.Proofs.Ytcmmlldincflkaa
open Go.RowKit

/-- The cursor of a draw at block g. -/
structure CurX (W w : World) (g : Nat) (a : Option Addr) (n c : Nat) (bs : List UInt8) (i : Nat) (h : Int) : Prop where
  row : RowAt W a n (byteVals bs)
  bel : Below W.heap.size W w
  lo : W.heap.size ≤ g
  hi : g < w.heap.size
  f1 : w.frozen? ⟨g, 1, none⟩ = false
  f2 : w.frozen? ⟨g, 2, none⟩ = false
  c0 : w.cell? ⟨g, 0, none⟩ = some (.slice a n c)
  il : i ≤ n
  c1 : w.cell? ⟨g, 1, none⟩ = some (.int .i64 i)
  c2 : w.cell? ⟨g, 2, none⟩ = some (.int .i64 h)
def Cur (W w : World) (g : Nat) (a : Option Addr) (n c : Nat) (bs : List UInt8) : Prop := ∃ i h, CurX W w g a n c bs i h
theorem CurX.below {W w w' : World} {g : Nat} {a : Option Addr} {n c : Nat} {bs : List UInt8} {i : Nat} {h : Int} (x : CurX W w g a n c bs i h) (hb : Below w.heap.size w w') : CurX W w' g a n c bs i h :=
  ⟨x.row, x.bel.trans (hb.mono x.bel.size), x.lo, Nat.lt_of_lt_of_le x.hi hb.size, (hb.frozen (p := ⟨g, 1, none⟩) x.hi).trans x.f1, (hb.frozen (p := ⟨g, 2, none⟩) x.hi).trans x.f2, (hb.cell (p := ⟨g, 0, none⟩) x.hi).trans x.c0, x.il, (hb.cell (p := ⟨g, 1, none⟩) x.hi).trans x.c1, (hb.cell (p := ⟨g, 2, none⟩) x.hi).trans x.c2⟩
theorem Cur.below {W w w' : World} {g : Nat} {a : Option Addr} {n c : Nat} {bs : List UInt8} (x : Cur W w g a n c bs) (hb : Below w.heap.size w w') : Cur W w' g a n c bs := by
  obtain ⟨i, h, x⟩ := x
  exact ⟨i, h, x.below hb⟩
theorem CurX.set2 {W w : World} {g : Nat} {a : Option Addr} {n c : Nat} {bs : List UInt8} {i : Nat} {h : Int} (x : CurX W w g a n c bs i h) (h' : Int) : CurX W (w.setCell ⟨g, 2, none⟩ (.int .i64 h')) g a n c bs i h' ∧ w.grownBy (w.setCell ⟨g, 2, none⟩ (.int .i64 h')) (some g) := by
  refine ⟨⟨x.row, x.bel.setCell x.lo _, x.lo, by simpa using x.hi, by rw [World.frozen?_setCell]; exact x.f1, by rw [World.frozen?_setCell]; exact x.f2, ?_, x.il, ?_, World.cell?_setCell_same _ _ _ x.c2⟩, rfl, rfl, rfl, by simp, fun p hq hr => Below.heap_setCell _ _ _ _ (fun e => hr (by rw [show p = g from e]))⟩
  · rw [World.cell?_setCell_other _ _ _ _ (fun e => by injection e with _ e2; simp at e2)]; exact x.c0
  · rw [World.cell?_setCell_other _ _ _ _ (fun e => by injection e with _ e2; simp at e2)]; exact x.c1
theorem CurX.set1 {W w : World} {g : Nat} {a : Option Addr} {n c : Nat} {bs : List UInt8} {i : Nat} {h : Int} (x : CurX W w g a n c bs i h) (i' : Nat) (hi' : i' ≤ n) : CurX W (w.setCell ⟨g, 1, none⟩ (.int .i64 i')) g a n c bs i' h ∧ w.grownBy (w.setCell ⟨g, 1, none⟩ (.int .i64 i')) (some g) := by
  refine ⟨⟨x.row, x.bel.setCell x.lo _, x.lo, by simpa using x.hi, by rw [World.frozen?_setCell]; exact x.f1, by rw [World.frozen?_setCell]; exact x.f2, ?_, hi', World.cell?_setCell_same _ _ _ x.c1, ?_⟩, rfl, rfl, rfl, by simp, fun p hq hr => Below.heap_setCell _ _ _ _ (fun e => hr (by rw [show p = g from e]))⟩
  · rw [World.cell?_setCell_other _ _ _ _ (fun e => by injection e with _ e2; simp at e2)]; exact x.c0
  · rw [World.cell?_setCell_other _ _ _ _ (fun e => by injection e with _ e2; simp at e2)]; exact x.c2
theorem drewN_below (w : World) (m : Nat) : Below w.heap.size w (w.drewN m) := below_drewN (Below.refl _ _) m
set_option maxHeartbeats 1000000 in
theorem l1Byte_c (W w : World) (g : Nat) (a : Option Addr) (n c : Nat) (bs : List UInt8) (h : Cur W w g a n c bs) :
    Calls Try.prog 63 #[.pointer (some ⟨g, 0, none⟩)] w fun e w' => ∃ x : Nat, e = .returned (.int .i64 x) ∧ x ≤ 255 ∧ Cur W w' g a n c bs ∧ w.grownBy w' (some g) := by
  obtain ⟨i, k, h⟩ := h
  obtain ⟨k2, hk2⟩ : ∃ k2, k2 = wrap64 (wrap64 (k * 6364136223846793005) + 1442695040888963407) := ⟨_, rfl⟩
  obtain ⟨x, hx, hx2⟩ := mask255 (bits BinOp.xor IntKind.i64 (k2 / 8589934592) (k2 / 35184372088832))
  obtain ⟨s1, s2⟩ := h.set2 k2
  have HX := hid hx
  have HK := hid hk2
  have H1 := hid s1
  have HG1 := hid s2
  have h1 := h.c1
  have h2 := h.c2
  have h0 := h.c0
  have f1 := h.f1
  have f2 := h.f2
  have hhi := h.hi
  clear h hx hk2 s1 s2
  go_enter Try.func63, Try.ntmps63
  go_wp2
  go_quiet (fail)
  rw [← HK.out, HX.out]
  obtain ⟨w1, hw1⟩ : ∃ w1, w1 = (w.setCell ⟨g, 2, none⟩ (.int .i64 k2)).drewN nq := ⟨_, rfl⟩
  rw [← hw1]
  have H2 := hid (show CurX W w1 g a n c bs i k2 by rw [hw1]; exact H1.out.below (drewN_below _ _))
  have HG2 := hid (show w.grownBy w1 (some g) by rw [hw1]; exact grown_trans HG1.out (below_grown (drewN_below _ _) _))
  clear hw1 H1 HG1 h1 h2 h0 f1 f2 hhi HK HX
  have h1 := H2.out.c1
  have h2 := H2.out.c2
  have h0 := H2.out.c0
  have f1 := H2.out.f1
  have f2 := H2.out.f2
  have hhi := H2.out.hi
  have hil := H2.out.il
  have hlim := H2.out.row.lim
  by_cases hlt : i < n
  · obtain ⟨b, off, rfl, hb, hc⟩ := (H2.out.row.below H2.out.bel (Nat.le_refl _)).at_ (by omega)
    obtain ⟨u, hu⟩ := get_some (l := bs) (n := i) (by have := H2.out.row.len; simp [byteVals] at this; omega)
    have hcell := hc i (.int .u8 (u.toNat : Int)) (by simp [byteVals, hu])
    have hub := u.toNat_lt
    obtain ⟨y, hy, hy2⟩ := mask255 ((x : Int) + (u.toNat : Int))
    have HY := hid hy
    clear hc hu hy
    go_wp2
    go_quiet (fail)
    go_wp2
    go_quiet (fail)
    rw [HY.out]
    go_wp2
    go_ret
    have key := fun z => (H2.out.below (drewN_below w1 z)).set1 (i + 1) (by omega)
    exact ⟨y, rfl, hy2, ⟨i + 1, k2, (key _).1⟩, grown_trans HG2.out (grown_trans (below_grown (drewN_below w1 _) _) (key _).2)⟩
  · go_wp2
    go_quiet (fail)
    go_wp2
    go_ret
    exact ⟨x, rfl, hx2, ⟨i, k2, H2.out.below (drewN_below _ _)⟩, grown_trans HG2.out (below_grown (drewN_below _ _) _)⟩
/-- What drawing leaves: the cursor, and all else as it was. -/
def Drew (W w w' : World) (g : Nat) (a : Option Addr) (n c : Nat) (bs : List UInt8) : Prop := Cur W w' g a n c bs ∧ w.grownBy w' (some g)
set_option maxHeartbeats 1000000 in
theorem l1Below_c (W w : World) (g : Nat) (a : Option Addr) (n c : Nat) (bs : List UInt8) (m : Nat) (h : Cur W w g a n c bs) (h0 : 0 < m) (hm : m ≤ 256) :
    Calls Try.prog 50 #[.pointer (some ⟨g, 0, none⟩), .int .i64 m] w fun e w' => ∃ x : Nat, e = .returned (.int .i64 x) ∧ x < m ∧ Drew W w w' g a n c bs := by
  have HB := hid (l1Byte_c W w g a n c bs h)
  clear h
  go_enter Try.func50, Try.ntmps50
  go_wp2_with fail
  refine HB.out.mono ?_
  rintro e w1 ⟨x, rfl, hx, hc, hg⟩
  have hrem : (x : Int).tmod (m : Int) = ((x % m : Nat) : Int) := Int.ofNat_tmod x m
  have hm0 : ¬ ((m : Int) = 0) := by omega
  go_wp2
  go_ret
  exact ⟨x % m, rfl, Nat.mod_lt _ h0, hc, hg⟩
theorem l1Once_c (W w : World) (g : Nat) (a : Option Addr) (n c : Nat) (bs : List UInt8) (m : Nat) (h : Cur W w g a n c bs) (h0 : 0 < m) (hm : m ≤ 256) :
    Calls Try.prog 51 #[.pointer (some ⟨g, 0, none⟩), .int .i64 m] w fun e w' => ∃ b : Bool, e = .returned (.bool b) ∧ Drew W w w' g a n c bs := by
  have HB := hid (l1Below_c W w g a n c bs m h h0 hm)
  clear h
  go_enter Try.func51, Try.ntmps51
  go_wp2_with fail
  refine HB.out.mono ?_
  rintro e w1 ⟨x, rfl, hx, hd⟩
  go_wp2
  go_ret
  exact ⟨_, rfl, hd⟩
theorem l1BitD_c (b : Bool) (w : World) : Calls Try.prog 43 #[.bool b] w fun e w' => ∃ x : Nat, e = .returned (.int .i64 x) ∧ x ≤ 1 ∧ w = w' := by
  cases b
  · go_enter Try.func43, Try.ntmps43
    go_wp2
    go_ret
    exact ⟨0, rfl, by omega, rfl⟩
  · go_enter Try.func43, Try.ntmps43
    go_wp2
    go_ret
    exact ⟨1, rfl, by omega, rfl⟩
set_option maxHeartbeats 1000000 in
theorem l1PickInt_c (W w : World) (g : Nat) (a : Option Addr) (n c : Nat) (bs : List UInt8) (b : Option Addr) (m d : Nat) (zs : List Int) (h : Cur W w g a n c bs) (h0 : 0 < m) (hm : m ≤ 256) (hr : RowAt w b m (intVals zs)) (hb : ∀ q off, b = some ⟨q, off, none⟩ → q ≠ g) :
    Calls Try.prog 49 #[.pointer (some ⟨g, 0, none⟩), .slice b m d] w fun e w' => ∃ x : Int, e = .returned (.int .i64 x) ∧ x ∈ zs ∧ Drew W w w' g a n c bs := by
  have HB := hid (l1Below_c W w g a n c bs m h h0 hm)
  obtain ⟨q, off, rfl, hq, hc⟩ := hr.at_ h0
  have hne := hb q off rfl
  have hlen := hid (show zs.length = m by have := hr.len; simpa [intVals] using this)
  have HC := hid hc
  clear h hr hb hc
  go_enter Try.func49, Try.ntmps49
  go_wp2_with fail
  refine HB.out.mono ?_
  rintro e w1 ⟨x, rfl, hx, hd⟩
  obtain ⟨z, hz⟩ := get_some (l := zs) (n := x) (by rw [hlen.out]; exact hx)
  have hcell : w1.cell? ⟨q, off + x, none⟩ = some (.int .i64 z) := (hd.2.cell_far ⟨q, off + x, none⟩ hq (by simpa using hne)).trans (HC.out x _ (intVals_get hz))
  have HZ := hid (List.mem_of_getElem? hz)
  have HD := hid hd
  clear hd hz
  go_wp2
  go_ret
  exact ⟨z, rfl, HZ.out, HD.out⟩
set_option maxHeartbeats 1000000 in
theorem l1Pick_c (W w : World) (g : Nat) (a : Option Addr) (n c : Nat) (bs : List UInt8) (b : Option Addr) (m d : Nat) (zs : List ByteArray) (h : Cur W w g a n c bs) (h0 : 0 < m) (hm : m ≤ 256) (hr : RowAt w b m (strVals zs)) (hb : ∀ q off, b = some ⟨q, off, none⟩ → q ≠ g) :
    Calls Try.prog 80 #[.pointer (some ⟨g, 0, none⟩), .slice b m d] w fun e w' => ∃ x : ByteArray, e = .returned (.string x) ∧ x ∈ zs ∧ Drew W w w' g a n c bs := by
  have HB := hid (l1Below_c W w g a n c bs m h h0 hm)
  obtain ⟨q, off, rfl, hq, hc⟩ := hr.at_ h0
  have hne := hb q off rfl
  have hlen := hid (show zs.length = m by have := hr.len; simpa [strVals] using this)
  have HC := hid hc
  clear h hr hb hc
  go_enter Try.func80, Try.ntmps80
  go_wp2_with fail
  refine HB.out.mono ?_
  rintro e w1 ⟨x, rfl, hx, hd⟩
  obtain ⟨z, hz⟩ := get_some (l := zs) (n := x) (by rw [hlen.out]; exact hx)
  have hcell : w1.cell? ⟨q, off + x, none⟩ = some (.string z) := (hd.2.cell_far ⟨q, off + x, none⟩ hq (by simpa using hne)).trans (HC.out x _ (strVals_get hz))
  have HZ := hid (List.mem_of_getElem? hz)
  have HD := hid hd
  clear hd hz
  go_wp2
  go_ret
  exact ⟨z, rfl, HZ.out, HD.out⟩
end Go.Proofs.Ytcmmlldincflkaa
