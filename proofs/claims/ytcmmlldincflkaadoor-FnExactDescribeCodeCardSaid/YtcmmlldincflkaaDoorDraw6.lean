/- Codes drawn. Conditions: the bytes lie in memory. -/
import Derived.Laws.Bits64b
import Derived.Deep.AppendLies
import Derived.OrdersHeld
import Derived.Deep.RegionHeld3
import Derived.Test.YtcmmlldincflkaaDoorBase
import Derived.Test.YtcmmlldincflkaaDoorBytes
import Derived.Test.YtcmmlldincflkaaDoorOpen
import Derived.Test.YtcmmlldincflkaaDoorAppN
import Derived.Test.YtcmmlldincflkaaDoorParseM
import Derived.Test.YtcmmlldincflkaaDoorCode
import Derived.Test.YtcmmlldincflkaaDoorNumber
import Derived.Test.YtcmmlldincflkaaDoorTail
namespace Go.Proofs.YtcmmlldincflkaaDoor

theorem mask_nat (x : Int) (m : Nat) (hm : m < 9223372036854775808) : ∃ n : Nat, bits BinOp.and IntKind.i64 x (m : Int) = (n : Int) ∧ n ≤ m := by
  have h2 : (BitVec.ofInt 64 (m : Int)).toNat = m := by
    rw [BitVec.ofInt_natCast, BitVec.toNat_ofNat]; exact Nat.mod_eq_of_lt (by omega)
  have hle : (BitVec.ofInt 64 x).toNat &&& m ≤ m := Nat.and_le_right
  refine ⟨(BitVec.ofInt 64 x).toNat &&& m, ?_, hle⟩
  show IntKind.i64.wrap ((BitVec.ofInt 64 x &&& BitVec.ofInt 64 (m : Int)).toNat : Int) = _
  rw [BitVec.toNat_and, h2]
  generalize (BitVec.ofInt 64 x).toNat &&& m = n at hle
  simp only [IntKind.wrap, IntKind.bits, IntKind.signed]
  simp
  split <;> omega
theorem mask255 (x : Int) : ∃ n : Nat, bits BinOp.and IntKind.i64 x 255 = (n : Int) ∧ n ≤ 255 := mask_nat x 255 (by omega)
end Go.Proofs.YtcmmlldincflkaaDoor
namespace Go.Proofs.YtcmmlldincflkaaDoor
open Go.RowKit

/-- The cursor of a draw at block g. -/
structure CurX (W w : World) (g : Nat) (a : Option Addr) (n c : Nat) (bs : List UInt8) (i : Nat) (h : Int) : Prop where
  row : RowAt W a n (byteVals bs)
  bel : Below W.heap.size W w
  lo : W.heap.size ≤ g
  hi : g < w.heap.size
  f1 : w.frozen? ⟨g, 1, none⟩ = false
  f2 : w.frozen? ⟨g, 2, none⟩ = false
  c0 : w.cell? ⟨g, 0, none⟩ = some (.slice a n c)
  il : i ≤ n
  c1 : w.cell? ⟨g, 1, none⟩ = some (.int .i64 i)
  c2 : w.cell? ⟨g, 2, none⟩ = some (.int .i64 h)
def Cur (W w : World) (g : Nat) (a : Option Addr) (n c : Nat) (bs : List UInt8) : Prop := ∃ i h, CurX W w g a n c bs i h
theorem CurX.below {W w w' : World} {g : Nat} {a : Option Addr} {n c : Nat} {bs : List UInt8} {i : Nat} {h : Int} (x : CurX W w g a n c bs i h) (hb : Below w.heap.size w w') : CurX W w' g a n c bs i h :=
  ⟨x.row, x.bel.trans (hb.mono x.bel.size), x.lo, Nat.lt_of_lt_of_le x.hi hb.size, (hb.frozen (p := ⟨g, 1, none⟩) x.hi).trans x.f1, (hb.frozen (p := ⟨g, 2, none⟩) x.hi).trans x.f2, (hb.cell (p := ⟨g, 0, none⟩) x.hi).trans x.c0, x.il, (hb.cell (p := ⟨g, 1, none⟩) x.hi).trans x.c1, (hb.cell (p := ⟨g, 2, none⟩) x.hi).trans x.c2⟩
theorem Cur.below {W w w' : World} {g : Nat} {a : Option Addr} {n c : Nat} {bs : List UInt8} (x : Cur W w g a n c bs) (hb : Below w.heap.size w w') : Cur W w' g a n c bs := by
  obtain ⟨i, h, x⟩ := x
  exact ⟨i, h, x.below hb⟩
theorem CurX.set2 {W w : World} {g : Nat} {a : Option Addr} {n c : Nat} {bs : List UInt8} {i : Nat} {h : Int} (x : CurX W w g a n c bs i h) (h' : Int) : CurX W (w.setCell ⟨g, 2, none⟩ (.int .i64 h')) g a n c bs i h' ∧ w.grownBy (w.setCell ⟨g, 2, none⟩ (.int .i64 h')) (some g) := by
  refine ⟨⟨x.row, x.bel.setCell x.lo _, x.lo, by simpa using x.hi, by rw [World.frozen?_setCell]; exact x.f1, by rw [World.frozen?_setCell]; exact x.f2, ?_, x.il, ?_, World.cell?_setCell_same _ _ _ x.c2⟩, rfl, rfl, rfl, by simp, fun p hq hr => Below.heap_setCell _ _ _ _ (fun e => hr (by rw [show p = g from e]))⟩
  · rw [World.cell?_setCell_other _ _ _ _ (fun e => by injection e with _ e2; simp at e2)]; exact x.c0
  · rw [World.cell?_setCell_other _ _ _ _ (fun e => by injection e with _ e2; simp at e2)]; exact x.c1
theorem CurX.set1 {W w : World} {g : Nat} {a : Option Addr} {n c : Nat} {bs : List UInt8} {i : Nat} {h : Int} (x : CurX W w g a n c bs i h) (i' : Nat) (hi' : i' ≤ n) : CurX W (w.setCell ⟨g, 1, none⟩ (.int .i64 i')) g a n c bs i' h ∧ w.grownBy (w.setCell ⟨g, 1, none⟩ (.int .i64 i')) (some g) := by
  refine ⟨⟨x.row, x.bel.setCell x.lo _, x.lo, by simpa using x.hi, by rw [World.frozen?_setCell]; exact x.f1, by rw [World.frozen?_setCell]; exact x.f2, ?_, hi', World.cell?_setCell_same _ _ _ x.c1, ?_⟩, rfl, rfl, rfl, by simp, fun p hq hr => Below.heap_setCell _ _ _ _ (fun e => hr (by rw [show p = g from e]))⟩
  · rw [World.cell?_setCell_other _ _ _ _ (fun e => by injection e with _ e2; simp at e2)]; exact x.c0
  · rw [World.cell?_setCell_other _ _ _ _ (fun e => by injection e with _ e2; simp at e2)]; exact x.c2
theorem drewN_below (w : World) (m : Nat) : Below w.heap.size w (w.drewN m) := below_drewN (Below.refl _ _) m
/-- What drawing leaves: the cursor, and all else as it was. -/
def Drew (W w w' : World) (g : Nat) (a : Option Addr) (n c : Nat) (bs : List UInt8) : Prop := Cur W w' g a n c bs ∧ w.grownBy w' (some g)
end Go.Proofs.YtcmmlldincflkaaDoor
namespace Go.Proofs.YtcmmlldincflkaaDoor
open Go.RowKit

theorem newCur {w : World} {a : Option Addr} {n c : Nat} {bs : List UInt8} (hr : RowAt w a n (byteVals bs)) (T : TypeId) (h : Int) : CurX w (w.alloc (.cells #[.slice a n c, .int .i64 0, .int .i64 h] T)) w.heap.size a n c bs 0 h where
  row := hr
  bel := (Below.refl _ _).alloc (Nat.le_refl _) _
  lo := Nat.le_refl _
  hi := by simp
  f1 := World.frozen?_alloc_at _ _ _ _ rfl
  f2 := World.frozen?_alloc_at _ _ _ _ rfl
  c0 := World.cell?_alloc_at _ _ _ _ rfl
  il := Nat.zero_le _
  c1 := World.cell?_alloc_at _ _ _ _ rfl
  c2 := World.cell?_alloc_at _ _ _ _ rfl
def abc : List ByteArray := [⟨#[97]⟩, ⟨#[98]⟩, ⟨#[99]⟩]
theorem abc_size {k : Nat} {s : ByteArray} (h : s ∈ abc.take k) : s.size = 1 := by
  have := List.mem_of_mem_take h
  simp [abc] at this
  rcases this with rfl | rfl | rfl <;> rfl
theorem lit_row {w : World} {e : TypeId} (cs : Array Value) (zs : List ByteArray) (k : Nat) (hz : zs.length = k) (hcs : ∀ (j : Nat) (v : Value), (strVals zs)[j]? = some v → cs[j]? = some v) (hk : k ≤ 1000) :
    RowAt (w.alloc (.cells cs e)) (some ⟨w.heap.size, 0, none⟩) k (strVals zs) :=
  ⟨by simp [strVals, hz], by omega, fun _ => ⟨w.heap.size, 0, rfl, by simp, fun j v hj => by
    rw [World.cell?_alloc_at _ _ _ _ rfl, Nat.zero_add]; exact hcs j v hj⟩⟩
theorem Drew.trans {W w w1 w2 : World} {g : Nat} {a : Option Addr} {n c : Nat} {bs : List UInt8} (h : Drew W w w1 g a n c bs) (k : Drew W w1 w2 g a n c bs) : Drew W w w2 g a n c bs := ⟨k.1, grown_trans h.2 k.2⟩
theorem Drew.alloc {W w w1 : World} {g : Nat} {a : Option Addr} {n c : Nat} {bs : List UInt8} (h : Drew W w w1 g a n c bs) (o : Obj) : Drew W w (w1.alloc o) g a n c bs :=
  ⟨h.1.below ((Below.refl _ _).alloc (Nat.le_refl _) _), grown_trans h.2 (World.grownBy_alloc _ _ _)⟩
end Go.Proofs.YtcmmlldincflkaaDoor
namespace Go.Proofs.YtcmmlldincflkaaDoor
open Go.RowKit

theorem Drew.app {W w wr w1 : World} {g : Nat} {a : Option Addr} {n c : Nat} {bs : List UInt8} (h : Drew W w wr g a n c bs) (hb : Below w.heap.size wr w1) (hg : g < w.heap.size) (hW : W.heap.size ≤ w.heap.size) : Drew W w w1 g a n c bs := by
  obtain ⟨⟨i, k, x⟩, hgr⟩ := h
  refine ⟨⟨i, k, x.row, x.bel.trans (hb.mono hW), x.lo, Nat.lt_of_lt_of_le x.hi hb.size, (hb.frozen (p := ⟨g, 1, none⟩) hg).trans x.f1, (hb.frozen (p := ⟨g, 2, none⟩) hg).trans x.f2, (hb.cell (p := ⟨g, 0, none⟩) hg).trans x.c0, x.il, (hb.cell (p := ⟨g, 1, none⟩) hg).trans x.c1, (hb.cell (p := ⟨g, 2, none⟩) hg).trans x.c2⟩, ?_⟩
  exact ⟨hb.os.trans hgr.os, hb.tape.trans hgr.tape, hb.output.trans hgr.output, Nat.le_trans hgr.size hb.size, fun k hk hr => (hb.block k hk).trans (hgr.block k hk hr)⟩
theorem Drew.dr {W w w1 : World} {g : Nat} {a : Option Addr} {n c : Nat} {bs : List UInt8} (h : Drew W w w1 g a n c bs) : Drew W w w1.drew g a n c bs :=
  ⟨h.1.below (Below.refl _ _).drew, grown_trans h.2 ⟨rfl, rfl, rfl, Nat.le_refl _, fun _ _ _ => rfl⟩⟩
theorem turn_size (s x : ByteArray) (t : Nat) (ht : t ≤ s.size) : (s.extract 0 t ++ x ++ s.extract t s.size).size ≤ s.size + x.size := by
  simp [ByteArray.size_append, ByteArray.size_extract]
  omega
end Go.Proofs.YtcmmlldincflkaaDoor
namespace Go.Proofs.YtcmmlldincflkaaDoor
open Go.RowKit

/-- A box of the call's own, with its cells. -/
structure BoxC (w : World) (b : Nat) (A : Array Value) : Prop where
  lt : b < w.heap.size
  cell : ∀ k, w.cell? ⟨b, k, none⟩ = A[k]?
  froz : ∀ k, w.frozen? ⟨b, k, none⟩ = false
theorem BoxC.new (w : World) (A : Array Value) (T : TypeId) : BoxC (w.alloc (.cells A T)) w.heap.size A :=
  ⟨by simp, fun k => World.cell?_alloc_at _ _ _ _ rfl, fun k => World.frozen?_alloc_at _ _ _ _ rfl⟩
theorem BoxC.below {w w' : World} {b : Nat} {A : Array Value} (h : BoxC w b A) (hb : Below w.heap.size w w') : BoxC w' b A :=
  ⟨Nat.lt_of_lt_of_le h.lt hb.size, fun k => (hb.cell (p := ⟨b, k, none⟩) h.lt).trans (h.cell k), fun k => (hb.frozen (p := ⟨b, k, none⟩) h.lt).trans (h.froz k)⟩
theorem BoxC.grown {w w' : World} {b g : Nat} {A : Array Value} (h : BoxC w b A) (hg : w.grownBy w' (some g)) (hne : b ≠ g) : BoxC w' b A :=
  ⟨Nat.lt_of_lt_of_le h.lt hg.size, fun k => (World.cell?_of_block (a := ⟨b, k, none⟩) (hg.block b h.lt (by simpa using hne))).trans (h.cell k), fun k => (World.frozen?_of_block (a := ⟨b, k, none⟩) (hg.block b h.lt (by simpa using hne))).trans (h.froz k)⟩
theorem BoxC.other {w : World} {b q i : Nat} {A : Array Value} (h : BoxC w b A) (hne : q ≠ b) (v : Value) : BoxC (w.setCell ⟨q, i, none⟩ v) b A :=
  ⟨by simpa using h.lt, fun k => (World.cell?_setCell_other _ _ _ _ (fun e => hne (by injection e))).trans (h.cell k), fun k => (World.frozen?_setCell _ _ _ _).trans (h.froz k)⟩
theorem BoxC.alloc {w : World} {b : Nat} {A : Array Value} (h : BoxC w b A) (o : Obj) : BoxC (w.alloc o) b A := h.below ((Below.refl _ _).alloc (Nat.le_refl _) _)
theorem BoxC.c3 {w : World} {b : Nat} {x y z : Value} (h : BoxC w b #[x, y, z]) : (w.cell? ⟨b, 0, none⟩ = some x ∧ w.cell? ⟨b, 1, none⟩ = some y ∧ w.cell? ⟨b, 2, none⟩ = some z) ∧ (w.frozen? ⟨b, 0, none⟩ = false ∧ w.frozen? ⟨b, 1, none⟩ = false ∧ w.frozen? ⟨b, 2, none⟩ = false) :=
  ⟨⟨h.cell 0, h.cell 1, h.cell 2⟩, h.froz 0, h.froz 1, h.froz 2⟩
theorem BoxC.set {w : World} {b i : Nat} {A A' : Array Value} (h : BoxC w b A) (v : Value) (hi : i < A.size) (hA : ∀ k, A'[k]? = if k = i then some v else A[k]?) : BoxC (w.setCell ⟨b, i, none⟩ v) b A' := by
  refine ⟨by simpa using h.lt, fun k => ?_, fun k => (World.frozen?_setCell _ _ _ _).trans (h.froz k)⟩
  rw [hA k]
  by_cases hk : k = i
  · subst hk
    rw [if_pos rfl]
    exact World.cell?_setCell_same _ _ _ ((h.cell k).trans (Array.getElem?_eq_getElem hi))
  · rw [if_neg hk]
    exact (World.cell?_setCell_other _ _ _ _ (fun e => hk (by injection e with _ e2; exact e2.symm))).trans (h.cell k)
theorem boxD {w wr : World} {A : Array Value} {T : TypeId} (h : Below (w.alloc (.cells A T)).heap.size (w.alloc (.cells A T)) wr) :
    (∀ k, wr.cell? ⟨w.heap.size, k, none⟩ = A[k]?) ∧ (∀ k, wr.frozen? ⟨w.heap.size, k, none⟩ = false) ∧ w.heap.size < wr.heap.size ∧ Below w.heap.size w wr :=
  let h1 := (BoxC.new w A T).below h
  ⟨h1.cell, h1.froz, h1.lt, ((Below.refl _ _).alloc (Nat.le_refl _) _).trans (h.mono (by simp))⟩
/-- What the drawing of a code leaves. -/
def CodeDraw (W w : World) (g : Nat) (a : Option Addr) (n c : Nat) (bs : List UInt8) (e : Ending) (w' : World) : Prop :=
  ∃ (k m : Int) (o : ByteArray), e = .returned (.agg #[.int .i64 k, .int .i64 m, .string o]) ∧ o.size ≤ 100 ∧ Drew W w w' g a n c bs
def CodeAny (w : World) (e : Ending) (w' : World) : Prop :=
  ∃ (k m : Int) (o : ByteArray) (b : Bool), e = .returned (.tuple #[.agg #[.int .i64 k, .int .i64 m, .string o], .bool b]) ∧ o.size ≤ 100 ∧ Below w.heap.size w w'
end Go.Proofs.YtcmmlldincflkaaDoor
