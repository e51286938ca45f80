/- What FnRules' functions answer, on both sides. Conditions: sizes within the reach. -/
import Derived.Test.YtcmmlldincflkaaDoorDraw6
import Derived.Test.YtcmmlldincflkaaDoorLaw
import Derived.Test.YtcmmlldincflkaaDoorClassW
import Derived.Test.YtcmmlldincflkaaDoorOntoS
import Derived.Test.YtcmmlldincflkaaDoorNumber2
import Derived.Test.YtcmmlldincflkaaDoorNumber3
namespace Go.Proofs.YtcmmlldincflkaaDoor
open Go.RowKit

def exTexts : List ByteArray := [⟨#[50, 32, 50, 32, 97, 98, 98, 97]⟩, ⟨#[50, 32, 49, 32, 98, 97]⟩, ⟨#[50, 32, 51, 32, 97, 97, 98, 98, 97, 97, 98, 98]⟩, ⟨#[50, 32, 51, 32, 97, 98, 98, 97, 98, 97, 97, 98]⟩, ⟨#[50, 32, 51, 32, 97, 98, 97, 98, 97, 98, 97, 98]⟩, ⟨#[50, 32, 51, 32, 97, 98, 98, 98, 98, 98, 98, 97]⟩, ⟨#[50, 32, 50, 32, 97, 97, 98, 98]⟩, ⟨#[50, 32, 50, 32, 97, 97, 97, 98]⟩, ⟨#[51, 32, 49, 32, 98, 99, 97]⟩, ⟨#[51, 32, 50, 32, 97, 98, 99, 98, 99, 97, 99, 97, 98]⟩, ⟨#[50, 32, 51, 32, 97, 98, 98, 97, 97, 98, 98, 97]⟩, ⟨#[50, 32, 52, 32, 97, 97, 98, 97, 98, 98, 97, 98, 97, 97, 98, 97, 98, 98, 97, 98]⟩]
theorem exTexts_size {s : ByteArray} (h : s ∈ exTexts) : s.size ≤ 100 := by
  have : ∀ s ∈ exTexts, s.size ≤ 100 := by decide
  exact this s h
theorem lit_rowJ {w : World} {e : TypeId} (cs : Array Value) (zs : List Int) (k : Nat) (hz : zs.length = k) (hcs : ∀ (j : Nat) (v : Value), (intVals zs)[j]? = some v → cs[j]? = some v) (hk : k ≤ 1000) :
    RowAt (w.alloc (.cells cs e)) (some ⟨w.heap.size, 0, none⟩) k (intVals zs) :=
  ⟨by simp [intVals, hz], by omega, fun _ => ⟨w.heap.size, 0, rfl, by simp, fun j v hj => by
    rw [World.cell?_alloc_at _ _ _ _ rfl, Nat.zero_add]; exact hcs j v hj⟩⟩
theorem Drew.gW {W w w1 : World} {g : Nat} {a : Option Addr} {n c : Nat} {bs : List UInt8} (h : Drew W w w1 g a n c bs) : g < w1.heap.size := by
  obtain ⟨⟨i, k, x⟩, _⟩ := h
  exact x.hi
theorem Cur.drew0 {W w : World} {g : Nat} {a : Option Addr} {n c : Nat} {bs : List UInt8} (h : Cur W w g a n c bs) : Drew W w w g a n c bs := ⟨h, World.grownBy.refl _ _⟩
theorem pow_k {k m : Nat} (h : (k = 2 ∧ m ≤ 3) ∨ (k = 3 ∧ m ≤ 2)) : powN k m ≤ 9 := by
  have h1 : ∀ m, m ≤ 3 → powN 2 m ≤ 9 := by decide
  have h2 : ∀ m, m ≤ 2 → powN 3 m ≤ 9 := by decide
  rcases h with ⟨rfl, h⟩ | ⟨rfl, h⟩
  · exact h1 m h
  · exact h2 m h
theorem below_set3 {base b : Nat} {w wr : World} (h : Below base w wr) (hb : base ≤ b) (x y z : Value) : Below base w (((wr.setCell ⟨b, 0, none⟩ x).setCell ⟨b, 1, none⟩ y).setCell ⟨b, 2, none⟩ z) := by
  have h1 : Below base w (wr.setCell ⟨b, 0, none⟩ x) := h.setCell hb x
  have h2 : Below base w ((wr.setCell ⟨b, 0, none⟩ x).setCell ⟨b, 1, none⟩ y) := h1.setCell hb y
  exact h2.setCell hb z
end Go.Proofs.YtcmmlldincflkaaDoor
namespace Go.Proofs.YtcmmlldincflkaaDoor
open Go.RowKit

end Go.Proofs.YtcmmlldincflkaaDoor
namespace Go.Proofs.YtcmmlldincflkaaDoor
open Go.RowKit

/-- A code and a word. -/
def CodeWord (W : World) (e : Ending) (w' : World) : Prop :=
  ∃ (k m : Int) (o s : ByteArray), e = .returned (.tuple #[.agg #[.int .i64 k, .int .i64 m, .string o], .string s]) ∧ o.size ≤ 101 ∧ s.size ≤ 100 ∧ Below W.heap.size W w'
theorem Drew.bel {W w w1 : World} {g : Nat} {a : Option Addr} {n c : Nat} {bs : List UInt8} (h : Drew W w w1 g a n c bs) : Below W.heap.size W w1 := by
  obtain ⟨⟨i, k, x⟩, _⟩ := h
  exact x.bel
theorem held_set3 {w : World} {b q : Nat} {x y z x' y' z' : Value} {B : Array Value} (hq : BoxC w q #[x, y, z]) (hb : BoxC w b B) (hne : b ≠ q) :
    ((((w.setCell ⟨b, 0, none⟩ x').setCell ⟨b, 1, none⟩ y').setCell ⟨b, 2, none⟩ z').cell? ⟨q, 0, none⟩ = some x ∧ (((w.setCell ⟨b, 0, none⟩ x').setCell ⟨b, 1, none⟩ y').setCell ⟨b, 2, none⟩ z').cell? ⟨q, 1, none⟩ = some y ∧ (((w.setCell ⟨b, 0, none⟩ x').setCell ⟨b, 1, none⟩ y').setCell ⟨b, 2, none⟩ z').cell? ⟨q, 2, none⟩ = some z) ∧
    ((((w.setCell ⟨b, 0, none⟩ x').setCell ⟨b, 1, none⟩ y').setCell ⟨b, 2, none⟩ z').frozen? ⟨b, 0, none⟩ = false ∧ (((w.setCell ⟨b, 0, none⟩ x').setCell ⟨b, 1, none⟩ y').setCell ⟨b, 2, none⟩ z').frozen? ⟨b, 1, none⟩ = false ∧ (((w.setCell ⟨b, 0, none⟩ x').setCell ⟨b, 1, none⟩ y').setCell ⟨b, 2, none⟩ z').frozen? ⟨b, 2, none⟩ = false) :=
  ⟨(((hq.other (i := 0) hne x').other (i := 1) hne y').other (i := 2) hne z').c3.1, by simp only [World.frozen?_setCell]; exact ⟨hb.froz 0, hb.froz 1, hb.froz 2⟩⟩
end Go.Proofs.YtcmmlldincflkaaDoor
namespace Go.Proofs.YtcmmlldincflkaaDoor
open Go.RowKit

def sBad (n a b : Nat) : Bool := (bits BinOp.and IntKind.i64 ((n : Int) / 2 ^ (a ^^^ b)) 1 !=
      bits BinOp.xor IntKind.i64 (bits BinOp.and IntKind.i64 ((n : Int) / 2 ^ a) 1)
        (bits BinOp.and IntKind.i64 ((n : Int) / 2 ^ b) 1))
def iBad (n a b : Nat) : Bool := (bits BinOp.and IntKind.i64
      (bits BinOp.xor IntKind.i64 (bits BinOp.xor IntKind.i64 ((n : Int) / 2 ^ a) ((n : Int) / 2 ^ b)) ((n : Int) / 2 ^ (a ^^^ b))) 1 !=
    0)
theorem bad_eq : ∀ n : Nat, n < 256 → ∀ a : Nat, a < 8 → ∀ b : Nat, b < 8 → sBad n a b = iBad n a b := by decide +kernel
theorem xor8 : ∀ a : Nat, a < 8 → ∀ b : Nat, b < 8 → bits BinOp.xor IntKind.i64 (a : Int) (b : Int) = ((a ^^^ b : Nat) : Int) ∧ a ^^^ b < 8 := by decide +kernel
def rowOkL (f : Nat → Nat → Bool) (a : Nat) : Nat → Bool | 0 => true | b + 1 => rowOkL f a b && !f a b
def allOk (f : Nat → Nat → Bool) : Nat → Bool | 0 => true | a + 1 => allOk f a && rowOkL f a 8
theorem rowOk_le {f : Nat → Nat → Bool} {a b : Nat} : ∀ {c : Nat}, b < c → f a b = true → rowOkL f a c = false
  | c + 1, h, e => by
    by_cases hb : b = c
    · subst hb; simp [rowOkL, e]
    · simp [rowOkL, rowOk_le (show b < c by omega) e]
theorem allOk_le {f : Nat → Nat → Bool} {a : Nat} : ∀ {c : Nat}, a < c → rowOkL f a 8 = false → allOk f c = false
  | c + 1, h, e => by
    by_cases hb : a = c
    · subst hb; simp [allOk, e]
    · simp [allOk, allOk_le (show a < c by omega) e]

end Go.Proofs.YtcmmlldincflkaaDoor
namespace Go.Proofs.YtcmmlldincflkaaDoor
open Go.RowKit

theorem nums_all : ∀ n : Nat, n < 256 → ((nums n).all fun m => decide (0 ≤ m) && decide (m < 256) && (nums m.toNat).all (fun x => (nums n).contains x) && (nums n).all (fun x => (nums m.toNat).contains x)) = true := by decide +kernel
theorem class_same {a b : Nat} (h : ∀ x, x ∈ nums a ↔ x ∈ nums b) : classOf a = classOf b := by
  unfold classOf
  rw [← insAll_distinctI (nums a) (nums a) fun _ => Iff.rfl]
  exact insAll_distinctI _ _ h
theorem class_mem {n : Nat} (hn : n < 256) {m : Int} (hm : m ∈ classOf n) : ∃ j : Nat, m = (j : Int) ∧ j < 256 ∧ classOf j = classOf n := by
  have h := List.all_eq_true.1 (nums_all n hn) m (((distinctI_facts (nums n)).2 m).1 hm)
  simp only [Bool.and_eq_true, decide_eq_true_eq, List.all_eq_true, List.contains_iff_mem] at h
  exact ⟨m.toNat, by omega, by omega, class_same fun x => ⟨fun hx => h.1.2 x hx, fun hx => h.2 x hx⟩⟩
theorem class_self (n : Nat) : (n : Int) ∈ classOf n := ((distinctI_facts (nums n)).2 _).2 (by simp [nums])
end Go.Proofs.YtcmmlldincflkaaDoor
namespace Go.Proofs.YtcmmlldincflkaaDoor
open Go.RowKit

def CodeOut (W : World) (e : Ending) (w' : World) : Prop :=
  ∃ (k m : Int) (o : ByteArray), e = .returned (.agg #[.int .i64 k, .int .i64 m, .string o]) ∧ o.size ≤ 101 ∧ Below W.heap.size W w'
def CodeWordInt (W : World) (e : Ending) (w' : World) : Prop :=
  ∃ (k m : Int) (o s : ByteArray) (z : Int), e = .returned (.tuple #[.agg #[.int .i64 k, .int .i64 m, .string o], .string s, .int .i64 z]) ∧ o.size ≤ 101 ∧ s.size ≤ 100 ∧ -1 ≤ z ∧ z ≤ 1000001 ∧ Below W.heap.size W w'
def CodeInt (W : World) (e : Ending) (w' : World) : Prop :=
  ∃ (k m : Int) (o : ByteArray) (z : Int), e = .returned (.tuple #[.agg #[.int .i64 k, .int .i64 m, .string o], .int .i64 z]) ∧ o.size ≤ 101 ∧ -6 ≤ z ∧ z ≤ 13 ∧ Below W.heap.size W w'
end Go.Proofs.YtcmmlldincflkaaDoor
namespace Go.Proofs.YtcmmlldincflkaaDoor
open Go.RowKit

theorem one_ex {F : FuncId} {args : Array Value} {P : Prop} (h : ∀ w, Calls Tryd.prog F args w (OnePost P w)) : ∃ b : Bool, (b = true ↔ P) ∧ ∀ w, Calls Tryd.prog F args w fun e w' => e = .returned (.bool b) ∧ Below w.heap.size w w' := by
  by_cases hP : P
  · refine ⟨true, by simp [hP], fun w => (h w).mono ?_⟩
    rintro e w' ⟨b, rfl, hb, hbel⟩
    have : b = true := hb.2 hP
    subst this
    exact ⟨rfl, hbel⟩
  · refine ⟨false, by simp [hP], fun w => (h w).mono ?_⟩
    rintro e w' ⟨b, rfl, hb, hbel⟩
    have : b = false := by
      cases b
      · rfl
      · exact absurd (hb.1 rfl) hP
    subst this
    exact ⟨rfl, hbel⟩
def codeT (k n : Int) (o : ByteArray) (b : Bool) : Value := .tuple #[.agg #[.int .i64 k, .int .i64 n, .string o], .bool b]
def Ret (v : Value) (w : World) (e : Ending) (w' : World) : Prop := e = .returned v ∧ Below w.heap.size w w'
/-- A list of ints that a function hands back. -/
def RetL (cs : List Int) (w : World) (e : Ending) (w' : World) : Prop := ∃ v, e = .returned v ∧ w'.ownsRow w.heap.size 3 1 v cs.length (intVals cs) ∧ Below w.heap.size w w'
end Go.Proofs.YtcmmlldincflkaaDoor
