/- The examples of a substitution: both functions. No condition. -/
import Derived.Test.YtpncmmdjkcdemaaGreatDoorLaw2
namespace Go.Proofs.YtpncmmdjkcdemaaGreatDoor
open Go.RowKit

def tB (l : List UInt8) : ByteArray := ⟨l.toArray⟩
/-- The words of an example of a substitution. -/
def exSub (n : Int) : List ByteArray :=
  if n = 1 then [⟨#[97, 98]⟩, ⟨#[98, 97]⟩] else if n = 2 then [⟨#[97, 98]⟩, ⟨#[97]⟩] else if n = 3 then [⟨#[97, 98]⟩, ⟨#[97, 99]⟩, ⟨#[97]⟩] else if n = 4 then [⟨#[97, 98, 99]⟩, ⟨#[97, 99]⟩, ⟨#[98]⟩] else []
def exOk (n : Int) : Bool := decide (1 ≤ n ∧ n ≤ 4)

theorem owns_lit {w : World} {base e : Nat} (cs : Array Value) (xs : List Value) (h : cs.toList = xs) (hb : base ≤ w.heap.size) (hm : cs.size ≤ maxLen) :
    (w.alloc (.cells cs e)).ownsRow base e 1 (.slice (some ⟨w.heap.size, 0, none⟩) cs.size cs.size) xs.length xs := by
  subst h
  have := World.ownsRow_lit (base := base) (e := e) (size := 1) w cs cs.size hb hm (by simp)
  simpa using this

/-- What a function returns that hands out an example: the words, in new memory, and whether there is one. -/
def ExPost (n : Int) (w : World) (e : Ending) (w' : World) : Prop :=
  ∃ v, e = .returned (.tuple #[v, .bool (exOk n)]) ∧ w'.ownsRow w.heap.size 9 1 v (strVals (exSub n)).length (strVals (exSub n)) ∧ Below w.heap.size w w'


set_option maxHeartbeats 1000000 in
theorem spec_ExampleSubst_c (n : Int) (w : World) : Calls Tryz.prog 16 #[.int .i64 n] w (ExPost n w) := by
  by_cases h1 : n = 1
  · subst h1
    go_enter Tryz.func16, Tryz.ntmps16
    go_wp2
    go_ret2
    exact ⟨_, rfl, owns_lit #[_, _] _ rfl (Nat.le_refl _) (by unfold maxLen; simp), (Below.refl _ _).alloc (Nat.le_refl _) _⟩
  by_cases h2 : n = 2
  · subst h2
    go_enter Tryz.func16, Tryz.ntmps16
    go_wp2
    go_ret2
    exact ⟨_, rfl, owns_lit #[_, _] _ rfl (Nat.le_refl _) (by unfold maxLen; simp), (Below.refl _ _).alloc (Nat.le_refl _) _⟩
  by_cases h3 : n = 3
  · subst h3
    go_enter Tryz.func16, Tryz.ntmps16
    go_wp2
    go_ret2
    exact ⟨_, rfl, owns_lit #[_, _, _] _ rfl (Nat.le_refl _) (by unfold maxLen; simp), (Below.refl _ _).alloc (Nat.le_refl _) _⟩
  by_cases h4 : n = 4
  · subst h4
    go_enter Tryz.func16, Tryz.ntmps16
    go_wp2
    go_ret2
    exact ⟨_, rfl, owns_lit #[_, _, _] _ rfl (Nat.le_refl _) (by unfold maxLen; simp), (Below.refl _ _).alloc (Nat.le_refl _) _⟩
  · have he : exSub n = [] := by simp [exSub, h1, h2, h3, h4]
    have ho : exOk n = false := by simp [exOk]; omega
    have HE := hid he
    have HO := hid ho
    clear he ho
    have g1 : (n == 1) = false := by simp [h1]
    have g2 : (n == 2) = false := by simp [h2]
    have g3 : (n == 3) = false := by simp [h3]
    have g4 : (n == 4) = false := by simp [h4]
    clear h1 h2 h3 h4
    go_enter Tryz.func16, Tryz.ntmps16
    go_wp2
    go_ret2
    unfold ExPost
    rw [HE.out, HO.out]
    exact ⟨_, rfl, owns_lit #[] _ rfl (Nat.le_refl _) (by unfold maxLen; simp), (Below.refl _ _).alloc (Nat.le_refl _) _⟩

set_option maxHeartbeats 1000000 in
theorem impl_ExampleSubst_c (n : Int) (w : World) : Calls Tryz.prog 15 #[.int .i64 n] w (ExPost n w) := by
  by_cases h1 : n = 1
  · subst h1
    go_enter Tryz.func15, Tryz.ntmps15
    go_wp2
    go_ret2
    exact ⟨_, rfl, owns_lit #[_, _] _ rfl (Nat.le_refl _) (by unfold maxLen; simp), (Below.refl _ _).alloc (Nat.le_refl _) _⟩
  by_cases h2 : n = 2
  · subst h2
    go_enter Tryz.func15, Tryz.ntmps15
    go_wp2
    go_ret2
    exact ⟨_, rfl, owns_lit #[_, _] _ rfl (Nat.le_refl _) (by unfold maxLen; simp), (Below.refl _ _).alloc (Nat.le_refl _) _⟩
  by_cases h3 : n = 3
  · subst h3
    go_enter Tryz.func15, Tryz.ntmps15
    go_wp2
    go_ret2
    exact ⟨_, rfl, owns_lit #[_, _, _] _ rfl (Nat.le_refl _) (by unfold maxLen; simp), (Below.refl _ _).alloc (Nat.le_refl _) _⟩
  by_cases h4 : n = 4
  · subst h4
    go_enter Tryz.func15, Tryz.ntmps15
    go_wp2
    go_ret2
    exact ⟨_, rfl, owns_lit #[_, _, _] _ rfl (Nat.le_refl _) (by unfold maxLen; simp), (Below.refl _ _).alloc (Nat.le_refl _) _⟩
  · have he : exSub n = [] := by simp [exSub, h1, h2, h3, h4]
    have ho : exOk n = false := by simp [exOk]; omega
    have HE := hid he
    have HO := hid ho
    clear he ho
    have g1 : (n == 1) = false := by simp [h1]
    have g2 : (n == 2) = false := by simp [h2]
    have g3 : (n == 3) = false := by simp [h3]
    have g4 : (n == 4) = false := by simp [h4]
    clear h1 h2 h3 h4
    go_enter Tryz.func15, Tryz.ntmps15
    go_wp2
    go_ret2
    unfold ExPost
    rw [HE.out, HO.out]
    exact ⟨_, rfl, World.ownsRow_nil _ _ _ _, Below.refl _ _⟩
end Go.Proofs.YtpncmmdjkcdemaaGreatDoor
