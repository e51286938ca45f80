/- The examples' texts, cut and read. No condition. -/
import Derived.Test.YtpncmmdjkcdemaaGreatDoorParseM
import Derived.Lib.Split
namespace Go.Proofs.YtpncmmdjkcdemaaGreatDoor
open Go.RowKit

theorem fmt0 : fmtB 0 = ⟨#[48]⟩ := by
  unfold fmtB Lib.itoa
  rw [if_neg (by decide)]
  show ByteArray.mk (Lib.decDigits 0).toArray = _
  rw [Lib.decDigits, dif_pos (by decide)]
  rfl
theorem read0 : readO ⟨#[48]⟩ 12 = some 0 := by
  rw [readO_val (n := 0) (m := 0) (by decide) (by decide) (by decide), if_pos fmt0]
theorem fmt1 : fmtB 1 = ⟨#[49]⟩ := by
  unfold fmtB Lib.itoa
  rw [if_neg (by decide)]
  show ByteArray.mk (Lib.decDigits 1).toArray = _
  rw [Lib.decDigits, dif_pos (by decide)]
  rfl
theorem read1 : readO ⟨#[49]⟩ 12 = some 1 := by
  rw [readO_val (n := 1) (m := 1) (by decide) (by decide) (by decide), if_pos fmt1]
theorem fmt2 : fmtB 2 = ⟨#[50]⟩ := by
  unfold fmtB Lib.itoa
  rw [if_neg (by decide)]
  show ByteArray.mk (Lib.decDigits 2).toArray = _
  rw [Lib.decDigits, dif_pos (by decide)]
  rfl
theorem read2 : readO ⟨#[50]⟩ 12 = some 2 := by
  rw [readO_val (n := 2) (m := 2) (by decide) (by decide) (by decide), if_pos fmt2]
theorem row001 : rowR ⟨#[48, 44, 48, 44, 49]⟩ = some [0, 0, 1] := by
  unfold rowR
  rw [show cutB ⟨#[48, 44, 48, 44, 49]⟩ 44 = [⟨#[48]⟩, ⟨#[48]⟩, ⟨#[49]⟩] from by decide +kernel]
  simp [allO, read0, read1, read2]
theorem row01 : rowR ⟨#[48, 44, 49]⟩ = some [0, 1] := by
  unfold rowR
  rw [show cutB ⟨#[48, 44, 49]⟩ 44 = [⟨#[48]⟩, ⟨#[49]⟩] from by decide +kernel]
  simp [allO, read0, read1, read2]
theorem row010 : rowR ⟨#[48, 44, 49, 44, 48]⟩ = some [0, 1, 0] := by
  unfold rowR
  rw [show cutB ⟨#[48, 44, 49, 44, 48]⟩ 44 = [⟨#[48]⟩, ⟨#[49]⟩, ⟨#[48]⟩] from by decide +kernel]
  simp [allO, read0, read1, read2]
theorem row011 : rowR ⟨#[48, 44, 49, 44, 49]⟩ = some [0, 1, 1] := by
  unfold rowR
  rw [show cutB ⟨#[48, 44, 49, 44, 49]⟩ 44 = [⟨#[48]⟩, ⟨#[49]⟩, ⟨#[49]⟩] from by decide +kernel]
  simp [allO, read0, read1, read2]
theorem row10 : rowR ⟨#[49, 44, 48]⟩ = some [1, 0] := by
  unfold rowR
  rw [show cutB ⟨#[49, 44, 48]⟩ 44 = [⟨#[49]⟩, ⟨#[48]⟩] from by decide +kernel]
  simp [allO, read0, read1, read2]
theorem row101 : rowR ⟨#[49, 44, 48, 44, 49]⟩ = some [1, 0, 1] := by
  unfold rowR
  rw [show cutB ⟨#[49, 44, 48, 44, 49]⟩ 44 = [⟨#[49]⟩, ⟨#[48]⟩, ⟨#[49]⟩] from by decide +kernel]
  simp [allO, read0, read1, read2]
theorem row11 : rowR ⟨#[49, 44, 49]⟩ = some [1, 1] := by
  unfold rowR
  rw [show cutB ⟨#[49, 44, 49]⟩ 44 = [⟨#[49]⟩, ⟨#[49]⟩] from by decide +kernel]
  simp [allO, read0, read1, read2]
theorem row110 : rowR ⟨#[49, 44, 49, 44, 48]⟩ = some [1, 1, 0] := by
  unfold rowR
  rw [show cutB ⟨#[49, 44, 49, 44, 48]⟩ 44 = [⟨#[49]⟩, ⟨#[49]⟩, ⟨#[48]⟩] from by decide +kernel]
  simp [allO, read0, read1, read2]
theorem row12 : rowR ⟨#[49, 44, 50]⟩ = some [1, 2] := by
  unfold rowR
  rw [show cutB ⟨#[49, 44, 50]⟩ 44 = [⟨#[49]⟩, ⟨#[50]⟩] from by decide +kernel]
  simp [allO, read0, read1, read2]
theorem row2 : rowR ⟨#[50]⟩ = some [2] := by
  unfold rowR
  rw [show cutB ⟨#[50]⟩ 44 = [⟨#[50]⟩] from by decide +kernel]
  simp [allO, read0, read1, read2]
theorem exP1 : parseMO ⟨#[49, 44, 49, 47, 49, 44, 48]⟩ = some [[1, 1], [1, 0]] := by
  unfold parseMO tabR
  rw [show cutB ⟨#[49, 44, 49, 47, 49, 44, 48]⟩ 47 = [⟨#[49, 44, 49]⟩, ⟨#[49, 44, 48]⟩] from by decide +kernel]
  simp only [allO, row10, row11]
  show (if isMat [[1, 1], [1, 0]] = true then some [[1, 1], [1, 0]] else none) = _
  rw [if_pos (by decide)]
theorem exP2 : parseMO ⟨#[50]⟩ = some [[2]] := by
  unfold parseMO tabR
  rw [show cutB ⟨#[50]⟩ 47 = [⟨#[50]⟩] from by decide +kernel]
  simp only [allO, row2]
  show (if isMat [[2]] = true then some [[2]] else none) = _
  rw [if_pos (by decide)]
theorem exP3 : parseMO ⟨#[49, 44, 49, 47, 49, 44, 49]⟩ = some [[1, 1], [1, 1]] := by
  unfold parseMO tabR
  rw [show cutB ⟨#[49, 44, 49, 47, 49, 44, 49]⟩ 47 = [⟨#[49, 44, 49]⟩, ⟨#[49, 44, 49]⟩] from by decide +kernel]
  simp only [allO, row11]
  show (if isMat [[1, 1], [1, 1]] = true then some [[1, 1], [1, 1]] else none) = _
  rw [if_pos (by decide)]
theorem exP4 : parseMO ⟨#[48, 44, 49, 47, 49, 44, 48]⟩ = some [[0, 1], [1, 0]] := by
  unfold parseMO tabR
  rw [show cutB ⟨#[48, 44, 49, 47, 49, 44, 48]⟩ 47 = [⟨#[48, 44, 49]⟩, ⟨#[49, 44, 48]⟩] from by decide +kernel]
  simp only [allO, row01, row10]
  show (if isMat [[0, 1], [1, 0]] = true then some [[0, 1], [1, 0]] else none) = _
  rw [if_pos (by decide)]
theorem exP5 : parseMO ⟨#[49, 44, 50, 47, 49, 44, 48]⟩ = some [[1, 2], [1, 0]] := by
  unfold parseMO tabR
  rw [show cutB ⟨#[49, 44, 50, 47, 49, 44, 48]⟩ 47 = [⟨#[49, 44, 50]⟩, ⟨#[49, 44, 48]⟩] from by decide +kernel]
  simp only [allO, row10, row12]
  show (if isMat [[1, 2], [1, 0]] = true then some [[1, 2], [1, 0]] else none) = _
  rw [if_pos (by decide)]
theorem exP6 : parseMO ⟨#[48, 44, 49, 44, 48, 47, 48, 44, 48, 44, 49, 47, 49, 44, 49, 44, 48]⟩ = some [[0, 1, 0], [0, 0, 1], [1, 1, 0]] := by
  unfold parseMO tabR
  rw [show cutB ⟨#[48, 44, 49, 44, 48, 47, 48, 44, 48, 44, 49, 47, 49, 44, 49, 44, 48]⟩ 47 = [⟨#[48, 44, 49, 44, 48]⟩, ⟨#[48, 44, 48, 44, 49]⟩, ⟨#[49, 44, 49, 44, 48]⟩] from by decide +kernel]
  simp only [allO, row001, row010, row110]
  show (if isMat [[0, 1, 0], [0, 0, 1], [1, 1, 0]] = true then some [[0, 1, 0], [0, 0, 1], [1, 1, 0]] else none) = _
  rw [if_pos (by decide)]
theorem exP7 : parseMO ⟨#[49, 44, 48, 47, 49, 44, 49]⟩ = some [[1, 0], [1, 1]] := by
  unfold parseMO tabR
  rw [show cutB ⟨#[49, 44, 48, 47, 49, 44, 49]⟩ 47 = [⟨#[49, 44, 48]⟩, ⟨#[49, 44, 49]⟩] from by decide +kernel]
  simp only [allO, row10, row11]
  show (if isMat [[1, 0], [1, 1]] = true then some [[1, 0], [1, 1]] else none) = _
  rw [if_pos (by decide)]
theorem exP8 : parseMO ⟨#[49, 44, 49, 44, 48, 47, 48, 44, 49, 44, 49, 47, 49, 44, 48, 44, 49]⟩ = some [[1, 1, 0], [0, 1, 1], [1, 0, 1]] := by
  unfold parseMO tabR
  rw [show cutB ⟨#[49, 44, 49, 44, 48, 47, 48, 44, 49, 44, 49, 47, 49, 44, 48, 44, 49]⟩ 47 = [⟨#[49, 44, 49, 44, 48]⟩, ⟨#[48, 44, 49, 44, 49]⟩, ⟨#[49, 44, 48, 44, 49]⟩] from by decide +kernel]
  simp only [allO, row011, row101, row110]
  show (if isMat [[1, 1, 0], [0, 1, 1], [1, 0, 1]] = true then some [[1, 1, 0], [0, 1, 1], [1, 0, 1]] else none) = _
  rw [if_pos (by decide)]
theorem exP0 : parseMO ⟨#[]⟩ = none := by
  unfold parseMO tabR
  rw [show cutB ⟨#[]⟩ 47 = [⟨#[]⟩] from by decide +kernel]
  have h : rowR ⟨#[]⟩ = none := by
    unfold rowR
    rw [show cutB ⟨#[]⟩ 44 = [⟨#[]⟩] from by decide +kernel]
    have : readO ⟨#[]⟩ 12 = none := by decide
    simp [allO, this]
  simp [allO, h]
/-- A number's text, that reads as the number. -/
def okNum (lo hi : Int) (p : ByteArray) (x : Int) : Prop := p.size ≤ 18 ∧ Lib.atoi p.data.toList = some x ∧ lo ≤ x ∧ x ≤ hi ∧ fmtB x = p
def okNums (lo hi : Int) : List ByteArray → List Int → Prop
  | [], [] => True
  | p :: ps, x :: xs => okNum lo hi p x ∧ okNums lo hi ps xs
  | _, _ => False
theorem okNums_at {lo hi : Int} : ∀ {ps : List ByteArray} {xs : List Int}, okNums lo hi ps xs → ps.length = xs.length ∧ ∀ (i : Nat) (p : ByteArray) (x : Int), ps[i]? = some p → xs[i]? = some x → okNum lo hi p x
  | [], [], _ => ⟨rfl, fun i p x h _ => by simp at h⟩
  | p :: ps, x :: xs, h => by
    obtain ⟨h1, h2⟩ := okNums_at h.2
    refine ⟨by simp [h1], fun i q y hq hy => ?_⟩
    match i with
    | 0 =>
      simp at hq hy
      rw [← hq, ← hy]
      exact h.1
    | i + 1 => exact h2 i q y (by simpa using hq) (by simpa using hy)
  | [], _ :: _, h => h.elim
  | _ :: _, [], h => h.elim
def cutI (t : ByteArray) (b : UInt8) : List ByteArray := Lib.splitB ⟨#[b]⟩ 0 (Lib.countB t ⟨#[b]⟩) t
def okRow (t : ByteArray) (xs : List Int) : Prop := okNums 0 1000000 (cutI t 44) xs
def okRows : List ByteArray → List (List Int) → Prop
  | [], [] => True
  | p :: ps, x :: xs => okRow p x ∧ okRows ps xs
  | _, _ => False
theorem okRows_at : ∀ {ps : List ByteArray} {xs : List (List Int)}, okRows ps xs → ps.length = xs.length ∧ ∀ (i : Nat) (p : ByteArray) (x : List Int), ps[i]? = some p → xs[i]? = some x → okRow p x
  | [], [], _ => ⟨rfl, fun i p x h _ => by simp at h⟩
  | p :: ps, x :: xs, h => by
    obtain ⟨h1, h2⟩ := okRows_at h.2
    refine ⟨by simp [h1], fun i q y hq hy => ?_⟩
    match i with
    | 0 =>
      simp at hq hy
      rw [← hq, ← hy]
      exact h.1
    | i + 1 => exact h2 i q y (by simpa using hq) (by simpa using hy)
  | [], _ :: _, h => h.elim
  | _ :: _, [], h => h.elim
def okTab (t : ByteArray) (M : List (List Int)) : Prop := okRows (cutI t 47) M ∧ isMat M = true
theorem num0 : okNum 0 1000000 ⟨#[48]⟩ 0 := ⟨by decide, by decide, by decide, by decide, fmt0⟩
theorem num1 : okNum 0 1000000 ⟨#[49]⟩ 1 := ⟨by decide, by decide, by decide, by decide, fmt1⟩
theorem num2 : okNum 0 1000000 ⟨#[50]⟩ 2 := ⟨by decide, by decide, by decide, by decide, fmt2⟩
theorem rowI001 : okRow ⟨#[48, 44, 48, 44, 49]⟩ [0, 0, 1] := by
  unfold okRow
  rw [show cutI ⟨#[48, 44, 48, 44, 49]⟩ 44 = [⟨#[48]⟩, ⟨#[48]⟩, ⟨#[49]⟩] from by decide +kernel]
  exact (And.intro num0 (And.intro num0 (And.intro num1 trivial)))
theorem rowI01 : okRow ⟨#[48, 44, 49]⟩ [0, 1] := by
  unfold okRow
  rw [show cutI ⟨#[48, 44, 49]⟩ 44 = [⟨#[48]⟩, ⟨#[49]⟩] from by decide +kernel]
  exact (And.intro num0 (And.intro num1 trivial))
theorem rowI010 : okRow ⟨#[48, 44, 49, 44, 48]⟩ [0, 1, 0] := by
  unfold okRow
  rw [show cutI ⟨#[48, 44, 49, 44, 48]⟩ 44 = [⟨#[48]⟩, ⟨#[49]⟩, ⟨#[48]⟩] from by decide +kernel]
  exact (And.intro num0 (And.intro num1 (And.intro num0 trivial)))
theorem rowI011 : okRow ⟨#[48, 44, 49, 44, 49]⟩ [0, 1, 1] := by
  unfold okRow
  rw [show cutI ⟨#[48, 44, 49, 44, 49]⟩ 44 = [⟨#[48]⟩, ⟨#[49]⟩, ⟨#[49]⟩] from by decide +kernel]
  exact (And.intro num0 (And.intro num1 (And.intro num1 trivial)))
theorem rowI10 : okRow ⟨#[49, 44, 48]⟩ [1, 0] := by
  unfold okRow
  rw [show cutI ⟨#[49, 44, 48]⟩ 44 = [⟨#[49]⟩, ⟨#[48]⟩] from by decide +kernel]
  exact (And.intro num1 (And.intro num0 trivial))
theorem rowI101 : okRow ⟨#[49, 44, 48, 44, 49]⟩ [1, 0, 1] := by
  unfold okRow
  rw [show cutI ⟨#[49, 44, 48, 44, 49]⟩ 44 = [⟨#[49]⟩, ⟨#[48]⟩, ⟨#[49]⟩] from by decide +kernel]
  exact (And.intro num1 (And.intro num0 (And.intro num1 trivial)))
theorem rowI11 : okRow ⟨#[49, 44, 49]⟩ [1, 1] := by
  unfold okRow
  rw [show cutI ⟨#[49, 44, 49]⟩ 44 = [⟨#[49]⟩, ⟨#[49]⟩] from by decide +kernel]
  exact (And.intro num1 (And.intro num1 trivial))
theorem rowI110 : okRow ⟨#[49, 44, 49, 44, 48]⟩ [1, 1, 0] := by
  unfold okRow
  rw [show cutI ⟨#[49, 44, 49, 44, 48]⟩ 44 = [⟨#[49]⟩, ⟨#[49]⟩, ⟨#[48]⟩] from by decide +kernel]
  exact (And.intro num1 (And.intro num1 (And.intro num0 trivial)))
theorem rowI12 : okRow ⟨#[49, 44, 50]⟩ [1, 2] := by
  unfold okRow
  rw [show cutI ⟨#[49, 44, 50]⟩ 44 = [⟨#[49]⟩, ⟨#[50]⟩] from by decide +kernel]
  exact (And.intro num1 (And.intro num2 trivial))
theorem rowI2 : okRow ⟨#[50]⟩ [2] := by
  unfold okRow
  rw [show cutI ⟨#[50]⟩ 44 = [⟨#[50]⟩] from by decide +kernel]
  exact (And.intro num2 trivial)
theorem exI1 : okTab ⟨#[49, 44, 49, 47, 49, 44, 48]⟩ [[1, 1], [1, 0]] := by
  unfold okTab
  rw [show cutI ⟨#[49, 44, 49, 47, 49, 44, 48]⟩ 47 = [⟨#[49, 44, 49]⟩, ⟨#[49, 44, 48]⟩] from by decide +kernel]
  exact ⟨(And.intro rowI11 (And.intro rowI10 trivial)), by decide⟩
theorem exI2 : okTab ⟨#[50]⟩ [[2]] := by
  unfold okTab
  rw [show cutI ⟨#[50]⟩ 47 = [⟨#[50]⟩] from by decide +kernel]
  exact ⟨(And.intro rowI2 trivial), by decide⟩
theorem exI3 : okTab ⟨#[49, 44, 49, 47, 49, 44, 49]⟩ [[1, 1], [1, 1]] := by
  unfold okTab
  rw [show cutI ⟨#[49, 44, 49, 47, 49, 44, 49]⟩ 47 = [⟨#[49, 44, 49]⟩, ⟨#[49, 44, 49]⟩] from by decide +kernel]
  exact ⟨(And.intro rowI11 (And.intro rowI11 trivial)), by decide⟩
theorem exI4 : okTab ⟨#[48, 44, 49, 47, 49, 44, 48]⟩ [[0, 1], [1, 0]] := by
  unfold okTab
  rw [show cutI ⟨#[48, 44, 49, 47, 49, 44, 48]⟩ 47 = [⟨#[48, 44, 49]⟩, ⟨#[49, 44, 48]⟩] from by decide +kernel]
  exact ⟨(And.intro rowI01 (And.intro rowI10 trivial)), by decide⟩
theorem exI5 : okTab ⟨#[49, 44, 50, 47, 49, 44, 48]⟩ [[1, 2], [1, 0]] := by
  unfold okTab
  rw [show cutI ⟨#[49, 44, 50, 47, 49, 44, 48]⟩ 47 = [⟨#[49, 44, 50]⟩, ⟨#[49, 44, 48]⟩] from by decide +kernel]
  exact ⟨(And.intro rowI12 (And.intro rowI10 trivial)), by decide⟩
theorem exI6 : okTab ⟨#[48, 44, 49, 44, 48, 47, 48, 44, 48, 44, 49, 47, 49, 44, 49, 44, 48]⟩ [[0, 1, 0], [0, 0, 1], [1, 1, 0]] := by
  unfold okTab
  rw [show cutI ⟨#[48, 44, 49, 44, 48, 47, 48, 44, 48, 44, 49, 47, 49, 44, 49, 44, 48]⟩ 47 = [⟨#[48, 44, 49, 44, 48]⟩, ⟨#[48, 44, 48, 44, 49]⟩, ⟨#[49, 44, 49, 44, 48]⟩] from by decide +kernel]
  exact ⟨(And.intro rowI010 (And.intro rowI001 (And.intro rowI110 trivial))), by decide⟩
theorem exI7 : okTab ⟨#[49, 44, 48, 47, 49, 44, 49]⟩ [[1, 0], [1, 1]] := by
  unfold okTab
  rw [show cutI ⟨#[49, 44, 48, 47, 49, 44, 49]⟩ 47 = [⟨#[49, 44, 48]⟩, ⟨#[49, 44, 49]⟩] from by decide +kernel]
  exact ⟨(And.intro rowI10 (And.intro rowI11 trivial)), by decide⟩
theorem exI8 : okTab ⟨#[49, 44, 49, 44, 48, 47, 48, 44, 49, 44, 49, 47, 49, 44, 48, 44, 49]⟩ [[1, 1, 0], [0, 1, 1], [1, 0, 1]] := by
  unfold okTab
  rw [show cutI ⟨#[49, 44, 49, 44, 48, 47, 48, 44, 49, 44, 49, 47, 49, 44, 48, 44, 49]⟩ 47 = [⟨#[49, 44, 49, 44, 48]⟩, ⟨#[48, 44, 49, 44, 49]⟩, ⟨#[49, 44, 48, 44, 49]⟩] from by decide +kernel]
  exact ⟨(And.intro rowI110 (And.intro rowI011 (And.intro rowI101 trivial))), by decide⟩
/-- The example of a number. -/
def exM (n : Int) : Option (List (List Int)) :=
  if n = 1 then some [[1, 1], [1, 0]] else if n = 2 then some [[2]] else if n = 3 then some [[1, 1], [1, 1]] else if n = 4 then some [[0, 1], [1, 0]] else if n = 5 then some [[1, 2], [1, 0]] else if n = 6 then some [[0, 1, 0], [0, 0, 1], [1, 1, 0]] else if n = 7 then some [[1, 0], [1, 1]] else if n = 8 then some [[1, 1, 0], [0, 1, 1], [1, 0, 1]] else none
end Go.Proofs.YtpncmmdjkcdemaaGreatDoor
