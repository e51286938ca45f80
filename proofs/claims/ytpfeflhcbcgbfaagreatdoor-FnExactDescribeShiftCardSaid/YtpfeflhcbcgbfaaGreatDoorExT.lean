/- The examples' texts, cut and read. No condition. -/
import Derived.Lib.Atoi
import Derived.Lib.IndexBytes
import Derived.Lib.Walk
import Derived.Deep.CutRange
import Derived.Lib.Split
import Derived.Test.YtpfeflhcbcgbfaaGreatDoorZero
import Derived.Test.YtpfeflhcbcgbfaaGreatDoorFmt
import Derived.Test.YtpfeflhcbcgbfaaGreatDoorNumber
import Derived.Test.YtpfeflhcbcgbfaaGreatDoorMat
namespace Go.Proofs.YtpfeflhcbcgbfaaGreatDoor
open Go.RowKit

theorem below_none {w w' : World} (h : Below w.heap.size w w') : w.grownBy w' none := ⟨h.os, h.tape, h.output, h.size, fun k hk _ => h.block k hk⟩
/-- A row more, that lies where the rows ahead of it do not. -/
theorem TRows.moreAt {T0 : TypeId} {w w' : World} {base c g0 : Nat} {vs : List Value} {rows : List (List Int)} {r : List Int} (h : TRows T0 w base vs rows) (hg : w.grownBy w' none) (hg0 : w.heap.size ≤ g0) (ho : w'.ownsRow base T0 1 (.slice (some ⟨g0, 0, none⟩) r.length c) r.length (intVals r)) :
    TRows T0 w' base (vs ++ [.slice (some ⟨g0, 0, none⟩) r.length c]) (rows ++ [r]) := by
  have hlen := h.len
  refine ⟨by simp [hlen], fun i x r' hx hr => ?_, fun i j x y g hx hy hgx hgy => ?_⟩
  · by_cases hi : i < vs.length
    · rw [List.getElem?_append_left hi] at hx
      rw [List.getElem?_append_left (by omega)] at hr
      exact (h.own i x r' hx hr).kept hg (by cases hv : x.ownBlock <;> simp)
    · rw [List.getElem?_append_right (by omega)] at hx
      rw [List.getElem?_append_right (by omega)] at hr
      have hi0 : i - vs.length = 0 := by
        rcases Nat.eq_zero_or_pos (i - vs.length) with h0 | h0
        · exact h0
        · rw [List.getElem?_eq_none (by simp; omega)] at hx; cases hx
      rw [hi0] at hx
      rw [← hlen, hi0] at hr
      simp only [List.getElem?_cons_zero, Option.some.injEq] at hx hr
      subst hx hr
      exact ho
  · have key : ∀ k z, (vs ++ [Value.slice (some ⟨g0, 0, none⟩) r.length c])[k]? = some z → z.ownBlock = some g → (k < vs.length ∧ vs[k]? = some z ∧ g < w.heap.size) ∨ (k = vs.length ∧ g = g0) := by
      intro k z hz hzg
      by_cases hk : k < vs.length
      · rw [List.getElem?_append_left hk] at hz
        obtain ⟨r2, hr2⟩ := get_some (l := rows) (n := k) (by omega)
        exact Or.inl ⟨hk, hz, ((h.own k z r2 hz hr2).lt g hzg).2⟩
      · rw [List.getElem?_append_right (by omega)] at hz
        have hi0 : k - vs.length = 0 := by
          rcases Nat.eq_zero_or_pos (k - vs.length) with h0 | h0
          · exact h0
          · rw [List.getElem?_eq_none (by simp; omega)] at hz; cases hz
        rw [hi0] at hz
        simp only [List.getElem?_cons_zero, Option.some.injEq] at hz
        subst hz
        simp only [Value.ownBlock, Option.some.injEq] at hzg
        exact Or.inr ⟨by omega, hzg.symm⟩
    rcases key i x hx hgx with ⟨h1, h2, h3⟩ | ⟨h1, h2⟩ <;> rcases key j y hy hgy with ⟨h4, h5, h6⟩ | ⟨h4, h5⟩
    · exact h.apart i j x y g h2 h5 hgx hgy
    · omega
    · omega
    · omega
/-- All values of a list by a function, if it has one for each. -/
def allO {α β : Type} (f : α → Option β) : List α → Option (List β)
  | [] => some []
  | x :: xs => match f x, allO f xs with
    | some y, some ys => some (y :: ys)
    | _, _ => none
theorem allO_snoc {α β : Type} {f : α → Option β} {x : α} {y : β} : ∀ {l : List α} {ys : List β}, allO f l = some ys → f x = some y → allO f (l ++ [x]) = some (ys ++ [y])
  | [], ys, h, hy => by
    simp only [allO, Option.some.injEq] at h
    subst h
    simp [allO, hy]
  | z :: l, ys, h, hy => by
    simp only [allO] at h
    cases hz : f z with
    | none => rw [hz] at h; simp at h
    | some u =>
      rw [hz] at h
      cases hl : allO f l with
      | none => rw [hl] at h; simp at h
      | some us =>
        rw [hl] at h
        simp only [Option.some.injEq] at h
        subst h
        have := allO_snoc hl hy
        simp [allO, hz, this]
theorem allO_bad {α β : Type} {f : α → Option β} {x : α} (hx : f x = none) : ∀ {l : List α}, x ∈ l → allO f l = none
  | z :: l, h => by
    rcases List.mem_cons.1 h with e | h
    · subst e
      simp [allO, hx]
    · have := allO_bad hx h
      simp only [allO]
      rw [this]
      cases f z <;> rfl
theorem allO_len {α β : Type} {f : α → Option β} : ∀ {l : List α} {ys : List β}, allO f l = some ys → ys.length = l.length
  | [], ys, h => by simp only [allO, Option.some.injEq] at h; subst h; rfl
  | z :: l, ys, h => by
    simp only [allO] at h
    cases hz : f z with
    | none => rw [hz] at h; simp at h
    | some u =>
      rw [hz] at h
      cases hl : allO f l with
      | none => rw [hl] at h; simp at h
      | some us =>
        rw [hl] at h
        simp only [Option.some.injEq] at h
        subst h
        have := allO_len hl
        simp [this]
theorem allO_take {α β : Type} {f : α → Option β} {l : List α} {j : Nat} {x : α} {y : β} {ys : List β} (h : allO f (l.take j) = some ys) (hx : l[j]? = some x) (hy : f x = some y) : allO f (l.take (j + 1)) = some (ys ++ [y]) := by
  rw [List.take_add_one, hx]
  exact allO_snoc h hy
theorem allO_at {α β : Type} {f : α → Option β} : ∀ {l : List α} {ys : List β} {i : Nat} {x : α} {y : β}, allO f l = some ys → l[i]? = some x → ys[i]? = some y → f x = some y
  | [], _, _, _, _, _, hx, _ => by simp at hx
  | z :: l, ys, i, x, y, h, hx, hy => by
    simp only [allO] at h
    cases hz : f z with
    | none => rw [hz] at h; simp at h
    | some u =>
      rw [hz] at h
      cases hl : allO f l with
      | none => rw [hl] at h; simp at h
      | some us =>
        rw [hl] at h
        simp only [Option.some.injEq] at h
        subst h
        match i with
        | 0 =>
          simp at hx hy
          rw [← hx, ← hy]
          exact hz
        | i + 1 => exact allO_at hl (by simpa using hx) (by simpa using hy)
end Go.Proofs.YtpfeflhcbcgbfaaGreatDoor
namespace Go.Proofs.YtpfeflhcbcgbfaaGreatDoor
open Go.RowKit

def rdNeg (s : ByteArray) : Bool := s.data.toList.head? == some 45
def rdTxt (s : ByteArray) : List UInt8 := if rdNeg s then s.data.toList.drop 1 else s.data.toList
/-- The number that a text of so many digits at most writes. -/
def readO (s : ByteArray) (most : Nat) : Option Int :=
  if 1 ≤ (rdTxt s).length ∧ (rdTxt s).length ≤ most then
    match Lib.decFrom 0 (rdTxt s) with
    | none => none
    | some n => if fmtB (if rdNeg s then -(n : Int) else n) = s then some (if rdNeg s then -(n : Int) else n) else none
  else none
theorem read_bd {s : ByteArray} {most : Nat} {x : Int} (hm : most ≤ 12) (h : readO s most = some x) : -1000000000000 ≤ x ∧ x ≤ 1000000000000 := by
  unfold readO at h
  split at h
  · rename_i hl
    split at h
    · cases h
    · rename_i n hn
      have h1 := Lib.decFrom_lt _ 0 n hn
      have h2 : (10 : Nat) ^ (rdTxt s).length ≤ 10 ^ 12 := Nat.pow_le_pow_right (by omega) (by omega)
      have h3 : (10 : Nat) ^ 12 = 1000000000000 := by decide
      have key : ∀ m : Int, -1000000000000 ≤ m → m ≤ 1000000000000 → (if fmtB m = s then some m else none) = some x → -1000000000000 ≤ x ∧ x ≤ 1000000000000 := by
        intro m h4 h5 h6
        split at h6
        · injection h6 with h6
          omega
        · cases h6
      cases hn : rdNeg s
      · rw [hn] at h
        exact key n (by omega) (by omega) h
      · rw [hn] at h
        exact key (-n) (by omega) (by omega) h
  · cases h
theorem dig_get {l : List UInt8} {j acc : Nat} {c : UInt8} (h : Lib.decFrom 0 (l.take j) = some acc) (hc : l[j]? = some c) (h1 : 48 ≤ c.toNat) (h2 : c.toNat ≤ 57) : Lib.decFrom 0 (l.take (j + 1)) = some (acc * 10 + (c.toNat - 48)) :=
  Lib.decFrom_take l j 0 acc c (c.toNat - 48) h hc (by unfold Lib.digitVal; rw [if_pos ⟨h1, h2⟩])
theorem dig_bad {l : List UInt8} {j : Nat} {c : UInt8} (hc : l[j]? = some c) (h : c.toNat < 48 ∨ 57 < c.toNat) : Lib.decFrom 0 l = none := by
  cases hd : Lib.decFrom 0 l with
  | none => rfl
  | some n =>
    obtain ⟨d, hd2⟩ := Lib.digit_of_decFrom l 0 n hd j c hc
    have := Lib.digitVal_eq hd2
    omega
theorem readO_none {s : ByteArray} {most : Nat} (h : ¬ (1 ≤ (rdTxt s).length ∧ (rdTxt s).length ≤ most) ∨ Lib.decFrom 0 (rdTxt s) = none) : readO s most = none := by
  unfold readO
  rcases h with h | h
  · rw [if_neg h]
  · rw [h]; simp
theorem readO_val {s : ByteArray} {most n : Nat} {m : Int} (h : 1 ≤ (rdTxt s).length ∧ (rdTxt s).length ≤ most) (hn : Lib.decFrom 0 (rdTxt s) = some n) (hm : m = if rdNeg s then -(n : Int) else n) : readO s most = if fmtB m = s then some m else none := by
  unfold readO
  rw [if_pos h, hn, hm]
theorem str_beq (a b : ByteArray) : (a.toList == b.toList) = decide (a = b) := by
  by_cases h : a = b
  · rw [h]; simp
  · rw [decide_eq_false h, beq_eq_false_iff_ne]
    intro e
    rw [Lib.toList_data, Lib.toList_data] at e
    refine h ?_
    cases a; cases b; simp at e; rw [e]
end Go.Proofs.YtpfeflhcbcgbfaaGreatDoor
namespace Go.Proofs.YtpfeflhcbcgbfaaGreatDoor
open Go.RowKit

/-- What is cut off of the first i places, and where the next piece begins. -/
def cutSt (s : ByteArray) (b : UInt8) : Nat → List ByteArray × Nat
  | 0 => ([], 0)
  | i + 1 => if i = s.size ∨ s.data.toList[i]? = some b then ((cutSt s b i).1 ++ [s.extract (cutSt s b i).2 i], i + 1) else cutSt s b i
def cutB (s : ByteArray) (b : UInt8) : List ByteArray := (cutSt s b (s.size + 1)).1
theorem cut_hit {s : ByteArray} {b : UInt8} {i q : Nat} {xs : List ByteArray} (h : cutSt s b i = (xs, q)) (hc : i = s.size ∨ s.data.toList[i]? = some b) : cutSt s b (i + 1) = (xs ++ [s.extract q i], i + 1) := by
  rw [cutSt, if_pos hc, h]
theorem cut_miss {s : ByteArray} {b : UInt8} {i q : Nat} {xs : List ByteArray} (h : cutSt s b i = (xs, q)) (hc : ¬ (i = s.size ∨ s.data.toList[i]? = some b)) : cutSt s b (i + 1) = (xs, q) := by
  rw [cutSt, if_neg hc, h]
theorem cutSt_facts (s : ByteArray) (b : UInt8) : ∀ i, (cutSt s b i).1.length ≤ i ∧ (cutSt s b i).2 ≤ i ∧ ∀ x ∈ (cutSt s b i).1, x.size ≤ s.size
  | 0 => ⟨by simp [cutSt], by simp [cutSt], by simp [cutSt]⟩
  | i + 1 => by
    obtain ⟨h1, h2, h3⟩ := cutSt_facts s b i
    unfold cutSt
    split
    · refine ⟨by simp; omega, by simp, fun x hx => ?_⟩
      rcases List.mem_append.1 hx with hx | hx
      · exact h3 x hx
      · simp at hx; subst hx; rw [ByteArray.size_extract]; omega
    · exact ⟨by omega, by omega, h3⟩
theorem cutB_facts (s : ByteArray) (b : UInt8) : 1 ≤ (cutB s b).length ∧ (cutB s b).length ≤ s.size + 1 ∧ ∀ x ∈ cutB s b, x.size ≤ s.size := by
  refine ⟨?_, (cutSt_facts s b _).1, (cutSt_facts s b _).2.2⟩
  unfold cutB
  rw [cutSt, if_pos (Or.inl rfl)]
  simp
theorem infoStrC : (Tryz.prog.info? 9).map (fun i => (i.zero, i.size, i.bytes)) = some (some (.string ByteArray.empty), 1, 16) := by kernel_rfl
def CutPost (s : ByteArray) (b : UInt8) (w : World) (e : Ending) (w' : World) : Prop :=
  ∃ v, e = .returned v ∧ w'.ownsRow w.heap.size 9 1 v (cutB s b).length (strVals (cutB s b)) ∧ Below w.heap.size w w'
end Go.Proofs.YtpfeflhcbcgbfaaGreatDoor
namespace Go.Proofs.YtpfeflhcbcgbfaaGreatDoor
open Go.RowKit

def rowR (p : ByteArray) : Option (List Int) := allO (fun q => readO q 12) (cutB p 44)
def tabR (t : ByteArray) : Option (List (List Int)) := allO rowR (cutB t 47)
/-- The matrix that a text writes. -/
def parseMO (t : ByteArray) : Option (List (List Int)) := (tabR t).bind fun M => if isMat M = true then some M else none
theorem rowR_len {p : ByteArray} {r : List Int} (h : rowR p = some r) : 1 ≤ r.length ∧ r.length ≤ p.size + 1 := by
  have h1 := allO_len h
  have h2 := cutB_facts p 44
  omega
def ParseMPost (t : ByteArray) (w : World) (e : Ending) (w' : World) : Prop :=
  ∃ v, e = .returned (.tuple #[v, .bool (parseMO t).isSome]) ∧ TGrid 39 3 w' w.heap.size v ((parseMO t).getD []) ∧ Below w.heap.size w w'
theorem infoIntM : (Tryz.prog.info? 3).map (fun i => (i.zero, i.size, i.bytes)) = some (some (.int .i64 0), 1, 8) := by kernel_rfl
theorem infoIntsM : (Tryz.prog.info? 39).map (fun i => (i.zero, i.size, i.bytes)) = some (some (.slice none 0 0), 1, 24) := by kernel_rfl
theorem own_nilM (w : World) (T : TypeId) {B : Nat} (hB : B ≤ w.heap.size) : (w.alloc (.cells #[] T)).ownsRow B T 1 (.slice (some ⟨w.heap.size, 0, none⟩) 0 0) 0 [] := World.ownsRow_made w #[] 0 hB (Nat.zero_le _) rfl
end Go.Proofs.YtpfeflhcbcgbfaaGreatDoor
namespace Go.Proofs.YtpfeflhcbcgbfaaGreatDoor
open Go.RowKit

theorem fmt0 : fmtB 0 = ⟨#[48]⟩ := by
  unfold fmtB Lib.itoa
  rw [if_neg (by decide)]
  show ByteArray.mk (Lib.decDigits 0).toArray = _
  rw [Lib.decDigits, dif_pos (by decide)]
  rfl
theorem read0 : readO ⟨#[48]⟩ 12 = some 0 := by
  rw [readO_val (n := 0) (m := 0) (by decide) (by decide) (by decide), if_pos fmt0]
theorem fmt1 : fmtB 1 = ⟨#[49]⟩ := by
  unfold fmtB Lib.itoa
  rw [if_neg (by decide)]
  show ByteArray.mk (Lib.decDigits 1).toArray = _
  rw [Lib.decDigits, dif_pos (by decide)]
  rfl
theorem read1 : readO ⟨#[49]⟩ 12 = some 1 := by
  rw [readO_val (n := 1) (m := 1) (by decide) (by decide) (by decide), if_pos fmt1]
theorem fmt2 : fmtB 2 = ⟨#[50]⟩ := by
  unfold fmtB Lib.itoa
  rw [if_neg (by decide)]
  show ByteArray.mk (Lib.decDigits 2).toArray = _
  rw [Lib.decDigits, dif_pos (by decide)]
  rfl
theorem read2 : readO ⟨#[50]⟩ 12 = some 2 := by
  rw [readO_val (n := 2) (m := 2) (by decide) (by decide) (by decide), if_pos fmt2]
theorem row001 : rowR ⟨#[48, 44, 48, 44, 49]⟩ = some [0, 0, 1] := by
  unfold rowR
  rw [show cutB ⟨#[48, 44, 48, 44, 49]⟩ 44 = [⟨#[48]⟩, ⟨#[48]⟩, ⟨#[49]⟩] from by decide +kernel]
  simp [allO, read0, read1, read2]
theorem row01 : rowR ⟨#[48, 44, 49]⟩ = some [0, 1] := by
  unfold rowR
  rw [show cutB ⟨#[48, 44, 49]⟩ 44 = [⟨#[48]⟩, ⟨#[49]⟩] from by decide +kernel]
  simp [allO, read0, read1, read2]
theorem row010 : rowR ⟨#[48, 44, 49, 44, 48]⟩ = some [0, 1, 0] := by
  unfold rowR
  rw [show cutB ⟨#[48, 44, 49, 44, 48]⟩ 44 = [⟨#[48]⟩, ⟨#[49]⟩, ⟨#[48]⟩] from by decide +kernel]
  simp [allO, read0, read1, read2]
theorem row011 : rowR ⟨#[48, 44, 49, 44, 49]⟩ = some [0, 1, 1] := by
  unfold rowR
  rw [show cutB ⟨#[48, 44, 49, 44, 49]⟩ 44 = [⟨#[48]⟩, ⟨#[49]⟩, ⟨#[49]⟩] from by decide +kernel]
  simp [allO, read0, read1, read2]
theorem row10 : rowR ⟨#[49, 44, 48]⟩ = some [1, 0] := by
  unfold rowR
  rw [show cutB ⟨#[49, 44, 48]⟩ 44 = [⟨#[49]⟩, ⟨#[48]⟩] from by decide +kernel]
  simp [allO, read0, read1, read2]
theorem row101 : rowR ⟨#[49, 44, 48, 44, 49]⟩ = some [1, 0, 1] := by
  unfold rowR
  rw [show cutB ⟨#[49, 44, 48, 44, 49]⟩ 44 = [⟨#[49]⟩, ⟨#[48]⟩, ⟨#[49]⟩] from by decide +kernel]
  simp [allO, read0, read1, read2]
theorem row11 : rowR ⟨#[49, 44, 49]⟩ = some [1, 1] := by
  unfold rowR
  rw [show cutB ⟨#[49, 44, 49]⟩ 44 = [⟨#[49]⟩, ⟨#[49]⟩] from by decide +kernel]
  simp [allO, read0, read1, read2]
theorem row110 : rowR ⟨#[49, 44, 49, 44, 48]⟩ = some [1, 1, 0] := by
  unfold rowR
  rw [show cutB ⟨#[49, 44, 49, 44, 48]⟩ 44 = [⟨#[49]⟩, ⟨#[49]⟩, ⟨#[48]⟩] from by decide +kernel]
  simp [allO, read0, read1, read2]
theorem row12 : rowR ⟨#[49, 44, 50]⟩ = some [1, 2] := by
  unfold rowR
  rw [show cutB ⟨#[49, 44, 50]⟩ 44 = [⟨#[49]⟩, ⟨#[50]⟩] from by decide +kernel]
  simp [allO, read0, read1, read2]
theorem row2 : rowR ⟨#[50]⟩ = some [2] := by
  unfold rowR
  rw [show cutB ⟨#[50]⟩ 44 = [⟨#[50]⟩] from by decide +kernel]
  simp [allO, read0, read1, read2]
theorem exP1 : parseMO ⟨#[49, 44, 49, 47, 49, 44, 48]⟩ = some [[1, 1], [1, 0]] := by
  unfold parseMO tabR
  rw [show cutB ⟨#[49, 44, 49, 47, 49, 44, 48]⟩ 47 = [⟨#[49, 44, 49]⟩, ⟨#[49, 44, 48]⟩] from by decide +kernel]
  simp only [allO, row10, row11]
  show (if isMat [[1, 1], [1, 0]] = true then some [[1, 1], [1, 0]] else none) = _
  rw [if_pos (by decide)]
theorem exP2 : parseMO ⟨#[50]⟩ = some [[2]] := by
  unfold parseMO tabR
  rw [show cutB ⟨#[50]⟩ 47 = [⟨#[50]⟩] from by decide +kernel]
  simp only [allO, row2]
  show (if isMat [[2]] = true then some [[2]] else none) = _
  rw [if_pos (by decide)]
theorem exP3 : parseMO ⟨#[49, 44, 49, 47, 49, 44, 49]⟩ = some [[1, 1], [1, 1]] := by
  unfold parseMO tabR
  rw [show cutB ⟨#[49, 44, 49, 47, 49, 44, 49]⟩ 47 = [⟨#[49, 44, 49]⟩, ⟨#[49, 44, 49]⟩] from by decide +kernel]
  simp only [allO, row11]
  show (if isMat [[1, 1], [1, 1]] = true then some [[1, 1], [1, 1]] else none) = _
  rw [if_pos (by decide)]
theorem exP4 : parseMO ⟨#[48, 44, 49, 47, 49, 44, 48]⟩ = some [[0, 1], [1, 0]] := by
  unfold parseMO tabR
  rw [show cutB ⟨#[48, 44, 49, 47, 49, 44, 48]⟩ 47 = [⟨#[48, 44, 49]⟩, ⟨#[49, 44, 48]⟩] from by decide +kernel]
  simp only [allO, row01, row10]
  show (if isMat [[0, 1], [1, 0]] = true then some [[0, 1], [1, 0]] else none) = _
  rw [if_pos (by decide)]
theorem exP5 : parseMO ⟨#[49, 44, 50, 47, 49, 44, 48]⟩ = some [[1, 2], [1, 0]] := by
  unfold parseMO tabR
  rw [show cutB ⟨#[49, 44, 50, 47, 49, 44, 48]⟩ 47 = [⟨#[49, 44, 50]⟩, ⟨#[49, 44, 48]⟩] from by decide +kernel]
  simp only [allO, row10, row12]
  show (if isMat [[1, 2], [1, 0]] = true then some [[1, 2], [1, 0]] else none) = _
  rw [if_pos (by decide)]
theorem exP6 : parseMO ⟨#[48, 44, 49, 44, 48, 47, 48, 44, 48, 44, 49, 47, 49, 44, 49, 44, 48]⟩ = some [[0, 1, 0], [0, 0, 1], [1, 1, 0]] := by
  unfold parseMO tabR
  rw [show cutB ⟨#[48, 44, 49, 44, 48, 47, 48, 44, 48, 44, 49, 47, 49, 44, 49, 44, 48]⟩ 47 = [⟨#[48, 44, 49, 44, 48]⟩, ⟨#[48, 44, 48, 44, 49]⟩, ⟨#[49, 44, 49, 44, 48]⟩] from by decide +kernel]
  simp only [allO, row001, row010, row110]
  show (if isMat [[0, 1, 0], [0, 0, 1], [1, 1, 0]] = true then some [[0, 1, 0], [0, 0, 1], [1, 1, 0]] else none) = _
  rw [if_pos (by decide)]
theorem exP7 : parseMO ⟨#[49, 44, 48, 47, 49, 44, 49]⟩ = some [[1, 0], [1, 1]] := by
  unfold parseMO tabR
  rw [show cutB ⟨#[49, 44, 48, 47, 49, 44, 49]⟩ 47 = [⟨#[49, 44, 48]⟩, ⟨#[49, 44, 49]⟩] from by decide +kernel]
  simp only [allO, row10, row11]
  show (if isMat [[1, 0], [1, 1]] = true then some [[1, 0], [1, 1]] else none) = _
  rw [if_pos (by decide)]
theorem exP8 : parseMO ⟨#[49, 44, 49, 44, 48, 47, 48, 44, 49, 44, 49, 47, 49, 44, 48, 44, 49]⟩ = some [[1, 1, 0], [0, 1, 1], [1, 0, 1]] := by
  unfold parseMO tabR
  rw [show cutB ⟨#[49, 44, 49, 44, 48, 47, 48, 44, 49, 44, 49, 47, 49, 44, 48, 44, 49]⟩ 47 = [⟨#[49, 44, 49, 44, 48]⟩, ⟨#[48, 44, 49, 44, 49]⟩, ⟨#[49, 44, 48, 44, 49]⟩] from by decide +kernel]
  simp only [allO, row011, row101, row110]
  show (if isMat [[1, 1, 0], [0, 1, 1], [1, 0, 1]] = true then some [[1, 1, 0], [0, 1, 1], [1, 0, 1]] else none) = _
  rw [if_pos (by decide)]
theorem exP0 : parseMO ⟨#[]⟩ = none := by
  unfold parseMO tabR
  rw [show cutB ⟨#[]⟩ 47 = [⟨#[]⟩] from by decide +kernel]
  have h : rowR ⟨#[]⟩ = none := by
    unfold rowR
    rw [show cutB ⟨#[]⟩ 44 = [⟨#[]⟩] from by decide +kernel]
    have : readO ⟨#[]⟩ 12 = none := by decide
    simp [allO, this]
  simp [allO, h]
/-- A number's text, that reads as the number. -/
def okNum (lo hi : Int) (p : ByteArray) (x : Int) : Prop := p.size ≤ 18 ∧ Lib.atoi p.data.toList = some x ∧ lo ≤ x ∧ x ≤ hi ∧ fmtB x = p
def okNums (lo hi : Int) : List ByteArray → List Int → Prop
  | [], [] => True
  | p :: ps, x :: xs => okNum lo hi p x ∧ okNums lo hi ps xs
  | _, _ => False
theorem okNums_at {lo hi : Int} : ∀ {ps : List ByteArray} {xs : List Int}, okNums lo hi ps xs → ps.length = xs.length ∧ ∀ (i : Nat) (p : ByteArray) (x : Int), ps[i]? = some p → xs[i]? = some x → okNum lo hi p x
  | [], [], _ => ⟨rfl, fun i p x h _ => by simp at h⟩
  | p :: ps, x :: xs, h => by
    obtain ⟨h1, h2⟩ := okNums_at h.2
    refine ⟨by simp [h1], fun i q y hq hy => ?_⟩
    match i with
    | 0 =>
      simp at hq hy
      rw [← hq, ← hy]
      exact h.1
    | i + 1 => exact h2 i q y (by simpa using hq) (by simpa using hy)
  | [], _ :: _, h => h.elim
  | _ :: _, [], h => h.elim
def cutI (t : ByteArray) (b : UInt8) : List ByteArray := Lib.splitB ⟨#[b]⟩ 0 (Lib.countB t ⟨#[b]⟩) t
def okRow (t : ByteArray) (xs : List Int) : Prop := okNums 0 1000000 (cutI t 44) xs
def okRows : List ByteArray → List (List Int) → Prop
  | [], [] => True
  | p :: ps, x :: xs => okRow p x ∧ okRows ps xs
  | _, _ => False
theorem okRows_at : ∀ {ps : List ByteArray} {xs : List (List Int)}, okRows ps xs → ps.length = xs.length ∧ ∀ (i : Nat) (p : ByteArray) (x : List Int), ps[i]? = some p → xs[i]? = some x → okRow p x
  | [], [], _ => ⟨rfl, fun i p x h _ => by simp at h⟩
  | p :: ps, x :: xs, h => by
    obtain ⟨h1, h2⟩ := okRows_at h.2
    refine ⟨by simp [h1], fun i q y hq hy => ?_⟩
    match i with
    | 0 =>
      simp at hq hy
      rw [← hq, ← hy]
      exact h.1
    | i + 1 => exact h2 i q y (by simpa using hq) (by simpa using hy)
  | [], _ :: _, h => h.elim
  | _ :: _, [], h => h.elim
def okTab (t : ByteArray) (M : List (List Int)) : Prop := okRows (cutI t 47) M ∧ isMat M = true
theorem num0 : okNum 0 1000000 ⟨#[48]⟩ 0 := ⟨by decide, by decide, by decide, by decide, fmt0⟩
theorem num1 : okNum 0 1000000 ⟨#[49]⟩ 1 := ⟨by decide, by decide, by decide, by decide, fmt1⟩
theorem num2 : okNum 0 1000000 ⟨#[50]⟩ 2 := ⟨by decide, by decide, by decide, by decide, fmt2⟩
theorem rowI001 : okRow ⟨#[48, 44, 48, 44, 49]⟩ [0, 0, 1] := by
  unfold okRow
  rw [show cutI ⟨#[48, 44, 48, 44, 49]⟩ 44 = [⟨#[48]⟩, ⟨#[48]⟩, ⟨#[49]⟩] from by decide +kernel]
  exact (And.intro num0 (And.intro num0 (And.intro num1 trivial)))
theorem rowI01 : okRow ⟨#[48, 44, 49]⟩ [0, 1] := by
  unfold okRow
  rw [show cutI ⟨#[48, 44, 49]⟩ 44 = [⟨#[48]⟩, ⟨#[49]⟩] from by decide +kernel]
  exact (And.intro num0 (And.intro num1 trivial))
theorem rowI010 : okRow ⟨#[48, 44, 49, 44, 48]⟩ [0, 1, 0] := by
  unfold okRow
  rw [show cutI ⟨#[48, 44, 49, 44, 48]⟩ 44 = [⟨#[48]⟩, ⟨#[49]⟩, ⟨#[48]⟩] from by decide +kernel]
  exact (And.intro num0 (And.intro num1 (And.intro num0 trivial)))
theorem rowI011 : okRow ⟨#[48, 44, 49, 44, 49]⟩ [0, 1, 1] := by
  unfold okRow
  rw [show cutI ⟨#[48, 44, 49, 44, 49]⟩ 44 = [⟨#[48]⟩, ⟨#[49]⟩, ⟨#[49]⟩] from by decide +kernel]
  exact (And.intro num0 (And.intro num1 (And.intro num1 trivial)))
theorem rowI10 : okRow ⟨#[49, 44, 48]⟩ [1, 0] := by
  unfold okRow
  rw [show cutI ⟨#[49, 44, 48]⟩ 44 = [⟨#[49]⟩, ⟨#[48]⟩] from by decide +kernel]
  exact (And.intro num1 (And.intro num0 trivial))
theorem rowI101 : okRow ⟨#[49, 44, 48, 44, 49]⟩ [1, 0, 1] := by
  unfold okRow
  rw [show cutI ⟨#[49, 44, 48, 44, 49]⟩ 44 = [⟨#[49]⟩, ⟨#[48]⟩, ⟨#[49]⟩] from by decide +kernel]
  exact (And.intro num1 (And.intro num0 (And.intro num1 trivial)))
theorem rowI11 : okRow ⟨#[49, 44, 49]⟩ [1, 1] := by
  unfold okRow
  rw [show cutI ⟨#[49, 44, 49]⟩ 44 = [⟨#[49]⟩, ⟨#[49]⟩] from by decide +kernel]
  exact (And.intro num1 (And.intro num1 trivial))
theorem rowI110 : okRow ⟨#[49, 44, 49, 44, 48]⟩ [1, 1, 0] := by
  unfold okRow
  rw [show cutI ⟨#[49, 44, 49, 44, 48]⟩ 44 = [⟨#[49]⟩, ⟨#[49]⟩, ⟨#[48]⟩] from by decide +kernel]
  exact (And.intro num1 (And.intro num1 (And.intro num0 trivial)))
theorem rowI12 : okRow ⟨#[49, 44, 50]⟩ [1, 2] := by
  unfold okRow
  rw [show cutI ⟨#[49, 44, 50]⟩ 44 = [⟨#[49]⟩, ⟨#[50]⟩] from by decide +kernel]
  exact (And.intro num1 (And.intro num2 trivial))
theorem rowI2 : okRow ⟨#[50]⟩ [2] := by
  unfold okRow
  rw [show cutI ⟨#[50]⟩ 44 = [⟨#[50]⟩] from by decide +kernel]
  exact (And.intro num2 trivial)
theorem exI1 : okTab ⟨#[49, 44, 49, 47, 49, 44, 48]⟩ [[1, 1], [1, 0]] := by
  unfold okTab
  rw [show cutI ⟨#[49, 44, 49, 47, 49, 44, 48]⟩ 47 = [⟨#[49, 44, 49]⟩, ⟨#[49, 44, 48]⟩] from by decide +kernel]
  exact ⟨(And.intro rowI11 (And.intro rowI10 trivial)), by decide⟩
theorem exI2 : okTab ⟨#[50]⟩ [[2]] := by
  unfold okTab
  rw [show cutI ⟨#[50]⟩ 47 = [⟨#[50]⟩] from by decide +kernel]
  exact ⟨(And.intro rowI2 trivial), by decide⟩
theorem exI3 : okTab ⟨#[49, 44, 49, 47, 49, 44, 49]⟩ [[1, 1], [1, 1]] := by
  unfold okTab
  rw [show cutI ⟨#[49, 44, 49, 47, 49, 44, 49]⟩ 47 = [⟨#[49, 44, 49]⟩, ⟨#[49, 44, 49]⟩] from by decide +kernel]
  exact ⟨(And.intro rowI11 (And.intro rowI11 trivial)), by decide⟩
theorem exI4 : okTab ⟨#[48, 44, 49, 47, 49, 44, 48]⟩ [[0, 1], [1, 0]] := by
  unfold okTab
  rw [show cutI ⟨#[48, 44, 49, 47, 49, 44, 48]⟩ 47 = [⟨#[48, 44, 49]⟩, ⟨#[49, 44, 48]⟩] from by decide +kernel]
  exact ⟨(And.intro rowI01 (And.intro rowI10 trivial)), by decide⟩
theorem exI5 : okTab ⟨#[49, 44, 50, 47, 49, 44, 48]⟩ [[1, 2], [1, 0]] := by
  unfold okTab
  rw [show cutI ⟨#[49, 44, 50, 47, 49, 44, 48]⟩ 47 = [⟨#[49, 44, 50]⟩, ⟨#[49, 44, 48]⟩] from by decide +kernel]
  exact ⟨(And.intro rowI12 (And.intro rowI10 trivial)), by decide⟩
theorem exI6 : okTab ⟨#[48, 44, 49, 44, 48, 47, 48, 44, 48, 44, 49, 47, 49, 44, 49, 44, 48]⟩ [[0, 1, 0], [0, 0, 1], [1, 1, 0]] := by
  unfold okTab
  rw [show cutI ⟨#[48, 44, 49, 44, 48, 47, 48, 44, 48, 44, 49, 47, 49, 44, 49, 44, 48]⟩ 47 = [⟨#[48, 44, 49, 44, 48]⟩, ⟨#[48, 44, 48, 44, 49]⟩, ⟨#[49, 44, 49, 44, 48]⟩] from by decide +kernel]
  exact ⟨(And.intro rowI010 (And.intro rowI001 (And.intro rowI110 trivial))), by decide⟩
theorem exI7 : okTab ⟨#[49, 44, 48, 47, 49, 44, 49]⟩ [[1, 0], [1, 1]] := by
  unfold okTab
  rw [show cutI ⟨#[49, 44, 48, 47, 49, 44, 49]⟩ 47 = [⟨#[49, 44, 48]⟩, ⟨#[49, 44, 49]⟩] from by decide +kernel]
  exact ⟨(And.intro rowI10 (And.intro rowI11 trivial)), by decide⟩
theorem exI8 : okTab ⟨#[49, 44, 49, 44, 48, 47, 48, 44, 49, 44, 49, 47, 49, 44, 48, 44, 49]⟩ [[1, 1, 0], [0, 1, 1], [1, 0, 1]] := by
  unfold okTab
  rw [show cutI ⟨#[49, 44, 49, 44, 48, 47, 48, 44, 49, 44, 49, 47, 49, 44, 48, 44, 49]⟩ 47 = [⟨#[49, 44, 49, 44, 48]⟩, ⟨#[48, 44, 49, 44, 49]⟩, ⟨#[49, 44, 48, 44, 49]⟩] from by decide +kernel]
  exact ⟨(And.intro rowI110 (And.intro rowI011 (And.intro rowI101 trivial))), by decide⟩
/-- The example of a number. -/
def exM (n : Int) : Option (List (List Int)) :=
  if n = 1 then some [[1, 1], [1, 0]] else if n = 2 then some [[2]] else if n = 3 then some [[1, 1], [1, 1]] else if n = 4 then some [[0, 1], [1, 0]] else if n = 5 then some [[1, 2], [1, 0]] else if n = 6 then some [[0, 1, 0], [0, 0, 1], [1, 1, 0]] else if n = 7 then some [[1, 0], [1, 1]] else if n = 8 then some [[1, 1, 0], [0, 1, 1], [1, 0, 1]] else none
end Go.Proofs.YtpfeflhcbcgbfaaGreatDoor
