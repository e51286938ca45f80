/- A matrix read: the reference's function. Conditions: sizes of at most 1048576 bytes. -/
import Derived.Test.YtcmmlldincflkaaBox
import Derived.Test.YtcmmlldincflkaaZero
import Derived.Test.YtcmmlldincflkaaReadN
import Derived.Test.YtcmmlldincflkaaMat
namespace Go.Proofs.Ytcmmlldincflkaa
open Go.RowKit

/-- What is cut off of the first i places, and where the next piece begins. -/
def cutSt (s : ByteArray) (b : UInt8) : Nat → List ByteArray × Nat
  | 0 => ([], 0)
  | i + 1 => if i = s.size ∨ s.data.toList[i]? = some b then ((cutSt s b i).1 ++ [s.extract (cutSt s b i).2 i], i + 1) else cutSt s b i
def cutB (s : ByteArray) (b : UInt8) : List ByteArray := (cutSt s b (s.size + 1)).1
theorem cut_hit {s : ByteArray} {b : UInt8} {i q : Nat} {xs : List ByteArray} (h : cutSt s b i = (xs, q)) (hc : i = s.size ∨ s.data.toList[i]? = some b) : cutSt s b (i + 1) = (xs ++ [s.extract q i], i + 1) := by
  rw [cutSt, if_pos hc, h]
theorem cut_miss {s : ByteArray} {b : UInt8} {i q : Nat} {xs : List ByteArray} (h : cutSt s b i = (xs, q)) (hc : ¬ (i = s.size ∨ s.data.toList[i]? = some b)) : cutSt s b (i + 1) = (xs, q) := by
  rw [cutSt, if_neg hc, h]
theorem cutSt_facts (s : ByteArray) (b : UInt8) : ∀ i, (cutSt s b i).1.length ≤ i ∧ (cutSt s b i).2 ≤ i ∧ ∀ x ∈ (cutSt s b i).1, x.size ≤ s.size
  | 0 => ⟨by simp [cutSt], by simp [cutSt], by simp [cutSt]⟩
  | i + 1 => by
    obtain ⟨h1, h2, h3⟩ := cutSt_facts s b i
    unfold cutSt
    split
    · refine ⟨by simp; omega, by simp, fun x hx => ?_⟩
      rcases List.mem_append.1 hx with hx | hx
      · exact h3 x hx
      · simp at hx; subst hx; rw [ByteArray.size_extract]; omega
    · exact ⟨by omega, by omega, h3⟩
theorem cutB_facts (s : ByteArray) (b : UInt8) : 1 ≤ (cutB s b).length ∧ (cutB s b).length ≤ s.size + 1 ∧ ∀ x ∈ cutB s b, x.size ≤ s.size := by
  refine ⟨?_, (cutSt_facts s b _).1, (cutSt_facts s b _).2.2⟩
  unfold cutB
  rw [cutSt, if_pos (Or.inl rfl)]
  simp
theorem infoStrC : (Try.prog.info? 9).map (fun i => (i.zero, i.size, i.bytes)) = some (some (.string ByteArray.empty), 1, 16) := by kernel_rfl
def CutPost (s : ByteArray) (b : UInt8) (w : World) (e : Ending) (w' : World) : Prop :=
  ∃ v, e = .returned v ∧ w'.ownsRow w.heap.size 9 1 v (cutB s b).length (strVals (cutB s b)) ∧ Below w.heap.size w w'
set_option maxHeartbeats 1000000 in
theorem spec_SplitByte_c (s : ByteArray) (b : UInt8) (w : World) (hs : s.size ≤ 1048576) :
    Calls Try.prog 88 #[.string s, .int .u8 b.toNat] w (CutPost s b w) := by
  have hemp : World.ownsRow (w.alloc (.cells #[] 9)) w.heap.size 9 1 (.slice (some ⟨w.heap.size, 0, none⟩) 0 0) 0 [] :=
    World.ownsRow_made w #[] 0 (Nat.le_refl _) (Nat.zero_le _) rfl
  have HE := hid hemp
  have HB := hid (show Below w.heap.size w (w.alloc (.cells #[] 9)) from (Below.refl _ _).alloc (Nat.le_refl _) _)
  have hb255 := b.toNat_lt
  clear hemp
  go_enter Try.func88, Try.ntmps88
  go_wp2
  go_loopw [5, 6, 7] (fun v f i wr => ∃ (j q : Nat) (xs : List ByteArray), j ≤ s.size + 1 ∧ i = .int .i64 j ∧ f = .int .i64 q ∧ q ≤ j ∧ xs.length ≤ j ∧ Hid (cutSt s b j = (xs, q)) ∧ wr.ownsRow w.heap.size 9 1 v xs.length (strVals xs) ∧ Below w.heap.size w wr) (fun _ _ i _ => s.size + 1 - (intOf i).toNat)
  case atStart => exact ⟨0, 0, [], by omega, rfl, rfl, by omega, by simp, rfl, HE.out, HB.out⟩
  case round =>
    obtain ⟨j, q, xs, hj, rfl, rfl, hqj, hxl, HC, hown, hbel⟩ := hrel
    have hqji : (q : Int) ≤ (j : Int) := by omega
    by_cases hlt : j < s.size
    · have hji : (j : Int) < (s.size : Int) := by omega
      have hji2 : (j : Int) ≤ (s.size : Int) := by omega
      have hne : ((j : Int) == (s.size : Int)) = false := by rw [beq_eq_false_iff_ne]; omega
      by_cases hx : s[j] = b
      · have HN := hid (cut_hit HC.out (Or.inr (by rw [byte_at s j hlt, hx])))
        have hxb : ((s[j].toNat : Int) == (b.toNat : Int)) = true := by rw [hx]; simp
        have hxe : (s[j].toNat : Int) = (b.toNat : Int) := by rw [hx]
        clear HC hx
        go_wp2_with (first | (at_builtin; go_must (refine wpList_app1 rfl _ _ 42 rfl w.heap.size 9 (.string ByteArray.empty) 16 Try.underlying42 infoStrC rfl _ xs.length (strVals xs) _ hown rfl rfl rfl (by omega) (by unfold maxLen; omega) hbel hbel.size ?_); intro v' w1 hown' hbel'))
        go_roundw
        case rel => exact ⟨j + 1, j + 1, xs ++ [s.extract q j], by omega, by go_num, by go_num, by omega, by simp; omega, HN, by rw [List.length_append]; simpa [strVals] using hown', hbel'⟩
        case measure => simp [intOf] <;> omega
      · have HN := hid (cut_miss HC.out (fun h => h.elim (fun e => by omega) (fun e => by
          rw [byte_at s j hlt] at e
          injection e with e
          exact hx e)))
        have hxb : ((s[j].toNat : Int) == (b.toNat : Int)) = false := by
          rw [beq_eq_false_iff_ne]
          intro e
          exact hx (UInt8.toNat_inj.1 (by omega))
        clear HC hx
        go_wp2
        go_roundw
        case rel => exact ⟨j + 1, q, xs, by omega, by go_num, rfl, by omega, by omega, HN, hown, hbel⟩
        case measure => simp [intOf] <;> omega
    · by_cases he : j = s.size
      · subst he
        have HN := hid (cut_hit HC.out (Or.inl rfl))
        clear HC
        go_wp2_with (first | (at_builtin; go_must (refine wpList_app1 rfl _ _ 42 rfl w.heap.size 9 (.string ByteArray.empty) 16 Try.underlying42 infoStrC rfl _ xs.length (strVals xs) _ hown rfl rfl rfl (by omega) (by unfold maxLen; omega) hbel hbel.size ?_); intro v' w1 hown' hbel'))
        go_roundw
        case rel => exact ⟨s.size + 1, s.size + 1, xs ++ [s.extract q s.size], by omega, by go_num, by go_num, by omega, by simp; omega, HN, by rw [List.length_append]; simpa [strVals] using hown', hbel'⟩
        case measure => simp [intOf] <;> omega
      · obtain rfl : j = s.size + 1 := by omega
        have hgt : ¬ (((s.size + 1 : Nat) : Int) ≤ (s.size : Int)) := by omega
        have hres : xs = cutB s b := by unfold cutB; rw [HC.out]
        clear HC
        go_wp2
        go_ret
        exact ⟨_, rfl, by rw [← hres]; exact hown, hbel⟩
end Go.Proofs.Ytcmmlldincflkaa
namespace Go.Proofs.Ytcmmlldincflkaa
open Go.RowKit

theorem below_none {w w' : World} (h : Below w.heap.size w w') : w.grownBy w' none := ⟨h.os, h.tape, h.output, h.size, fun k hk _ => h.block k hk⟩
/-- A row more, that lies where the rows ahead of it do not. -/
theorem TRows.moreAt {T0 : TypeId} {w w' : World} {base c g0 : Nat} {vs : List Value} {rows : List (List Int)} {r : List Int} (h : TRows T0 w base vs rows) (hg : w.grownBy w' none) (hg0 : w.heap.size ≤ g0) (ho : w'.ownsRow base T0 1 (.slice (some ⟨g0, 0, none⟩) r.length c) r.length (intVals r)) :
    TRows T0 w' base (vs ++ [.slice (some ⟨g0, 0, none⟩) r.length c]) (rows ++ [r]) := by
  have hlen := h.len
  refine ⟨by simp [hlen], fun i x r' hx hr => ?_, fun i j x y g hx hy hgx hgy => ?_⟩
  · by_cases hi : i < vs.length
    · rw [List.getElem?_append_left hi] at hx
      rw [List.getElem?_append_left (by omega)] at hr
      exact (h.own i x r' hx hr).kept hg (by cases hv : x.ownBlock <;> simp)
    · rw [List.getElem?_append_right (by omega)] at hx
      rw [List.getElem?_append_right (by omega)] at hr
      have hi0 : i - vs.length = 0 := by
        rcases Nat.eq_zero_or_pos (i - vs.length) with h0 | h0
        · exact h0
        · rw [List.getElem?_eq_none (by simp; omega)] at hx; cases hx
      rw [hi0] at hx
      rw [← hlen, hi0] at hr
      simp only [List.getElem?_cons_zero, Option.some.injEq] at hx hr
      subst hx hr
      exact ho
  · have key : ∀ k z, (vs ++ [Value.slice (some ⟨g0, 0, none⟩) r.length c])[k]? = some z → z.ownBlock = some g → (k < vs.length ∧ vs[k]? = some z ∧ g < w.heap.size) ∨ (k = vs.length ∧ g = g0) := by
      intro k z hz hzg
      by_cases hk : k < vs.length
      · rw [List.getElem?_append_left hk] at hz
        obtain ⟨r2, hr2⟩ := get_some (l := rows) (n := k) (by omega)
        exact Or.inl ⟨hk, hz, ((h.own k z r2 hz hr2).lt g hzg).2⟩
      · rw [List.getElem?_append_right (by omega)] at hz
        have hi0 : k - vs.length = 0 := by
          rcases Nat.eq_zero_or_pos (k - vs.length) with h0 | h0
          · exact h0
          · rw [List.getElem?_eq_none (by simp; omega)] at hz; cases hz
        rw [hi0] at hz
        simp only [List.getElem?_cons_zero, Option.some.injEq] at hz
        subst hz
        simp only [Value.ownBlock, Option.some.injEq] at hzg
        exact Or.inr ⟨by omega, hzg.symm⟩
    rcases key i x hx hgx with ⟨h1, h2, h3⟩ | ⟨h1, h2⟩ <;> rcases key j y hy hgy with ⟨h4, h5, h6⟩ | ⟨h4, h5⟩
    · exact h.apart i j x y g h2 h5 hgx hgy
    · omega
    · omega
    · omega
/-- All values of a list by a function, if it has one for each. -/
def allO {α β : Type} (f : α → Option β) : List α → Option (List β)
  | [] => some []
  | x :: xs => match f x, allO f xs with
    | some y, some ys => some (y :: ys)
    | _, _ => none
theorem allO_snoc {α β : Type} {f : α → Option β} {x : α} {y : β} : ∀ {l : List α} {ys : List β}, allO f l = some ys → f x = some y → allO f (l ++ [x]) = some (ys ++ [y])
  | [], ys, h, hy => by
    simp only [allO, Option.some.injEq] at h
    subst h
    simp [allO, hy]
  | z :: l, ys, h, hy => by
    simp only [allO] at h
    cases hz : f z with
    | none => rw [hz] at h; simp at h
    | some u =>
      rw [hz] at h
      cases hl : allO f l with
      | none => rw [hl] at h; simp at h
      | some us =>
        rw [hl] at h
        simp only [Option.some.injEq] at h
        subst h
        have := allO_snoc hl hy
        simp [allO, hz, this]
theorem allO_bad {α β : Type} {f : α → Option β} {x : α} (hx : f x = none) : ∀ {l : List α}, x ∈ l → allO f l = none
  | z :: l, h => by
    rcases List.mem_cons.1 h with e | h
    · subst e
      simp [allO, hx]
    · have := allO_bad hx h
      simp only [allO]
      rw [this]
      cases f z <;> rfl
theorem allO_len {α β : Type} {f : α → Option β} : ∀ {l : List α} {ys : List β}, allO f l = some ys → ys.length = l.length
  | [], ys, h => by simp only [allO, Option.some.injEq] at h; subst h; rfl
  | z :: l, ys, h => by
    simp only [allO] at h
    cases hz : f z with
    | none => rw [hz] at h; simp at h
    | some u =>
      rw [hz] at h
      cases hl : allO f l with
      | none => rw [hl] at h; simp at h
      | some us =>
        rw [hl] at h
        simp only [Option.some.injEq] at h
        subst h
        have := allO_len hl
        simp [this]
theorem allO_take {α β : Type} {f : α → Option β} {l : List α} {j : Nat} {x : α} {y : β} {ys : List β} (h : allO f (l.take j) = some ys) (hx : l[j]? = some x) (hy : f x = some y) : allO f (l.take (j + 1)) = some (ys ++ [y]) := by
  rw [List.take_add_one, hx]
  exact allO_snoc h hy
theorem allO_at {α β : Type} {f : α → Option β} : ∀ {l : List α} {ys : List β} {i : Nat} {x : α} {y : β}, allO f l = some ys → l[i]? = some x → ys[i]? = some y → f x = some y
  | [], _, _, _, _, _, hx, _ => by simp at hx
  | z :: l, ys, i, x, y, h, hx, hy => by
    simp only [allO] at h
    cases hz : f z with
    | none => rw [hz] at h; simp at h
    | some u =>
      rw [hz] at h
      cases hl : allO f l with
      | none => rw [hl] at h; simp at h
      | some us =>
        rw [hl] at h
        simp only [Option.some.injEq] at h
        subst h
        match i with
        | 0 =>
          simp at hx hy
          rw [← hx, ← hy]
          exact hz
        | i + 1 => exact allO_at hl (by simpa using hx) (by simpa using hy)
end Go.Proofs.Ytcmmlldincflkaa
namespace Go.Proofs.Ytcmmlldincflkaa
open Go.RowKit

def rowR (p : ByteArray) : Option (List Int) := allO (fun q => readO q 12) (cutB p 44)
def tabR (t : ByteArray) : Option (List (List Int)) := allO rowR (cutB t 47)
/-- The matrix that a text writes. -/
def parseMO (t : ByteArray) : Option (List (List Int)) := (tabR t).bind fun M => if isMat M = true then some M else none
theorem rowR_len {p : ByteArray} {r : List Int} (h : rowR p = some r) : 1 ≤ r.length ∧ r.length ≤ p.size + 1 := by
  have h1 := allO_len h
  have h2 := cutB_facts p 44
  omega
def ParseMPost (t : ByteArray) (w : World) (e : Ending) (w' : World) : Prop :=
  ∃ v, e = .returned (.tuple #[v, .bool (parseMO t).isSome]) ∧ TGrid 31 3 w' w.heap.size v ((parseMO t).getD []) ∧ Below w.heap.size w w'
theorem spec_ParseInt_c (s : ByteArray) (w : World) (hs : s.size ≤ 1048576) :
    Calls Try.prog 89 #[.string s] w fun e w' => e = .returned (.tuple #[.int .i64 ((readO s 12).getD 0), .bool (readO s 12).isSome]) ∧ Below w.heap.size w w' := by
  have HR := hid (l1Read_c s 12 w hs (by omega))
  obtain ⟨x, hx⟩ : ∃ x, x = (readO s 12).getD 0 := ⟨_, rfl⟩
  obtain ⟨b, hb⟩ : ∃ b, b = (readO s 12).isSome := ⟨_, rfl⟩
  rw [← hx, ← hb] at HR
  rw [← hx, ← hb]
  clear hx hb
  go_enter Try.func89, Try.ntmps89
  go_wp2_with fail
  refine HR.out.mono ?_
  rintro e w1 ⟨rfl, hb⟩
  go_wp2
  go_ret2
  exact ⟨rfl, hb⟩
theorem infoIntM : (Try.prog.info? 3).map (fun i => (i.zero, i.size, i.bytes)) = some (some (.int .i64 0), 1, 8) := by kernel_rfl
theorem infoIntsM : (Try.prog.info? 31).map (fun i => (i.zero, i.size, i.bytes)) = some (some (.slice none 0 0), 1, 24) := by kernel_rfl
theorem own_nilM (w : World) (T : TypeId) {B : Nat} (hB : B ≤ w.heap.size) : (w.alloc (.cells #[] T)).ownsRow B T 1 (.slice (some ⟨w.heap.size, 0, none⟩) 0 0) 0 [] := World.ownsRow_made w #[] 0 hB (Nat.zero_le _) rfl
end Go.Proofs.Ytcmmlldincflkaa
