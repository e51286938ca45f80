/- A report on a code: both functions. Conditions: sizes within the reach; for the program's, the laid table of powers of ten. -/
import Derived.Test.YtcmmlldincflkaaDoorDescC
namespace Go.Proofs.YtcmmlldincflkaaDoor
open Go.RowKit

def headB (r : Option (List UInt8)) : ByteArray := match r with
  | none => ⟨#[111, 110, 116, 111]⟩
  | some l => ⟨#[110, 111, 116, 32, 111, 110, 116, 111, 32]⟩ ++ (if l.length ≤ 8 then wordB l else ⟨#[63]⟩)
def midB (b : Bool) : ByteArray := if b then ⟨#[111, 110, 101, 32, 116, 111, 32, 111, 110, 101]⟩ else ⟨#[110, 111, 116, 32, 111, 110, 101, 32, 116, 111, 32, 111, 110, 101]⟩
theorem ba_ext {a b : ByteArray} (h : a.data.toList = b.data.toList) : a = b := ByteArray.ext (Array.toList_inj.1 h)
theorem ba_app (a b : ByteArray) : (a ++ b).data.toList = a.data.toList ++ b.data.toList := by rw [ByteArray.data_append, Array.toList_append]
theorem join4 (a b c d : ByteArray) : joinV [a, b, c, d] ⟨#[32]⟩ = a ++ ⟨#[32]⟩ ++ b ++ ⟨#[32]⟩ ++ c ++ ⟨#[32]⟩ ++ d := by
  apply ba_ext
  simp [joinV, Lib.join, dlj, ba_app]
theorem join4_undo (a b d : ByteArray) : joinV [a, b, ⟨#[117, 110, 100, 111]⟩, d] ⟨#[32]⟩ = a ++ (⟨#[32]⟩ ++ b) ++ ⟨#[32, 117, 110, 100, 111, 32]⟩ ++ d := by
  apply ba_ext
  simp [joinV, Lib.join, dlj, ba_app]
def descB (r : Option (List UInt8)) (b : Bool) (u : Nat) : ByteArray := joinV [headB r, midB b, ⟨#[117, 110, 100, 111]⟩, fmtB (u : Int)] ⟨#[32]⟩
theorem headB_size (r : Option (List UInt8)) : (headB r).size ≤ 17 := by
  cases r with
  | none => show 4 ≤ 17; omega
  | some l =>
    unfold headB
    simp only
    split
    · rw [ByteArray.size_append, wordB_size]
      show 9 + _ ≤ _
      omega
    · rw [ByteArray.size_append]
      show 9 + 1 ≤ _
      omega
theorem fmtB_size (u : Nat) (h : u ≤ 4) : (fmtB (u : Int)).size = 1 := by
  have : ∀ u : Nat, u < 5 → (fmtB (u : Int)).size = 1 := by decide +kernel
  exact this u (by omega)
theorem firstV_some (l : List UInt8) : firstV (some l) = if l.length ≤ 8 then .tuple #[.string (wordB l), .bool true] else .tuple #[.string ⟨#[]⟩, .bool false] := rfl
set_option maxHeartbeats 4000000 in
set_option maxRecDepth 100000 in
theorem spec_DescribeCode_yes (k n : Nat) (o : ByteArray) (b : Bool) (hb1 : b = true ↔ OneP o k n) (w : World) (ho : o.size ≤ maxLen) (h : isCode k n o = true) :
    Calls Tryd.prog 5 #[.agg #[.int .i64 k, .int .i64 n, .string o]] w fun e w' => e = .returned (.string (descB (orpO o k n) b (leastU o k n))) ∧ Below w.heap.size w w' := by
  have HI := hid (fun w : World => spec_IsCode_c k n o w ho)
  rw [h] at HI
  have HO := hid (fun w : World => spec_IsOnto_x k n o w ho h)
  have HFO := hid (fun w : World => spec_FirstOrphan_x k n o w ho h)
  have H1 := hid (fun w : World => show Calls Tryd.prog 11 #[.agg #[.int .i64 k, .int .i64 n, .string o]] w fun e w' => e = .returned (.bool b) ∧ Below w.heap.size w w' from (spec_IsOneToOne_yes k n o w ho h).mono (by
    rintro e w' ⟨b', rfl, hb', hbel⟩
    have : b' = b := by rw [Bool.eq_iff_iff, hb', hb1]
    subst this
    exact ⟨rfl, hbel⟩))
  have HU := hid (fun w : World => spec_LeastUndoing_yes k n o w ho h)
  obtain ⟨u, hu⟩ : ∃ u, u = leastU o k n := ⟨_, rfl⟩
  have hu4 : u ≤ 4 := by rw [hu]; exact leastU_le o k n
  rw [← hu] at HU
  rw [← hu]
  have HFM := hid (fun w : World => spec_FormatInt_c (u : Int) w (by omega) (by omega))
  obtain ⟨f, hf⟩ : ∃ f, f = fmtB (u : Int) := ⟨_, rfl⟩
  have hf1 : f.size = 1 := by rw [hf]; exact fmtB_size u hu4
  rw [← hf] at HFM
  have HF := hid hf
  obtain ⟨r, hr⟩ : ∃ r, r = orpO o k n := ⟨_, rfl⟩
  rw [← hr] at HO HFO
  rw [← hr]
  have HBX := hid (fun (V : World) (hV : Below (w.heap.size + 1) (w.alloc (.cells #[.int .i64 k, .int .i64 n, .string o] 26)) V) => show (V.cell? ⟨w.heap.size, 0, none⟩ = some (.int .i64 k) ∧ V.cell? ⟨w.heap.size, 1, none⟩ = some (.int .i64 n) ∧ V.cell? ⟨w.heap.size, 2, none⟩ = some (.string o)) ∧ Below w.heap.size w V from ⟨⟨(box_kept hV 0).1, (box_kept hV 1).1, (box_kept hV 2).1⟩, ((Below.refl _ _).alloc (Nat.le_refl _) _).trans (hV.mono (by omega))⟩)
  have HBZ := hid (fun (V : World) (hV : Below (w.heap.size + 1) (w.alloc (.cells #[.int .i64 k, .int .i64 n, .string o] 26)) V) => show w.heap.size + 1 ≤ V.heap.size from by have := hV.size; rw [World.size_alloc] at this; exact this)
  clear hr hf hu h hb1
  go_enter Tryd.func5, Tryd.ntmps5
  go_wp2_with fail
  refine (HI.out _).mono ?_
  rintro e w1 ⟨rfl, hb⟩
  have HB := hid (show Below (w.heap.size + 1) (w.alloc (.cells #[.int .i64 k, .int .i64 n, .string o] 26)) w1 from hb.mono (by simp))
  clear hb HI
  obtain ⟨x, hx⟩ : ∃ x, x = headB r := ⟨_, rfl⟩
  have hx17 : x.size ≤ 17 := by rw [hx]; exact headB_size r
  have HX := hid hx
  clear hx
  obtain ⟨s0, s1, s2⟩ := (HBX.out _ HB.out).1
  go_wp2_with fail
  clear s0 s1 s2
  refine (HO.out _).mono ?_
  rintro e w2 ⟨rfl, hb⟩
  have HB := hid (HB.out.trans (hb.mono (HBZ.out _ HB.out)))
  clear hb
  go_upto_if 11 with fail
  go_cut [3, 4, 5] from 12 to 20 (fun x3 _ _ wx => x3 = .string x ∧ Hid (Below (w.heap.size + 1) (w.alloc (.cells #[.int .i64 k, .int .i64 n, .string o] 26)) wx))
  case first =>
    clear HO H1 HU HFM
    cases r with
    | none =>
      have hx4 : x = ⟨#[111, 110, 116, 111]⟩ := HX.out
      have HX4 := hid hx4
      clear hx4 hx17
      go_wp2
      go_meet
      case rel => exact ⟨by rw [HX4.out], HB⟩
    | some l =>
      rw [firstV_some] at HFO
      by_cases h8 : l.length ≤ 8
      · rw [if_pos h8] at HFO
        obtain ⟨y, hy⟩ : ∃ y, y = wordB l := ⟨_, rfl⟩
        have hy8 : y.size ≤ 8 := by rw [hy, wordB_size]; exact h8
        have hg : ¬ ((9223372036854775807 : Int) < 9 + (y.size : Int)) := by omega
        rw [← hy] at HFO
        have HX4 := hid (show x = ⟨#[110, 111, 116, 32, 111, 110, 116, 111, 32]⟩ ++ y by rw [HX.out, headB, if_pos h8, hy])
        clear hx17 hy h8
        obtain ⟨s0, s1, s2⟩ := (HBX.out _ HB.out).1
        go_wp2_with fail
        clear s0 s1 s2
        refine (HFO.out _).mono ?_
        rintro e w3 ⟨rfl, hb⟩
        have HB := hid (HB.out.trans (hb.mono (HBZ.out _ HB.out)))
        clear hb
        go_wp2
        go_meet
        case rel => exact ⟨by rw [HX4.out], HB⟩
      · rw [if_neg h8] at HFO
        have HX4 := hid (show x = ⟨#[110, 111, 116, 32, 111, 110, 116, 111, 32, 63]⟩ by rw [HX.out, headB, if_neg h8]; rfl)
        clear hx17 h8
        obtain ⟨s0, s1, s2⟩ := (HBX.out _ HB.out).1
        go_wp2_with fail
        clear s0 s1 s2
        refine (HFO.out _).mono ?_
        rintro e w3 ⟨rfl, hb⟩
        have HB := hid (HB.out.trans (hb.mono (HBZ.out _ HB.out)))
        clear hb
        go_wp2
        go_meet
        case rel => exact ⟨by rw [HX4.out]; first | done | rfl, HB⟩
  case rest =>
    obtain ⟨rfl, HB⟩ := hcut
    clear HFO HO
    obtain ⟨s0, s1, s2⟩ := (HBX.out _ HB.out).1
    go_wp2_with fail
    clear s0 s1 s2
    refine (H1.out _).mono ?_
    rintro e w5 ⟨rfl, hb⟩
    have HB := hid (HB.out.trans (hb.mono (HBZ.out _ HB.out)))
    clear hb
    cases b
    · have g1 : ¬ ((9223372036854775807 : Int) < (x.size : Int) + 15) := by omega
      have g2 : ¬ ((9223372036854775807 : Int) < (x.size : Int) + 15 + 6) := by omega
      have g3 : ¬ ((9223372036854775807 : Int) < (x.size : Int) + 15 + 6 + 1) := by omega
      have HV := hid (show descB r false u = x ++ ⟨#[32, 110, 111, 116, 32, 111, 110, 101, 32, 116, 111, 32, 111, 110, 101]⟩ ++ ⟨#[32, 117, 110, 100, 111, 32]⟩ ++ f by unfold descB; rw [join4_undo, ← HX.out, ← HF.out]; rfl)
      obtain ⟨s0, s1, s2⟩ := (HBX.out _ HB.out).1
      go_wp2_with fail
      clear s0 s1 s2
      refine (HU.out _).mono ?_
      rintro e w6 ⟨rfl, hb⟩
      have HB := hid (HB.out.trans (hb.mono (HBZ.out _ HB.out)))
      clear hb
      go_wp2_with fail
      refine (HFM.out _).mono ?_
      rintro e w7 ⟨rfl, hb⟩
      have HB := hid (HB.out.trans (hb.mono (HBZ.out _ HB.out)))
      clear hb
      go_wp2
      go_ret
      exact ⟨by rw [HV.out]; rfl, (HBX.out _ HB.out).2⟩
    · have g1 : ¬ ((9223372036854775807 : Int) < (x.size : Int) + 11) := by omega
      have g2 : ¬ ((9223372036854775807 : Int) < (x.size : Int) + 11 + 6) := by omega
      have g3 : ¬ ((9223372036854775807 : Int) < (x.size : Int) + 11 + 6 + 1) := by omega
      have HV := hid (show descB r true u = x ++ ⟨#[32, 111, 110, 101, 32, 116, 111, 32, 111, 110, 101]⟩ ++ ⟨#[32, 117, 110, 100, 111, 32]⟩ ++ f by unfold descB; rw [join4_undo, ← HX.out, ← HF.out]; rfl)
      obtain ⟨s0, s1, s2⟩ := (HBX.out _ HB.out).1
      go_wp2_with fail
      clear s0 s1 s2
      refine (HU.out _).mono ?_
      rintro e w6 ⟨rfl, hb⟩
      have HB := hid (HB.out.trans (hb.mono (HBZ.out _ HB.out)))
      clear hb
      go_wp2_with fail
      refine (HFM.out _).mono ?_
      rintro e w7 ⟨rfl, hb⟩
      have HB := hid (HB.out.trans (hb.mono (HBZ.out _ HB.out)))
      clear hb
      go_wp2
      go_ret
      exact ⟨by rw [HV.out]; rfl, (HBX.out _ HB.out).2⟩
theorem line_c (B g c n : Nat) (xs : List ByteArray) (w : World) (hn : xs.length = n) (hown : w.ownsRow B 9 1 (.slice (some ⟨g, 0, none⟩) n c) n (strVals xs)) (hlim : n ≤ 1000000000) (hlen : (Lib.join (xs.map dlj) [32]).length ≤ 1000000000) :
    Calls Tryd.prog 18 #[.slice (some ⟨g, 0, none⟩) n c] w fun e w' => e = .returned (.string (joinV xs ⟨#[32]⟩)) ∧ Below w.heap.size w w' := by
  go_enter Tryd.func18, Tryd.ntmps18
  go_wp2_with fail
  refine (implJoin_c B g c n xs ⟨#[32]⟩ _ hn hown hlim hlen).mono ?_
  rintro e w1 ⟨rfl, hb⟩
  go_wp2
  go_ret
  exact ⟨rfl, hb⟩
set_option maxHeartbeats 4000000 in
set_option maxRecDepth 100000 in
theorem impl_DescribeCode_yes (k n : Nat) (o : ByteArray) (b : Bool) (hb1 : b = true ↔ OneP o k n) (w : World) (ho : o.size ≤ maxLen) (h : isCode k n o = true) (ht : TabW w) :
    Calls Tryd.prog 7 #[.agg #[.int .i64 k, .int .i64 n, .string o]] w fun e w' => e = .returned (.string (descB (orpO o k n) b (leastU o k n))) ∧ Below w.heap.size w w' := by
  have HI := hid (fun w : World => impl_IsCode_c k n o w ho)
  rw [h] at HI
  have HO := hid (fun w : World => impl_IsOnto_x k n o w ho h)
  have HFO := hid (fun w : World => impl_FirstOrphan_x k n o w ho h)
  have H1 := hid (fun w : World => show Calls Tryd.prog 17 #[.agg #[.int .i64 k, .int .i64 n, .string o]] w fun e w' => e = .returned (.bool b) ∧ Below w.heap.size w w' from (impl_IsOneToOne_yes k n o w ho h).mono (by
    rintro e w' ⟨b', rfl, hb', hbel⟩
    have : b' = b := by rw [Bool.eq_iff_iff, hb', hb1]
    subst this
    exact ⟨rfl, hbel⟩))
  have HU := hid (fun w : World => impl_LeastUndoing_yes k n o w ho h)
  obtain ⟨u, hu⟩ : ∃ u, u = leastU o k n := ⟨_, rfl⟩
  have hu4 : u ≤ 4 := by rw [hu]; exact leastU_le o k n
  rw [← hu] at HU
  rw [← hu]
  have HBX := hid (fun (V : World) (hV : Below (w.heap.size + 1) (w.alloc (.cells #[.int .i64 k, .int .i64 n, .string o] 26)) V) => show (V.cell? ⟨w.heap.size, 0, none⟩ = some (.int .i64 k) ∧ V.cell? ⟨w.heap.size, 1, none⟩ = some (.int .i64 n) ∧ V.cell? ⟨w.heap.size, 2, none⟩ = some (.string o)) ∧ Below w.heap.size w V from ⟨⟨(box_kept hV 0).1, (box_kept hV 1).1, (box_kept hV 2).1⟩, ((Below.refl _ _).alloc (Nat.le_refl _) _).trans (hV.mono (by omega))⟩)
  have HFM := hid (fun (V : World) (hV : Below (w.heap.size + 1) (w.alloc (.cells #[.int .i64 k, .int .i64 n, .string o] 26)) V) => impl_FormatInt_c (u : Int) V ⟨by omega, by omega⟩ (tab_below ht (HBX.out V hV).2 (Nat.le_refl _)))
  obtain ⟨f, hf⟩ : ∃ f, f = fmtB (u : Int) := ⟨_, rfl⟩
  have hf1 : f.size = 1 := by rw [hf]; exact fmtB_size u hu4
  rw [← hf] at HFM
  have HF := hid hf
  obtain ⟨r, hr⟩ : ∃ r, r = orpO o k n := ⟨_, rfl⟩
  rw [← hr] at HO HFO
  rw [← hr]
  have HBZ := hid (fun (V : World) (hV : Below (w.heap.size + 1) (w.alloc (.cells #[.int .i64 k, .int .i64 n, .string o] 26)) V) => show w.heap.size + 1 ≤ V.heap.size from by have := hV.size; rw [World.size_alloc] at this; exact this)
  clear hr hf hu h hb1 ht
  go_enter Tryd.func7, Tryd.ntmps7
  go_wp2_with fail
  refine (HI.out _).mono ?_
  rintro e w1 ⟨rfl, hb⟩
  have HB := hid (show Below (w.heap.size + 1) (w.alloc (.cells #[.int .i64 k, .int .i64 n, .string o] 26)) w1 from hb.mono (by simp))
  clear hb HI
  obtain ⟨x, hx⟩ : ∃ x, x = headB r := ⟨_, rfl⟩
  have hx17 : x.size ≤ 17 := by rw [hx]; exact headB_size r
  have HX := hid hx
  clear hx
  obtain ⟨s0, s1, s2⟩ := (HBX.out _ HB.out).1
  go_wp2_with fail
  clear s0 s1 s2
  refine (HO.out _).mono ?_
  rintro e w2 ⟨rfl, hb⟩
  have HB := hid (HB.out.trans (hb.mono (HBZ.out _ HB.out)))
  clear hb
  go_upto_if 12 with fail
  go_cut [3, 4, 5] from 13 to 21 (fun x3 _ _ wx => x3 = .string x ∧ Hid (Below (w.heap.size + 1) (w.alloc (.cells #[.int .i64 k, .int .i64 n, .string o] 26)) wx))
  case first =>
    clear HO H1 HU HFM
    cases r with
    | none =>
      have hx4 : x = ⟨#[111, 110, 116, 111]⟩ := HX.out
      have HX4 := hid hx4
      clear hx4 hx17
      go_wp2
      go_meet
      case rel => exact ⟨by rw [HX4.out], HB⟩
    | some l =>
      rw [firstV_some] at HFO
      by_cases h8 : l.length ≤ 8
      · rw [if_pos h8] at HFO
        obtain ⟨y, hy⟩ : ∃ y, y = wordB l := ⟨_, rfl⟩
        have hy8 : y.size ≤ 8 := by rw [hy, wordB_size]; exact h8
        have hg : ¬ ((9223372036854775807 : Int) < 9 + (y.size : Int)) := by omega
        rw [← hy] at HFO
        have HX4 := hid (show x = ⟨#[110, 111, 116, 32, 111, 110, 116, 111, 32]⟩ ++ y by rw [HX.out, headB, if_pos h8, hy])
        clear hx17 hy h8
        obtain ⟨s0, s1, s2⟩ := (HBX.out _ HB.out).1
        go_wp2_with fail
        clear s0 s1 s2
        refine (HFO.out _).mono ?_
        rintro e w3 ⟨rfl, hb⟩
        have HB := hid (HB.out.trans (hb.mono (HBZ.out _ HB.out)))
        clear hb
        go_wp2
        go_meet
        case rel => exact ⟨by rw [HX4.out], HB⟩
      · rw [if_neg h8] at HFO
        have HX4 := hid (show x = ⟨#[110, 111, 116, 32, 111, 110, 116, 111, 32, 63]⟩ by rw [HX.out, headB, if_neg h8]; rfl)
        clear hx17 h8
        obtain ⟨s0, s1, s2⟩ := (HBX.out _ HB.out).1
        go_wp2_with fail
        clear s0 s1 s2
        refine (HFO.out _).mono ?_
        rintro e w3 ⟨rfl, hb⟩
        have HB := hid (HB.out.trans (hb.mono (HBZ.out _ HB.out)))
        clear hb
        go_wp2
        go_meet
        case rel => exact ⟨by rw [HX4.out]; first | done | rfl, HB⟩
  case rest =>
    obtain ⟨rfl, HB⟩ := hcut
    clear HFO HO
    obtain ⟨s0, s1, s2⟩ := (HBX.out _ HB.out).1
    go_wp2_with fail
    clear s0 s1 s2
    refine (H1.out _).mono ?_
    rintro e w5 ⟨rfl, hb⟩
    have HB := hid (HB.out.trans (hb.mono (HBZ.out _ HB.out)))
    clear hb
    cases b
    · have HV := hid (show descB r false u = joinV [x, ⟨#[110, 111, 116, 32, 111, 110, 101, 32, 116, 111, 32, 111, 110, 101]⟩, ⟨#[117, 110, 100, 111]⟩, f] ⟨#[32]⟩ by unfold descB; rw [← HX.out, ← HF.out]; rfl)
      obtain ⟨s0, s1, s2⟩ := (HBX.out _ HB.out).1
      go_wp2_with fail
      clear s0 s1 s2
      refine (HU.out _).mono ?_
      rintro e w6 ⟨rfl, hb⟩
      have HB := hid (HB.out.trans (hb.mono (HBZ.out _ HB.out)))
      clear hb
      go_wp2_with fail
      refine (HFM.out _ HB.out).mono ?_
      rintro e w7 ⟨rfl, hb⟩
      have HB := hid (HB.out.trans (hb.mono (HBZ.out _ HB.out)))
      clear hb
      have hlit := owns_lit3 (w := w7) (base := w7.heap.size) (e := 9) #[.string x, .string ⟨#[110, 111, 116, 32, 111, 110, 101, 32, 116, 111, 32, 111, 110, 101]⟩, .string ⟨#[117, 110, 100, 111]⟩, .string f] (strVals [x, ⟨#[110, 111, 116, 32, 111, 110, 101, 32, 116, 111, 32, 111, 110, 101]⟩, ⟨#[117, 110, 100, 111]⟩, f]) rfl (Nat.le_refl _) (by unfold maxLen; simp)
      go_wp2_with fail
      refine (line_c w7.heap.size w7.heap.size 4 4 [x, ⟨#[110, 111, 116, 32, 111, 110, 101, 32, 116, 111, 32, 111, 110, 101]⟩, ⟨#[117, 110, 100, 111]⟩, f] _ rfl hlit (by omega) (by
        have h1 := join_le ([x, ⟨#[110, 111, 116, 32, 111, 110, 101, 32, 116, 111, 32, 111, 110, 101]⟩, (⟨#[117, 110, 100, 111]⟩ : ByteArray), f].map dlj) [32]
        simp only [List.map_cons, List.map_nil, Lib.lens, List.sum_cons, List.sum_nil, dlj, size_list, List.length_cons, List.length_nil] at h1 ⊢
        have h2 : (ByteArray.mk #[117, 110, 100, 111]).size = 4 := rfl
        have h3 : (⟨#[110, 111, 116, 32, 111, 110, 101, 32, 116, 111, 32, 111, 110, 101]⟩ : ByteArray).size ≤ 14 := by decide
        omega)).mono ?_
      rintro e w8 ⟨rfl, hb⟩
      have HBF := hid (((HBX.out _ HB.out).2.alloc ((HBX.out _ HB.out).2.size) _).trans (hb.mono (by have := (HBX.out _ HB.out).2.size; simp; omega)))
      go_wp2
      go_ret
      exact ⟨by rw [HV.out]; rfl, HBF.out⟩
    · have HV := hid (show descB r true u = joinV [x, ⟨#[111, 110, 101, 32, 116, 111, 32, 111, 110, 101]⟩, ⟨#[117, 110, 100, 111]⟩, f] ⟨#[32]⟩ by unfold descB; rw [← HX.out, ← HF.out]; rfl)
      obtain ⟨s0, s1, s2⟩ := (HBX.out _ HB.out).1
      go_wp2_with fail
      clear s0 s1 s2
      refine (HU.out _).mono ?_
      rintro e w6 ⟨rfl, hb⟩
      have HB := hid (HB.out.trans (hb.mono (HBZ.out _ HB.out)))
      clear hb
      go_wp2_with fail
      refine (HFM.out _ HB.out).mono ?_
      rintro e w7 ⟨rfl, hb⟩
      have HB := hid (HB.out.trans (hb.mono (HBZ.out _ HB.out)))
      clear hb
      have hlit := owns_lit3 (w := w7) (base := w7.heap.size) (e := 9) #[.string x, .string ⟨#[111, 110, 101, 32, 116, 111, 32, 111, 110, 101]⟩, .string ⟨#[117, 110, 100, 111]⟩, .string f] (strVals [x, ⟨#[111, 110, 101, 32, 116, 111, 32, 111, 110, 101]⟩, ⟨#[117, 110, 100, 111]⟩, f]) rfl (Nat.le_refl _) (by unfold maxLen; simp)
      go_wp2_with fail
      refine (line_c w7.heap.size w7.heap.size 4 4 [x, ⟨#[111, 110, 101, 32, 116, 111, 32, 111, 110, 101]⟩, ⟨#[117, 110, 100, 111]⟩, f] _ rfl hlit (by omega) (by
        have h1 := join_le ([x, ⟨#[111, 110, 101, 32, 116, 111, 32, 111, 110, 101]⟩, (⟨#[117, 110, 100, 111]⟩ : ByteArray), f].map dlj) [32]
        simp only [List.map_cons, List.map_nil, Lib.lens, List.sum_cons, List.sum_nil, dlj, size_list, List.length_cons, List.length_nil] at h1 ⊢
        have h2 : (ByteArray.mk #[117, 110, 100, 111]).size = 4 := rfl
        have h3 : (⟨#[111, 110, 101, 32, 116, 111, 32, 111, 110, 101]⟩ : ByteArray).size ≤ 14 := by decide
        omega)).mono ?_
      rintro e w8 ⟨rfl, hb⟩
      have HBF := hid (((HBX.out _ HB.out).2.alloc ((HBX.out _ HB.out).2.size) _).trans (hb.mono (by have := (HBX.out _ HB.out).2.size; simp; omega)))
      go_wp2
      go_ret
      exact ⟨by rw [HV.out]; rfl, HBF.out⟩
end Go.Proofs.YtcmmlldincflkaaDoor
