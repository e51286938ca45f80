/- Codes upon words and rings: both functions. Conditions: valid codes, words of their letters. -/
import Derived.Test.YtcmmlldincflkaaDoorGive
import Derived.Test.YtcmmlldincflkaaDoorStep
import Derived.Test.YtcmmlldincflkaaDoorNumber
import Derived.Test.YtcmmlldincflkaaDoorShelf
import Derived.Lib.Repeat
namespace Go.Proofs.YtcmmlldincflkaaDoor
open Go.RowKit

/-- A value appended, the new row's block being the last. -/
theorem step_app2 {P : Program} {w0 wr : World} {ops : Array Oper} {o : Oper} {a : Act} {K : Act → World → Prop} {Q : Exit → Act → World → Prop} {E : Prop}
    (hg : o.guard = none) (s x : Operand) (t : TypeId) (hop : o.op = Op.call { callee := Callee.builtin Builtin.append, args := #[s, x], argTypes := #[t, t] })
    (B : Nat) (e : TypeId) (z : Value) (bytes : Nat) (h1 : P.underlying t = some (.slice e)) (hinfo : (P.info? e).map (fun i => (i.zero, i.size, i.bytes)) = some (some z, 1, bytes)) (hzs : z.cells.size = 1)
    (v : Value) (m : Nat) (xs : List Value) (u : Value) (hown : wr.ownsRow B e 1 v m xs) (hs : a.eval s = v) (hx : a.eval x = .slice (some ⟨wr.heap.size, 0, none⟩) 1 1)
    (hu : u.oneCell' = true) (hlim : (m + 1) * bytes ≤ 140737488355328) (hlim2 : m + 1 ≤ maxLen) (hbel : Below B w0 wr) (hB : B ≤ wr.heap.size)
    (hK : ∀ v' w1, w1.ownsRow B e 1 v' (m + 1) (xs ++ [u]) → Below B w0 w1 → wr.grownBy w1 v.ownBlock → K (a.put o.dst v') w1) :
    if Region.wanted o (yielded ops a.tmps) = true then Oper.wp P o a (wr.alloc (.cells #[u] e)) K Q else E := by
  obtain ⟨i, hi, hz, hz1, hz2⟩ := info_parts hinfo
  refine step_append_lies _ hg s x t hop B e i z 1 bytes h1 hi hz hz1 hz2 hzs (by decide) v m xs hs (hown.alloc _) ⟨wr.heap.size, 0, none⟩ 1 1 [u] hx rfl ?_ ?_ (by decide) hlim2 hlim (by simp; omega) (wr.heap.size + 1) (by simp) ?_
  · intro j y hj
    match j, hj with
    | 0, hj => simp at hj; subst hj; simp [Addr.add]
  · intro y hy; simp at hy; subst hy; exact hu
  · intro g cap w1 hown' hgrow _ _
    have hgr : wr.grownBy w1 v.ownBlock := grown_trans (World.grownBy_alloc _ _ _) hgrow
    exact hK _ w1 hown' (hbel.grown hgr hB (fun k hk => (hown.lt k hk).1)) hgr

def madeB (f : Nat → UInt8) (m : Nat) : List UInt8 := (List.range m).map f
theorem madeB_succ (f : Nat → UInt8) (m : Nat) : madeB f (m + 1) = madeB f m ++ [f m] := by simp [madeB, List.range_succ]
theorem madeB_len (f : Nat → UInt8) (m : Nat) : (madeB f m).length = m := by simp [madeB]
/-- The letter for the part of the width n from i on. -/
def apB (o : ByteArray) (k n : Nat) (l : List UInt8) (i : Nat) : UInt8 := giveB o (idxOf k ((l.drop i).take n))
theorem lets_part {k : Int} {l : List UInt8} (h : lets k l = true) (i n : Nat) : lets k ((l.drop i).take n) = true := by
  unfold lets at *
  rw [List.all_eq_true] at *
  exact fun c hc => h c (List.mem_of_mem_drop (List.mem_of_mem_take hc))
theorem part_ext {s : ByteArray} {i n : Nat} : (s.extract i (i + n)).data.toList = (s.data.toList.drop i).take n := by
  rw [ByteArray.data_extract, Array.toList_extract]
  simp [List.extract_eq_take_drop]
theorem part_size {s : ByteArray} {i n : Nat} (h : i + n ≤ s.size) : (s.extract i (i + n)).size = n := by rw [ByteArray.size_extract]; omega
theorem byteVals_madeB (f : Nat → UInt8) (m : Nat) : byteVals (madeB f (m + 1)) = byteVals (madeB f m) ++ [.int .u8 ((f m).toNat : Int)] := by rw [madeB_succ]; simp [byteVals]

set_option maxHeartbeats 2000000 in
set_option maxRecDepth 100000 in
theorem impl_apply_c (k n : Nat) (o s : ByteArray) (w : World) (hk : k ≤ 3) (hn1 : 1 ≤ n) (hn : n ≤ 4) (ho : k ^ n ≤ o.size) (hl : lets k s.data.toList = true) (hs : n ≤ s.size) (hs2 : s.size ≤ 1048576) :
    Calls Tryd.prog 49 #[.agg #[.int .i64 k, .int .i64 n, .string o], .string s] w fun e w' => e = .returned (.string ⟨(madeB (apB o k n s.data.toList) (s.size + 1 - n)).toArray⟩) ∧ Below w.heap.size w w' := by
  have HG := hid (fun (i : Nat) (w : World) (hi : i + n ≤ s.size) => show Calls Tryd.prog 58 #[.agg #[.int .i64 k, .int .i64 n, .string o], .string (s.extract i (i + n))] w fun e w' => e = .returned (.int .u8 ((apB o k n s.data.toList i).toNat : Int)) ∧ Below w.heap.size w w' from by
    have := gives_c k n o (s.extract i (i + n)) w hk (by rw [part_ext]; exact lets_part hl i n) (by rw [part_size hi]; omega) (by rw [part_size hi]; exact ho)
    rw [part_ext] at this
    exact this)
  obtain ⟨f, hf⟩ : ∃ f, f = apB o k n s.data.toList := ⟨_, rfl⟩
  rw [← hf] at HG
  rw [← hf]
  obtain ⟨m, hm⟩ : ∃ m, s.size + 1 = m + n := ⟨s.size + 1 - n, by omega⟩
  have hmm : s.size + 1 - n = m := by omega
  rw [hmm]
  have HM := hid hm
  clear hf hm hmm hl
  go_enter Tryd.func49, Tryd.ntmps49
  go_wp2
  go_loopw [5, 6] (fun v i wr => ∃ j : Nat, j ≤ m ∧ i = .int .i64 j ∧ wr.ownsRow (w.heap.size + 1) 5 1 v j (byteVals (madeB f j)) ∧ Below (w.heap.size + 1) (w.alloc (.cells #[.int .i64 k, .int .i64 n, .string o] 26)) wr) (fun _ i _ => m - (intOf i).toNat)
  case atStart => exact ⟨0, by omega, rfl, by simpa [madeB, byteVals] using World.ownsRow_made (w.alloc (.cells #[.int .i64 k, .int .i64 n, .string o] 26)) #[] 0 (e := 5) (size := 1) (base := w.heap.size + 1) (by simp) (by omega) rfl, (Below.refl _ _).alloc (by simp) _⟩
  case round =>
    obtain ⟨j, hj, rfl, hown, hbel⟩ := hrel
    have hbox := box_kept hbel
    have hc0 : wr.cell? ⟨w.heap.size, 0, none⟩ = some (.int .i64 k) := (hbox 0).1
    have hc1 : wr.cell? ⟨w.heap.size, 1, none⟩ = some (.int .i64 n) := (hbox 1).1
    have hc2 : wr.cell? ⟨w.heap.size, 2, none⟩ = some (.string o) := (hbox 2).1
    have hsz : w.heap.size + 1 ≤ wr.heap.size := by have := hbel.size; simpa using this
    clear hbox
    have hsm := HM.out
    by_cases hlt : j < m
    · have hjn : (j : Int) + (n : Int) ≤ (s.size : Int) := by omega
      have hj0 : (0 : Int) ≤ (j : Int) := by omega
      have hjj : (j : Int) ≤ (j : Int) + (n : Int) := by omega
      have hw1 : IntKind.i64.wrap ((j : Int) + (n : Int)) = (j : Int) + (n : Int) := IntWalk.i64_in _ (by omega)
      have hw2 : ((j : Int) + (n : Int)).toNat = j + n := by omega
      have HGj := hid (fun w => HG.out j w (by omega))
      have hK := hid (show ∀ V, Below (w.heap.size + 1) (w.alloc (.cells #[.int .i64 k, .int .i64 n, .string o] 26)) V → V.cell? ⟨w.heap.size, 0, none⟩ = some (.int .i64 k) ∧ V.cell? ⟨w.heap.size, 1, none⟩ = some (.int .i64 n) ∧ V.cell? ⟨w.heap.size, 2, none⟩ = some (.string o) ∧ Below (w.heap.size + 1) (w.alloc (.cells #[.int .i64 k, .int .i64 n, .string o] 26)) V from fun V hV => ⟨(box_kept hV 0).1, (box_kept hV 1).1, (box_kept hV 2).1, hV⟩)
      have hown0 := owns_below hown (Below.refl _ _).drew
      have hbel0 := hbel.drew
      have HO := hid hown0
      clear hown hown0 hsm
      go_wp2
      go_region_held3 (fun V => V.cell? ⟨w.heap.size, 0, none⟩ = some (.int .i64 k) ∧ V.cell? ⟨w.heap.size, 1, none⟩ = some (.int .i64 n) ∧ V.cell? ⟨w.heap.size, 2, none⟩ = some (.string o) ∧ Below (w.heap.size + 1) (w.alloc (.cells #[.int .i64 k, .int .i64 n, .string o] 26)) V)
        (first | exact hK.out _ hbel0 | exact hK.out _ hbel' | exact hK.out _ (hbel1.alloc (by omega) _) | exact hK.out _ hbel1)
        (first | (go_at_call 58; refine (HGj.out _).mono ?_; rintro e w1 ⟨rfl, hb1⟩; have hbel1 := hbel0.trans (hb1.mono hsz); have hown1 := owns_below HO.out hb1; have hsz1 : w.heap.size + 1 ≤ w1.heap.size := Nat.le_trans hsz hb1.size) | (refine step_app2 (by rfl) _ _ 41 (by rfl) (w.heap.size + 1) 5 (.int .u8 0) 1 Tryd.underlying41 infoU8b rfl _ j (byteVals (madeB f j)) _ hown1 (by rfl) (by rfl) rfl (by omega) (by unfold maxLen; omega) hbel1 hsz1 ?_; intro v' w3 hown' hbel' hgr'))
      go_wp2
      go_roundw
      case rel => exact ⟨j + 1, by omega, by go_num, by rw [byteVals_madeB]; exact hown', hbel'⟩
      case measure => simp [intOf]; omega
    · obtain rfl : j = m := by omega
      have hjn : ¬ ((j : Int) + (n : Int) ≤ (s.size : Int)) := by omega
      have hj2 : j ≤ 1048577 := by omega
      obtain ⟨ad, c, rfl, hr⟩ := owns_rowAt hown (by omega)
      clear hown hsm
      go_wp2_with (with_reducible refine wpList_convs rfl _ 41 9 5 rfl Tryd.underlying41 Tryd.underlying5 Tryd.underlying9 _ j _ (madeB f j) rfl hr ?_)
      go_ret
      exact ⟨rfl, ((Below.refl _ _).alloc (Nat.le_refl _) _).trans (hbel.mono (by omega))⟩
set_option maxHeartbeats 2000000 in
set_option maxRecDepth 100000 in
theorem spec_l11Apply_c (k n : Nat) (o s : ByteArray) (w : World) (hk : k ≤ 3) (hn1 : 1 ≤ n) (hn : n ≤ 4) (ho : k ^ n ≤ o.size) (ho2 : o.size ≤ 1048576) (hl : lets k s.data.toList = true) (hs : n ≤ s.size) (hs2 : s.size ≤ 1048576) :
    Calls Tryd.prog 43 #[.agg #[.int .i64 k, .int .i64 n, .string o], .string s] w fun e w' => e = .returned (.string ⟨(madeB (apB o k n s.data.toList) (s.size + 1 - n)).toArray⟩) ∧ Below w.heap.size w w' := by
  have HG := hid (fun (i : Nat) (w : World) (hi : i + n ≤ s.size) => show Calls Tryd.prog 50 #[.agg #[.int .i64 k, .int .i64 n, .string o], .string (s.extract i (i + n))] w fun e w' => e = .returned (.string ⟨#[apB o k n s.data.toList i]⟩) ∧ Below w.heap.size w w' from by
    have := l11Letter_c k n o (s.extract i (i + n)) w hk (by rw [part_ext]; exact lets_part hl i n) (by rw [part_size hi]; omega) (by rw [part_size hi]; exact ho) ho2
    rw [part_ext] at this
    exact this)
  obtain ⟨f, hf⟩ : ∃ f, f = apB o k n s.data.toList := ⟨_, rfl⟩
  rw [← hf] at HG
  rw [← hf]
  obtain ⟨m, hm⟩ : ∃ m, s.size + 1 = m + n := ⟨s.size + 1 - n, by omega⟩
  have hmm : s.size + 1 - n = m := by omega
  rw [hmm]
  have HM := hid hm
  clear hf hm hmm hl
  go_enter Tryd.func43, Tryd.ntmps43
  go_wp2
  go_loopw [5, 6] (fun v i wr => ∃ (j : Nat) (x : ByteArray), j ≤ m ∧ i = .int .i64 j ∧ v = .string x ∧ Hid (x = ⟨(madeB f j).toArray⟩) ∧ Below (w.heap.size + 1) (w.alloc (.cells #[.int .i64 k, .int .i64 n, .string o] 26)) wr) (fun _ i _ => m - (intOf i).toNat)
  case atStart => exact ⟨0, _, by omega, rfl, rfl, rfl, Below.refl _ _⟩
  case round =>
    obtain ⟨j, x, hj, rfl, rfl, HX, hbel⟩ := hrel
    have hbox := box_kept hbel
    have hc0 : wr.cell? ⟨w.heap.size, 0, none⟩ = some (.int .i64 k) := (hbox 0).1
    have hc1 : wr.cell? ⟨w.heap.size, 1, none⟩ = some (.int .i64 n) := (hbox 1).1
    have hc2 : wr.cell? ⟨w.heap.size, 2, none⟩ = some (.string o) := (hbox 2).1
    have hsz : w.heap.size + 1 ≤ wr.heap.size := by have := hbel.size; simpa using this
    clear hbox
    have hsm := HM.out
    by_cases hlt : j < m
    · have hjn : (j : Int) + (n : Int) ≤ (s.size : Int) := by omega
      have hj0 : (0 : Int) ≤ (j : Int) := by omega
      have hjj : (j : Int) ≤ (j : Int) + (n : Int) := by omega
      have hw1 : IntKind.i64.wrap ((j : Int) + (n : Int)) = (j : Int) + (n : Int) := IntWalk.i64_in _ (by omega)
      have hw2 : ((j : Int) + (n : Int)).toNat = j + n := by omega
      have hcat : ¬ (9223372036854775807 < x.size + 1) := by rw [HX.out]; show ¬ (9223372036854775807 < (List.toArray _).size + 1); simp [madeB_len]; first | done | omega
      have HGj := hid (fun w => HG.out j w (by omega))
      have HST := hid (show x ++ ⟨#[f j]⟩ = ⟨(madeB f (j + 1)).toArray⟩ by
        rw [HX.out, madeB_succ, show (ByteArray.mk #[f j]) = ⟨[f j].toArray⟩ from rfl, ByteArray.mk_append_mk]; first | done | simp)
      have hK := hid (show ∀ V, Below (w.heap.size + 1) (w.alloc (.cells #[.int .i64 k, .int .i64 n, .string o] 26)) V → V.cell? ⟨w.heap.size, 0, none⟩ = some (.int .i64 k) ∧ V.cell? ⟨w.heap.size, 1, none⟩ = some (.int .i64 n) ∧ V.cell? ⟨w.heap.size, 2, none⟩ = some (.string o) ∧ Below (w.heap.size + 1) (w.alloc (.cells #[.int .i64 k, .int .i64 n, .string o] 26)) V from fun V hV => ⟨(box_kept hV 0).1, (box_kept hV 1).1, (box_kept hV 2).1, hV⟩)
      have hbel0 := hbel.drew
      clear hsm
      go_wp2
      go_region_held3 (fun V => V.cell? ⟨w.heap.size, 0, none⟩ = some (.int .i64 k) ∧ V.cell? ⟨w.heap.size, 1, none⟩ = some (.int .i64 n) ∧ V.cell? ⟨w.heap.size, 2, none⟩ = some (.string o) ∧ Below (w.heap.size + 1) (w.alloc (.cells #[.int .i64 k, .int .i64 n, .string o] 26)) V)
        (first | exact hK.out _ hbel0 | exact hK.out _ hbel1)
        (first | (go_at_call 50; refine (HGj.out _).mono ?_; rintro e w1 ⟨rfl, hb1⟩; have hbel1 := hbel0.trans (hb1.mono hsz)))
      go_wp2
      go_roundw
      case rel => exact ⟨j + 1, _, by omega, by go_num, rfl, by show _ = _; rw [HST.out], hbel1⟩
      case measure => simp [intOf]; omega
    · obtain rfl : j = m := by omega
      have hjn : ¬ ((j : Int) + (n : Int) ≤ (s.size : Int)) := by omega
      have hj2 : j ≤ 1048577 := by omega
      clear hsm
      go_wp2
      go_ret
      exact ⟨ret_str HX.out, ((Below.refl _ _).alloc (Nat.le_refl _) _).trans (hbel.mono (by omega))⟩
end Go.Proofs.YtcmmlldincflkaaDoor
