/- Codes made by a function, mirrored codes: both functions. Conditions: valid codes. -/
import Derived.Test.YtcmmlldincflkaaSrch
import Derived.Test.YtcmmlldincflkaaBytes
import Derived.Test.YtcmmlldincflkaaNumber
namespace Go.Proofs.Ytcmmlldincflkaa
open Go.RowKit

/-- The letters that a function gives. -/
def outB (f : Nat → UInt8) (m : Nat) : List UInt8 := (List.range m).map f
theorem outB_succ (f : Nat → UInt8) (m : Nat) : byteVals (outB f (m + 1)) = byteVals (outB f m) ++ [.int .u8 ((f m).toNat : Int)] := by simp [outB, byteVals, List.range_succ]
theorem outB_len (f : Nat → UInt8) (m : Nat) : (outB f m).length = m := by simp [outB]
theorem outB_ext {f g : Nat → UInt8} {m : Nat} (h : ∀ i, i < m → f i = g i) : outB f m = outB g m := List.map_congr_left fun i hi => h i (List.mem_range.1 hi)
/-- A value that gives letters to words: called with the word number i it returns f i. -/
def Gives (F : FuncId) (cap : Value) (k n : Nat) (f : Nat → UInt8) (W : World) : Prop :=
  ∀ i w, i < k ^ n → Below W.heap.size W w → Calls Try.prog F #[.string (wdB k n i), cap] w fun e w' => e = .returned (.int .u8 ((f i).toNat : Int)) ∧ Below w.heap.size w w'

set_option maxHeartbeats 2000000 in
set_option maxRecDepth 100000 in
theorem madeCode_c (k n : Nat) (F : FuncId) (cap : Value) (f : Nat → UInt8) (w : World) (hk : k = 2 ∨ k = 3) (hn1 : 1 ≤ n) (hn : n ≤ 4) (hp : k ^ n ≤ 27) (hF : Gives F cap k n f w) (hE : ∀ x w, (callFunc F #[x, cap]).run Try.prog w = .ok (.enter F #[x, cap]) w) :
    Calls Try.prog 55 #[.int .i64 k, .int .i64 n, .func (.func F) #[] #[cap]] w fun e w' => e = .returned (.tuple #[.agg #[.int .i64 k, .int .i64 n, .string ⟨(outB f (k ^ n)).toArray⟩], .bool true]) ∧ Below w.heap.size w w' := by
  have hk3 : k ≤ 3 := by omega
  have HPW := hid (fun w : World => impl_powB_c k n hk3 (by omega) w)
  have HWO := hid (fun w : World => impl_wordsOf_c k n w (by omega) (by omega))
  obtain ⟨m, hm⟩ : ∃ m, m = k ^ n := ⟨_, rfl⟩
  have HF := hid hF
  unfold Gives at HF
  unfold WordsPost at HWO
  rw [← hm] at HPW HWO hp HF
  rw [← hm]
  have hp2 : ¬ ((27 : Int) < (m : Int)) := by omega
  have h1 : ¬ ((n : Int) < 1) := by omega
  have h4 : ¬ ((4 : Int) < (n : Int)) := by omega
  have hcase : (((k : Int) != 2) = false) ∨ (((k : Int) != 2) = true ∧ ((k : Int) != 3) = false) := by rcases hk with rfl | rfl <;> simp
  clear hF hm hk
  rcases hcase with h2 | ⟨h2, h3⟩
  all_goals
    go_enter Try.func55, Try.ntmps55
    go_wp2_with (go_at_call 53; refine (HPW.out _).mono ?_; rintro e w' ⟨rfl, rfl⟩)
    refine (HWO.out _).mono ?_
    rintro e w1 ⟨v, rfl, hown, hb1⟩
    have hown2 := owns_base (base' := w.heap.size + 1) hown (by simp)
    obtain ⟨a5, c5, rfl, hr5⟩ := owns_rowAt hown2 (by omega)
    have HW2 := hid hown2
    have hbelB : Below (w.heap.size + 1) (w.alloc (.cells #[.int .i64 0, .int .i64 0, .string ⟨#[]⟩] 26)) w1 := ((Below.refl _ _).alloc (by simp) _).trans (hb1.mono (by simp))
    have hown8 : w1.ownsRow (w.heap.size + 1) 5 1 (.slice (some ⟨w.heap.size + 1, 0, none⟩) 0 0) 0 (byteVals (outB f 0)) := owns_below (by simpa [outB, byteVals] using World.ownsRow_made (w.alloc (.cells #[.int .i64 0, .int .i64 0, .string ⟨#[]⟩] 26)) #[] 0 (e := 5) (size := 1) (base := w.heap.size + 1) (by simp) (by omega) rfl) hb1
    clear hown hown2 hr5
    go_wp2
    go_loopw [8, 37] (fun v i wr => ∃ j : Nat, j ≤ m ∧ i = .int .i64 j ∧ wr.ownsRow (w.heap.size + 1) 5 1 v j (byteVals (outB f j)) ∧ wr.ownsRow (w.heap.size + 1) 9 1 (.slice a5 m c5) m (strVals (wds k n m)) ∧ Below (w.heap.size + 1) (w.alloc (.cells #[.int .i64 0, .int .i64 0, .string ⟨#[]⟩] 26)) wr) (fun _ i _ => m - (intOf i).toNat)
    case atStart => exact ⟨0, by omega, rfl, hown8, HW2.out, hbelB⟩
    case round =>
      obtain ⟨j, hj, rfl, hown, hwords, hbel⟩ := hrel
      by_cases hlt : j < m
      · obtain ⟨a6, c6, he6, hr6⟩ := owns_rowAt hwords (by omega)
        simp only [Value.slice.injEq, true_and] at he6
        obtain ⟨rfl, rfl⟩ := he6
        obtain ⟨b5, o5, rfl, hb5, hcl5⟩ := hr6.at_ (by omega)
        have hcell := hcl5 j _ (strVals_get (wds_get hlt))
        have HB := hid (show Below w.heap.size w wr from ((Below.refl _ _).alloc (Nat.le_refl _) _).trans (hbel.mono (by omega)))
        have HO := hid hown
        have HWD := hid hwords
        clear hr6 hcl5 hown hwords
        go_wp2_with fail
        refine (HF.out j _ hlt HB.out).mono ?_
        rintro e w2 ⟨rfl, hb2⟩
        have hown2 := owns_below HO.out hb2
        have hw2 := owns_below HWD.out hb2
        have hsz : w.heap.size + 1 ≤ wr.heap.size := by have := hbel.size; simpa using this
        have hbel2 := hbel.trans (hb2.mono hsz)
        have hsz2 : w.heap.size + 1 ≤ w2.heap.size := Nat.le_trans hsz hb2.size
        go_wp2_with (first | (at_builtin; go_must (refine wpList_appg rfl _ _ 22 rfl (w.heap.size + 1) 5 (.int .u8 0) 1 Try.underlying22 infoU8 rfl _ j (byteVals (outB f j)) _ hown2 rfl rfl rfl (by omega) (by unfold maxLen; omega) hsz2 ?_); intro v' w3 hown3 hgr3))
        go_roundw
        case rel => exact ⟨j + 1, by omega, by go_num, by rw [outB_succ]; exact hown3, hw2.kept hgr3 (owns_ne hw2 hown2 (by decide)), hbel2.grown hgr3 hsz2 (fun k hk => (hown2.lt k hk).1)⟩
        case measure => simp [intOf]; omega
      · obtain rfl : j = m := by omega
        obtain ⟨ad, c, rfl, hr⟩ := owns_rowAt hown (by omega)
        have hbox := box_kept hbel
        have hc0 : wr.cell? ⟨w.heap.size, 0, none⟩ = some (.int .i64 0) := (hbox 0).1
        have hc1 : wr.cell? ⟨w.heap.size, 1, none⟩ = some (.int .i64 0) := (hbox 1).1
        have hc2 : wr.cell? ⟨w.heap.size, 2, none⟩ = some (.string ⟨#[]⟩) := (hbox 2).1
        have hf0 := (hbox 0).2
        have hf1 := (hbox 1).2
        have hf2 := (hbox 2).2
        clear hbox hwords
        go_wp2_with (with_reducible refine wpList_convs rfl _ 22 9 5 rfl Try.underlying22 Try.underlying5 Try.underlying9 _ j _ (outB f j) rfl hr ?_)
        refine bodyPost_ret (v := .tuple #[.agg #[.int .i64 k, .int .i64 n, .string ⟨(outB f j).toArray⟩], .bool true]) (by simp [results, Try.results55, go_sem, hc0, hc1, hc2]) rfl ⟨rfl, ?_⟩
        exact ((((Below.refl _ _).alloc (Nat.le_refl _) _).trans (hbel.mono (by omega))).setCell (by simp) _).setCell (by simp) _ |>.setCell (by simp) _

/-- What a mirrored code gives to the word number i. -/
def mirB (o : ByteArray) (k n i : Nat) : UInt8 := giveB o (idxOf k (wAt k n i).reverse)
theorem lets_rev {k : Int} {l : List UInt8} (h : lets k l = true) : lets k l.reverse = true := by unfold lets at *; rw [List.all_reverse]; exact h
set_option maxHeartbeats 2000000 in
theorem mirrored1_c (k n i b : Nat) (o : ByteArray) (W w : World) (hk : 2 ≤ k ∧ k ≤ 3) (hn : n ≤ 4) (ho : o.size = k ^ n) (hb : b < W.heap.size) (hw : Below W.heap.size W w)
    (hc0 : W.cell? ⟨b, 0, none⟩ = some (.int .i64 k)) (hc1 : W.cell? ⟨b, 1, none⟩ = some (.int .i64 n)) (hc2 : W.cell? ⟨b, 2, none⟩ = some (.string o)) :
    Calls Try.prog 56 #[.string (wdB k n i), .pointer (some ⟨b, 0, none⟩)] w fun e w' => e = .returned (.int .u8 ((mirB o k n i).toNat : Int)) ∧ Below w.heap.size w w' := by
  have hb' := Nat.lt_of_lt_of_le hb hw.size
  have hc0 := (hw.cell (p := ⟨b, 0, none⟩) hb).trans hc0
  have hc1 := (hw.cell (p := ⟨b, 1, none⟩) hb).trans hc1
  have hc2 := (hw.cell (p := ⟨b, 2, none⟩) hb).trans hc2
  have HM := hid (fun w : World => impl_MirrorWord_c (wdB k n i) w (by rw [wdB_size]; omega))
  have HG := hid (fun w : World => gives_c k n o ⟨(wdB k n i).data.toList.reverse.toArray⟩ w hk.2 (by rw [List.toList_toArray]; exact lets_rev (wAt_lets ⟨by omega, hk.2⟩ n i)) (by show (List.toArray _).size ≤ 16; simp [wdB_list, wAt_len]; omega) (by rw [ho]; show k ^ (List.toArray _).size ≤ _; simp [wdB_list, wAt_len]))
  obtain ⟨s, hs⟩ : ∃ s, s = wdB k n i := ⟨_, rfl⟩
  obtain ⟨y, hy⟩ : ∃ y, y = mirB o k n i := ⟨_, rfl⟩
  have HG2 : Hid (∀ w : World, Calls Try.prog 57 #[.agg #[.int .i64 k, .int .i64 n, .string o], .string ⟨s.data.toList.reverse.toArray⟩] w fun e w' => e = .returned (.int .u8 (y.toNat : Int)) ∧ Below w.heap.size w w') := hid (fun w => by
    have := HG.out w
    rw [List.toList_toArray, wdB_list] at this
    rw [hs, hy, wdB_list]
    exact this)
  rw [← hs] at HM
  rw [← hs, ← hy]
  clear hs hy HG
  go_enter Try.func56, Try.ntmps56
  go_wp2_with fail
  go_region_held3 (fun V => V.cell? ⟨b, 0, none⟩ = some (.int .i64 k) ∧ V.cell? ⟨b, 1, none⟩ = some (.int .i64 n) ∧ V.cell? ⟨b, 2, none⟩ = some (.string o) ∧ Below w.heap.size w V)
    (first | exact ⟨hc0, hc1, hc2, (Below.refl _ _).drew⟩ | exact ⟨(hb1.cell (p := ⟨b, 0, none⟩) hb').trans hc0, (hb1.cell (p := ⟨b, 1, none⟩) hb').trans hc1, (hb1.cell (p := ⟨b, 2, none⟩) hb').trans hc2, (Below.refl _ _).drew.trans hb1⟩ | exact ⟨(hb2.cell (p := ⟨b, 0, none⟩) (Nat.lt_of_lt_of_le hb' hb1.size)).trans ((hb1.cell (p := ⟨b, 0, none⟩) hb').trans hc0), (hb2.cell (p := ⟨b, 1, none⟩) (Nat.lt_of_lt_of_le hb' hb1.size)).trans ((hb1.cell (p := ⟨b, 1, none⟩) hb').trans hc1), (hb2.cell (p := ⟨b, 2, none⟩) (Nat.lt_of_lt_of_le hb' hb1.size)).trans ((hb1.cell (p := ⟨b, 2, none⟩) hb').trans hc2), ((Below.refl _ _).drew.trans hb1).trans (hb2.mono hb1.size)⟩)
    (first | (go_at_call 58; refine (HM.out _).mono ?_; rintro e w1 ⟨rfl, hb1⟩) | (go_at_call 57; refine (HG2.out _).mono ?_; rintro e w2 ⟨rfl, hb2⟩))
  all_goals
    have hS : Below w.heap.size w _ := (by assumption : _ ∧ _ ∧ _ ∧ _).2.2.2
    go_wp2
    go_ret
    exact ⟨rfl, hS⟩

def mirOut (o : ByteArray) (k n : Nat) : ByteArray := ⟨(outB (mirB o k n) (k ^ n)).toArray⟩
set_option maxHeartbeats 2000000 in
set_option maxRecDepth 100000 in
theorem impl_mirrored_c (k n : Nat) (o : ByteArray) (w : World) (hk : k = 2 ∨ k = 3) (hn1 : 1 ≤ n) (hn : n ≤ 4) (hp : k ^ n ≤ 27) (ho : o.size = k ^ n) :
    Calls Try.prog 32 #[.agg #[.int .i64 k, .int .i64 n, .string o]] w fun e w' => e = .returned (.agg #[.int .i64 k, .int .i64 n, .string (mirOut o k n)]) ∧ Below w.heap.size w w' := by
  have hmf : ∀ (fn : Fn) (first cap : Array Value) (w : World), (Instr.makeFunc fn first cap).run Try.prog w = .ok (.func fn first cap) w := fun _ _ _ _ => rfl
  have HMD := hid (fun (W : World) (hb : w.heap.size < W.heap.size) (hc0 : W.cell? ⟨w.heap.size, 0, none⟩ = some (.int .i64 k)) (hc1 : W.cell? ⟨w.heap.size, 1, none⟩ = some (.int .i64 n)) (hc2 : W.cell? ⟨w.heap.size, 2, none⟩ = some (.string o)) =>
    madeCode_c k n 56 (.pointer (some ⟨w.heap.size, 0, none⟩)) (mirB o k n) W hk hn1 hn hp (fun i w2 _ hw2 => mirrored1_c k n i w.heap.size o W w2 (by omega) hn ho hb hw2 hc0 hc1 hc2) (fun x w => Try.call56 _ w))
  go_enter Try.func32, Try.ntmps32
  go_wp2_with fail
  refine (HMD.out _ (by simp; omega) (by simp [go_sem]) (by simp [go_sem]) (by simp [go_sem])).mono ?_
  rintro e w1 ⟨rfl, hb1⟩
  have hd0 : w1.cell? ⟨w.heap.size + 1, 0, none⟩ = some (.int .i64 0) := (hb1.cell (p := ⟨w.heap.size + 1, 0, none⟩) (by simp)).trans (by rw [World.cell?_alloc_at _ _ _ _ (by simp)]; rfl)
  have hd1 : w1.cell? ⟨w.heap.size + 1, 1, none⟩ = some (.int .i64 0) := (hb1.cell (p := ⟨w.heap.size + 1, 1, none⟩) (by simp)).trans (by rw [World.cell?_alloc_at _ _ _ _ (by simp)]; rfl)
  have hd2 : w1.cell? ⟨w.heap.size + 1, 2, none⟩ = some (.string ⟨#[]⟩) := (hb1.cell (p := ⟨w.heap.size + 1, 2, none⟩) (by simp)).trans (by rw [World.cell?_alloc_at _ _ _ _ (by simp)]; rfl)
  have hf0 : w1.frozen? ⟨w.heap.size + 1, 0, none⟩ = false := (hb1.frozen (p := ⟨w.heap.size + 1, 0, none⟩) (by simp)).trans (World.frozen?_alloc_at _ _ _ _ (by simp))
  have hf1 : w1.frozen? ⟨w.heap.size + 1, 1, none⟩ = false := (hb1.frozen (p := ⟨w.heap.size + 1, 1, none⟩) (by simp)).trans (World.frozen?_alloc_at _ _ _ _ (by simp))
  have hf2 : w1.frozen? ⟨w.heap.size + 1, 2, none⟩ = false := (hb1.frozen (p := ⟨w.heap.size + 1, 2, none⟩) (by simp)).trans (World.frozen?_alloc_at _ _ _ _ (by simp))
  have hsz : w.heap.size + 1 < w1.heap.size := by have := hb1.size; simp at this; omega
  have hbw : Below w.heap.size w w1 := ((((Below.refl _ _).alloc (Nat.le_refl _) _).alloc (by simp) _)).trans (hb1.mono (by simp; omega))
  clear HMD
  go_wp2
  refine bodyPost_ret (v := .agg #[.int .i64 k, .int .i64 n, .string (mirOut o k n)]) (by simp [results, Try.results32, go_sem, hd0, hd1, hd2, mirOut, hsz]) rfl ⟨rfl, ?_⟩
  exact (((hbw.setCell (by simp) _).setCell (by simp) _).setCell (by simp) _).alloc (by simp; omega) _
end Go.Proofs.Ytcmmlldincflkaa
