/- Words with their two letters exchanged; exchanged codes of the program. Conditions: valid codes of two letters. -/
import Derived.Test.YtcmmlldincflkaaMade
import Derived.Test.YtcmmlldincflkaaBox
namespace Go.Proofs.Ytcmmlldincflkaa
open Go.RowKit

/-- A code and whether there is one. -/
def codeR (b : Bool) (k n : Int) (o : ByteArray) : Value := .tuple #[.agg #[.int .i64 (if b then k else 0), .int .i64 (if b then n else 0), .string (if b then o else ⟨#[]⟩)], .bool b]
def mirC (k n : Int) (o : ByteArray) : Value := codeR (isCode k n o) k n (mirOut o k.toNat n.toNat)
set_option maxHeartbeats 2000000 in
set_option maxRecDepth 100000 in
theorem impl_MirrorCode_c (k n : Int) (o : ByteArray) (w : World) (ho : o.size ≤ maxLen) :
    Calls Try.prog 9 #[.agg #[.int .i64 k, .int .i64 n, .string o]] w fun e w' => e = .returned (mirC k n o) ∧ Below w.heap.size w w' := by
  cases hc : isCode k n o
  · have HX := hid (show mirC k n o = .tuple #[.agg #[.int .i64 0, .int .i64 0, .string ⟨#[]⟩], .bool false] by unfold mirC; rw [hc]; rfl)
    have HI := hid (fun w : World => impl_IsCode_c k n o w ho)
    rw [hc] at HI
    clear hc
    go_enter Try.func9, Try.ntmps9
    go_wp2_with fail
    refine (HI.out _).mono ?_
    rintro e w1 ⟨rfl, hb1⟩
    obtain ⟨⟨hA, hFA⟩, ⟨hB, hFB⟩, hz, hbw⟩ := box2 hb1
    obtain ⟨hb0, hb1', hb2'⟩ := three hB
    have hf0 := hFB 0
    have hf1 := hFB 1
    have hf2 := hFB 2
    clear hA hFA hB hFB
    go_wp2
    refine bodyPost_ret (v := .tuple #[.agg #[.int .i64 0, .int .i64 0, .string ⟨#[]⟩], .bool false]) (by simp [results, Try.results9, go_sem, hb0, hb1', hb2']) rfl ⟨by rw [HX.out], ?_⟩
    first | exact hbw | exact ((hbw.setCell (by simp) _).setCell (by simp) _).setCell (by simp) _
  · obtain ⟨kk, nn, rfl, rfl, hk, ⟨hn1, hn4⟩, hp, hos, hl⟩ := code_facts hc
    have HX := hid (show mirC kk nn o = .tuple #[.agg #[.int .i64 kk, .int .i64 nn, .string (mirOut o kk nn)], .bool true] by unfold mirC; rw [hc]; rfl)
    have HI := hid (fun w : World => impl_IsCode_c kk nn o w ho)
    rw [hc] at HI
    have HM := hid (fun w : World => impl_mirrored_c kk nn o w hk hn1 hn4 hp hos)
    clear hc hk hn1 hn4 hp hos hl
    go_enter Try.func9, Try.ntmps9
    go_wp2_with fail
    refine (HI.out _).mono ?_
    rintro e w1 ⟨rfl, hb1⟩
    obtain ⟨⟨hA, hFA⟩, ⟨hB, hFB⟩, hz, hbw⟩ := box2 hb1
    obtain ⟨ha0, ha1, ha2⟩ := three hA
    have HB := hid hB
    have HFB := hid hFB
    clear hA hFA hB hFB
    go_wp2_with fail
    refine (HM.out _).mono ?_
    rintro e w2 ⟨rfl, hb2⟩
    obtain ⟨hb0, hb1', hb2'⟩ := three (cells_below HB.out hb2 hz)
    have hf := frozen_below HFB.out hb2 hz
    have hf0 := hf 0
    have hf1 := hf 1
    have hf2 := hf 2
    have hz2 := Nat.lt_of_lt_of_le hz hb2.size
    have hbw2 := bs hbw hb2
    clear hf ha0 ha1 ha2
    go_wp2
    refine bodyPost_ret (v := .tuple #[.agg #[.int .i64 kk, .int .i64 nn, .string (mirOut o kk nn)], .bool true]) (by simp [results, Try.results9, go_sem, hb0, hb1', hb2']) rfl ⟨by rw [HX.out], ?_⟩
    exact ((hbw2.setCell (by simp) _).setCell (by simp) _).setCell (by simp) _
end Go.Proofs.Ytcmmlldincflkaa
namespace Go.Proofs.Ytcmmlldincflkaa
open Go.RowKit

def swB (c : UInt8) : UInt8 := if c = 97 then 98 else 97
theorem lets2_mem {l : List UInt8} (h : lets 2 l = true) {j : Nat} {c : UInt8} (hc : l[j]? = some c) : c = 97 ∨ c = 98 := by
  have := List.all_eq_true.1 h c (List.mem_of_getElem? hc)
  rw [inB_iff] at this
  have h2 : c.toNat = 97 ∨ c.toNat = 98 := by omega
  rcases h2 with h2 | h2
  · left; exact UInt8.toNat_inj.1 h2
  · right; exact UInt8.toNat_inj.1 h2
theorem swB_nat {c : UInt8} (h : c = 97 ∨ c = 98) : ((swB c).toNat : Int) = 195 - (c.toNat : Int) := by rcases h with rfl | rfl <;> rfl
theorem swB_lets (l : List UInt8) : lets 2 (l.map swB) = true := by
  unfold lets
  rw [List.all_eq_true]
  intro c hc
  obtain ⟨d, _, rfl⟩ := List.mem_map.1 hc
  unfold swB
  split <;> decide
def swTo (l : List UInt8) (j : Nat) : List UInt8 := (l.take j).map swB ++ l.drop j
theorem swTo_zero (l : List UInt8) : swTo l 0 = l := by simp [swTo]
theorem swTo_all (l : List UInt8) : swTo l l.length = l.map swB := by simp [swTo]
theorem swTo_get {l : List UInt8} {j : Nat} {c : UInt8} (h : l[j]? = some c) : (swTo l j)[j]? = some c := by
  have hj := (List.getElem?_eq_some_iff.1 h).1
  unfold swTo
  rw [List.getElem?_append_right (by simp; omega)]
  simp [List.length_take, Nat.min_eq_left (Nat.le_of_lt hj), h]
theorem swTo_step {l : List UInt8} {j : Nat} {c : UInt8} (h : l[j]? = some c) : (swTo l j).set j (swB c) = swTo l (j + 1) := by
  have hj := (List.getElem?_eq_some_iff.1 h).1
  have h3 : ((l.take j).map swB).length = j := by simp; omega
  unfold swTo
  rw [List.set_append_right _ _ (by omega), h3, Nat.sub_self, List.take_add_one, h]
  have hd : l.drop j = l[j]'hj :: l.drop (j + 1) := List.drop_eq_getElem_cons hj
  rw [hd, List.set_cons_zero]; simp

set_option maxHeartbeats 1000000 in
theorem l32Swap_c (s : ByteArray) (w : World) (hs : s.size ≤ 1048576) :
    Calls Try.prog 38 #[.string s] w fun e w' => e = .returned (.string ⟨(s.data.toList.map swB).toArray⟩) ∧ w = w' := by
  go_enter Try.func38, Try.ntmps38
  go_wp2
  go_loop [3, 4] (fun o i => ∃ (j : Nat) (r : ByteArray), j ≤ s.size ∧ i = .int .i64 j ∧ o = .string r ∧ r.size ≤ j ∧ Hid (r = ⟨((s.data.toList.take j).map swB).toArray⟩)) (fun _ i => s.size - (intOf i).toNat)
  case atStart => exact ⟨0, _, by omega, rfl, rfl, by simp [ByteArray.size], by show _ = _; simp⟩
  case round =>
    obtain ⟨j, r, hj, rfl, rfl, hr, HR⟩ := hrel
    by_cases hlt : j < s.size
    · have hji : (j : Int) < (s.size : Int) := by omega
      have HST := hid (show r ++ ⟨#[swB s[j]]⟩ = ⟨((s.data.toList.take (j + 1)).map swB).toArray⟩ by
        rw [HR.out, show (ByteArray.mk #[swB s[j]]) = ⟨[swB s[j]].toArray⟩ from rfl, ByteArray.mk_append_mk, List.take_add_one, byte_at s j hlt]
        simp)
      by_cases hc : s[j] = 97
      · have HC := hid (show swB s[j] = 98 by rw [hc]; rfl)
        have hcn : ((s[j].toNat : Int) == 97) = true := by rw [hc]; rfl
        clear hc
        go_wp2
        go_round
        case rel => exact ⟨j + 1, _, by omega, by go_num, rfl, by (rw [ByteArray.size_append, show (ByteArray.mk #[98]).size = 1 from rfl]; omega), by show _ = _; rw [← HST.out, HC.out]⟩
        case measure => simp [intOf]; omega
      · have HC := hid (show swB s[j] = 97 by unfold swB; rw [if_neg hc])
        have hcn : ((s[j].toNat : Int) == 97) = false := by
          rw [beq_eq_false_iff_ne]; intro h; exact hc (UInt8.toNat_inj.1 (by show s[j].toNat = 97; omega))
        clear hc
        go_wp2
        go_round
        case rel => exact ⟨j + 1, _, by omega, by go_num, rfl, by (rw [ByteArray.size_append, show (ByteArray.mk #[97]).size = 1 from rfl]; omega), by show _ = _; rw [← HST.out, HC.out]⟩
        case measure => simp [intOf]; omega
    · have HE := hid (show s.data.toList.take j = s.data.toList from List.take_of_length_le (by rw [size_list]; omega))
      go_wp2
      go_ret
      exact ⟨ret_str (by rw [HR.out, HE.out]), rfl⟩

/-- What an exchanged code gives to the word number i. -/
def exB (o : ByteArray) (n i : Nat) : UInt8 := swB (giveB o (idxOf 2 ((wAt 2 n i).map swB)))
theorem idx2_bd (n i : Nat) : idxOf 2 ((wAt 2 n i).map swB) < 2 ^ n := by
  have := idx_bd (k := 2) (swB_lets (wAt 2 n i)) (by decide)
  simpa [wAt_len] using this
theorem give2 {o : ByteArray} {q : Nat} (hl : lets 2 o.data.toList = true) (hq : q < o.size) : giveB o q = 97 ∨ giveB o q = 98 := by
  rw [giveB_at hq]; exact lets2_mem hl (byte_at o q hq)
set_option maxHeartbeats 2000000 in
set_option maxRecDepth 100000 in
theorem exchanged1_c (n i b : Nat) (o : ByteArray) (W w : World) (hn : n ≤ 4) (ho : o.size = 2 ^ n) (hl : lets 2 o.data.toList = true) (hb : b < W.heap.size) (hw : Below W.heap.size W w)
    (hc0 : W.cell? ⟨b, 0, none⟩ = some (.int .i64 2)) (hc1 : W.cell? ⟨b, 1, none⟩ = some (.int .i64 n)) (hc2 : W.cell? ⟨b, 2, none⟩ = some (.string o)) :
    Calls Try.prog 59 #[.string (wdB 2 n i), .pointer (some ⟨b, 0, none⟩)] w fun e w' => e = .returned (.int .u8 ((exB o n i).toNat : Int)) ∧ Below w.heap.size w w' := by
  have hb' := Nat.lt_of_lt_of_le hb hw.size
  have hc0 := (hw.cell (p := ⟨b, 0, none⟩) hb).trans hc0
  have hc1 := (hw.cell (p := ⟨b, 1, none⟩) hb).trans hc1
  have hc2 := (hw.cell (p := ⟨b, 2, none⟩) hb).trans hc2
  have HG := hid (fun w : World => gives_c 2 n o ⟨((wdB 2 n i).data.toList.map swB).toArray⟩ w (by decide) (by rw [List.toList_toArray]; exact swB_lets _) (by show (List.toArray _).size ≤ 16; simp [wdB_list, wAt_len]; omega) (by rw [ho]; show 2 ^ (List.toArray _).size ≤ _; simp [wdB_list, wAt_len]))
  have hls : lets 2 (wdB 2 n i).data.toList = true := wAt_lets ⟨by decide, by decide⟩ n i
  have hsz : (wdB 2 n i).size = n := wdB_size 2 n i
  obtain ⟨s, hs⟩ : ∃ s, s = wdB 2 n i := ⟨_, rfl⟩
  obtain ⟨z, hz⟩ : ∃ z, z = giveB o (idxOf 2 ((wAt 2 n i).map swB)) := ⟨_, rfl⟩
  have hz2 : z = 97 ∨ z = 98 := by rw [hz]; exact give2 hl (by rw [ho]; exact idx2_bd n i)
  have HY := hid (show ((exB o n i).toNat : Int) = 195 - (z.toNat : Int) by unfold exB; rw [← hz]; exact swB_nat hz2)
  have HG2 : Hid (∀ w : World, Calls Try.prog 57 #[.agg #[.int .i64 2, .int .i64 n, .string o], .string ⟨(s.data.toList.map swB).toArray⟩] w fun e w' => e = .returned (.int .u8 (z.toNat : Int)) ∧ Below w.heap.size w w') := hid (fun w => by
    have := HG.out w
    rw [List.toList_toArray, wdB_list] at this
    rw [hs, hz, wdB_list]
    exact this)
  rw [← hs] at hls hsz
  rw [← hs]
  have HLS := hid hls
  have hzb : z.toNat ≤ 98 := by rcases hz2 with rfl | rfl <;> decide
  obtain ⟨m, hm⟩ : ∃ m, m = s.size := ⟨_, rfl⟩
  have hm4 : m ≤ 4 := by omega
  have HMM := hid hm
  clear hs hz HG hls hz2 hsz
  go_enter Try.func59, Try.ntmps59
  go_wp2_with (with_reducible refine wpList_convb rfl _ 9 22 5 rfl Try.underlying9 Try.underlying22 Try.underlying5 s rfl ?_; intro w1 c hC hb1)
  rw [← HMM.out] at hC
  rw [← HMM.out]
  have HC := hid hC
  have hg0 : Below w.heap.size w w1 := hb1
  clear hC hb1 hm
  go_loopw [11] (fun i wr => ∃ j : Nat, j ≤ m ∧ i = .int .i64 j ∧ CellsOf wr w.heap.size m (byteVals (swTo s.data.toList j)) ∧ Below w.heap.size w wr) (fun i _ => m - (intOf i).toNat)
  case atStart => exact ⟨0, by omega, rfl, by rw [swTo_zero]; exact HC.out, hg0⟩
  case round =>
    obtain ⟨j, hj, rfl, hC, hbel⟩ := hrel
    by_cases hlt : j < m
    · have hjs : j < s.size := by rw [← HMM.out]; exact hlt
      have hget := byte_at s j hjs
      have h2 := lets2_mem HLS.out hget
      have hcell := hC.cell j _ (byteVals_get (swTo_get hget))
      have hfr := hC.frozen j hlt
      have HST := hid (swTo_step hget)
      have HSN := hid (swB_nat h2)
      obtain ⟨x, hx⟩ : ∃ x, x = s[j] := ⟨_, rfl⟩
      rw [← hx] at hcell HST HSN h2
      have hx98 : x.toNat ≤ 98 := by rcases h2 with rfl | rfl <;> decide
      have HCC := hid hC
      clear hget h2 hx hC
      go_wp2
      go_roundw
      case rel =>
        have h1 := HCC.out.set (i := j) hlt (.int .u8 ((swB x).toNat : Int))
        rw [byteVals_set, HST.out, HSN.out] at h1
        exact ⟨j + 1, by omega, by go_num, h1, hbel.setCell (Nat.le_refl _) _⟩
      case measure => simp [intOf]; omega
    · obtain rfl : j = m := by omega
      have HE := hid (show swTo s.data.toList j = s.data.toList.map swB by rw [HMM.out, ← size_list, swTo_all])
      rw [HE.out] at hC
      have hr := hC.rowAt (by omega)
      have hd0 := (hbel.cell (p := ⟨b, 0, none⟩) hb').trans hc0
      have hd1 := (hbel.cell (p := ⟨b, 1, none⟩) hb').trans hc1
      have hd2 := (hbel.cell (p := ⟨b, 2, none⟩) hb').trans hc2
      clear hC hc0 hc1 hc2
      go_wp2_with (with_reducible refine wpList_convs rfl _ 22 9 5 rfl Try.underlying22 Try.underlying5 Try.underlying9 _ j _ (s.data.toList.map swB) rfl hr ?_)
      refine (HG2.out _).mono ?_
      rintro e w2 ⟨rfl, hb2⟩
      go_wp2
      go_ret
      exact ⟨ret_int (by rw [HY.out]), hbel.trans (hb2.mono hbel.size)⟩
def exOut (o : ByteArray) (n : Nat) : ByteArray := ⟨(outB (exB o n) (2 ^ n)).toArray⟩
set_option maxHeartbeats 2000000 in
set_option maxRecDepth 100000 in
theorem impl_exchanged_c (n : Nat) (o : ByteArray) (w : World) (hn1 : 1 ≤ n) (hn : n ≤ 4) (hp : 2 ^ n ≤ 27) (ho : o.size = 2 ^ n) (hl : lets 2 o.data.toList = true) :
    Calls Try.prog 37 #[.agg #[.int .i64 2, .int .i64 n, .string o]] w fun e w' => e = .returned (.agg #[.int .i64 2, .int .i64 n, .string (exOut o n)]) ∧ Below w.heap.size w w' := by
  have hmf : ∀ (fn : Fn) (first cap : Array Value) (w : World), (Instr.makeFunc fn first cap).run Try.prog w = .ok (.func fn first cap) w := fun _ _ _ _ => rfl
  have HMD := hid (fun (W : World) (hb : w.heap.size < W.heap.size) (hc0 : W.cell? ⟨w.heap.size, 0, none⟩ = some (.int .i64 2)) (hc1 : W.cell? ⟨w.heap.size, 1, none⟩ = some (.int .i64 n)) (hc2 : W.cell? ⟨w.heap.size, 2, none⟩ = some (.string o)) =>
    madeCode_c 2 n 59 (.pointer (some ⟨w.heap.size, 0, none⟩)) (exB o n) W (.inl rfl) hn1 hn hp (fun i w2 _ hw2 => exchanged1_c n i w.heap.size o W w2 hn ho hl hb hw2 hc0 hc1 hc2) (fun x w => Try.call59 _ w))
  go_enter Try.func37, Try.ntmps37
  go_wp2_with fail
  refine (HMD.out _ (by simp; omega) (by simp [go_sem]) (by simp [go_sem]) (by simp [go_sem])).mono ?_
  rintro e w1 ⟨rfl, hb1⟩
  obtain ⟨⟨hA, hFA⟩, ⟨hB, hFB⟩, hsz, hbw⟩ := box2 hb1
  obtain ⟨hd0, hd1, hd2⟩ := three hB
  have hf0 := hFB 0
  have hf1 := hFB 1
  have hf2 := hFB 2
  clear HMD hA hFA hB hFB
  go_wp2
  refine bodyPost_ret (v := .agg #[.int .i64 2, .int .i64 n, .string (exOut o n)]) (by simp [results, Try.results37, go_sem, hd0, hd1, hd2, exOut, hsz]) rfl ⟨rfl, ?_⟩
  exact (((hbw.setCell (by simp) _).setCell (by simp) _).setCell (by simp) _).alloc (by simp; omega) _
end Go.Proofs.Ytcmmlldincflkaa
