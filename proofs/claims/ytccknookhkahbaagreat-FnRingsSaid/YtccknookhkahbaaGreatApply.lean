/- Codes upon words and rings: both functions. Conditions: valid codes, words of their letters. -/
import Derived.Lib.Repeat
import Derived.Test.YtccknookhkahbaaGreatOpen
import Derived.Test.YtccknookhkahbaaGreatRule
import Derived.Test.YtccknookhkahbaaGreatAll
import Derived.Test.YtccknookhkahbaaGreatStep
import Derived.Test.YtccknookhkahbaaGreatNumber
import Derived.Test.YtccknookhkahbaaGreatShelf
namespace Go.Proofs.YtccknookhkahbaaGreat
open Go.ChangeShapes Go.WideShapes Go.ChangeAt Go.RowKit
open Go.ChangeMaps (open_string shut_string)

/-- A code that came in. -/
def CodeIn (v : Value) : Prop := ∃ k n o, v = .agg #[.int .i64 k, .int .i64 n, .string o] ∧ o.size ≤ maxLen
end Go.Proofs.YtccknookhkahbaaGreat
namespace Go.Proofs.YtccknookhkahbaaGreat
open Go.RowKit

def giveB (o : ByteArray) (q : Nat) : UInt8 := o.data.toList.getD q 0
theorem giveB_at {o : ByteArray} {q : Nat} (h : q < o.size) : giveB o q = o[q] := by
  unfold giveB; rw [List.getD_eq_getElem?_getD, byte_at o q h]; rfl
theorem one_ext {o : ByteArray} {q : Nat} (h : q < o.size) : o.extract q (q + 1) = ⟨#[giveB o q]⟩ := by
  rw [giveB_at h]
  have h' : q < o.data.size := h
  apply ByteArray.ext
  rw [ByteArray.data_extract]
  apply Array.ext
  · simp; omega
  · intro i h1 h2
    have hi : i = 0 := by simp at h2; omega
    subst hi
    simp
    rfl
theorem idx_bd {k : Nat} {l : List UInt8} (hl : lets k l = true) (hk : k ≤ 3) : idxOf k l < k ^ l.length := by
  have := idxOf_lt hl hk l.length (Nat.le_refl _)
  rwa [List.take_length] at this

/-- What a code is, as facts. -/
theorem code_facts {k n : Int} {o : ByteArray} (h : isCode k n o = true) : ∃ kk nn : Nat, k = kk ∧ n = nn ∧ (kk = 2 ∨ kk = 3) ∧ (1 ≤ nn ∧ nn ≤ 4) ∧ kk ^ nn ≤ 27 ∧ o.size = kk ^ nn ∧ lets kk o.data.toList = true := by
  simp only [isCode, Bool.and_eq_true, decide_eq_true_eq] at h
  obtain ⟨⟨h1, h2, h3, h4⟩, h5⟩ := h
  obtain ⟨kk, rfl⟩ : ∃ kk : Nat, k = kk := ⟨k.toNat, by omega⟩
  obtain ⟨nn, rfl⟩ : ∃ nn : Nat, n = nn := ⟨n.toNat, by omega⟩
  rw [Int.toNat_natCast, Int.toNat_natCast] at h3 h4
  exact ⟨kk, nn, rfl, rfl, by omega, by omega, h3, h4, h5⟩

set_option maxHeartbeats 1000000 in
theorem gives_c (k n : Nat) (o s : ByteArray) (w : World) (hk : k ≤ 3) (hl : lets k s.data.toList = true) (hs : s.size ≤ 16) (ho : k ^ s.size ≤ o.size) :
    Calls Tryz.prog 88 #[.agg #[.int .i64 k, .int .i64 n, .string o], .string s] w fun e w' => e = .returned (.int .u8 ((giveB o (idxOf k s.data.toList)).toNat : Int)) ∧ Below w.heap.size w w' := by
  have hq := idx_bd hl hk
  rw [size_list] at hq
  obtain ⟨q, hqq⟩ : ∃ q, q = idxOf k s.data.toList := ⟨_, rfl⟩
  have HI := hid (fun w : World => indexOf_c k s w hk hl hs)
  rw [← hqq] at hq HI
  rw [← hqq]
  have hqo : q < o.size := by omega
  have hqi : (q : Int) < (o.size : Int) := by omega
  have HG := hid (giveB_at hqo)
  clear hl hqq ho hq hs
  go_enter Tryz.func88, Tryz.ntmps88
  go_wp2_with fail
  go_quiet ((go_at_call 112; exact Calls.quiet_of_same ((HI.out _).mono (fun e w' h => ⟨h.1, h.2.symm⟩))))
  go_wp2
  go_ret
  exact ⟨ret_int (by rw [HG.out]), below_drewN ((Below.refl _ _).alloc (Nat.le_refl _) _) _⟩

set_option maxHeartbeats 1000000 in
theorem l11Letter_c (k n : Nat) (o s : ByteArray) (w : World) (hk : k ≤ 3) (hl : lets k s.data.toList = true) (hs : s.size ≤ 16) (ho : k ^ s.size ≤ o.size) (ho2 : o.size ≤ 1048576) :
    Calls Tryz.prog 86 #[.agg #[.int .i64 k, .int .i64 n, .string o], .string s] w fun e w' => e = .returned (.string ⟨#[giveB o (idxOf k s.data.toList)]⟩) ∧ Below w.heap.size w w' := by
  have hq := idx_bd hl hk
  rw [size_list] at hq
  have hqo : idxOf k s.data.toList < o.size := by omega
  have HQO := hid hqo
  have HL := hid hl
  have hi63 : o.size ≤ 9223372036854775806 := by omega
  clear hl ho hq hqo
  go_enter Tryz.func86, Tryz.ntmps86
  go_wp2
  go_loopw [5, 6] (fun o' i wr => ∃ j q : Nat, j ≤ s.size ∧ i = .int .i64 j ∧ o' = .int .i64 q ∧ Hid (q = idxOf k (s.data.toList.take j)) ∧ Below (w.heap.size + 1) (w.alloc (.cells #[.int .i64 k, .int .i64 n, .string o] 25)) wr) (fun _ i _ => s.size - (intOf i).toNat)
  case atStart => exact ⟨0, 0, by omega, rfl, rfl, by show _ = _; simp [idxOf], Below.refl _ _⟩
  case round =>
    obtain ⟨j, q, hj, rfl, rfl, HQ, hbel⟩ := hrel
    have hbox := box_kept hbel
    have hc0 : wr.cell? ⟨w.heap.size, 0, none⟩ = some (.int .i64 k) := (hbox 0).1
    have hc2 : wr.cell? ⟨w.heap.size, 2, none⟩ = some (.string o) := (hbox 2).1
    clear hbox
    by_cases hlt : j < s.size
    · have hji : (j : Int) < (s.size : Int) := by omega
      have hlet := List.all_eq_true.1 HL.out _ (List.mem_of_getElem? (byte_at s j hlt))
      rw [inB_iff] at hlet
      obtain ⟨t, ht⟩ : ∃ t : Nat, s[j].toNat = 97 + t := ⟨s[j].toNat - 97, by omega⟩
      have ht3 : t < 3 := by omega
      have hq1 : q < k ^ j := by rw [HQ.out]; exact idxOf_lt HL.out hk j (by rw [size_list]; omega)
      have hq2 : k ^ j ≤ 3 ^ 16 := Nat.le_trans (Nat.pow_le_pow_left hk j) (Nat.pow_le_pow_right (by omega) (by omega))
      have hq3 : q ≤ 43046721 := by have : (3 : Nat) ^ 16 = 43046721 := by decide
                                    omega
      have hqk : q * k ≤ 43046721 * 3 := Nat.mul_le_mul hq3 hk
      obtain ⟨m, hm⟩ : ∃ m, m = q * k := ⟨_, rfl⟩
      have hmi : (q : Int) * (k : Int) = (m : Int) := by rw [hm]; simp
      rw [← hm] at hqk
      have HST := hid (show idxOf k (s.data.toList.take (j + 1)) = m + t by rw [idxOf_take (byte_at s j hlt), ← HQ.out, ht, hm]; omega)
      have HT := hid ht
      obtain ⟨b, hb⟩ : ∃ b : Nat, b = s[j].toNat := ⟨_, rfl⟩
      have hb97 : b = 97 + t := by rw [hb, ht]
      have HB97 := hid hb97
      have hb2 : b < 100 := by omega
      have hw1 : IntKind.i64.wrap ((m : Int)) = (m : Int) := IntWalk.i64_in _ (by omega)
      have hw2 : IntKind.i64.wrap ((m : Int) + (s[j].toNat : Int)) = (m : Int) + (s[j].toNat : Int) := IntWalk.i64_in _ (by omega)
      have hw3 : IntKind.i64.wrap ((m : Int) + (s[j].toNat : Int) - 97) = (m : Int) + (s[j].toNat : Int) - 97 := IntWalk.i64_in _ (by omega)
      clear hq1 hq2 hlet hm hb97 ht
      go_wp2
      go_quiet (fail)
      go_wp2
      go_roundw
      case rel => exact ⟨j + 1, m + t, by omega, by go_num, by (have := HT.out; go_num), by show _ = _; rw [HST.out], below_drewN hbel _⟩
      case measure => simp [intOf]; omega
    · have HE := hid (show s.data.toList.take j = s.data.toList from List.take_of_length_le (by rw [size_list]; omega))
      have hqo : q < o.size := by rw [HQ.out, HE.out]; exact HQO.out
      have hb1 : (q : Int) + 1 ≤ (o.size : Int) := by omega
      have hx := one_ext hqo
      go_wp2
      go_ret
      exact ⟨ret_str (by rw [HQ.out, HE.out]), ((Below.refl _ _).alloc (Nat.le_refl _) _).trans (hbel.mono (by omega))⟩
end Go.Proofs.YtccknookhkahbaaGreat
namespace Go.Proofs.YtccknookhkahbaaGreat
open Go.RowKit

/-- A value appended, the new row's block being the last. -/
theorem step_app2 {P : Program} {w0 wr : World} {ops : Array Oper} {o : Oper} {a : Act} {K : Act → World → Prop} {Q : Exit → Act → World → Prop} {E : Prop}
    (hg : o.guard = none) (s x : Operand) (t : TypeId) (hop : o.op = Op.call { callee := Callee.builtin Builtin.append, args := #[s, x], argTypes := #[t, t] })
    (B : Nat) (e : TypeId) (z : Value) (bytes : Nat) (h1 : P.underlying t = some (.slice e)) (hinfo : (P.info? e).map (fun i => (i.zero, i.size, i.bytes)) = some (some z, 1, bytes)) (hzs : z.cells.size = 1)
    (v : Value) (m : Nat) (xs : List Value) (u : Value) (hown : wr.ownsRow B e 1 v m xs) (hs : a.eval s = v) (hx : a.eval x = .slice (some ⟨wr.heap.size, 0, none⟩) 1 1)
    (hu : u.oneCell' = true) (hlim : (m + 1) * bytes ≤ 140737488355328) (hlim2 : m + 1 ≤ maxLen) (hbel : Below B w0 wr) (hB : B ≤ wr.heap.size)
    (hK : ∀ v' w1, w1.ownsRow B e 1 v' (m + 1) (xs ++ [u]) → Below B w0 w1 → wr.grownBy w1 v.ownBlock → K (a.put o.dst v') w1) :
    if Region.wanted o (yielded ops a.tmps) = true then Oper.wp P o a (wr.alloc (.cells #[u] e)) K Q else E := by
  obtain ⟨i, hi, hz, hz1, hz2⟩ := info_parts hinfo
  refine step_append_lies _ hg s x t hop B e i z 1 bytes h1 hi hz hz1 hz2 hzs (by decide) v m xs hs (hown.alloc _) ⟨wr.heap.size, 0, none⟩ 1 1 [u] hx rfl ?_ ?_ (by decide) hlim2 hlim (by simp; omega) (wr.heap.size + 1) (by simp) ?_
  · intro j y hj
    match j, hj with
    | 0, hj => simp at hj; subst hj; simp [Addr.add]
  · intro y hy; simp at hy; subst hy; exact hu
  · intro g cap w1 hown' hgrow _ _
    have hgr : wr.grownBy w1 v.ownBlock := grown_trans (World.grownBy_alloc _ _ _) hgrow
    exact hK _ w1 hown' (hbel.grown hgr hB (fun k hk => (hown.lt k hk).1)) hgr

set_option maxHeartbeats 1000000 in
theorem impl_IsWord_c (k : Nat) (s : ByteArray) (w : World) (hk : 1 ≤ k ∧ k ≤ 3) (hs : s.size ≤ maxLen) :
    Calls Tryz.prog 61 #[.int .i64 k, .string s] w fun e w' => e = .returned (.bool (decide (s.size ≤ 16) && lets k s.data.toList)) ∧ w = w' := by
  have hk1 : (1 : Int) ≤ (k : Int) := by omega
  have hk3 : (k : Int) ≤ 3 := by omega
  by_cases h : s.size ≤ 16
  · have h2 : (s.size : Int) ≤ 16 := by omega
    go_enter Tryz.func61, Tryz.ntmps61
    go_wp2_with (first | (go_at_call 84; refine (areLetters_c _ _ _ hs (by omega)).mono ?_; rintro e w' ⟨rfl, rfl⟩) | go_in)
    go_ret
    exact ⟨ret_bool (by simp [h]), rfl⟩
  · have h2 : ¬ ((s.size : Int) ≤ 16) := by omega
    go_enter Tryz.func61, Tryz.ntmps61
    go_wp2_with (first | (go_at_call 84; refine (areLetters_c _ _ _ hs (by omega)).mono ?_; rintro e w' ⟨rfl, rfl⟩) | go_in)
    go_ret
    exact ⟨ret_bool (by simp [h]), rfl⟩
set_option maxHeartbeats 1000000 in
theorem spec_IsWord_c (k : Nat) (s : ByteArray) (w : World) (hk : 1 ≤ k ∧ k ≤ 3) (hs : s.size ≤ maxLen) :
    Calls Tryz.prog 62 #[.int .i64 k, .string s] w fun e w' => e = .returned (.bool (decide (s.size ≤ 16) && lets k s.data.toList)) ∧ w = w' := by
  unfold maxLen at hs
  have hin := inB_t (x := (k : Int)) (lo := 1) (hi := 3) (by omega)
  go_enter Tryz.func62, Tryz.ntmps62
  go_wp2
  go_loop [5] (fun i => ∃ n : Nat, n ≤ s.size ∧ i = .int .i64 n ∧ Hid (lets k (s.data.toList.take n) = true)) (fun i => s.size - (intOf i).toNat)
  case atStart => exact ⟨0, Nat.zero_le _, rfl, rfl⟩
  case round =>
    obtain ⟨n, hn, rfl, H⟩ := hrel
    by_cases hlt : n < s.size
    · have hb : s[n].toNat < 256 := s[n].toNat_lt
      by_cases h1 : s[n].toNat < 97
      · go_wp2
        go_ret
        exact ⟨ret_bool (by rw [show lets k s.data.toList = false from all_stop (byte_at s n hlt) (inB_f (by omega)), Bool.and_false]), rfl⟩
      · by_cases h2 : (k : Int) ≤ (s[n].toNat : Int) - 97
        · go_wp2
          go_ret
          exact ⟨ret_bool (by rw [show lets k s.data.toList = false from all_stop (byte_at s n hlt) (inB_f (by omega)), Bool.and_false]), rfl⟩
        · go_wp2
          go_round
          case rel => exact ⟨n + 1, by omega, by go_num, all_step (byte_at s n hlt) H.out (inB_t (by omega))⟩
          case measure => simp [intOf]; omega
    · have HE := hid (show lets k s.data.toList = true from all_end H.out (by rw [size_list]; omega))
      go_wp2_with (go_at_call 35; refine (l1In_c _ _ _ _).mono ?_; rintro e w' ⟨rfl, rfl⟩)
      go_ret
      exact ⟨ret_bool (by rw [HE.out, Bool.and_true]; congr 1; rw [eq_iff_iff]; omega), rfl⟩

/-! Words that a code gives. -/
def madeB (f : Nat → UInt8) (m : Nat) : List UInt8 := (List.range m).map f
theorem madeB_succ (f : Nat → UInt8) (m : Nat) : madeB f (m + 1) = madeB f m ++ [f m] := by simp [madeB, List.range_succ]
theorem madeB_len (f : Nat → UInt8) (m : Nat) : (madeB f m).length = m := by simp [madeB]
/-- The letter for the part of the width n from i on. -/
def apB (o : ByteArray) (k n : Nat) (l : List UInt8) (i : Nat) : UInt8 := giveB o (idxOf k ((l.drop i).take n))
theorem lets_part {k : Int} {l : List UInt8} (h : lets k l = true) (i n : Nat) : lets k ((l.drop i).take n) = true := by
  unfold lets at *
  rw [List.all_eq_true] at *
  exact fun c hc => h c (List.mem_of_mem_drop (List.mem_of_mem_take hc))
theorem part_ext {s : ByteArray} {i n : Nat} : (s.extract i (i + n)).data.toList = (s.data.toList.drop i).take n := by
  rw [ByteArray.data_extract, Array.toList_extract]
  simp [List.extract_eq_take_drop]
theorem part_size {s : ByteArray} {i n : Nat} (h : i + n ≤ s.size) : (s.extract i (i + n)).size = n := by rw [ByteArray.size_extract]; omega
theorem byteVals_madeB (f : Nat → UInt8) (m : Nat) : byteVals (madeB f (m + 1)) = byteVals (madeB f m) ++ [.int .u8 ((f m).toNat : Int)] := by rw [madeB_succ]; simp [byteVals]

set_option maxHeartbeats 2000000 in
set_option maxRecDepth 100000 in
theorem impl_apply_c (k n : Nat) (o s : ByteArray) (w : World) (hk : k ≤ 3) (hn1 : 1 ≤ n) (hn : n ≤ 4) (ho : k ^ n ≤ o.size) (hl : lets k s.data.toList = true) (hs : n ≤ s.size) (hs2 : s.size ≤ 1048576) :
    Calls Tryz.prog 65 #[.agg #[.int .i64 k, .int .i64 n, .string o], .string s] w fun e w' => e = .returned (.string ⟨(madeB (apB o k n s.data.toList) (s.size + 1 - n)).toArray⟩) ∧ Below w.heap.size w w' := by
  have HG := hid (fun (i : Nat) (w : World) (hi : i + n ≤ s.size) => show Calls Tryz.prog 88 #[.agg #[.int .i64 k, .int .i64 n, .string o], .string (s.extract i (i + n))] w fun e w' => e = .returned (.int .u8 ((apB o k n s.data.toList i).toNat : Int)) ∧ Below w.heap.size w w' from by
    have := gives_c k n o (s.extract i (i + n)) w hk (by rw [part_ext]; exact lets_part hl i n) (by rw [part_size hi]; omega) (by rw [part_size hi]; exact ho)
    rw [part_ext] at this
    exact this)
  obtain ⟨f, hf⟩ : ∃ f, f = apB o k n s.data.toList := ⟨_, rfl⟩
  rw [← hf] at HG
  rw [← hf]
  obtain ⟨m, hm⟩ : ∃ m, s.size + 1 = m + n := ⟨s.size + 1 - n, by omega⟩
  have hmm : s.size + 1 - n = m := by omega
  rw [hmm]
  have HM := hid hm
  clear hf hm hmm hl
  go_enter Tryz.func65, Tryz.ntmps65
  go_wp2
  go_loopw [5, 6] (fun v i wr => ∃ j : Nat, j ≤ m ∧ i = .int .i64 j ∧ wr.ownsRow (w.heap.size + 1) 5 1 v j (byteVals (madeB f j)) ∧ Below (w.heap.size + 1) (w.alloc (.cells #[.int .i64 k, .int .i64 n, .string o] 25)) wr) (fun _ i _ => m - (intOf i).toNat)
  case atStart => exact ⟨0, by omega, rfl, by simpa [madeB, byteVals] using World.ownsRow_made (w.alloc (.cells #[.int .i64 k, .int .i64 n, .string o] 25)) #[] 0 (e := 5) (size := 1) (base := w.heap.size + 1) (by simp) (by omega) rfl, (Below.refl _ _).alloc (by simp) _⟩
  case round =>
    obtain ⟨j, hj, rfl, hown, hbel⟩ := hrel
    have hbox := box_kept hbel
    have hc0 : wr.cell? ⟨w.heap.size, 0, none⟩ = some (.int .i64 k) := (hbox 0).1
    have hc1 : wr.cell? ⟨w.heap.size, 1, none⟩ = some (.int .i64 n) := (hbox 1).1
    have hc2 : wr.cell? ⟨w.heap.size, 2, none⟩ = some (.string o) := (hbox 2).1
    have hsz : w.heap.size + 1 ≤ wr.heap.size := by have := hbel.size; simpa using this
    clear hbox
    have hsm := HM.out
    by_cases hlt : j < m
    · have hjn : (j : Int) + (n : Int) ≤ (s.size : Int) := by omega
      have hj0 : (0 : Int) ≤ (j : Int) := by omega
      have hjj : (j : Int) ≤ (j : Int) + (n : Int) := by omega
      have hw1 : IntKind.i64.wrap ((j : Int) + (n : Int)) = (j : Int) + (n : Int) := IntWalk.i64_in _ (by omega)
      have hw2 : ((j : Int) + (n : Int)).toNat = j + n := by omega
      have HGj := hid (fun w => HG.out j w (by omega))
      have hK := hid (show ∀ V, Below (w.heap.size + 1) (w.alloc (.cells #[.int .i64 k, .int .i64 n, .string o] 25)) V → V.cell? ⟨w.heap.size, 0, none⟩ = some (.int .i64 k) ∧ V.cell? ⟨w.heap.size, 1, none⟩ = some (.int .i64 n) ∧ V.cell? ⟨w.heap.size, 2, none⟩ = some (.string o) ∧ Below (w.heap.size + 1) (w.alloc (.cells #[.int .i64 k, .int .i64 n, .string o] 25)) V from fun V hV => ⟨(box_kept hV 0).1, (box_kept hV 1).1, (box_kept hV 2).1, hV⟩)
      have hown0 := owns_below hown (Below.refl _ _).drew
      have hbel0 := hbel.drew
      have HO := hid hown0
      clear hown hown0 hsm
      go_wp2
      go_region_held3 (fun V => V.cell? ⟨w.heap.size, 0, none⟩ = some (.int .i64 k) ∧ V.cell? ⟨w.heap.size, 1, none⟩ = some (.int .i64 n) ∧ V.cell? ⟨w.heap.size, 2, none⟩ = some (.string o) ∧ Below (w.heap.size + 1) (w.alloc (.cells #[.int .i64 k, .int .i64 n, .string o] 25)) V)
        (first | exact hK.out _ hbel0 | exact hK.out _ hbel' | exact hK.out _ (hbel1.alloc (by omega) _) | exact hK.out _ hbel1)
        (first | (go_at_call 88; refine (HGj.out _).mono ?_; rintro e w1 ⟨rfl, hb1⟩; have hbel1 := hbel0.trans (hb1.mono hsz); have hown1 := owns_below HO.out hb1; have hsz1 : w.heap.size + 1 ≤ w1.heap.size := Nat.le_trans hsz hb1.size) | (refine step_app2 (by rfl) _ _ 22 (by rfl) (w.heap.size + 1) 5 (.int .u8 0) 1 Tryz.underlying22 infoU8b rfl _ j (byteVals (madeB f j)) _ hown1 (by rfl) (by rfl) rfl (by omega) (by unfold maxLen; omega) hbel1 hsz1 ?_; intro v' w3 hown' hbel' hgr'))
      go_wp2
      go_roundw
      case rel => exact ⟨j + 1, by omega, by go_num, by rw [byteVals_madeB]; exact hown', hbel'⟩
      case measure => simp [intOf]; omega
    · obtain rfl : j = m := by omega
      have hjn : ¬ ((j : Int) + (n : Int) ≤ (s.size : Int)) := by omega
      have hj2 : j ≤ 1048577 := by omega
      obtain ⟨ad, c, rfl, hr⟩ := owns_rowAt hown (by omega)
      clear hown hsm
      go_wp2_with (with_reducible refine wpList_convs rfl _ 22 9 5 rfl Tryz.underlying22 Tryz.underlying5 Tryz.underlying9 _ j _ (madeB f j) rfl hr ?_)
      go_ret
      exact ⟨rfl, ((Below.refl _ _).alloc (Nat.le_refl _) _).trans (hbel.mono (by omega))⟩
set_option maxHeartbeats 2000000 in
set_option maxRecDepth 100000 in
theorem spec_l11Apply_c (k n : Nat) (o s : ByteArray) (w : World) (hk : k ≤ 3) (hn1 : 1 ≤ n) (hn : n ≤ 4) (ho : k ^ n ≤ o.size) (ho2 : o.size ≤ 1048576) (hl : lets k s.data.toList = true) (hs : n ≤ s.size) (hs2 : s.size ≤ 1048576) :
    Calls Tryz.prog 63 #[.agg #[.int .i64 k, .int .i64 n, .string o], .string s] w fun e w' => e = .returned (.string ⟨(madeB (apB o k n s.data.toList) (s.size + 1 - n)).toArray⟩) ∧ Below w.heap.size w w' := by
  have HG := hid (fun (i : Nat) (w : World) (hi : i + n ≤ s.size) => show Calls Tryz.prog 86 #[.agg #[.int .i64 k, .int .i64 n, .string o], .string (s.extract i (i + n))] w fun e w' => e = .returned (.string ⟨#[apB o k n s.data.toList i]⟩) ∧ Below w.heap.size w w' from by
    have := l11Letter_c k n o (s.extract i (i + n)) w hk (by rw [part_ext]; exact lets_part hl i n) (by rw [part_size hi]; omega) (by rw [part_size hi]; exact ho) ho2
    rw [part_ext] at this
    exact this)
  obtain ⟨f, hf⟩ : ∃ f, f = apB o k n s.data.toList := ⟨_, rfl⟩
  rw [← hf] at HG
  rw [← hf]
  obtain ⟨m, hm⟩ : ∃ m, s.size + 1 = m + n := ⟨s.size + 1 - n, by omega⟩
  have hmm : s.size + 1 - n = m := by omega
  rw [hmm]
  have HM := hid hm
  clear hf hm hmm hl
  go_enter Tryz.func63, Tryz.ntmps63
  go_wp2
  go_loopw [5, 6] (fun v i wr => ∃ (j : Nat) (x : ByteArray), j ≤ m ∧ i = .int .i64 j ∧ v = .string x ∧ Hid (x = ⟨(madeB f j).toArray⟩) ∧ Below (w.heap.size + 1) (w.alloc (.cells #[.int .i64 k, .int .i64 n, .string o] 25)) wr) (fun _ i _ => m - (intOf i).toNat)
  case atStart => exact ⟨0, _, by omega, rfl, rfl, rfl, Below.refl _ _⟩
  case round =>
    obtain ⟨j, x, hj, rfl, rfl, HX, hbel⟩ := hrel
    have hbox := box_kept hbel
    have hc0 : wr.cell? ⟨w.heap.size, 0, none⟩ = some (.int .i64 k) := (hbox 0).1
    have hc1 : wr.cell? ⟨w.heap.size, 1, none⟩ = some (.int .i64 n) := (hbox 1).1
    have hc2 : wr.cell? ⟨w.heap.size, 2, none⟩ = some (.string o) := (hbox 2).1
    have hsz : w.heap.size + 1 ≤ wr.heap.size := by have := hbel.size; simpa using this
    clear hbox
    have hsm := HM.out
    by_cases hlt : j < m
    · have hjn : (j : Int) + (n : Int) ≤ (s.size : Int) := by omega
      have hj0 : (0 : Int) ≤ (j : Int) := by omega
      have hjj : (j : Int) ≤ (j : Int) + (n : Int) := by omega
      have hw1 : IntKind.i64.wrap ((j : Int) + (n : Int)) = (j : Int) + (n : Int) := IntWalk.i64_in _ (by omega)
      have hw2 : ((j : Int) + (n : Int)).toNat = j + n := by omega
      have hcat : ¬ (9223372036854775807 < x.size + 1) := by rw [HX.out]; show ¬ (9223372036854775807 < (List.toArray _).size + 1); simp [madeB_len]; first | done | omega
      have HGj := hid (fun w => HG.out j w (by omega))
      have HST := hid (show x ++ ⟨#[f j]⟩ = ⟨(madeB f (j + 1)).toArray⟩ by
        rw [HX.out, madeB_succ, show (ByteArray.mk #[f j]) = ⟨[f j].toArray⟩ from rfl, ByteArray.mk_append_mk]; first | done | simp)
      have hK := hid (show ∀ V, Below (w.heap.size + 1) (w.alloc (.cells #[.int .i64 k, .int .i64 n, .string o] 25)) V → V.cell? ⟨w.heap.size, 0, none⟩ = some (.int .i64 k) ∧ V.cell? ⟨w.heap.size, 1, none⟩ = some (.int .i64 n) ∧ V.cell? ⟨w.heap.size, 2, none⟩ = some (.string o) ∧ Below (w.heap.size + 1) (w.alloc (.cells #[.int .i64 k, .int .i64 n, .string o] 25)) V from fun V hV => ⟨(box_kept hV 0).1, (box_kept hV 1).1, (box_kept hV 2).1, hV⟩)
      have hbel0 := hbel.drew
      clear hsm
      go_wp2
      go_region_held3 (fun V => V.cell? ⟨w.heap.size, 0, none⟩ = some (.int .i64 k) ∧ V.cell? ⟨w.heap.size, 1, none⟩ = some (.int .i64 n) ∧ V.cell? ⟨w.heap.size, 2, none⟩ = some (.string o) ∧ Below (w.heap.size + 1) (w.alloc (.cells #[.int .i64 k, .int .i64 n, .string o] 25)) V)
        (first | exact hK.out _ hbel0 | exact hK.out _ hbel1)
        (first | (go_at_call 86; refine (HGj.out _).mono ?_; rintro e w1 ⟨rfl, hb1⟩; have hbel1 := hbel0.trans (hb1.mono hsz)))
      go_wp2
      go_roundw
      case rel => exact ⟨j + 1, _, by omega, by go_num, rfl, by show _ = _; rw [HST.out], hbel1⟩
      case measure => simp [intOf]; omega
    · obtain rfl : j = m := by omega
      have hjn : ¬ ((j : Int) + (n : Int) ≤ (s.size : Int)) := by omega
      have hj2 : j ≤ 1048577 := by omega
      clear hsm
      go_wp2
      go_ret
      exact ⟨ret_str HX.out, ((Below.refl _ _).alloc (Nat.le_refl _) _).trans (hbel.mono (by omega))⟩
end Go.Proofs.YtccknookhkahbaaGreat
