/- A code upon a ring: both functions. Conditions: valid codes, words of their letters. -/
import Derived.Lib.Repeat
import Derived.Test.YtpfeflhcbcgbfaaGreatDoorSrch
import Derived.Test.YtpfeflhcbcgbfaaGreatDoorStep
import Derived.Test.YtpfeflhcbcgbfaaGreatDoorNumber
import Derived.Test.YtpfeflhcbcgbfaaGreatDoorShelf
namespace Go.Proofs.YtpfeflhcbcgbfaaGreatDoor
open Go.RowKit

/-- A value appended, the new row's block being the last. -/
theorem step_app2 {P : Program} {w0 wr : World} {ops : Array Oper} {o : Oper} {a : Act} {K : Act → World → Prop} {Q : Exit → Act → World → Prop} {E : Prop}
    (hg : o.guard = none) (s x : Operand) (t : TypeId) (hop : o.op = Op.call { callee := Callee.builtin Builtin.append, args := #[s, x], argTypes := #[t, t] })
    (B : Nat) (e : TypeId) (z : Value) (bytes : Nat) (h1 : P.underlying t = some (.slice e)) (hinfo : (P.info? e).map (fun i => (i.zero, i.size, i.bytes)) = some (some z, 1, bytes)) (hzs : z.cells.size = 1)
    (v : Value) (m : Nat) (xs : List Value) (u : Value) (hown : wr.ownsRow B e 1 v m xs) (hs : a.eval s = v) (hx : a.eval x = .slice (some ⟨wr.heap.size, 0, none⟩) 1 1)
    (hu : u.oneCell' = true) (hlim : (m + 1) * bytes ≤ 140737488355328) (hlim2 : m + 1 ≤ maxLen) (hbel : Below B w0 wr) (hB : B ≤ wr.heap.size)
    (hK : ∀ v' w1, w1.ownsRow B e 1 v' (m + 1) (xs ++ [u]) → Below B w0 w1 → wr.grownBy w1 v.ownBlock → K (a.put o.dst v') w1) :
    if Region.wanted o (yielded ops a.tmps) = true then Oper.wp P o a (wr.alloc (.cells #[u] e)) K Q else E := by
  obtain ⟨i, hi, hz, hz1, hz2⟩ := info_parts hinfo
  refine step_append_lies _ hg s x t hop B e i z 1 bytes h1 hi hz hz1 hz2 hzs (by decide) v m xs hs (hown.alloc _) ⟨wr.heap.size, 0, none⟩ 1 1 [u] hx rfl ?_ ?_ (by decide) hlim2 hlim (by simp; omega) (wr.heap.size + 1) (by simp) ?_
  · intro j y hj
    match j, hj with
    | 0, hj => simp at hj; subst hj; simp [Addr.add]
  · intro y hy; simp at hy; subst hy; exact hu
  · intro g cap w1 hown' hgrow _ _
    have hgr : wr.grownBy w1 v.ownBlock := grown_trans (World.grownBy_alloc _ _ _) hgrow
    exact hK _ w1 hown' (hbel.grown hgr hB (fun k hk => (hown.lt k hk).1)) hgr

set_option maxHeartbeats 1000000 in
theorem impl_IsWord_c (k : Nat) (s : ByteArray) (w : World) (hk : 1 ≤ k ∧ k ≤ 3) (hs : s.size ≤ maxLen) :
    Calls Tryz.prog 119 #[.int .i64 k, .string s] w fun e w' => e = .returned (.bool (decide (s.size ≤ 16) && lets k s.data.toList)) ∧ w = w' := by
  have hk1 : (1 : Int) ≤ (k : Int) := by omega
  have hk3 : (k : Int) ≤ 3 := by omega
  by_cases h : s.size ≤ 16
  · have h2 : (s.size : Int) ≤ 16 := by omega
    go_enter Tryz.func119, Tryz.ntmps119
    go_wp2_with (first | (go_at_call 70; refine (areLetters_c _ _ _ hs (by omega)).mono ?_; rintro e w' ⟨rfl, rfl⟩) | go_in)
    go_ret
    exact ⟨ret_bool (by simp [h]), rfl⟩
  · have h2 : ¬ ((s.size : Int) ≤ 16) := by omega
    go_enter Tryz.func119, Tryz.ntmps119
    go_wp2_with (first | (go_at_call 70; refine (areLetters_c _ _ _ hs (by omega)).mono ?_; rintro e w' ⟨rfl, rfl⟩) | go_in)
    go_ret
    exact ⟨ret_bool (by simp [h]), rfl⟩
set_option maxHeartbeats 1000000 in
theorem spec_IsWord_c (k : Nat) (s : ByteArray) (w : World) (hk : 1 ≤ k ∧ k ≤ 3) (hs : s.size ≤ maxLen) :
    Calls Tryz.prog 57 #[.int .i64 k, .string s] w fun e w' => e = .returned (.bool (decide (s.size ≤ 16) && lets k s.data.toList)) ∧ w = w' := by
  unfold maxLen at hs
  have hin := inB_t (x := (k : Int)) (lo := 1) (hi := 3) (by omega)
  go_enter Tryz.func57, Tryz.ntmps57
  go_wp2
  go_loop [5] (fun i => ∃ n : Nat, n ≤ s.size ∧ i = .int .i64 n ∧ Hid (lets k (s.data.toList.take n) = true)) (fun i => s.size - (intOf i).toNat)
  case atStart => exact ⟨0, Nat.zero_le _, rfl, rfl⟩
  case round =>
    obtain ⟨n, hn, rfl, H⟩ := hrel
    by_cases hlt : n < s.size
    · have hb : s[n].toNat < 256 := s[n].toNat_lt
      by_cases h1 : s[n].toNat < 97
      · go_wp2
        go_ret
        exact ⟨ret_bool (by rw [show lets k s.data.toList = false from all_stop (byte_at s n hlt) (inB_f (by omega)), Bool.and_false]), rfl⟩
      · by_cases h2 : (k : Int) ≤ (s[n].toNat : Int) - 97
        · go_wp2
          go_ret
          exact ⟨ret_bool (by rw [show lets k s.data.toList = false from all_stop (byte_at s n hlt) (inB_f (by omega)), Bool.and_false]), rfl⟩
        · go_wp2
          go_round
          case rel => exact ⟨n + 1, by omega, by go_num, all_step (byte_at s n hlt) H.out (inB_t (by omega))⟩
          case measure => simp [intOf]; omega
    · have HE := hid (show lets k s.data.toList = true from all_end H.out (by rw [size_list]; omega))
      go_wp2_with (go_at_call 58; refine (l1In_c _ _ _ _).mono ?_; rintro e w' ⟨rfl, rfl⟩)
      go_ret
      exact ⟨ret_bool (by rw [HE.out, Bool.and_true]; congr 1; rw [eq_iff_iff]; omega), rfl⟩

/-! Words that a code gives. -/
def madeB (f : Nat → UInt8) (m : Nat) : List UInt8 := (List.range m).map f
theorem madeB_succ (f : Nat → UInt8) (m : Nat) : madeB f (m + 1) = madeB f m ++ [f m] := by simp [madeB, List.range_succ]
theorem madeB_len (f : Nat → UInt8) (m : Nat) : (madeB f m).length = m := by simp [madeB]
/-- The letter for the part of the width n from i on. -/
def apB (o : ByteArray) (k n : Nat) (l : List UInt8) (i : Nat) : UInt8 := giveB o (idxOf k ((l.drop i).take n))
theorem lets_part {k : Int} {l : List UInt8} (h : lets k l = true) (i n : Nat) : lets k ((l.drop i).take n) = true := by
  unfold lets at *
  rw [List.all_eq_true] at *
  exact fun c hc => h c (List.mem_of_mem_drop (List.mem_of_mem_take hc))
theorem part_ext {s : ByteArray} {i n : Nat} : (s.extract i (i + n)).data.toList = (s.data.toList.drop i).take n := by
  rw [ByteArray.data_extract, Array.toList_extract]
  simp [List.extract_eq_take_drop]
theorem part_size {s : ByteArray} {i n : Nat} (h : i + n ≤ s.size) : (s.extract i (i + n)).size = n := by rw [ByteArray.size_extract]; omega
theorem byteVals_madeB (f : Nat → UInt8) (m : Nat) : byteVals (madeB f (m + 1)) = byteVals (madeB f m) ++ [.int .u8 ((f m).toNat : Int)] := by rw [madeB_succ]; simp [byteVals]

end Go.Proofs.YtpfeflhcbcgbfaaGreatDoor
namespace Go.Proofs.YtpfeflhcbcgbfaaGreatDoor
open Go.RowKit

/-- A word that goes on with itself, m letters of it. -/
def cyc (l : List UInt8) (m : Nat) : List UInt8 := (List.range m).map fun i => l.getD (i % l.length) 0
theorem cyc_len (l : List UInt8) (m : Nat) : (cyc l m).length = m := by simp [cyc]
theorem cyc_get {l : List UInt8} {m i : Nat} (h : i < m) : (cyc l m)[i]? = some (l.getD (i % l.length) 0) := by simp [cyc, h]
theorem cyc_self (l : List UInt8) : cyc l l.length = l := by
  refine List.ext_getElem? fun i => ?_
  by_cases h : i < l.length
  · rw [cyc_get h, Nat.mod_eq_of_lt h, List.getD_eq_getElem?_getD, List.getElem?_eq_getElem h]; rfl
  · rw [List.getElem?_eq_none (by rw [cyc_len]; omega), List.getElem?_eq_none (by omega)]
theorem cyc_more (l : List UInt8) (q : Nat) (hl : 0 < l.length) : cyc l (q * l.length) ++ l = cyc l ((q + 1) * l.length) := by
  refine List.ext_getElem? fun i => ?_
  rw [Nat.add_mul, Nat.one_mul]
  by_cases h : i < q * l.length
  · rw [List.getElem?_append_left (by rw [cyc_len]; exact h), cyc_get h, cyc_get (by omega)]
  · rw [List.getElem?_append_right (by rw [cyc_len]; omega), cyc_len]
    by_cases h2 : i < q * l.length + l.length
    · rw [cyc_get h2]
      obtain ⟨r, hr⟩ : ∃ r, i = q * l.length + r := ⟨i - q * l.length, by omega⟩
      have hrl : r < l.length := by omega
      have e1 : i - q * l.length = r := by omega
      have e2 : i % l.length = r := by rw [hr, Nat.mul_comm, Nat.mul_add_mod, Nat.mod_eq_of_lt hrl]
      rw [e1, e2, List.getD_eq_getElem?_getD, List.getElem?_eq_getElem hrl]; rfl
    · rw [List.getElem?_eq_none (by omega), List.getElem?_eq_none (by rw [cyc_len]; omega)]
theorem repeat_cyc (l : List UInt8) (hl : 0 < l.length) : ∀ q, Lib.repeatL l q = cyc l (q * l.length)
  | 0 => by simp [Lib.repeatL, cyc]
  | q + 1 => by
    have hcomm : ∀ q, Lib.repeatL l q ++ l = l ++ Lib.repeatL l q := by
      intro q
      induction q with
      | zero => simp [Lib.repeatL]
      | succ q ih => simp only [Lib.repeatL, List.append_assoc]; rw [ih]
    rw [Lib.repeatL, ← hcomm, repeat_cyc l hl q, cyc_more l q hl]
theorem cyc_take (l : List UInt8) {m n : Nat} (h : m ≤ n) : (cyc l n).take m = cyc l m := by
  refine List.ext_getElem? fun i => ?_
  rw [List.getElem?_take]
  by_cases hi : i < m
  · rw [if_pos hi, cyc_get hi, cyc_get (by omega)]
  · rw [if_neg hi, List.getElem?_eq_none (by rw [cyc_len]; omega)]
theorem lets_cyc {k : Int} {l : List UInt8} (h : lets k l = true) (hl : 0 < l.length) (m : Nat) : lets k (cyc l m) = true := by
  unfold lets
  rw [List.all_eq_true]
  intro c hc
  obtain ⟨i, _, rfl⟩ := List.mem_map.1 hc
  have h2 : i % l.length < l.length := Nat.mod_lt _ hl
  rw [List.getD_eq_getElem?_getD, List.getElem?_eq_getElem h2]
  exact List.all_eq_true.1 h _ (List.getElem_mem h2)
/-- What a code gives to a ring. -/
def ringB (o : ByteArray) (k n : Nat) (l : List UInt8) : List UInt8 := madeB (apB o k n (cyc l (l.length + n - 1))) l.length
theorem ringB_len (o : ByteArray) (k n : Nat) (l : List UInt8) : (ringB o k n l).length = l.length := madeB_len _ _
theorem apB_lets {k : Nat} {o : ByteArray} {l : List UInt8} {n : Nat} (hk : k ≤ 3) (ho : lets k o.data.toList = true) (hos : k ^ n ≤ o.size) (hl : lets k l = true) {i : Nat} (hi : i + n ≤ l.length) : inB (((apB o k n l i).toNat : Int) - 97) 0 ((k : Int) - 1) = true := by
  have h1 := idx_bd (lets_part hl i n) hk
  have h2 : ((l.drop i).take n).length = n := by simp; omega
  rw [h2] at h1
  unfold apB
  rw [giveB_at (by omega)]
  exact List.all_eq_true.1 ho _ (List.mem_of_getElem? (byte_at o _ (by omega)))
theorem ringB_lets {k : Nat} {o : ByteArray} {l : List UInt8} {n : Nat} (hk : k ≤ 3) (hn : 1 ≤ n) (ho : lets k o.data.toList = true) (hos : k ^ n ≤ o.size) (hl : lets k l = true) (hl0 : 0 < l.length) : lets k (ringB o k n l) = true := by
  unfold ringB madeB
  unfold lets
  rw [List.all_eq_true]
  intro c hc
  obtain ⟨i, hi, rfl⟩ := List.mem_map.1 hc
  exact apB_lets hk ho hos (lets_cyc hl hl0 _) (by rw [cyc_len]; have := List.mem_range.1 hi; omega)
def txt (l : List UInt8) : ByteArray := ⟨l.toArray⟩
theorem txt_list (l : List UInt8) : (txt l).data.toList = l := rfl
theorem txt_size (l : List UInt8) : (txt l).size = l.length := by simp [txt, ByteArray.size]
theorem txt_of (s : ByteArray) : txt s.data.toList = s := rfl
theorem txt_inj {a b : List UInt8} (h : txt a = txt b) : a = b := by rw [← txt_list a, h, txt_list]
theorem extract_take (s : ByteArray) (m : Nat) : s.extract 0 m = txt (s.data.toList.take m) := by
  apply ByteArray.ext
  rw [ByteArray.data_extract]
  show _ = (s.data.toList.take m).toArray
  apply Array.toList_inj.1
  rw [Array.toList_extract]
  simp [List.extract_eq_take_drop]

/-- A ring that may be asked for. -/
def ringOk (k n : Int) (o s : ByteArray) : Bool := isCode k n o && (decide (1 ≤ s.size ∧ s.size ≤ 16) && lets k s.data.toList)
theorem ring_facts {k n : Int} {o s : ByteArray} (h : ringOk k n o s = true) : ∃ kk nn : Nat, k = kk ∧ n = nn ∧ (kk = 2 ∨ kk = 3) ∧ (1 ≤ nn ∧ nn ≤ 4) ∧ kk ^ nn ≤ 27 ∧ o.size = kk ^ nn ∧ lets kk o.data.toList = true ∧ (1 ≤ s.size ∧ s.size ≤ 16) ∧ lets kk s.data.toList = true ∧ isCode k n o = true := by
  unfold ringOk at h
  rw [Bool.and_eq_true, Bool.and_eq_true, decide_eq_true_eq] at h
  obtain ⟨h1, h2, h3⟩ := h
  obtain ⟨kk, nn, rfl, rfl, hk, hn, hp, ho, hl⟩ := code_facts h1
  exact ⟨kk, nn, rfl, rfl, hk, hn, hp, ho, hl, h2, h3, h1⟩
end Go.Proofs.YtpfeflhcbcgbfaaGreatDoor
