/- A code upon a ring: both functions. Conditions: valid codes, words of their letters. -/
import Derived.Test.YtccknookhkahbaaGreatApply
namespace Go.Proofs.YtccknookhkahbaaGreat
open Go.RowKit

/-- A word that goes on with itself, m letters of it. -/
def cyc (l : List UInt8) (m : Nat) : List UInt8 := (List.range m).map fun i => l.getD (i % l.length) 0
theorem cyc_len (l : List UInt8) (m : Nat) : (cyc l m).length = m := by simp [cyc]
theorem cyc_get {l : List UInt8} {m i : Nat} (h : i < m) : (cyc l m)[i]? = some (l.getD (i % l.length) 0) := by simp [cyc, h]
theorem cyc_self (l : List UInt8) : cyc l l.length = l := by
  refine List.ext_getElem? fun i => ?_
  by_cases h : i < l.length
  · rw [cyc_get h, Nat.mod_eq_of_lt h, List.getD_eq_getElem?_getD, List.getElem?_eq_getElem h]; rfl
  · rw [List.getElem?_eq_none (by rw [cyc_len]; omega), List.getElem?_eq_none (by omega)]
theorem cyc_more (l : List UInt8) (q : Nat) (hl : 0 < l.length) : cyc l (q * l.length) ++ l = cyc l ((q + 1) * l.length) := by
  refine List.ext_getElem? fun i => ?_
  rw [Nat.add_mul, Nat.one_mul]
  by_cases h : i < q * l.length
  · rw [List.getElem?_append_left (by rw [cyc_len]; exact h), cyc_get h, cyc_get (by omega)]
  · rw [List.getElem?_append_right (by rw [cyc_len]; omega), cyc_len]
    by_cases h2 : i < q * l.length + l.length
    · rw [cyc_get h2]
      obtain ⟨r, hr⟩ : ∃ r, i = q * l.length + r := ⟨i - q * l.length, by omega⟩
      have hrl : r < l.length := by omega
      have e1 : i - q * l.length = r := by omega
      have e2 : i % l.length = r := by rw [hr, Nat.mul_comm, Nat.mul_add_mod, Nat.mod_eq_of_lt hrl]
      rw [e1, e2, List.getD_eq_getElem?_getD, List.getElem?_eq_getElem hrl]; rfl
    · rw [List.getElem?_eq_none (by omega), List.getElem?_eq_none (by rw [cyc_len]; omega)]
theorem repeat_cyc (l : List UInt8) (hl : 0 < l.length) : ∀ q, Lib.repeatL l q = cyc l (q * l.length)
  | 0 => by simp [Lib.repeatL, cyc]
  | q + 1 => by
    have hcomm : ∀ q, Lib.repeatL l q ++ l = l ++ Lib.repeatL l q := by
      intro q
      induction q with
      | zero => simp [Lib.repeatL]
      | succ q ih => simp only [Lib.repeatL, List.append_assoc]; rw [ih]
    rw [Lib.repeatL, ← hcomm, repeat_cyc l hl q, cyc_more l q hl]
theorem cyc_take (l : List UInt8) {m n : Nat} (h : m ≤ n) : (cyc l n).take m = cyc l m := by
  refine List.ext_getElem? fun i => ?_
  rw [List.getElem?_take]
  by_cases hi : i < m
  · rw [if_pos hi, cyc_get hi, cyc_get (by omega)]
  · rw [if_neg hi, List.getElem?_eq_none (by rw [cyc_len]; omega)]
theorem lets_cyc {k : Int} {l : List UInt8} (h : lets k l = true) (hl : 0 < l.length) (m : Nat) : lets k (cyc l m) = true := by
  unfold lets
  rw [List.all_eq_true]
  intro c hc
  obtain ⟨i, _, rfl⟩ := List.mem_map.1 hc
  have h2 : i % l.length < l.length := Nat.mod_lt _ hl
  rw [List.getD_eq_getElem?_getD, List.getElem?_eq_getElem h2]
  exact List.all_eq_true.1 h _ (List.getElem_mem h2)
/-- What a code gives to a ring. -/
def ringB (o : ByteArray) (k n : Nat) (l : List UInt8) : List UInt8 := madeB (apB o k n (cyc l (l.length + n - 1))) l.length
theorem ringB_len (o : ByteArray) (k n : Nat) (l : List UInt8) : (ringB o k n l).length = l.length := madeB_len _ _
theorem apB_lets {k : Nat} {o : ByteArray} {l : List UInt8} {n : Nat} (hk : k ≤ 3) (ho : lets k o.data.toList = true) (hos : k ^ n ≤ o.size) (hl : lets k l = true) {i : Nat} (hi : i + n ≤ l.length) : inB (((apB o k n l i).toNat : Int) - 97) 0 ((k : Int) - 1) = true := by
  have h1 := idx_bd (lets_part hl i n) hk
  have h2 : ((l.drop i).take n).length = n := by simp; omega
  rw [h2] at h1
  unfold apB
  rw [giveB_at (by omega)]
  exact List.all_eq_true.1 ho _ (List.mem_of_getElem? (byte_at o _ (by omega)))
theorem ringB_lets {k : Nat} {o : ByteArray} {l : List UInt8} {n : Nat} (hk : k ≤ 3) (hn : 1 ≤ n) (ho : lets k o.data.toList = true) (hos : k ^ n ≤ o.size) (hl : lets k l = true) (hl0 : 0 < l.length) : lets k (ringB o k n l) = true := by
  unfold ringB madeB
  unfold lets
  rw [List.all_eq_true]
  intro c hc
  obtain ⟨i, hi, rfl⟩ := List.mem_map.1 hc
  exact apB_lets hk ho hos (lets_cyc hl hl0 _) (by rw [cyc_len]; have := List.mem_range.1 hi; omega)
def txt (l : List UInt8) : ByteArray := ⟨l.toArray⟩
theorem txt_list (l : List UInt8) : (txt l).data.toList = l := rfl
theorem txt_size (l : List UInt8) : (txt l).size = l.length := by simp [txt, ByteArray.size]
theorem txt_of (s : ByteArray) : txt s.data.toList = s := rfl
theorem txt_inj {a b : List UInt8} (h : txt a = txt b) : a = b := by rw [← txt_list a, h, txt_list]
theorem extract_take (s : ByteArray) (m : Nat) : s.extract 0 m = txt (s.data.toList.take m) := by
  apply ByteArray.ext
  rw [ByteArray.data_extract]
  show _ = (s.data.toList.take m).toArray
  apply Array.toList_inj.1
  rw [Array.toList_extract]
  simp [List.extract_eq_take_drop]

set_option maxHeartbeats 2000000 in
set_option maxRecDepth 100000 in
theorem impl_ring_c (k n : Nat) (o s : ByteArray) (w : World) (hk : k ≤ 3) (hn1 : 1 ≤ n) (hn : n ≤ 4) (ho : k ^ n ≤ o.size) (hl : lets k s.data.toList = true) (hs : 0 < s.size) (hs2 : s.size ≤ 1000) :
    Calls Tryz.prog 34 #[.agg #[.int .i64 k, .int .i64 n, .string o], .string s] w fun e w' => e = .returned (.string (txt (ringB o k n s.data.toList))) ∧ Below w.heap.size w w' := by
  have hl0 : 0 < s.data.toList.length := by rw [size_list]; exact hs
  have HR := hid (fun w : World => show Calls Tryz.prog 66 #[.string s, .int .i64 n] w fun e w' => e = .returned (.string (txt (cyc s.data.toList (n * s.size)))) ∧ Below w.heap.size w w' from by
    have := Tryz.strings_Repeat s n w (by omega) (by have := Nat.mul_le_mul hs2 hn; omega)
    rw [repeat_cyc _ hl0, size_list] at this
    exact this)
  have hmul : s.size + n - 1 ≤ n * s.size := by
    obtain ⟨a, ha⟩ : ∃ a, s.size = a + 1 := ⟨s.size - 1, by omega⟩
    obtain ⟨b, hb⟩ : ∃ b, n = b + 1 := ⟨n - 1, by omega⟩
    rw [ha, hb, Nat.add_mul, Nat.mul_add]; omega
  obtain ⟨m, hm⟩ : ∃ m, m + 1 = s.size + n := ⟨s.size + n - 1, by omega⟩
  have hm2 : s.size + n - 1 = m := by omega
  rw [hm2] at hmul
  have HA := hid (fun w : World => show Calls Tryz.prog 65 #[.agg #[.int .i64 k, .int .i64 n, .string o], .string (txt (cyc s.data.toList m))] w fun e w' => e = .returned (.string (txt (ringB o k n s.data.toList))) ∧ Below w.heap.size w w' from by
    have := impl_apply_c k n o (txt (cyc s.data.toList m)) w hk hn1 hn ho (lets_cyc hl hl0 m) (by rw [txt_size, cyc_len]; omega) (by rw [txt_size, cyc_len]; omega)
    rw [txt_list, txt_size, cyc_len] at this
    unfold ringB
    rw [size_list, hm2, show s.size = m + 1 - n by omega]
    exact this)
  have hex : (txt (cyc s.data.toList (n * s.size))).extract 0 m = txt (cyc s.data.toList m) := by rw [extract_take, txt_list, cyc_take _ hmul]
  obtain ⟨long, hlong⟩ : ∃ long, long = txt (cyc s.data.toList (n * s.size)) := ⟨_, rfl⟩
  have hlsz : long.size = n * s.size := by rw [hlong, txt_size, cyc_len]
  have hml : m ≤ long.size := by rw [hlsz]; exact hmul
  have hml2 : (m : Int) ≤ (long.size : Int) := by omega
  have hm0 : (0 : Int) ≤ (m : Int) := by omega
  rw [← hlong] at HR hex
  have hw1 : IntKind.i64.wrap ((s.size : Int) + (n : Int)) = (s.size : Int) + (n : Int) := IntWalk.i64_in _ (by omega)
  have hw2 : IntKind.i64.wrap ((s.size : Int) + (n : Int) - 1) = (m : Int) := by rw [show (s.size : Int) + (n : Int) - 1 = (m : Int) by omega]; exact IntWalk.i64_in _ (by omega)
  have hw3 : (s.size : Int) + (n : Int) - 1 = (m : Int) := by omega
  have hw4 : IntKind.i64.wrap (m : Int) = (m : Int) := IntWalk.i64_in _ (by omega)
  have hK := hid (show ∀ V, Below (w.heap.size + 1) (w.alloc (.cells #[.int .i64 k, .int .i64 n, .string o] 25)) V → V.cell? ⟨w.heap.size, 0, none⟩ = some (.int .i64 k) ∧ V.cell? ⟨w.heap.size, 1, none⟩ = some (.int .i64 n) ∧ V.cell? ⟨w.heap.size, 2, none⟩ = some (.string o) ∧ Below (w.heap.size + 1) (w.alloc (.cells #[.int .i64 k, .int .i64 n, .string o] 25)) V from fun V hV => ⟨(box_kept hV 0).1, (box_kept hV 1).1, (box_kept hV 2).1, hV⟩)
  clear hlong hlsz hmul hm2 hl0 hl
  go_enter Tryz.func34, Tryz.ntmps34
  go_wp2
  go_region_held3 (fun V => V.cell? ⟨w.heap.size, 0, none⟩ = some (.int .i64 k) ∧ V.cell? ⟨w.heap.size, 1, none⟩ = some (.int .i64 n) ∧ V.cell? ⟨w.heap.size, 2, none⟩ = some (.string o) ∧ Below (w.heap.size + 1) (w.alloc (.cells #[.int .i64 k, .int .i64 n, .string o] 25)) V)
    (first | exact hK.out _ (Below.refl _ _).drew | exact hK.out _ hbel1 | exact hK.out _ hbel2)
    (first | (go_at_call 66; refine (HR.out _).mono ?_; rintro e w1 ⟨rfl, hb1⟩; have hbel1 : Below (w.heap.size + 1) (w.alloc (.cells #[.int .i64 k, .int .i64 n, .string o] 25)) w1 := (Below.refl _ _).drew.trans (hb1.mono (by simp))) | (go_at_call 65; refine (HA.out _).mono ?_; rintro e w2 ⟨rfl, hb2⟩; have hbel2 := hbel1.trans (hb2.mono (by have := hbel1.size; simpa using this))))
  go_wp2
  go_ret
  exact ⟨rfl, ((Below.refl _ _).alloc (Nat.le_refl _) _).trans (hbel2.mono (by omega))⟩

/-- A ring that may be asked for. -/
def ringOk (k n : Int) (o s : ByteArray) : Bool := isCode k n o && (decide (1 ≤ s.size ∧ s.size ≤ 16) && lets k s.data.toList)
theorem ring_facts {k n : Int} {o s : ByteArray} (h : ringOk k n o s = true) : ∃ kk nn : Nat, k = kk ∧ n = nn ∧ (kk = 2 ∨ kk = 3) ∧ (1 ≤ nn ∧ nn ≤ 4) ∧ kk ^ nn ≤ 27 ∧ o.size = kk ^ nn ∧ lets kk o.data.toList = true ∧ (1 ≤ s.size ∧ s.size ≤ 16) ∧ lets kk s.data.toList = true ∧ isCode k n o = true := by
  unfold ringOk at h
  rw [Bool.and_eq_true, Bool.and_eq_true, decide_eq_true_eq] at h
  obtain ⟨h1, h2, h3⟩ := h
  obtain ⟨kk, nn, rfl, rfl, hk, hn, hp, ho, hl⟩ := code_facts h1
  exact ⟨kk, nn, rfl, rfl, hk, hn, hp, ho, hl, h2, h3, h1⟩
set_option maxHeartbeats 2000000 in
set_option maxRecDepth 100000 in
theorem spec_ApplyRing_no (k n : Int) (o s : ByteArray) (w : World) (ho : o.size ≤ maxLen) (hs : s.size ≤ maxLen) (h : ringOk k n o s = false) :
    Calls Tryz.prog 30 #[.agg #[.int .i64 k, .int .i64 n, .string o], .string s] w fun e w' => e = .returned (.tuple #[.string ⟨#[]⟩, .bool false]) ∧ Below w.heap.size w w' := by
  have HI := hid (fun w : World => spec_IsCode_c k n o w ho)
  cases hc : isCode k n o
  · rw [hc] at HI
    clear hc h
    go_enter Tryz.func30, Tryz.ntmps30
    go_wp2_with fail
    refine (HI.out _).mono ?_
    rintro e w1 ⟨rfl, hb1⟩
    obtain ⟨⟨hc0, hc1, hc2⟩, _, hz⟩ := box3 hb1
    go_wp2
    go_ret2
    exact ⟨rfl, ((Below.refl _ _).alloc (Nat.le_refl _) _).trans (hb1.mono (by simp))⟩
  · obtain ⟨kk, nn, rfl, rfl, hk, ⟨hn1, hn4⟩, hp, hos, hl⟩ := code_facts hc
    have HW := hid (fun w : World => spec_IsWord_c kk s w (by omega) hs)
    have hd : (decide (1 ≤ s.size ∧ s.size ≤ 16) && lets kk s.data.toList) = false := by unfold ringOk at h; rw [hc, Bool.true_and] at h; exact h
    rw [hc] at HI
    cases hw : (decide (s.size ≤ 16) && lets kk s.data.toList)
    · rw [hw] at HW
      clear hc h hd hw hos hl hp
      go_enter Tryz.func30, Tryz.ntmps30
      go_wp2_with fail
      refine (HI.out _).mono ?_
      rintro e w1 ⟨rfl, hb1⟩
      obtain ⟨⟨hc0, hc1, hc2⟩, _, hz⟩ := box3 hb1
      go_wp2_with fail
      refine (HW.out _).mono ?_
      rintro e w2 ⟨rfl, rfl⟩
      go_wp2
      go_ret2
      exact ⟨rfl, ((Below.refl _ _).alloc (Nat.le_refl _) _).trans (hb1.mono (by simp))⟩
    · have h0 : s.size = 0 := by
        rw [Bool.and_eq_true, decide_eq_true_eq] at hw
        rw [hw.2, Bool.and_true] at hd
        simp at hd; omega
      obtain rfl : s = ⟨#[]⟩ := by
        apply ByteArray.ext
        exact Array.eq_empty_of_size_eq_zero h0
      rw [hw] at HW
      clear hc h hd hw hos hl hp h0
      go_enter Tryz.func30, Tryz.ntmps30
      go_wp2_with fail
      refine (HI.out _).mono ?_
      rintro e w1 ⟨rfl, hb1⟩
      obtain ⟨⟨hc0, hc1, hc2⟩, _, hz⟩ := box3 hb1
      go_wp2_with fail
      refine (HW.out _).mono ?_
      rintro e w2 ⟨rfl, rfl⟩
      go_wp2
      go_ret2
      exact ⟨rfl, ((Below.refl _ _).alloc (Nat.le_refl _) _).trans (hb1.mono (by simp))⟩
set_option maxHeartbeats 2000000 in
set_option maxRecDepth 100000 in
theorem spec_ApplyRing_yes (k n : Nat) (o s : ByteArray) (w : World) (ho : o.size ≤ maxLen) (h : ringOk k n o s = true) :
    Calls Tryz.prog 30 #[.agg #[.int .i64 k, .int .i64 n, .string o], .string s] w fun e w' => e = .returned (.tuple #[.string (txt (ringB o k n s.data.toList)), .bool true]) ∧ Below w.heap.size w w' := by
  have HI := hid (fun w : World => spec_IsCode_c k n o w ho)
  obtain ⟨kk, nn, hkk, hnn, hk, ⟨hn1, hn4⟩, hp, hos, hlo, ⟨hs1, hs16⟩, hl, hic⟩ := ring_facts h
  obtain rfl : k = kk := by omega
  obtain rfl : n = nn := by omega
  rw [hic] at HI
  have HW := hid (fun w : World => spec_IsWord_c k s w (by omega) (by unfold maxLen; omega))
  rw [hl, show decide (s.size ≤ 16) = true by simp [hs16]] at HW
  have hl0 : 0 < s.data.toList.length := by rw [size_list]; exact hs1
  obtain ⟨m, hm⟩ : ∃ m, m + 1 = s.size + n := ⟨s.size + n - 1, by omega⟩
  have hm2 : s.size + n - 1 = m := by omega
  have HA := hid (fun w : World => show Calls Tryz.prog 63 #[.agg #[.int .i64 k, .int .i64 n, .string o], .string (txt (cyc s.data.toList m))] w fun e w' => e = .returned (.string (txt (ringB o k n s.data.toList))) ∧ Below w.heap.size w w' from by
    have := spec_l11Apply_c k n o (txt (cyc s.data.toList m)) w (by omega) hn1 hn4 (by omega) (by omega) (lets_cyc hl hl0 m) (by rw [txt_size, cyc_len]; omega) (by rw [txt_size, cyc_len]; omega)
    rw [txt_list, txt_size, cyc_len] at this
    unfold ringB
    rw [size_list, hm2, show s.size = m + 1 - n by omega]
    exact this)
  have hne : (!s.toList.isEmpty) = true ∧ s.toList.isEmpty = false := by
    have : s.toList ≠ [] := by
      intro h
      have h2 : s.toList.length = s.size := by rw [ByteArray.toList_eq]; simp
      rw [h] at h2; simp at h2; omega
    cases h : s.toList with
    | nil => exact absurd h this
    | cons => exact ⟨rfl, rfl⟩
  obtain ⟨L, hL⟩ : ∃ L, L = s.size := ⟨_, rfl⟩
  have HL := hid hL
  rw [← hL] at hs1 hs16 hm
  have hmi : (L : Int) + (n : Int) - 1 = (m : Int) := by omega
  clear h hic hos hlo hp hl hl0 hm2 hL hk
  have hsL : s.size = L := HL.out.symm
  go_enter Tryz.func30, Tryz.ntmps30
  go_wp2_with fail
  refine (HI.out _).mono ?_
  rintro e w1 ⟨rfl, hb1⟩
  obtain ⟨⟨hc0, hc1, hc2⟩, _, hz⟩ := box3 hb1
  have hbw1 : Below w.heap.size w w1 := ((Below.refl _ _).alloc (Nat.le_refl _) _).trans (hb1.mono (by simp))
  go_wp2_with fail
  refine (HW.out _).mono ?_
  rintro e w2 ⟨rfl, rfl⟩
  obtain ⟨hne1, hne2⟩ := hne
  go_wp2
  go_loop [6] (fun v => ∃ (q : Nat) (x : ByteArray), v = .string x ∧ x.size ≤ 100 ∧ Hid (x.size = q * L) ∧ Hid (x = txt (cyc s.data.toList (q * L)))) (fun v => match v with | .string x => 1000 - x.size | _ => 0)
  case atStart => exact ⟨1, s, rfl, by omega, by show _ = _; rw [Nat.one_mul]; exact hsL, by show _ = _; rw [Nat.one_mul, HL.out, ← size_list, cyc_self, txt_of]⟩
  case round =>
    obtain ⟨q, x, rfl, hx100, HXS, HX⟩ := hrel
    by_cases hlt : x.size < m
    · have hlt2 : (x.size : Int) < (m : Int) := by omega
      have hcat : ¬ (9223372036854775807 < x.size + s.size) := by omega
      have HST := hid (show x ++ s = txt (cyc s.data.toList ((q + 1) * L)) by
        have h1 := cyc_more s.data.toList q (by rw [size_list, hsL]; omega)
        rw [size_list, hsL] at h1
        rw [HX.out, ← h1]
        show (⟨_⟩ : ByteArray) ++ s = _
        rw [show s = ⟨s.data.toList.toArray⟩ from rfl, ByteArray.mk_append_mk]
        unfold txt
        simp)
      have HSZ := hid (show (x ++ s).size = (q + 1) * L by rw [ByteArray.size_append, HXS.out, hsL, Nat.add_mul, Nat.one_mul])
      have hs100 : (x ++ s).size ≤ 100 := by rw [ByteArray.size_append]; omega
      have hmore : x.size < (x ++ s).size := by rw [ByteArray.size_append]; omega
      go_wp2
      go_round
      case rel => exact ⟨q + 1, _, rfl, hs100, HSZ.out, HST.out⟩
      case measure => simp at hmore ⊢; omega
    · have hlt2 : ¬ ((x.size : Int) < (m : Int)) := by omega
      have hex : x.extract 0 m = txt (cyc s.data.toList m) := by rw [extract_take, HX.out, txt_list, cyc_take _ (by rw [← HXS.out]; omega)]
      have hml : m ≤ x.size := by omega
      have hml2 : (m : Int) ≤ (x.size : Int) := by omega
      have hm0 : (0 : Int) ≤ (m : Int) := by omega
      have hw1' : IntKind.i64.wrap ((L : Int) + (n : Int)) = (L : Int) + (n : Int) := IntWalk.i64_in _ (by omega)
      have hw4 : IntKind.i64.wrap (m : Int) = (m : Int) := IntWalk.i64_in _ (by omega)
      have hw5 : IntKind.i64.wrap ((L : Int) + (n : Int) - 1) = (m : Int) := by rw [hmi]; exact hw4
      go_wp2
      go_region_held3 (fun V => V.cell? ⟨w.heap.size, 0, none⟩ = some (.int .i64 k) ∧ V.cell? ⟨w.heap.size, 1, none⟩ = some (.int .i64 n) ∧ V.cell? ⟨w.heap.size, 2, none⟩ = some (.string o) ∧ Below w.heap.size w V)
        (first | exact ⟨hc0, hc1, hc2, hbw1.drew⟩ | exact ⟨(hb2.cell (p := ⟨w.heap.size, 0, none⟩) hz).trans hc0, (hb2.cell (p := ⟨w.heap.size, 1, none⟩) hz).trans hc1, (hb2.cell (p := ⟨w.heap.size, 2, none⟩) hz).trans hc2, hbw1.drew.trans (hb2.mono hbw1.size)⟩)
        (first | (go_at_call 63; refine (HA.out _).mono ?_; rintro e w3 ⟨rfl, hb2⟩))
      go_wp2
      go_ret2
      exact ⟨rfl, hbw1.drew.trans (hb2.mono hbw1.size)⟩
end Go.Proofs.YtccknookhkahbaaGreat
