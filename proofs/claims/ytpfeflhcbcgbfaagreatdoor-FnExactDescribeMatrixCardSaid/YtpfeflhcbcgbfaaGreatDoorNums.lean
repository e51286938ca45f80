/- Numbers written with a text between them: both functions. Conditions: the numbers are ints, the table of powers of ten reads as the program lays it. -/
import Derived.Lib.Join
import Derived.Lib.AppendStr
import Derived.Lib.ItoaNum
import Derived.WalkSmall
import Derived.Test.YtpfeflhcbcgbfaaGreatDoorIntsIn
import Derived.Test.YtpfeflhcbcgbfaaGreatDoorAppS
import Derived.Test.YtpfeflhcbcgbfaaGreatDoorLaw2
import Derived.Test.YtpfeflhcbcgbfaaGreatDoorShelf
namespace Go.Proofs.YtpfeflhcbcgbfaaGreatDoor
open Go.RowKit

theorem join_step {L : List (List UInt8)} {sep y : List UInt8} {j : Nat} (h : L[j]? = some y) : Lib.join (L.take (j + 1)) sep = Lib.join (L.take j) sep ++ (if j = 0 then [] else sep) ++ y := by
  match L, j, h with
  | x :: r, 0, h =>
    simp at h
    subst h
    simp [Lib.join_one, Lib.join_nil]
  | x :: r, j + 1, h =>
    have h' : r[j]? = some y := by simpa using h
    rw [List.take_succ_cons, List.take_succ_cons, Lib.join_cons, Lib.join_cons, Lib.joinTail_take_succ sep r j y h']
    simp
theorem join_take_le (L : List (List UInt8)) (sep : List UInt8) (j : Nat) : (Lib.join (L.take j) sep).length ≤ (Lib.join L sep).length := by
  match L, j with
  | [], j => simp
  | x :: r, 0 => simp [Lib.join_nil]
  | x :: r, j + 1 =>
    have := Lib.joinTail_take_le sep r j
    rw [List.take_succ_cons, Lib.join_cons, Lib.join_cons]
    simp
    exact this
theorem strCells_byte (s : ByteArray) : Lib.strCells s = byteVals s.data.toList := rfl
theorem byteVals_append (a b : List UInt8) : byteVals (a ++ b) = byteVals a ++ byteVals b := by simp [byteVals]
def dlj (b : ByteArray) : List UInt8 := b.data.toList
theorem owns_nilJ (w : World) (e : Nat) : (w.alloc (.cells #[] e)).ownsRow w.heap.size e 1 (.slice (some ⟨w.heap.size, 0, none⟩) 0 0) 0 [] :=
  ⟨rfl, Or.inr ⟨w.heap.size, 0, #[], rfl, Nat.le_refl _, by show (w.heap.push _)[w.heap.size]? = _; simp, Nat.le_refl _, by unfold maxLen; omega, rfl, rfl⟩⟩
theorem infoU8J : (Tryz.prog.info? 5).map (fun i => (i.zero, i.size, i.bytes)) = some (some (.int .u8 0), 1, 1) := by kernel_rfl
def joinV (xs : List ByteArray) (sep : ByteArray) : ByteArray := ⟨(Lib.join (xs.map dlj) sep.data.toList).toArray⟩
/-- A text appended to bytes of the call's own. -/
theorem wpList_appS {P : Program} {wr : World} {ops : Array Oper} {rest : List Oper} {o : Oper} {a : Act} {Q : Exit → Act → World → Prop}
    (hgd : o.guard = none) (sl x : Operand) (t u : TypeId) (ho : o.op = .call { callee := .builtin .append, args := #[sl, x], argTypes := #[t, u] })
    (B : Nat) (e : TypeId) (ht : P.underlying t = some (.slice e)) (hu : P.underlying u = some .string) (hinfo : (P.info? e).map (fun i => (i.zero, i.size, i.bytes)) = some (some (.int .u8 0), 1, 1))
    (v : Value) (xs : List UInt8) (n : Nat) (hs : a.eval sl = v) (hown : wr.ownsRow B e 1 v n (byteVals xs)) (s : ByteArray) (hx : a.eval x = .string s) (hlim : n + s.size ≤ 140737488355328) (hB : B ≤ wr.heap.size) (w : World) (hbel : Below B w wr)
    (hK : ∀ v' w1, w1.ownsRow B e 1 v' (n + s.size) (byteVals (xs ++ s.data.toList)) → Below B w w1 → wpList P ops Q rest (a.put o.dst v') w1) : wpList P ops Q (o :: rest) a wr := by
  obtain ⟨i, hi, hz, hz1, hz2⟩ := info_parts hinfo
  refine Lib.wpList_append_own_string wr hgd sl x t u ho B e i ht hu hi hz hz1 hz2 v n (byteVals xs) hs hown s hx (by unfold maxLen; omega) hlim hB ?_
  intro v' w1 hown' hgr _
  exact hK v' w1 (by rw [byteVals_append]; exact hown') (hbel.grown hgr hB (fun k hk => (hown.lt k hk).1))
set_option maxHeartbeats 2000000 in
set_option maxRecDepth 100000 in
theorem spec_Join_c (a : Option Addr) (n c : Nat) (xs : List ByteArray) (sep : ByteArray) (w : World) (hr : RowAt w a n (strVals xs)) (hlen : (Lib.join (xs.map dlj) sep.data.toList).length ≤ 1000000000) :
    Calls Tryz.prog 44 #[.slice a n c, .string sep] w fun e w' => e = .returned (.string (joinV xs sep)) ∧ Below w.heap.size w w' := by
  obtain ⟨hl, hlim, hat⟩ := hr
  have HLEN := hid (show xs.length = n by simpa [strVals] using hl)
  have HAT := hid hat
  have HT := hid (fun j => join_take_le (xs.map dlj) sep.data.toList j)
  have HST := hid (fun (j : Nat) (y : ByteArray) (h : xs[j]? = some y) => join_step (L := xs.map dlj) (sep := sep.data.toList) (y := dlj y) (j := j) (by simp [h]))
  have HV := hid (show joinV xs sep = ⟨(Lib.join ((xs.map dlj).take n) sep.data.toList).toArray⟩ by unfold joinV; rw [List.take_of_length_le (by rw [List.length_map, HLEN.out]; exact Nat.le_refl _)])
  obtain ⟨f, hf⟩ : ∃ f, f = fun j => Lib.join ((xs.map dlj).take j) sep.data.toList := ⟨_, rfl⟩
  obtain ⟨m, hm⟩ : ∃ m, m = (Lib.join (xs.map dlj) sep.data.toList).length := ⟨_, rfl⟩
  have HT2 := hid (fun j => show (f j).length ≤ m by rw [hf, hm]; exact HT.out j)
  have HS2 := hid (fun j y h => show f (j + 1) = f j ++ (if j = 0 then [] else sep.data.toList) ++ dlj y by rw [hf]; exact HST.out j y h)
  have HV2 := hid (show joinV xs sep = ⟨(f n).toArray⟩ by rw [hf]; exact HV.out)
  have hf0 : Hid (f 0 = []) := by show _ = _; rw [hf]; simp [Lib.join_nil]
  have hm1 : m ≤ 1000000000 := by omega
  obtain ⟨jv, hjv⟩ : ∃ jv, jv = joinV xs sep := ⟨_, rfl⟩
  rw [← hjv] at HV2
  rw [← hjv]
  clear hl hat HT HST HV hf hm hlen hjv
  go_enter Tryz.func44, Tryz.ntmps44
  go_wp2
  go_loopw [5, 6] (fun v i wr => ∃ j : Nat, j ≤ n ∧ i = .int .i64 j ∧ wr.ownsRow w.heap.size 5 1 v (f j).length (byteVals (f j)) ∧ Below w.heap.size w wr) (fun _ i _ => n - (intOf i).toNat)
  case atStart => exact ⟨0, by omega, rfl, by rw [hf0.out]; exact owns_nilJ w _, (Below.refl _ _).alloc (Nat.le_refl _) _⟩
  case round =>
    obtain ⟨j, hj, rfl, hown, hbel⟩ := hrel
    by_cases hlt : j < n
    · obtain ⟨b, off, rfl, hb, hc⟩ := HAT.out (by omega)
      obtain ⟨y, hy⟩ := get_some (l := xs) (n := j) (by rw [HLEN.out]; exact hlt)
      have hcell := (hbel.cell (p := ⟨b, off + j, none⟩) hb).trans (hc j _ (strVals_get hy))
      have hst := HS2.out j y hy
      have hle1 := HT2.out (j + 1)
      have HY := hid hy
      have hO := hown
      clear hc hy hown
      by_cases hj0 : j = 0
      · rw [if_pos hj0, List.append_nil] at hst
        have hsum : (f j).length + y.size ≤ 1000000000 := by
          have := congrArg List.length hst
          rw [List.length_append] at this
          unfold dlj at this
          rw [size_list] at this
          omega
        have HST := hid hst
        clear hst
        subst hj0
        rw [Nat.add_zero] at hcell
        go_wp2_with (first | (at_builtin; go_must (refine wpList_appS rfl _ _ 71 9 rfl w.heap.size 5 Tryz.underlying71 Tryz.underlying9 infoU8J _ (f 0) (f 0).length rfl hO y rfl (by omega) hbel.size w hbel ?_); intro v' w1 hown1 hb1))
        go_roundw
        case rel => exact ⟨1, by omega, by go_num, by rw [HST.out, List.length_append]; unfold dlj; rw [size_list]; exact hown1, hb1⟩
        case measure => simp [intOf]; omega
      · rw [if_neg hj0] at hst
        have hsum : (f j).length + sep.size + y.size ≤ 1000000000 := by
          have := congrArg List.length hst
          rw [List.length_append, List.length_append] at this
          unfold dlj at this
          rw [size_list, size_list] at this
          omega
        have HST := hid hst
        have hjp : (0 : Int) < (j : Int) := by omega
        have tok1 : True := trivial
        clear hst
        go_wp2_with (first
          | (at_builtin
             have _t := tok1
             go_must (refine wpList_appS rfl _ _ 71 9 rfl w.heap.size 5 Tryz.underlying71 Tryz.underlying9 infoU8J _ (f j) (f j).length rfl hO sep rfl (by omega) hbel.size w hbel ?_)
             intro v' w1 hown1 hb1
             clear tok1
             have hcell1 := (hb1.cell (p := ⟨b, off + j, none⟩) hb).trans ((hbel.cell (p := ⟨b, off + j, none⟩) hb).symm.trans hcell)
             have tok2 : True := trivial)
          | (at_builtin
             have _t := tok2
             go_must (refine wpList_appS rfl _ _ 71 9 rfl w.heap.size 5 Tryz.underlying71 Tryz.underlying9 infoU8J _ (f j ++ sep.data.toList) ((f j).length + sep.size) rfl hown1 y rfl (by omega) hb1.size w hb1 ?_)
             intro v2 w2 hown2 hb2
             clear tok2))
        go_roundw
        case rel => exact ⟨j + 1, by omega, by go_num, by rw [HST.out, List.length_append, List.length_append]; unfold dlj; rw [size_list, size_list]; exact hown2, hb2⟩
        case measure => simp [intOf]; omega
    · obtain rfl : j = n := by omega
      have hle1 := HT2.out j
      obtain ⟨ar, cr, rfl, hrr⟩ := owns_rowAt hown (by omega)
      clear hown
      go_wp2_with (with_reducible refine wpList_convs rfl _ 71 9 5 rfl Tryz.underlying71 Tryz.underlying5 Tryz.underlying9 _ (f j).length _ (f j) rfl hrr ?_)
      go_ret
      exact ⟨ret_str HV2.out.symm, hbel⟩
theorem implJoin_c (B g c n : Nat) (xs : List ByteArray) (sep : ByteArray) (w : World) (hn : xs.length = n) (hown : w.ownsRow B 9 1 (.slice (some ⟨g, 0, none⟩) n c) n (strVals xs)) (hlim : n ≤ 1000000000) (hlen : (Lib.join (xs.map dlj) sep.data.toList).length ≤ 1000000000) :
    Calls Tryz.prog 79 #[.slice (some ⟨g, 0, none⟩) n c, .string sep] w fun e w' => e = .returned (.string (joinV xs sep)) ∧ Below w.heap.size w w' := by
  subst hn
  obtain ⟨cur, hb, hg, h1, h2, h3, h4⟩ := owns_block hown
  exact Tryz.strings_Join g 0 c xs sep w (fun j x hj => by
    have hjl := (List.getElem?_eq_some_iff.1 hj).1
    rw [Nat.zero_add, hown.cellAt j (by omega)]
    exact strVals_get hj) (hown.lt g rfl).2 (by omega) h1 (by exact Nat.le_trans hlen (by omega))
end Go.Proofs.YtpfeflhcbcgbfaaGreatDoor
namespace Go.Proofs.YtpfeflhcbcgbfaaGreatDoor
open Go.RowKit

def ddK (k : Nat) : List UInt8 := if k = 0 then [] else Lib.decDigits k
theorem mtLoop_dd : ∀ (k : Nat) (out : ByteArray), mtLoop k out = ⟨(ddK k ++ out.data.toList).toArray⟩ := by
  intro k
  induction k using Nat.strongRecOn with
  | _ k ih =>
    intro out
    by_cases hk : k = 0
    · subst hk
      rw [mtLoop, dif_pos rfl]
      simp [ddK]
    · rw [mtLoop, dif_neg hk, ih (k / 10) (by omega)]
      have e : (ByteArray.mk #[digB k] ++ out).data.toList = digB k :: out.data.toList := by simp
      rw [e]
      congr 2
      unfold ddK
      rw [if_neg hk]
      by_cases h10 : k < 10
      · rw [if_pos (by omega), Lib.decDigits, dif_pos h10]
        unfold digB
        rw [Nat.mod_eq_of_lt h10]
        rfl
      · rw [if_neg (by omega)]
        conv => rhs; rw [Lib.decDigits, dif_neg h10]
        unfold digB
        simp
theorem fmt_pos {k : Nat} (h : k ≠ 0) : mtLoop k ByteArray.empty = ⟨(Lib.itoa (k : Int)).toArray⟩ := by
  rw [mtLoop_dd]
  unfold ddK Lib.itoa
  rw [if_neg h, if_neg (by omega), Int.toNat_natCast]
  simp
theorem fmt_neg {k : Nat} (h : k ≠ 0) : (ByteArray.mk #[45]) ++ mtLoop k ByteArray.empty = ⟨(Lib.itoa (-(k : Int))).toArray⟩ := by
  rw [mtLoop_dd]
  unfold ddK Lib.itoa
  rw [if_neg h, if_pos (by omega), Int.natAbs_neg, Int.natAbs_natCast]
  simp
  rfl
def fmtB (n : Int) : ByteArray := ⟨(Lib.itoa n).toArray⟩
theorem half_step {j s k : Nat} (h : j * 2 ^ s ≤ k) : j / 10 * 2 ^ (s + 1) ≤ k := by
  rw [Nat.pow_succ, Nat.mul_comm (2 ^ s) 2, ← Nat.mul_assoc]
  exact Nat.le_trans (Nat.mul_le_mul_right _ (by omega)) h
theorem half_size {j s k : Nat} (h : j * 2 ^ s ≤ k) (hj : 0 < j) (hk : k ≤ 9223372036854775808) : s ≤ 64 := by
  refine Nat.le_of_lt_succ ((Nat.pow_lt_pow_iff_right (a := 2) (by omega)).1 ?_)
  have h1 : 2 ^ s ≤ j * 2 ^ s := Nat.le_mul_of_pos_left _ hj
  have h2 : (9223372036854775808 : Nat) < 2 ^ 65 := by decide
  omega
theorem mt_stepF {j : Nat} {out : ByteArray} (h : 0 < j) : mtLoop j out = mtLoop (j / 10) (⟨#[digB j]⟩ ++ out) := by rw [mtLoop, dif_neg (by omega)]
set_option maxHeartbeats 1000000 in
theorem spec_FormatInt_pos (k : Nat) (w : World) (hk : k ≤ 9223372036854775807) (hk0 : 0 < k) :
    Calls Tryz.prog 20 #[.int .i64 k] w fun e w' => e = .returned (.string (fmtB k)) ∧ Below w.heap.size w w' := by
  have hk1 : ((k : Int) == 0) = false := by rw [beq_eq_false_iff_ne]; omega
  have hk2 : ¬ ((k : Int) < 0) := by omega
  have HF := hid (fmt_pos (k := k) (by omega))
  go_enter Tryz.func20, Tryz.ntmps20
  go_wp2
  go_loopw [0, 4, 5] (fun m o _ wr => ∃ (j : Nat) (out : ByteArray), m = .int .i64 j ∧ o = .string out ∧ j ≤ k ∧ Hid (j * 2 ^ out.size ≤ k) ∧ Below w.heap.size w wr ∧ Hid (mtLoop k ByteArray.empty = mtLoop j out)) (fun m _ _ _ => (intOf m).toNat)
  case atStart => exact ⟨k, ByteArray.empty, rfl, rfl, by omega, by show _ ≤ _; simp, Below.refl _ _, rfl⟩
  case round =>
    obtain ⟨j, out, rfl, rfl, hjk, HS, hbel, H⟩ := hrel
    by_cases hlt : 0 < j
    · have hs := half_size HS.out hlt (by omega)
      have HST := hid (mt_stepF (out := out) hlt)
      have hj1 : ((j : Int) != 0) = true := by rw [bne_iff_ne]; omega
      have hnn : ¬ ((j : Int) % 10 < 0) := by omega
      go_wp2_with (with_reducible refine wpList_convs rfl _ 71 9 5 rfl Tryz.underlying71 Tryz.underlying5 Tryz.underlying9 _ 1 1 [digB j] rfl (rowAt_byte1 _ _ _ _ (digB_nat j)) ?_)
      go_roundw
      case rel => exact ⟨j / 10, _, by go_num, rfl, by omega, by (show _ ≤ _; rw [ByteArray.size_append, show (ByteArray.mk #[digB j]).size = 1 from rfl, Nat.add_comm]; exact half_step HS.out), hbel.alloc hbel.size _, by show _ = _; rw [H.out, HST.out]⟩
      case measure => simp [intOf]; omega
    · obtain rfl : j = 0 := by omega
      go_wp2
      go_ret
      exact ⟨ret_str (by rw [fmtB, ← HF.out, H.out, mtLoop, dif_pos rfl]), hbel⟩
set_option maxHeartbeats 1000000 in
theorem spec_FormatInt_neg (k : Nat) (w : World) (hk : k ≤ 9223372036854775808) (hk0 : 0 < k) :
    Calls Tryz.prog 20 #[.int .i64 (-(k : Int))] w fun e w' => e = .returned (.string (fmtB (-(k : Int)))) ∧ Below w.heap.size w w' := by
  obtain ⟨v, hv⟩ : ∃ v : Int, v = -(k : Int) := ⟨_, rfl⟩
  have hk1 : (v == 0) = false := by rw [beq_eq_false_iff_ne]; omega
  have hk2 : v < 0 := by omega
  have HF := hid (fmt_neg (k := k) (by omega))
  rw [← hv] at HF
  rw [← hv]
  have HV := hid hv
  clear hv
  go_enter Tryz.func20, Tryz.ntmps20
  go_wp2
  go_loopw [0, 4, 5] (fun m o _ wr => ∃ (j : Nat) (u : Int) (out : ByteArray), m = .int .i64 u ∧ o = .string out ∧ Hid (u = -(j : Int)) ∧ j ≤ k ∧ out.size ≤ 65 ∧ Hid (j * 2 ^ out.size ≤ k) ∧ Below w.heap.size w wr ∧ Hid (mtLoop k ByteArray.empty = mtLoop j out)) (fun m _ _ _ => (intOf m).natAbs)
  case atStart => exact ⟨k, v, ByteArray.empty, rfl, rfl, HV, by omega, by simp, by show _ ≤ _; simp, Below.refl _ _, rfl⟩
  case round =>
    obtain ⟨j, u, out, rfl, rfl, HU, hjk, h65, HS, hbel, H⟩ := hrel
    have hu := HU.out
    by_cases hlt : 0 < j
    · have hs := half_size HS.out hlt (by omega)
      have HST := hid (mt_stepF (out := out) hlt)
      have hj1 : (u != 0) = true := by rw [bne_iff_ne]; omega
      have hub1 : -9223372036854775808 ≤ u := by omega
      have hub2 : u < 0 := by omega
      have hdig := digB_nat j
      obtain ⟨e, he⟩ : ∃ e : Int, e = u.tmod 10 := ⟨_, rfl⟩
      obtain ⟨q, hq⟩ : ∃ q : Int, q = u.tdiv 10 := ⟨_, rfl⟩
      have hej : e = -((j % 10 : Nat) : Int) := by rw [he, hu, Int.neg_tmod]; rfl
      have hqj : q = -((j / 10 : Nat) : Int) := by rw [hq, hu, Int.neg_tdiv]; rfl
      have hte := he.symm
      have htq := hq.symm
      have he9 : -9 ≤ e := by omega
      have he0 : e ≤ 0 := by omega
      have HQ := hid hqj
      have HDG := hid (show ((digB j).toNat : Int) = 48 - e by omega)
      have hqb1 : -9223372036854775808 ≤ q := by omega
      have hqb2 : q ≤ 0 := by omega
      clear hu he hq hej hqj hdig
      by_cases hez : e = 0
      · subst hez
        go_wp2_with (refine wpList_convs rfl _ 71 9 5 rfl Tryz.underlying71 Tryz.underlying5 Tryz.underlying9 _ 1 1 [digB j] rfl (rowAt_byte1 _ _ _ _ (by rw [HDG.out]; rfl)) ?_)
        go_roundw
        case rel => exact ⟨j / 10, q, _, rfl, rfl, HQ, by omega, by (rw [ByteArray.size_append, show (ByteArray.mk #[digB j]).size = 1 from rfl]; omega), by (show _ ≤ _; rw [ByteArray.size_append, show (ByteArray.mk #[digB j]).size = 1 from rfl, Nat.add_comm]; exact half_step HS.out), hbel.alloc hbel.size _, by show _ = _; rw [H.out, HST.out]⟩
        case measure => have := HQ.out; have := HU.out; simp [intOf]; omega
      · have hel : e < 0 := by omega
        go_wp2_with (refine wpList_convs rfl _ 71 9 5 rfl Tryz.underlying71 Tryz.underlying5 Tryz.underlying9 _ 1 1 [digB j] rfl (rowAt_byte1 _ _ _ _ (by rw [HDG.out]; omega)) ?_)
        go_roundw
        case rel => exact ⟨j / 10, q, _, rfl, rfl, HQ, by omega, by (rw [ByteArray.size_append, show (ByteArray.mk #[digB j]).size = 1 from rfl]; omega), by (show _ ≤ _; rw [ByteArray.size_append, show (ByteArray.mk #[digB j]).size = 1 from rfl, Nat.add_comm]; exact half_step HS.out), hbel.alloc hbel.size _, by show _ = _; rw [H.out, HST.out]⟩
        case measure => have := HQ.out; have := HU.out; simp [intOf]; omega
    · obtain rfl : j = 0 := by omega
      obtain rfl : u = 0 := by rw [hu]; rfl
      clear hu
      have hone : (ByteArray.mk #[45]).size = 1 := rfl
      go_wp2
      go_ret
      exact ⟨ret_str (by rw [fmtB, ← HF.out, H.out, mtLoop, dif_pos rfl]), hbel⟩
set_option maxHeartbeats 1000000 in
theorem spec_FormatInt_c (n : Int) (w : World) (h0 : -9223372036854775808 ≤ n) (h1 : n ≤ 9223372036854775807) :
    Calls Tryz.prog 20 #[.int .i64 n] w fun e w' => e = .returned (.string (fmtB n)) ∧ Below w.heap.size w w' := by
  rcases Int.lt_trichotomy n 0 with h | h | h
  · obtain ⟨k, rfl⟩ : ∃ k : Nat, n = -(k : Int) := ⟨n.natAbs, by omega⟩
    exact spec_FormatInt_neg k w (by omega) (by omega)
  · subst h
    have hz : fmtB 0 = ⟨#[48]⟩ := by
      unfold fmtB Lib.itoa
      rw [if_neg (by omega)]
      show ByteArray.mk (Lib.decDigits 0).toArray = _
      rw [Lib.decDigits, dif_pos (by omega)]
      rfl
    rw [hz]
    go_enter Tryz.func20, Tryz.ntmps20
    go_wp2
    go_ret
    exact ⟨rfl, Below.refl _ _⟩
  · obtain ⟨k, rfl⟩ : ∃ k : Nat, n = (k : Int) := ⟨n.toNat, by omega⟩
    exact spec_FormatInt_pos k w (by omega) (by omega)
end Go.Proofs.YtpfeflhcbcgbfaaGreatDoor
namespace Go.Proofs.YtpfeflhcbcgbfaaGreatDoor
open Go.RowKit

theorem nd_le : ∀ (k u : Nat), 1 ≤ k → u < 10 ^ k → Lib.nDigits u ≤ k
  | 0, _, h, _ => by omega
  | k + 1, u, _, h => by
    by_cases h10 : u < 10
    · rw [Lib.nDigits_small h10]; omega
    · rw [Lib.nDigits_big h10]
      have hk : 1 ≤ k := by
        rcases Nat.eq_zero_or_pos k with h0 | h0
        · subst h0; simp at h; omega
        · exact h0
      have := nd_le k (u / 10) hk (by rw [Nat.pow_succ] at h; exact Nat.div_lt_of_lt_mul (by rw [Nat.mul_comm]; exact h))
      omega
def I64 (x : Int) : Prop := -9223372036854775808 ≤ x ∧ x ≤ 9223372036854775807
theorem itoa_le {x : Int} (h : I64 x) : (Lib.itoa x).length ≤ 21 := by
  unfold Lib.itoa
  unfold I64 at h
  split
  · have := nd_le 20 x.natAbs (by omega) (by have : (10 ^ 20 : Nat) = 100000000000000000000 := by decide
                                             omega)
    rw [List.length_cons, Lib.decDigits_length]; omega
  · have := nd_le 20 x.toNat (by omega) (by have : (10 ^ 20 : Nat) = 100000000000000000000 := by decide
                                            omega)
    rw [Lib.decDigits_length]; omega
theorem nums_lens {xs : List Int} (h : ∀ x ∈ xs, I64 x) : Lib.lens ((xs.map fmtB).map dlj) ≤ 21 * xs.length := by
  induction xs with
  | nil => simp [Lib.lens]
  | cons x xs ih =>
    have h1 := itoa_le (h x (by simp))
    have h2 := ih fun y hy => h y (by simp [hy])
    simp only [Lib.lens, List.map_cons, List.sum_cons, List.length_cons] at h2 ⊢
    have h3 : (dlj (fmtB x)).length = (Lib.itoa x).length := by simp [dlj, fmtB]
    omega
theorem join_le (L : List (List UInt8)) (sep : List UInt8) : (Lib.join L sep).length ≤ sep.length * L.length + Lib.lens L := by
  match L with
  | [] => simp [Lib.join_nil]
  | x :: r =>
    rw [Lib.join_cons, List.length_append, Lib.joinTail_length]
    have : sep.length * (r.length + 1) = sep.length * r.length + sep.length := Nat.mul_succ _ _
    simp only [Lib.lens, List.map_cons, List.sum_cons, List.length_cons]
    omega
theorem nums_join {xs : List Int} (h : ∀ x ∈ xs, I64 x) {sep : ByteArray} (hs : sep.size = 1) : (Lib.join ((xs.map fmtB).map dlj) sep.data.toList).length ≤ 22 * xs.length := by
  have h1 := join_le ((xs.map fmtB).map dlj) sep.data.toList
  have h2 := nums_lens h
  rw [size_list, hs] at h1
  rw [List.length_map, List.length_map] at h1
  omega
def fms (xs : List Int) (j : Nat) : List ByteArray := (xs.take j).map fmtB
theorem fms_succ {xs : List Int} {j : Nat} {x : Int} (h : xs[j]? = some x) : strVals (fms xs (j + 1)) = strVals (fms xs j) ++ [.string (fmtB x)] := by
  simp [fms, strVals, List.take_add_one, h]
/-- The table of powers of ten, as Go's own text lays it. -/
def TabW (w : World) : Prop := Lib.TabIs Tryz.prog w "internal/strconv.uint64pow10" .u64 Lib.pow10Tab
theorem tab_below {B : Nat} {w w' : World} (h : TabW w) (hb : Below B w w') (hB : w.heap.size ≤ B) : TabW w' := by
  obtain ⟨g, hg⟩ : ∃ g, Tryz.prog.globalNamed "internal/strconv.uint64pow10" = some g := Option.isSome_iff_exists.1 (by kernel_rfl)
  have hc := Lib.TabIs.cell h hg 0 (by rw [Lib.pow10Tab_length]; omega)
  exact var?_below hb hg (Nat.lt_of_lt_of_le (World.block_lt_of_cell? w _ hc) hB) h
theorem below_growN (w : World) (k : Nat) (os : Array Obj) : Below w.heap.size w (Sort.grow (w.drewN k) os) :=
  ⟨rfl, rfl, rfl, by simp [Sort.grow], fun k hk => by simp [Sort.grow, Array.getElem?_append_left hk]⟩
theorem impl_FormatInt_c (n : Int) (w : World) (h : I64 n) (ht : TabW w) :
    Calls Tryz.prog 32 #[.int .i64 n] w fun e w' => e = .returned (.string (fmtB n)) ∧ Below w.heap.size w w' := by
  have HI := hid (Tryz.strconv_Itoa n h.1 h.2 w ht)
  unfold fmtB
  obtain ⟨r, hr⟩ : ∃ r : ByteArray, r = ⟨(Lib.itoa n).toArray⟩ := ⟨_, rfl⟩
  rw [← hr] at HI
  rw [← hr]
  clear hr ht h
  go_enter Tryz.func32, Tryz.ntmps32
  go_wp2_with fail
  refine HI.out.mono ?_
  rintro e w1 ⟨rfl, k, os, rfl⟩
  have hb := below_growN w k os
  generalize Sort.grow (w.drewN k) os = w2 at *
  go_wp2
  go_ret
  exact ⟨rfl, hb⟩
set_option maxHeartbeats 2000000 in
set_option maxRecDepth 100000 in
theorem spec_l4Numbers_c (a : Option Addr) (n c : Nat) (xs : List Int) (sep : ByteArray) (w : World) (hr : RowAt w a n (intVals xs)) (hi : ∀ x ∈ xs, I64 x) (hs : sep.size = 1) (hn : n ≤ 10000000) :
    Calls Tryz.prog 67 #[.slice a n c, .string sep] w fun e w' => e = .returned (.string (joinV (xs.map fmtB) sep)) ∧ Below w.heap.size w w' := by
  have hl := hr.len
  have HLEN := hid (show xs.length = n by simpa [intVals] using hl)
  have HAT := hid hr.at_
  have HJ := hid (fun (a : Option Addr) (c : Nat) (w : World) (h : RowAt w a n (strVals (xs.map fmtB))) => spec_Join_c a n c (xs.map fmtB) sep w h (Nat.le_trans (nums_join hi hs) (by have := HLEN.out; omega)))
  have HD := hid (show fms xs n = xs.map fmtB by unfold fms; rw [List.take_of_length_le (by rw [HLEN.out]; exact Nat.le_refl _)])
  have HS := hid (fun j x h => fms_succ (xs := xs) (j := j) (x := x) h)
  have HF := hid (fun x (hx : x ∈ xs) w => spec_FormatInt_c x w (hi x hx).1 (hi x hx).2)
  obtain ⟨jv, hjv⟩ : ∃ jv, jv = joinV (xs.map fmtB) sep := ⟨_, rfl⟩
  rw [← hjv] at HJ
  rw [← hjv]
  clear hl hr hjv hi hs
  go_enter Tryz.func67, Tryz.ntmps67
  go_wp2
  go_loopw [5, 6] (fun v i wr => ∃ j g c : Nat, j ≤ n ∧ i = .int .i64 j ∧ v = .slice (some ⟨g, 0, none⟩) j c ∧ wr.ownsRow w.heap.size 9 1 (.slice (some ⟨g, 0, none⟩) j c) j (strVals (fms xs j)) ∧ Below w.heap.size w wr) (fun _ i _ => n - (intOf i).toNat)
  case atStart => exact ⟨0, w.heap.size, 0, by omega, rfl, rfl, owns_nilJ w _, (Below.refl _ _).alloc (Nat.le_refl _) _⟩
  case round =>
    obtain ⟨j, g, c2, hj, rfl, rfl, hown, hbel⟩ := hrel
    have HG := hid (hown.lt g rfl)
    by_cases hlt : j < n
    · obtain ⟨b, off, rfl, hb, hc⟩ := HAT.out (by omega)
      obtain ⟨y, hy⟩ := get_some (l := xs) (n := j) (by rw [HLEN.out]; exact hlt)
      have hcell := (hbel.cell (p := ⟨b, off + j, none⟩) hb).trans (hc j _ (intVals_get hy))
      have HSJ := hid (HS.out j y hy)
      have HFY := hid (fun w => HF.out y (List.mem_of_getElem? hy) w)
      obtain ⟨d, hd⟩ : ∃ d, d = fmtB y := ⟨_, rfl⟩
      rw [← hd] at HSJ HFY
      have HO := hid hown
      clear hc hy hown hd
      go_wp2_with fail
      refine (HFY.out _).mono ?_
      rintro e w1 ⟨rfl, hb1⟩
      have hU := (owns_below HO.out hb1).alloc (.cells #[.string d] 9)
      have hbel1 := bs hbel hb1
      go_wp2_with (first | (at_builtin; go_must (refine wpList_appN rfl _ _ 22 rfl w.heap.size 9 (.string ByteArray.empty) 16 Tryz.underlying22 infoStr rfl g c2 j (strVals (fms xs j)) hU rfl w1.heap.size 0 1 1 [.string d] rfl rfl (by intro q u hq; match q, hq with | 0, hq => simp at hq; subst hq; simp) (by intro u hu; simp at hu; subst hu; rfl) (by omega) (by unfold maxLen; omega) (by have := hbel1.size; simp; omega) ?_); intro g2 c3 w2 hown2 hgr2 hb2 hlt2'))
      have hb3 : Below w.heap.size w w2 := (hbel1.alloc hbel1.size _).grown hgr2 (by have := hbel1.size; simp; omega) (by rintro k ⟨⟩; exact HG.out.1)
      go_roundw
      case rel => exact ⟨j + 1, g2, c3, by omega, by go_num, rfl, by rw [HSJ.out]; exact hown2, hb3⟩
      case measure => simp [intOf]; omega
    · obtain rfl : j = n := by omega
      rw [HD.out] at hown
      obtain ⟨ar, cr, he, hrr⟩ := owns_rowAt hown (by omega)
      simp only [Value.slice.injEq, true_and] at he
      obtain ⟨rfl, rfl⟩ := he
      have HR := hid hrr
      clear hown hrr
      go_wp2_with fail
      refine (HJ.out _ _ _ HR.out).mono ?_
      rintro e w3 ⟨rfl, hb3⟩
      have hb4 := bs hbel hb3
      go_wp2
      go_ret
      exact ⟨rfl, hb4⟩
set_option maxHeartbeats 2000000 in
set_option maxRecDepth 100000 in
theorem impl_numbers_c (a : Option Addr) (n c : Nat) (xs : List Int) (sep : ByteArray) (w : World) (hr : RowAt w a n (intVals xs)) (hi : ∀ x ∈ xs, I64 x) (hs : sep.size = 1) (hn : n ≤ 10000000) (ht : TabW w) :
    Calls Tryz.prog 53 #[.slice a n c, .string sep] w fun e w' => e = .returned (.string (joinV (xs.map fmtB) sep)) ∧ Below w.heap.size w w' := by
  have hl := hr.len
  have HLEN := hid (show xs.length = n by simpa [intVals] using hl)
  have HAT := hid hr.at_
  have HJ := hid (fun (B g c : Nat) (w : World) h => implJoin_c B g c n (xs.map fmtB) sep w (by rw [List.length_map, HLEN.out]) h (by omega) (Nat.le_trans (nums_join hi hs) (by have := HLEN.out; omega)))
  have HD := hid (show fms xs n = xs.map fmtB by unfold fms; rw [List.take_of_length_le (by rw [HLEN.out]; exact Nat.le_refl _)])
  have HS := hid (fun j x h => fms_succ (xs := xs) (j := j) (x := x) h)
  have HF := hid (fun x (hx : x ∈ xs) w' (hb : Below w.heap.size w w') => impl_FormatInt_c x w' (hi x hx) (tab_below ht hb (Nat.le_refl _)))
  obtain ⟨jv, hjv⟩ : ∃ jv, jv = joinV (xs.map fmtB) sep := ⟨_, rfl⟩
  rw [← hjv] at HJ
  rw [← hjv]
  clear hl hr hjv hi hs ht
  go_enter Tryz.func53, Tryz.ntmps53
  go_wp2
  go_loopw [5, 11] (fun v i wr => ∃ j g c : Nat, j ≤ n ∧ i = .int .i64 j ∧ v = .slice (some ⟨g, 0, none⟩) j c ∧ wr.ownsRow w.heap.size 9 1 (.slice (some ⟨g, 0, none⟩) j c) j (strVals (fms xs j)) ∧ Below w.heap.size w wr) (fun _ i _ => n - (intOf i).toNat)
  case atStart => exact ⟨0, w.heap.size, 0, by omega, rfl, rfl, owns_nilJ w _, (Below.refl _ _).alloc (Nat.le_refl _) _⟩
  case round =>
    obtain ⟨j, g, c2, hj, rfl, rfl, hown, hbel⟩ := hrel
    have HG := hid (hown.lt g rfl)
    by_cases hlt : j < n
    · obtain ⟨b, off, rfl, hb, hc⟩ := HAT.out (by omega)
      obtain ⟨y, hy⟩ := get_some (l := xs) (n := j) (by rw [HLEN.out]; exact hlt)
      have hcell := (hbel.cell (p := ⟨b, off + j, none⟩) hb).trans (hc j _ (intVals_get hy))
      have HSJ := hid (HS.out j y hy)
      have HFY := hid (HF.out y (List.mem_of_getElem? hy) wr hbel)
      obtain ⟨d, hd⟩ : ∃ d, d = fmtB y := ⟨_, rfl⟩
      rw [← hd] at HSJ HFY
      have HO := hid hown
      clear hc hy hown hd
      go_wp2_with fail
      refine HFY.out.mono ?_
      rintro e w1 ⟨rfl, hb1⟩
      have hU := (owns_below HO.out hb1).alloc (.cells #[.string d] 9)
      have hbel1 := bs hbel hb1
      go_wp2_with (first | (at_builtin; go_must (refine wpList_appN rfl _ _ 22 rfl w.heap.size 9 (.string ByteArray.empty) 16 Tryz.underlying22 infoStr rfl g c2 j (strVals (fms xs j)) hU rfl w1.heap.size 0 1 1 [.string d] rfl rfl (by intro q u hq; match q, hq with | 0, hq => simp at hq; subst hq; simp) (by intro u hu; simp at hu; subst hu; rfl) (by omega) (by unfold maxLen; omega) (by have := hbel1.size; simp; omega) ?_); intro g2 c3 w2 hown2 hgr2 hb2 hlt2'))
      have hb3 : Below w.heap.size w w2 := (hbel1.alloc hbel1.size _).grown hgr2 (by have := hbel1.size; simp; omega) (by rintro k ⟨⟩; exact HG.out.1)
      go_roundw
      case rel => exact ⟨j + 1, g2, c3, by omega, by go_num, rfl, by rw [HSJ.out]; exact hown2, hb3⟩
      case measure => simp [intOf]; omega
    · obtain rfl : j = n := by omega
      rw [HD.out] at hown
      have HO := hid hown
      clear hown
      go_wp2_with fail
      refine (HJ.out _ _ _ _ HO.out).mono ?_
      rintro e w3 ⟨rfl, hb3⟩
      have hb4 := bs hbel hb3
      go_wp2
      go_ret
      exact ⟨rfl, hb4⟩
def numsT (xs : List Int) : ByteArray := if xs.length = 0 then ⟨#[45]⟩ else joinV (xs.map fmtB) ⟨#[44]⟩
set_option maxHeartbeats 1000000 in
theorem spec_NumbersText_c (a : Option Addr) (n c : Nat) (xs : List Int) (w : World) (hr : RowAt w a n (intVals xs)) (hi : ∀ x ∈ xs, I64 x) (hn : n ≤ 10000000) :
    Calls Tryz.prog 19 #[.slice a n c] w fun e w' => e = .returned (.string (numsT xs)) ∧ Below w.heap.size w w' := by
  have HL := hid (spec_l4Numbers_c a n c xs ⟨#[44]⟩ w hr hi rfl hn)
  have HLEN := hid (show xs.length = n by simpa [intVals] using hr.len)
  unfold numsT
  rw [HLEN.out]
  clear hr hi
  by_cases hn0 : n = 0
  · rw [if_pos hn0]
    subst hn0
    go_enter Tryz.func19, Tryz.ntmps19
    go_wp2
    go_ret
    exact ⟨rfl, Below.refl _ _⟩
  · rw [if_neg hn0]
    have hnn : ((n : Int) == 0) = false := by rw [beq_eq_false_iff_ne]; omega
    go_enter Tryz.func19, Tryz.ntmps19
    go_wp2_with fail
    refine HL.out.mono ?_
    rintro e w1 ⟨rfl, hb⟩
    go_wp2
    go_ret
    exact ⟨rfl, hb⟩
end Go.Proofs.YtpfeflhcbcgbfaaGreatDoor
