/- Texts put together with another one between them: both functions. Conditions: the whole fits. -/
import Derived.Test.YtpfeflhcbcgbfaaDoorIntsIn
import Derived.Test.YtpfeflhcbcgbfaaDoorAppK
import Derived.Test.YtpfeflhcbcgbfaaDoorNumber
import Derived.Test.YtpfeflhcbcgbfaaDoorShelf
import Derived.Lib.Join
import Derived.Lib.AppendStr
namespace Go.Proofs.YtpfeflhcbcgbfaaDoor
open Go.RowKit

theorem join_step {L : List (List UInt8)} {sep y : List UInt8} {j : Nat} (h : L[j]? = some y) : Lib.join (L.take (j + 1)) sep = Lib.join (L.take j) sep ++ (if j = 0 then [] else sep) ++ y := by
  match L, j, h with
  | x :: r, 0, h =>
    simp at h
    subst h
    simp [Lib.join_one, Lib.join_nil]
  | x :: r, j + 1, h =>
    have h' : r[j]? = some y := by simpa using h
    rw [List.take_succ_cons, List.take_succ_cons, Lib.join_cons, Lib.join_cons, Lib.joinTail_take_succ sep r j y h']
    simp
theorem join_take_le (L : List (List UInt8)) (sep : List UInt8) (j : Nat) : (Lib.join (L.take j) sep).length ≤ (Lib.join L sep).length := by
  match L, j with
  | [], j => simp
  | x :: r, 0 => simp [Lib.join_nil]
  | x :: r, j + 1 =>
    have := Lib.joinTail_take_le sep r j
    rw [List.take_succ_cons, Lib.join_cons, Lib.join_cons]
    simp
    exact this
theorem strCells_byte (s : ByteArray) : Lib.strCells s = byteVals s.data.toList := rfl
theorem byteVals_append (a b : List UInt8) : byteVals (a ++ b) = byteVals a ++ byteVals b := by simp [byteVals]
def dlj (b : ByteArray) : List UInt8 := b.data.toList
theorem owns_nilJ (w : World) (e : Nat) : (w.alloc (.cells #[] e)).ownsRow w.heap.size e 1 (.slice (some ⟨w.heap.size, 0, none⟩) 0 0) 0 [] :=
  ⟨rfl, Or.inr ⟨w.heap.size, 0, #[], rfl, Nat.le_refl _, by show (w.heap.push _)[w.heap.size]? = _; simp, Nat.le_refl _, by unfold maxLen; omega, rfl, rfl⟩⟩
theorem infoU8J : (Tryd.prog.info? 5).map (fun i => (i.zero, i.size, i.bytes)) = some (some (.int .u8 0), 1, 1) := by kernel_rfl
def joinV (xs : List ByteArray) (sep : ByteArray) : ByteArray := ⟨(Lib.join (xs.map dlj) sep.data.toList).toArray⟩
/-- A text appended to bytes of the call's own. -/
theorem wpList_appS {P : Program} {wr : World} {ops : Array Oper} {rest : List Oper} {o : Oper} {a : Act} {Q : Exit → Act → World → Prop}
    (hgd : o.guard = none) (sl x : Operand) (t u : TypeId) (ho : o.op = .call { callee := .builtin .append, args := #[sl, x], argTypes := #[t, u] })
    (B : Nat) (e : TypeId) (ht : P.underlying t = some (.slice e)) (hu : P.underlying u = some .string) (hinfo : (P.info? e).map (fun i => (i.zero, i.size, i.bytes)) = some (some (.int .u8 0), 1, 1))
    (v : Value) (xs : List UInt8) (n : Nat) (hs : a.eval sl = v) (hown : wr.ownsRow B e 1 v n (byteVals xs)) (s : ByteArray) (hx : a.eval x = .string s) (hlim : n + s.size ≤ 140737488355328) (hB : B ≤ wr.heap.size) (w : World) (hbel : Below B w wr)
    (hK : ∀ v' w1, w1.ownsRow B e 1 v' (n + s.size) (byteVals (xs ++ s.data.toList)) → Below B w w1 → wpList P ops Q rest (a.put o.dst v') w1) : wpList P ops Q (o :: rest) a wr := by
  obtain ⟨i, hi, hz, hz1, hz2⟩ := info_parts hinfo
  refine Lib.wpList_append_own_string wr hgd sl x t u ho B e i ht hu hi hz hz1 hz2 v n (byteVals xs) hs hown s hx (by unfold maxLen; omega) hlim hB ?_
  intro v' w1 hown' hgr _
  exact hK v' w1 (by rw [byteVals_append]; exact hown') (hbel.grown hgr hB (fun k hk => (hown.lt k hk).1))
set_option maxHeartbeats 2000000 in
set_option maxRecDepth 100000 in
theorem spec_Join_c (a : Option Addr) (n c : Nat) (xs : List ByteArray) (sep : ByteArray) (w : World) (hr : RowAt w a n (strVals xs)) (hlen : (Lib.join (xs.map dlj) sep.data.toList).length ≤ 1000000000) :
    Calls Tryd.prog 67 #[.slice a n c, .string sep] w fun e w' => e = .returned (.string (joinV xs sep)) ∧ Below w.heap.size w w' := by
  obtain ⟨hl, hlim, hat⟩ := hr
  have HLEN := hid (show xs.length = n by simpa [strVals] using hl)
  have HAT := hid hat
  have HT := hid (fun j => join_take_le (xs.map dlj) sep.data.toList j)
  have HST := hid (fun (j : Nat) (y : ByteArray) (h : xs[j]? = some y) => join_step (L := xs.map dlj) (sep := sep.data.toList) (y := dlj y) (j := j) (by simp [h]))
  have HV := hid (show joinV xs sep = ⟨(Lib.join ((xs.map dlj).take n) sep.data.toList).toArray⟩ by unfold joinV; rw [List.take_of_length_le (by rw [List.length_map, HLEN.out]; exact Nat.le_refl _)])
  obtain ⟨f, hf⟩ : ∃ f, f = fun j => Lib.join ((xs.map dlj).take j) sep.data.toList := ⟨_, rfl⟩
  obtain ⟨m, hm⟩ : ∃ m, m = (Lib.join (xs.map dlj) sep.data.toList).length := ⟨_, rfl⟩
  have HT2 := hid (fun j => show (f j).length ≤ m by rw [hf, hm]; exact HT.out j)
  have HS2 := hid (fun j y h => show f (j + 1) = f j ++ (if j = 0 then [] else sep.data.toList) ++ dlj y by rw [hf]; exact HST.out j y h)
  have HV2 := hid (show joinV xs sep = ⟨(f n).toArray⟩ by rw [hf]; exact HV.out)
  have hf0 : Hid (f 0 = []) := by show _ = _; rw [hf]; simp [Lib.join_nil]
  have hm1 : m ≤ 1000000000 := by omega
  obtain ⟨jv, hjv⟩ : ∃ jv, jv = joinV xs sep := ⟨_, rfl⟩
  rw [← hjv] at HV2
  rw [← hjv]
  clear hl hat HT HST HV hf hm hlen hjv
  go_enter Tryd.func67, Tryd.ntmps67
  go_wp2
  go_loopw [5, 6] (fun v i wr => ∃ j : Nat, j ≤ n ∧ i = .int .i64 j ∧ wr.ownsRow w.heap.size 5 1 v (f j).length (byteVals (f j)) ∧ Below w.heap.size w wr) (fun _ i _ => n - (intOf i).toNat)
  case atStart => exact ⟨0, by omega, rfl, by rw [hf0.out]; exact owns_nilJ w _, (Below.refl _ _).alloc (Nat.le_refl _) _⟩
  case round =>
    obtain ⟨j, hj, rfl, hown, hbel⟩ := hrel
    by_cases hlt : j < n
    · obtain ⟨b, off, rfl, hb, hc⟩ := HAT.out (by omega)
      obtain ⟨y, hy⟩ := get_some (l := xs) (n := j) (by rw [HLEN.out]; exact hlt)
      have hcell := (hbel.cell (p := ⟨b, off + j, none⟩) hb).trans (hc j _ (strVals_get hy))
      have hst := HS2.out j y hy
      have hle1 := HT2.out (j + 1)
      have HY := hid hy
      have hO := hown
      clear hc hy hown
      by_cases hj0 : j = 0
      · rw [if_pos hj0, List.append_nil] at hst
        have hsum : (f j).length + y.size ≤ 1000000000 := by
          have := congrArg List.length hst
          rw [List.length_append] at this
          unfold dlj at this
          rw [size_list] at this
          omega
        have HST := hid hst
        clear hst
        subst hj0
        rw [Nat.add_zero] at hcell
        go_wp2_with (first | (at_builtin; go_must (refine wpList_appS rfl _ _ 56 9 rfl w.heap.size 5 Tryd.underlying56 Tryd.underlying9 infoU8J _ (f 0) (f 0).length rfl hO y rfl (by omega) hbel.size w hbel ?_); intro v' w1 hown1 hb1))
        go_roundw
        case rel => exact ⟨1, by omega, by go_num, by rw [HST.out, List.length_append]; unfold dlj; rw [size_list]; exact hown1, hb1⟩
        case measure => simp [intOf]; omega
      · rw [if_neg hj0] at hst
        have hsum : (f j).length + sep.size + y.size ≤ 1000000000 := by
          have := congrArg List.length hst
          rw [List.length_append, List.length_append] at this
          unfold dlj at this
          rw [size_list, size_list] at this
          omega
        have HST := hid hst
        have hjp : (0 : Int) < (j : Int) := by omega
        have tok1 : True := trivial
        clear hst
        go_wp2_with (first
          | (at_builtin
             have _t := tok1
             go_must (refine wpList_appS rfl _ _ 56 9 rfl w.heap.size 5 Tryd.underlying56 Tryd.underlying9 infoU8J _ (f j) (f j).length rfl hO sep rfl (by omega) hbel.size w hbel ?_)
             intro v' w1 hown1 hb1
             clear tok1
             have hcell1 := (hb1.cell (p := ⟨b, off + j, none⟩) hb).trans ((hbel.cell (p := ⟨b, off + j, none⟩) hb).symm.trans hcell)
             have tok2 : True := trivial)
          | (at_builtin
             have _t := tok2
             go_must (refine wpList_appS rfl _ _ 56 9 rfl w.heap.size 5 Tryd.underlying56 Tryd.underlying9 infoU8J _ (f j ++ sep.data.toList) ((f j).length + sep.size) rfl hown1 y rfl (by omega) hb1.size w hb1 ?_)
             intro v2 w2 hown2 hb2
             clear tok2))
        go_roundw
        case rel => exact ⟨j + 1, by omega, by go_num, by rw [HST.out, List.length_append, List.length_append]; unfold dlj; rw [size_list, size_list]; exact hown2, hb2⟩
        case measure => simp [intOf]; omega
    · obtain rfl : j = n := by omega
      have hle1 := HT2.out j
      obtain ⟨ar, cr, rfl, hrr⟩ := owns_rowAt hown (by omega)
      clear hown
      go_wp2_with (with_reducible refine wpList_convs rfl _ 56 9 5 rfl Tryd.underlying56 Tryd.underlying5 Tryd.underlying9 _ (f j).length _ (f j) rfl hrr ?_)
      go_ret
      exact ⟨ret_str HV2.out.symm, hbel⟩
theorem implJoin_c (B g c n : Nat) (xs : List ByteArray) (sep : ByteArray) (w : World) (hn : xs.length = n) (hown : w.ownsRow B 9 1 (.slice (some ⟨g, 0, none⟩) n c) n (strVals xs)) (hlim : n ≤ 1000000000) (hlen : (Lib.join (xs.map dlj) sep.data.toList).length ≤ 1000000000) :
    Calls Tryd.prog 60 #[.slice (some ⟨g, 0, none⟩) n c, .string sep] w fun e w' => e = .returned (.string (joinV xs sep)) ∧ Below w.heap.size w w' := by
  subst hn
  obtain ⟨cur, hb, hg, h1, h2, h3, h4⟩ := owns_block hown
  exact Tryd.strings_Join g 0 c xs sep w (fun j x hj => by
    have hjl := (List.getElem?_eq_some_iff.1 hj).1
    rw [Nat.zero_add, hown.cellAt j (by omega)]
    exact strVals_get hj) (hown.lt g rfl).2 (by omega) h1 (by exact Nat.le_trans hlen (by omega))
end Go.Proofs.YtpfeflhcbcgbfaaDoor
