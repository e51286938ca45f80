/- Texts put together with another one between them: both functions. Conditions: the whole fits. -/
import Derived.Test.YtpncmmdjkcdemaaGreatDoorOpen
import Derived.Test.YtpncmmdjkcdemaaGreatDoorAppN
import Derived.Test.YtpncmmdjkcdemaaGreatDoorLaw2
import Derived.Test.YtpncmmdjkcdemaaGreatDoorShelf
import Derived.Lib.Join
import Derived.Lib.AppendStr
namespace Go.Proofs.YtpncmmdjkcdemaaGreatDoor
open Go.RowKit

theorem join_step {L : List (List UInt8)} {sep y : List UInt8} {j : Nat} (h : L[j]? = some y) : Lib.join (L.take (j + 1)) sep = Lib.join (L.take j) sep ++ (if j = 0 then [] else sep) ++ y := by
  match L, j, h with
  | x :: r, 0, h =>
    simp at h
    subst h
    simp [Lib.join_one, Lib.join_nil]
  | x :: r, j + 1, h =>
    have h' : r[j]? = some y := by simpa using h
    rw [List.take_succ_cons, List.take_succ_cons, Lib.join_cons, Lib.join_cons, Lib.joinTail_take_succ sep r j y h']
    simp
theorem join_take_le (L : List (List UInt8)) (sep : List UInt8) (j : Nat) : (Lib.join (L.take j) sep).length ≤ (Lib.join L sep).length := by
  match L, j with
  | [], j => simp
  | x :: r, 0 => simp [Lib.join_nil]
  | x :: r, j + 1 =>
    have := Lib.joinTail_take_le sep r j
    rw [List.take_succ_cons, Lib.join_cons, Lib.join_cons]
    simp
    exact this
theorem strCells_byte (s : ByteArray) : Lib.strCells s = byteVals s.data.toList := rfl
theorem byteVals_append (a b : List UInt8) : byteVals (a ++ b) = byteVals a ++ byteVals b := by simp [byteVals]
def dlj (b : ByteArray) : List UInt8 := b.data.toList
theorem owns_nilJ (w : World) (e : Nat) : (w.alloc (.cells #[] e)).ownsRow w.heap.size e 1 (.slice (some ⟨w.heap.size, 0, none⟩) 0 0) 0 [] :=
  ⟨rfl, Or.inr ⟨w.heap.size, 0, #[], rfl, Nat.le_refl _, by show (w.heap.push _)[w.heap.size]? = _; simp, Nat.le_refl _, by unfold maxLen; omega, rfl, rfl⟩⟩
theorem infoU8J : (Tryz.prog.info? 5).map (fun i => (i.zero, i.size, i.bytes)) = some (some (.int .u8 0), 1, 1) := by kernel_rfl
def joinV (xs : List ByteArray) (sep : ByteArray) : ByteArray := ⟨(Lib.join (xs.map dlj) sep.data.toList).toArray⟩
/-- A text appended to bytes of the call's own. -/
theorem wpList_appS {P : Program} {wr : World} {ops : Array Oper} {rest : List Oper} {o : Oper} {a : Act} {Q : Exit → Act → World → Prop}
    (hgd : o.guard = none) (sl x : Operand) (t u : TypeId) (ho : o.op = .call { callee := .builtin .append, args := #[sl, x], argTypes := #[t, u] })
    (B : Nat) (e : TypeId) (ht : P.underlying t = some (.slice e)) (hu : P.underlying u = some .string) (hinfo : (P.info? e).map (fun i => (i.zero, i.size, i.bytes)) = some (some (.int .u8 0), 1, 1))
    (v : Value) (xs : List UInt8) (n : Nat) (hs : a.eval sl = v) (hown : wr.ownsRow B e 1 v n (byteVals xs)) (s : ByteArray) (hx : a.eval x = .string s) (hlim : n + s.size ≤ 140737488355328) (hB : B ≤ wr.heap.size) (w : World) (hbel : Below B w wr)
    (hK : ∀ v' w1, w1.ownsRow B e 1 v' (n + s.size) (byteVals (xs ++ s.data.toList)) → Below B w w1 → wpList P ops Q rest (a.put o.dst v') w1) : wpList P ops Q (o :: rest) a wr := by
  obtain ⟨i, hi, hz, hz1, hz2⟩ := info_parts hinfo
  refine Lib.wpList_append_own_string wr hgd sl x t u ho B e i ht hu hi hz hz1 hz2 v n (byteVals xs) hs hown s hx (by unfold maxLen; omega) hlim hB ?_
  intro v' w1 hown' hgr _
  exact hK v' w1 (by rw [byteVals_append]; exact hown') (hbel.grown hgr hB (fun k hk => (hown.lt k hk).1))
