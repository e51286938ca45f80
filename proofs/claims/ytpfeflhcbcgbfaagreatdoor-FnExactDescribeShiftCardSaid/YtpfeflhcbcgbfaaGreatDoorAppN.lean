/- Several values appended to a slice of the call's own: the law for the walk. Conditions: the row is owned, the values lie in memory. -/
import Derived.Test.YtpfeflhcbcgbfaaGreatDoorBoxC
import Derived.Deep.AppendLies
namespace Go.Proofs.YtpfeflhcbcgbfaaGreatDoor
open Go.RowKit

theorem owns_cut {w : World} {B e g n m cap : Nat} {xs ys : List Value} (h : w.ownsRow B e 1 (.slice (some ⟨g, 0, none⟩) n cap) n (xs ++ ys)) (hm : xs.length = m) : w.ownsRow B e 1 (.slice (some ⟨g, 0, none⟩) m cap) m xs := by
  have hl := h.1
  simp at hl
  refine ⟨by omega, ?_⟩
  rcases h.2 with ⟨h0, _⟩ | ⟨g', cap', cur, hv, hb, hg, h1, h2, h3, h4⟩
  · cases h0
  · cases hv
    refine Or.inr ⟨g, cap, cur, rfl, hb, hg, by omega, h2, h3, ?_⟩
    have h5 := congrArg (List.take m) h4
    rw [List.take_take, List.take_left' hm] at h5
    rw [Nat.mul_one]
    rwa [show min m (n * 1) = m by omega] at h5
theorem owns_block {w : World} {B e g n cap : Nat} {xs : List Value} (h : w.ownsRow B e 1 (.slice (some ⟨g, 0, none⟩) n cap) n xs) :
    ∃ cur, B ≤ g ∧ w.heap[g]? = some (.cells cur e (0, 0)) ∧ n ≤ cap ∧ cap ≤ maxLen ∧ cur.size = cap * 1 ∧ cur.toList.take n = xs := by
  rcases h.2 with ⟨h0, _⟩ | ⟨g', cap', cur, hv, hb, hg, h1, h2, h3, h4⟩
  · cases h0
  · cases hv
    exact ⟨cur, hb, hg, h1, h2, h3, by simpa using h4⟩
theorem owns_someform {w : World} {B e : Nat} {v : Value} {n : Nat} {xs : List Value} (h : w.ownsRow B e 1 v n xs) (hv : v ≠ .slice none 0 0) : ∃ g c, v = .slice (some ⟨g, 0, none⟩) n c ∧ B ≤ g ∧ g < w.heap.size := by
  rcases h.2 with ⟨h0, _⟩ | ⟨g, cap, cur, he, hb, hg, _⟩
  · exact absurd h0 hv
  · exact ⟨g, cap, he, hb, (Array.getElem?_eq_some_iff.1 hg).1⟩
theorem wpList_appN {P : Program} {wr : World} {ops : Array Oper} {rest : List Oper} {o : Oper} {a : Act} {Q : Exit → Act → World → Prop}
    (hg : o.guard = none) (s x : Operand) (t : TypeId) (hop : o.op = Op.call { callee := Callee.builtin Builtin.append, args := #[s, x], argTypes := #[t, t] })
    (B : Nat) (e : TypeId) (z : Value) (bytes : Nat) (h1 : P.underlying t = some (.slice e)) (hinfo : (P.info? e).map (fun i => (i.zero, i.size, i.bytes)) = some (some z, 1, bytes)) (hzs : z.cells.size = 1)
    (g0 c0 m : Nat) (xs : List Value) (hown : wr.ownsRow B e 1 (.slice (some ⟨g0, 0, none⟩) m c0) m xs) (hs : a.eval s = .slice (some ⟨g0, 0, none⟩) m c0) (b off k c : Nat) (us : List Value) (hx : a.eval x = .slice (some ⟨b, off, none⟩) k c) (hk : us.length = k)
    (hcell : ∀ j u, us[j]? = some u → wr.cell? ⟨b, off + j, none⟩ = some u) (hu : ∀ u ∈ us, u.oneCell' = true) (hlim : (m + k) * bytes ≤ 140737488355328) (hlim2 : m + k ≤ maxLen) (hB : B ≤ wr.heap.size)
    (hK : ∀ g' c' w1, w1.ownsRow B e 1 (.slice (some ⟨g', 0, none⟩) (m + k) c') (m + k) (xs ++ us) → wr.grownBy w1 (some g0) → (g' = g0 ∨ wr.heap.size ≤ g') → g' < w1.heap.size → wpList P ops Q rest (a.put o.dst (.slice (some ⟨g', 0, none⟩) (m + k) c')) w1) :
    wpList P ops Q (o :: rest) a wr := by
  obtain ⟨i, hi, hz, hz1, hz2⟩ := info_parts hinfo
  have hc : ∀ j u, us[j]? = some u → wr.cell? ((⟨b, off, none⟩ : Addr).add j) = some u := by
    intro j u hj
    have hc := hcell j u hj
    unfold Addr.add
    split
    · rename_i h0; subst h0; exact hc
    · exact hc
  by_cases hfit : m + k ≤ c0
  · refine wpList_append_fits wr hg s x t hop B e i 1 h1 hi hz1 g0 m c0 xs hs hown ⟨b, off, none⟩ k c us hx (by omega) hc hu hfit ?_
    intro w1 hown' hgrow
    exact hK g0 c0 w1 hown' hgrow (Or.inl rfl) (hown'.lt g0 rfl).2
  · have hmc : m ≤ c0 := (owns_block hown).choose_spec.2.2.1
    refine wpList_append_lies _ hg s x t hop B e i z 1 bytes h1 hi hz hz1 hz2 hzs (by decide) _ m xs hs hown ⟨b, off, none⟩ k c us hx (by omega) hc hu (by omega) hlim2 hlim hB wr.heap.size rfl ?_
    intro g c w1 hown' hgrow hor hlt
    refine hK g c w1 hown' hgrow ?_ hlt
    rcases hor with h | h
    · exact Or.inl (by simpa [Value.ownBlock] using h.symm)
    · exact Or.inr (by omega)
theorem grown_own {w w1 w2 : World} {g g1 : Nat} (h1 : w.grownBy w1 (some g)) (h2 : w1.grownBy w2 (some g1)) (hg : g1 = g ∨ w.heap.size ≤ g1) : w.grownBy w2 (some g) :=
  ⟨h2.os.trans h1.os, h2.tape.trans h1.tape, h2.output.trans h1.output, Nat.le_trans h1.size h2.size, fun k hk hne =>
    (h2.block k (Nat.lt_of_lt_of_le hk h1.size) (fun e => by
      injection e with e
      rcases hg with h | h
      · exact hne (by rw [e, h])
      · omega)).trans (h1.block k hk hne)⟩
theorem grown_below {B : Nat} {w w1 : World} {g : Nat} (h : Below B w w1) (hB : w.heap.size ≤ B) : w.grownBy w1 (some g) :=
  ⟨h.os, h.tape, h.output, h.size, fun k hk _ => h.block k (Nat.lt_of_lt_of_le hk hB)⟩
/-- A row that lies elsewhere stays. -/
theorem RowAt.grown {w w' : World} {a : Option Addr} {n g : Nat} {xs : List Value} (h : RowAt w a n xs) (hg : w.grownBy w' (some g)) (hne : ∀ b off, a = some ⟨b, off, none⟩ → b ≠ g) : RowAt w' a n xs :=
  ⟨h.len, h.lim, fun hn => let ⟨b, off, ha, hlt, hc⟩ := h.at_ hn
    ⟨b, off, ha, Nat.lt_of_lt_of_le hlt hg.size, fun k x hx => (World.cell?_of_block (a := ⟨b, off + k, none⟩) (hg.block b hlt (fun e => hne b off ha (by injection e)))).trans (hc k x hx)⟩⟩
end Go.Proofs.YtpfeflhcbcgbfaaGreatDoor
