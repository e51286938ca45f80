/- Several values appended to a slice of the call's own, as one step of a region that draws its order. Conditions: the row is owned. -/
import Derived.Deep.AppendLies
import Derived.Deep.RegionHeld3
import Derived.Test.YtpfeflhcbcgbfaaGreatDoorSmall
import Derived.Test.YtpfeflhcbcgbfaaGreatDoorLaw2
namespace Go.Proofs.YtpfeflhcbcgbfaaGreatDoor
open Go.RowKit

theorem owns_cut {w : World} {B e g n m cap : Nat} {xs ys : List Value} (h : w.ownsRow B e 1 (.slice (some ⟨g, 0, none⟩) n cap) n (xs ++ ys)) (hm : xs.length = m) : w.ownsRow B e 1 (.slice (some ⟨g, 0, none⟩) m cap) m xs := by
  have hl := h.1
  simp at hl
  refine ⟨by omega, ?_⟩
  rcases h.2 with ⟨h0, _⟩ | ⟨g', cap', cur, hv, hb, hg, h1, h2, h3, h4⟩
  · cases h0
  · cases hv
    refine Or.inr ⟨g, cap, cur, rfl, hb, hg, by omega, h2, h3, ?_⟩
    have h5 := congrArg (List.take m) h4
    rw [List.take_take, List.take_left' hm] at h5
    rw [Nat.mul_one]
    rwa [show min m (n * 1) = m by omega] at h5
theorem owns_block {w : World} {B e g n cap : Nat} {xs : List Value} (h : w.ownsRow B e 1 (.slice (some ⟨g, 0, none⟩) n cap) n xs) :
    ∃ cur, B ≤ g ∧ w.heap[g]? = some (.cells cur e (0, 0)) ∧ n ≤ cap ∧ cap ≤ maxLen ∧ cur.size = cap * 1 ∧ cur.toList.take n = xs := by
  rcases h.2 with ⟨h0, _⟩ | ⟨g', cap', cur, hv, hb, hg, h1, h2, h3, h4⟩
  · cases h0
  · cases hv
    exact ⟨cur, hb, hg, h1, h2, h3, by simpa using h4⟩
theorem owns_someform {w : World} {B e : Nat} {v : Value} {n : Nat} {xs : List Value} (h : w.ownsRow B e 1 v n xs) (hv : v ≠ .slice none 0 0) : ∃ g c, v = .slice (some ⟨g, 0, none⟩) n c ∧ B ≤ g ∧ g < w.heap.size := by
  rcases h.2 with ⟨h0, _⟩ | ⟨g, cap, cur, he, hb, hg, _⟩
  · exact absurd h0 hv
  · exact ⟨g, cap, he, hb, (Array.getElem?_eq_some_iff.1 hg).1⟩
theorem wpList_appN {P : Program} {wr : World} {ops : Array Oper} {rest : List Oper} {o : Oper} {a : Act} {Q : Exit → Act → World → Prop}
    (hg : o.guard = none) (s x : Operand) (t : TypeId) (hop : o.op = Op.call { callee := Callee.builtin Builtin.append, args := #[s, x], argTypes := #[t, t] })
    (B : Nat) (e : TypeId) (z : Value) (bytes : Nat) (h1 : P.underlying t = some (.slice e)) (hinfo : (P.info? e).map (fun i => (i.zero, i.size, i.bytes)) = some (some z, 1, bytes)) (hzs : z.cells.size = 1)
    (g0 c0 m : Nat) (xs : List Value) (hown : wr.ownsRow B e 1 (.slice (some ⟨g0, 0, none⟩) m c0) m xs) (hs : a.eval s = .slice (some ⟨g0, 0, none⟩) m c0) (b off k c : Nat) (us : List Value) (hx : a.eval x = .slice (some ⟨b, off, none⟩) k c) (hk : us.length = k)
    (hcell : ∀ j u, us[j]? = some u → wr.cell? ⟨b, off + j, none⟩ = some u) (hu : ∀ u ∈ us, u.oneCell' = true) (hlim : (m + k) * bytes ≤ 140737488355328) (hlim2 : m + k ≤ maxLen) (hB : B ≤ wr.heap.size)
    (hK : ∀ g' c' w1, w1.ownsRow B e 1 (.slice (some ⟨g', 0, none⟩) (m + k) c') (m + k) (xs ++ us) → wr.grownBy w1 (some g0) → (g' = g0 ∨ wr.heap.size ≤ g') → g' < w1.heap.size → wpList P ops Q rest (a.put o.dst (.slice (some ⟨g', 0, none⟩) (m + k) c')) w1) :
    wpList P ops Q (o :: rest) a wr := by
  obtain ⟨i, hi, hz, hz1, hz2⟩ := info_parts hinfo
  have hc : ∀ j u, us[j]? = some u → wr.cell? ((⟨b, off, none⟩ : Addr).add j) = some u := by
    intro j u hj
    have hc := hcell j u hj
    unfold Addr.add
    split
    · rename_i h0; subst h0; exact hc
    · exact hc
  by_cases hfit : m + k ≤ c0
  · refine wpList_append_fits wr hg s x t hop B e i 1 h1 hi hz1 g0 m c0 xs hs hown ⟨b, off, none⟩ k c us hx (by omega) hc hu hfit ?_
    intro w1 hown' hgrow
    exact hK g0 c0 w1 hown' hgrow (Or.inl rfl) (hown'.lt g0 rfl).2
  · have hmc : m ≤ c0 := (owns_block hown).choose_spec.2.2.1
    refine wpList_append_lies _ hg s x t hop B e i z 1 bytes h1 hi hz hz1 hz2 hzs (by decide) _ m xs hs hown ⟨b, off, none⟩ k c us hx (by omega) hc hu (by omega) hlim2 hlim hB wr.heap.size rfl ?_
    intro g c w1 hown' hgrow hor hlt
    refine hK g c w1 hown' hgrow ?_ hlt
    rcases hor with h | h
    · exact Or.inl (by simpa [Value.ownBlock] using h.symm)
    · exact Or.inr (by omega)
theorem grown_own {w w1 w2 : World} {g g1 : Nat} (h1 : w.grownBy w1 (some g)) (h2 : w1.grownBy w2 (some g1)) (hg : g1 = g ∨ w.heap.size ≤ g1) : w.grownBy w2 (some g) :=
  ⟨h2.os.trans h1.os, h2.tape.trans h1.tape, h2.output.trans h1.output, Nat.le_trans h1.size h2.size, fun k hk hne =>
    (h2.block k (Nat.lt_of_lt_of_le hk h1.size) (fun e => by
      injection e with e
      rcases hg with h | h
      · exact hne (by rw [e, h])
      · omega)).trans (h1.block k hk hne)⟩
theorem grown_below {B : Nat} {w w1 : World} {g : Nat} (h : Below B w w1) (hB : w.heap.size ≤ B) : w.grownBy w1 (some g) :=
  ⟨h.os, h.tape, h.output, h.size, fun k hk _ => h.block k (Nat.lt_of_lt_of_le hk hB)⟩
/-- A row that lies elsewhere stays. -/
theorem RowAt.grown {w w' : World} {a : Option Addr} {n g : Nat} {xs : List Value} (h : RowAt w a n xs) (hg : w.grownBy w' (some g)) (hne : ∀ b off, a = some ⟨b, off, none⟩ → b ≠ g) : RowAt w' a n xs :=
  ⟨h.len, h.lim, fun hn => let ⟨b, off, ha, hlt, hc⟩ := h.at_ hn
    ⟨b, off, ha, Nat.lt_of_lt_of_le hlt hg.size, fun k x hx => (World.cell?_of_block (a := ⟨b, off + k, none⟩) (hg.block b hlt (fun e => hne b off ha (by injection e)))).trans (hc k x hx)⟩⟩
end Go.Proofs.YtpfeflhcbcgbfaaGreatDoor
namespace Go.Proofs.YtpfeflhcbcgbfaaGreatDoor
open Go.RowKit

theorem step_app1 {P : Program} {w0 wr : World} {ops : Array Oper} {o : Oper} {a : Act} {K : Act → World → Prop} {Q : Exit → Act → World → Prop} {E : Prop}
    (hg : o.guard = none) (s x : Operand) (t : TypeId) (hop : o.op = Op.call { callee := Callee.builtin Builtin.append, args := #[s, x], argTypes := #[t, t] })
    (B : Nat) (e : TypeId) (z : Value) (bytes : Nat) (h1 : P.underlying t = some (.slice e)) (hinfo : (P.info? e).map (fun i => (i.zero, i.size, i.bytes)) = some (some z, 1, bytes)) (hzs : z.cells.size = 1)
    (v : Value) (m : Nat) (xs : List Value) (u : Value) (hown : wr.ownsRow B e 1 v m xs) (hs : a.eval s = v) (hx : a.eval x = .slice (some ⟨wr.heap.size, 0, none⟩) 1 1)
    (hu : u.oneCell' = true) (hlim : (m + 1) * bytes ≤ 140737488355328) (hlim2 : m + 1 ≤ maxLen) (hbel : Below B w0 wr) (hB : B ≤ wr.heap.size)
    (hK : ∀ v' w1, w1.ownsRow B e 1 v' (m + 1) (xs ++ [u]) → Below B w0 w1 → wr.grownBy w1 v.ownBlock → K (a.put o.dst v') w1) :
    if Region.wanted o (yielded ops a.tmps) = true then Oper.wp P o a (wr.alloc (.cells #[u] e)).drew K Q else E := by
  obtain ⟨i, hi, hz, hz1, hz2⟩ := info_parts hinfo
  refine step_append_lies _ hg s x t hop B e i z 1 bytes h1 hi hz hz1 hz2 hzs (by decide) v m xs hs (owns_below (hown.alloc _) (Below.refl _ _).drew) ⟨wr.heap.size, 0, none⟩ 1 1 [u] hx rfl ?_ ?_ (by decide) hlim2 hlim (by show B ≤ (wr.alloc _).heap.size; simp; omega) (wr.heap.size + 1) (by show (wr.alloc _).heap.size = _; simp) ?_
  · intro j y hj
    match j, hj with
    | 0, hj =>
      simp at hj; subst hj
      show (wr.alloc (.cells #[u] e)).cell? _ = _
      simp [Addr.add]
  · intro y hy; simp at hy; subst hy; exact hu
  · intro g cap w1 hown' hgrow _ _
    have hgr : wr.grownBy w1 v.ownBlock := grown_trans (grown_trans (World.grownBy_alloc _ _ _) (below_grown (Below.refl _ _).drew _)) hgrow
    exact hK _ w1 hown' (hbel.grown hgr hB (fun k hk => (hown.lt k hk).1)) hgr
end Go.Proofs.YtpfeflhcbcgbfaaGreatDoor
namespace Go.Proofs.YtpfeflhcbcgbfaaGreatDoor
open Go.RowKit

theorem run_appK {P : Program} {V : World} (t ty : TypeId) (B : Nat) (e : TypeId) (z : Value) (bytes : Nat) (h1 : P.underlying t = some (.slice e)) (hinfo : (P.info? e).map (fun i => (i.zero, i.size, i.bytes)) = some (some z, 1, bytes)) (hzs : z.cells.size = 1)
    (g0 m c0 : Nat) (xs : List Value) (hown : V.ownsRow B e 1 (.slice (some ⟨g0, 0, none⟩) m c0) m xs) (bx : Nat) (u : Value) (hc : V.cell? ⟨bx, 0, none⟩ = some u) (hu : u.oneCell' = true)
    (hlim : (m + 1) * bytes ≤ 140737488355328) (hlim2 : m + 1 ≤ maxLen) (hB : B ≤ V.heap.size) :
    ∃ g' c' w1, (Builtin.append_ #[t, t] ty #[.slice (some ⟨g0, 0, none⟩) m c0, .slice (some ⟨bx, 0, none⟩) 1 1]).run P V = .ok (.slice (some ⟨g', 0, none⟩) (m + 1) c') w1 ∧ w1.ownsRow B e 1 (.slice (some ⟨g', 0, none⟩) (m + 1) c') (m + 1) (xs ++ [u]) ∧ V.grownBy w1 (some g0) ∧ (g' = g0 ∨ g' = V.heap.size) ∧ ∀ (j : Nat) (y : Value), xs[j]? = some y → w1.cell? ⟨g0, j, none⟩ = some y := by
  obtain ⟨i, hi, hz, hz1, hz2⟩ := info_parts hinfo
  have hnews : ∀ (j : Nat) (y : Value), [u][j]? = some y → V.cell? ((⟨bx, 0, none⟩ : Addr).add j) = some y := by
    intro j y hj
    match j, hj with
    | 0, hj =>
      simp at hj; subst hj
      simpa [Addr.add] using hc
  have hul : ∀ y ∈ [u], y.oneCell' = true := by intro y hy; simp at hy; subst hy; exact hu
  have hxl : xs.length = m := by simpa using hown.1
  by_cases hfit : m + 1 ≤ c0
  · obtain ⟨w', hr, h2, h3⟩ := run_append_fits (P := P) V B t ty e i 1 h1 hi hz1 g0 m c0 xs hown ⟨bx, 0, none⟩ 1 1 [u] rfl hnews hul hfit
    refine ⟨g0, c0, w', hr, h2, h3, .inl rfl, fun j y hj => ?_⟩
    have hjl := (List.getElem?_eq_some_iff.1 hj).1
    rw [h2.cellAt j (by omega), List.getElem?_append_left hjl]
    exact hj
  · obtain ⟨cur, hBg, hgh, _⟩ := owns_block hown
    have hgl : g0 < V.heap.size := (Array.getElem?_eq_some_iff.1 hgh).1
    have holds : ∀ (j : Nat) (y : Value), xs[j]? = some y → V.cell? ((⟨g0, 0, none⟩ : Addr).add j) = some y := hown.cells (g := g0) rfl
    have hr := run_append_grow (P := P) V t ty e i z h1 hi hz ⟨g0, 0, none⟩ m c0 xs (by rw [hz1]; simpa using hown.1) holds ⟨bx, 0, none⟩ 1 1 [u] (by rw [hz1]; rfl) hnews (by omega) (by unfold maxLen at hlim2; omega) (growslice_fits (by omega) (by rw [hz2]; exact hlim))
    obtain ⟨v', w', hr2, h2, h3, _⟩ := run_append_own (P := P) V B t ty e i z 1 bytes h1 hi hz hz1 hz2 hzs (by decide) _ m xs hown ⟨bx, 0, none⟩ 1 1 [u] rfl hnews hul hlim2 hlim hB
    rw [hr] at hr2
    injection hr2 with e1 e2
    subst e1 e2
    refine ⟨_, _, _, hr, h2, h3, .inr rfl, fun j y hj => ?_⟩
    have hd : V.drew.cell? ⟨g0, j, none⟩ = some y := by
      have hjl := (List.getElem?_eq_some_iff.1 hj).1
      exact (hown.cellAt j (by omega)).trans hj
    exact ((Below.refl V.drew.heap.size V.drew).alloc (Nat.le_refl _) _).cell (p := ⟨g0, j, none⟩) hgl |>.trans hd
theorem step_appK {P : Program} {V : World} {ops : Array Oper} {o : Oper} {a : Act} {K : Act → World → Prop} {Q : Exit → Act → World → Prop} {E : Prop}
    (hg : o.guard = none) (s x : Operand) (t : TypeId) (hop : o.op = Op.call { callee := Callee.builtin Builtin.append, args := #[s, x], argTypes := #[t, t] })
    (B : Nat) (e : TypeId) (z : Value) (bytes : Nat) (h1 : P.underlying t = some (.slice e)) (hinfo : (P.info? e).map (fun i => (i.zero, i.size, i.bytes)) = some (some z, 1, bytes)) (hzs : z.cells.size = 1)
    (g0 m c0 : Nat) (xs : List Value) (u : Value) (hown : V.ownsRow B e 1 (.slice (some ⟨g0, 0, none⟩) m c0) m xs) (hs : a.eval s = .slice (some ⟨g0, 0, none⟩) m c0) (bx : Nat) (hx : a.eval x = .slice (some ⟨bx, 0, none⟩) 1 1) (hc : V.cell? ⟨bx, 0, none⟩ = some u)
    (hu : u.oneCell' = true) (hlim : (m + 1) * bytes ≤ 140737488355328) (hlim2 : m + 1 ≤ maxLen) (hB : B ≤ V.heap.size)
    (hK : ∀ g' c' w1, w1.ownsRow B e 1 (.slice (some ⟨g', 0, none⟩) (m + 1) c') (m + 1) (xs ++ [u]) → V.grownBy w1 (some g0) → (g' = g0 ∨ g' = V.heap.size) → (∀ (j : Nat) (y : Value), xs[j]? = some y → w1.cell? ⟨g0, j, none⟩ = some y) → K (a.put o.dst (.slice (some ⟨g', 0, none⟩) (m + 1) c')) w1) :
    if Region.wanted o (yielded ops a.tmps) = true then Oper.wp P o a V K Q else E := by
  have hw : Region.wanted o (yielded ops a.tmps) = true := by simp [Region.wanted, hg]
  rw [if_pos hw]
  obtain ⟨g', c', w1, hr, h2, h3, h4, h5⟩ := run_appK (P := P) (V := V) t o.type B e z bytes h1 hinfo hzs g0 m c0 xs hown bx u hc hu hlim hlim2 hB
  unfold Oper.wp execOp
  simp only [hop, resolve, invoke, builtin, Sem.run_bind, Sem.run_pure, Result.andThen_ok, List.map_toArray, List.map_cons, List.map_nil, hs, hx, hr]
  exact hK g' c' w1 h2 h3 h4 h5
end Go.Proofs.YtpfeflhcbcgbfaaGreatDoor
namespace Go.Proofs.YtpfeflhcbcgbfaaGreatDoor
open Go.RowKit
theorem run_appN {P : Program} {V : World} (t ty : TypeId) (B : Nat) (e : TypeId) (z : Value) (bytes : Nat) (h1 : P.underlying t = some (.slice e)) (hinfo : (P.info? e).map (fun i => (i.zero, i.size, i.bytes)) = some (some z, 1, bytes)) (hzs : z.cells.size = 1)
    (g0 m c0 : Nat) (xs : List Value) (hown : V.ownsRow B e 1 (.slice (some ⟨g0, 0, none⟩) m c0) m xs) (b off k c : Nat) (us : List Value) (hk : us.length = k) (hcell : ∀ j u, us[j]? = some u → V.cell? ⟨b, off + j, none⟩ = some u) (hu : ∀ u ∈ us, u.oneCell' = true)
    (hlim : (m + k) * bytes ≤ 140737488355328) (hlim2 : m + k ≤ maxLen) (hB : B ≤ V.heap.size) :
    ∃ g' c' w1, (Builtin.append_ #[t, t] ty #[.slice (some ⟨g0, 0, none⟩) m c0, .slice (some ⟨b, off, none⟩) k c]).run P V = .ok (.slice (some ⟨g', 0, none⟩) (m + k) c') w1 ∧ w1.ownsRow B e 1 (.slice (some ⟨g', 0, none⟩) (m + k) c') (m + k) (xs ++ us) ∧ V.grownBy w1 (some g0) ∧ (g' = g0 ∨ V.heap.size ≤ g') := by
  obtain ⟨i, hi, hz, hz1, hz2⟩ := info_parts hinfo
  have hnews : ∀ j u, us[j]? = some u → V.cell? ((⟨b, off, none⟩ : Addr).add j) = some u := by
    intro j u hj
    have hc := hcell j u hj
    unfold Addr.add
    split
    · rename_i h0; subst h0; exact hc
    · exact hc
  by_cases hfit : m + k ≤ c0
  · obtain ⟨w', hr, h2, h3⟩ := run_append_fits (P := P) V B t ty e i 1 h1 hi hz1 g0 m c0 xs hown ⟨b, off, none⟩ k c us (by omega) hnews hu hfit
    exact ⟨g0, c0, w', hr, h2, h3, .inl rfl⟩
  · have hmc : m ≤ c0 := (owns_block hown).choose_spec.2.2.1
    have hxl : xs.length = m := by simpa using hown.1
    have holds : ∀ (j : Nat) (y : Value), xs[j]? = some y → V.cell? ((⟨g0, 0, none⟩ : Addr).add j) = some y := hown.cells (g := g0) rfl
    have hr := run_append_grow (P := P) V t ty e i z h1 hi hz ⟨g0, 0, none⟩ m c0 xs (by rw [hz1]; simpa using hown.1) holds ⟨b, off, none⟩ k c us (by rw [hz1]; omega) hnews (by omega) (by unfold maxLen at hlim2; omega) (growslice_fits (by omega) (by rw [hz2]; exact hlim))
    obtain ⟨v', w', hr2, h2, h3, _⟩ := run_append_own (P := P) V B t ty e i z 1 bytes h1 hi hz hz1 hz2 hzs (by decide) _ m xs hown ⟨b, off, none⟩ k c us (by omega) hnews hu hlim2 hlim hB
    rw [hr] at hr2
    injection hr2 with e1 e2
    subst e1 e2
    exact ⟨_, _, _, hr, h2, h3, .inr (Nat.le_refl _)⟩
theorem step_appM {P : Program} {V : World} {ops : Array Oper} {o : Oper} {a : Act} {K : Act → World → Prop} {Q : Exit → Act → World → Prop} {E : Prop}
    (hg : o.guard = none) (s x : Operand) (t : TypeId) (hop : o.op = Op.call { callee := Callee.builtin Builtin.append, args := #[s, x], argTypes := #[t, t] })
    (B : Nat) (e : TypeId) (z : Value) (bytes : Nat) (h1 : P.underlying t = some (.slice e)) (hinfo : (P.info? e).map (fun i => (i.zero, i.size, i.bytes)) = some (some z, 1, bytes)) (hzs : z.cells.size = 1)
    (g0 m c0 : Nat) (xs : List Value) (hown : V.ownsRow B e 1 (.slice (some ⟨g0, 0, none⟩) m c0) m xs) (hs : a.eval s = .slice (some ⟨g0, 0, none⟩) m c0) (b off k c : Nat) (us : List Value) (hx : a.eval x = .slice (some ⟨b, off, none⟩) k c)
    (hk : us.length = k) (hcell : ∀ j u, us[j]? = some u → V.cell? ⟨b, off + j, none⟩ = some u) (hu : ∀ u ∈ us, u.oneCell' = true) (hlim : (m + k) * bytes ≤ 140737488355328) (hlim2 : m + k ≤ maxLen) (hB : B ≤ V.heap.size)
    (hK : ∀ g' c' w1, w1.ownsRow B e 1 (.slice (some ⟨g', 0, none⟩) (m + k) c') (m + k) (xs ++ us) → V.grownBy w1 (some g0) → (g' = g0 ∨ V.heap.size ≤ g') → K (a.put o.dst (.slice (some ⟨g', 0, none⟩) (m + k) c')) w1) :
    if Region.wanted o (yielded ops a.tmps) = true then Oper.wp P o a V K Q else E := by
  have hw : Region.wanted o (yielded ops a.tmps) = true := by simp [Region.wanted, hg]
  rw [if_pos hw]
  obtain ⟨g', c', w1, hr, h2, h3, h4⟩ := run_appN (P := P) (V := V) t o.type B e z bytes h1 hinfo hzs g0 m c0 xs hown b off k c us hk hcell hu hlim hlim2 hB
  unfold Oper.wp execOp
  simp only [hop, resolve, invoke, builtin, Sem.run_bind, Sem.run_pure, Result.andThen_ok, List.map_toArray, List.map_cons, List.map_nil, hs, hx, hr]
  exact hK g' c' w1 h2 h3 h4
end Go.Proofs.YtpfeflhcbcgbfaaGreatDoor
