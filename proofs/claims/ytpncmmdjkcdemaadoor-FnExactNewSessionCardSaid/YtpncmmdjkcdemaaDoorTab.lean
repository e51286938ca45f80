/- Rows of tables that read. No condition. -/
import Derived.Test.YtpncmmdjkcdemaaDoorMul
namespace Go.Proofs.YtpncmmdjkcdemaaDoor
open Go.RowKit

/-- A row of a table that reads. -/
theorem tab_row {w : World} {a : Option Addr} {n i : Nat} {rows : List (List Int)} (h : TabAt w a n rows) (hi : i < n) {r : List Int} (hr : rows[i]? = some r) :
    ∃ b off a' c, a = some ⟨b, off, none⟩ ∧ b < w.heap.size ∧ w.cell? ⟨b, off + i, none⟩ = some (.slice a' r.length c) ∧ RowAt w a' r.length (intVals r) := by
  obtain ⟨vs, h1, h2, h3⟩ := h
  obtain ⟨b, off, rfl, hb, hc⟩ := h1.at_ (by omega)
  obtain ⟨x, hx⟩ := get_some (l := vs) (n := i) (by rw [h1.len]; exact hi)
  obtain ⟨a', c', rfl, hr'⟩ := h3 i x r hx hr
  exact ⟨b, off, a', c', rfl, hb, hc i _ hx, hr'⟩
theorem at2_row {rows : List (List Int)} {i : Nat} {r : List Int} (h : rows[i]? = some r) (k : Nat) : at2 rows i k = at0 r k := by rw [at2, List.getD_eq_getElem?_getD, h]; rfl
end Go.Proofs.YtpncmmdjkcdemaaDoor
