/- A new session: both functions, and the laws' functions over sessions. Conditions: the tables lie as the program lays them. -/
import Derived.Test.YtpncmmdjkcdemaaDoorShLaw
import Derived.Test.YtpncmmdjkcdemaaDoorExM
import Derived.Test.YtpncmmdjkcdemaaDoorNumber
namespace Go.Proofs.YtpncmmdjkcdemaaDoor
open Go.RowKit

theorem TRows.setB {T0 : TypeId} {w : World} {base b : Nat} {vs : List Value} {rows : List (List Int)} (h : TRows T0 w base vs rows) (hb : b < base) (q : Nat) (y : Value) : TRows T0 (w.setCell ⟨b, q, none⟩ y) base vs rows :=
  ⟨h.len, fun i x r hx hr => own_setS (h.own i x r hx hr) hb _ _, h.apart⟩
theorem TRows.base {T0 : TypeId} {w : World} {base base' : Nat} {vs : List Value} {rows : List (List Int)} (h : TRows T0 w base vs rows) (hb : base' ≤ base) : TRows T0 w base' vs rows :=
  ⟨h.len, fun i x r hx hr => owns_base (h.own i x r hx hr) hb, h.apart⟩
theorem TRows.lt {T0 : TypeId} {w : World} {base : Nat} {vs : List Value} {rows : List (List Int)} (h : TRows T0 w base vs rows) : ∀ x ∈ vs, ∀ q, x.ownBlock = some q → q < w.heap.size := by
  intro x hx q hq
  obtain ⟨i, hi, e⟩ := List.getElem_of_mem hx
  obtain ⟨r, hr⟩ := get_some (l := rows) (n := i) (by rw [← h.len]; exact hi)
  exact ((h.own i x r (List.getElem?_eq_some_iff.2 ⟨hi, e⟩) hr).lt q hq).2
theorem OffRow.blocks {w w' : World} {base n : Nat} {a : Option Addr} {xs : List Value} (h : OffRow w base a n xs) (hs : w.heap.size ≤ w'.heap.size) (hb : ∀ q, base ≤ q → q < w.heap.size → w'.heap[q]? = w.heap[q]?) : OffRow w' base a n xs :=
  ⟨h.len, h.lim, fun hn => by
    obtain ⟨g, off, ha, h1, hg, hc, hf⟩ := h.at_ hn
    have e := hb g h1 hg
    refine ⟨g, off, ha, h1, Nat.lt_of_lt_of_le hg hs, fun j x hx => (World.cell?_of_block (a := ⟨g, off + j, none⟩) e).trans (hc j x hx), fun j => ?_⟩
    have := hf j
    unfold World.frozen? at this ⊢
    rw [show (⟨g, off + j, none⟩ : Addr).block = g from rfl] at this ⊢
    rw [e]
    exact this⟩
set_option maxHeartbeats 1000000 in
theorem markIntSS_k (base B : Nat) (v : Value) (vs : List Value) (k : Nat) (rows : List (List Int)) (w : World) (hg0 : w.ownsRow base 48 1 v rows.length vs) (hg1 : TRows 3 w base vs rows) (hB : ∀ x ∈ vs, ∀ q, x.ownBlock = some q → q < B) (hk : k + cells rows ≤ 140737488355328) (hn : rows.length ≤ 140737488351232) (hb : base ≤ w.heap.size) :
    Calls Tryd.prog 14 #[v, .int .i64 k] w fun e w' => e = .returned (.int .i64 ((k + cells rows : Nat) : Int)) ∧ w'.ownsRow base 48 1 v rows.length vs ∧ TRows 3 w' base vs (markTab k rows) ∧ Below base w w' ∧ ∀ q, B ≤ q → q < w.heap.size → w'.heap[q]? = w.heap[q]? := by
  have ho := hg0
  have hrs := hg1
  have HBB := hid hB
  clear hg0 hg1 hB
  obtain ⟨n, hnn⟩ : ∃ n, n = rows.length := ⟨_, rfl⟩
  rw [← hnn] at ho hn
  obtain ⟨a, cap, rfl, hra⟩ := owns_rowAt ho hn
  have HN := hid hnn
  have HO := hid ho
  have HRS := hid hrs
  have HK := hid hk
  clear hra ho hrs hnn hk
  go_enter Tryd.func14, Tryd.ntmps14
  go_wp2
  go_loopw [1, 5] (fun q i wr => ∃ j : Nat, j ≤ n ∧ i = .int .i64 j ∧ q = .int .i64 ((k + cells (rows.take j) : Nat) : Int) ∧ wr.ownsRow base 48 1 (.slice a n cap) n vs ∧ TRows 3 wr base vs (mt k rows j) ∧ Below base w wr ∧ Hid (∀ q, B ≤ q → q < w.heap.size → wr.heap[q]? = w.heap[q]?)) (fun _ i _ => n - (intOf i).toNat)
  case atStart => exact ⟨0, by omega, rfl, by simp [cells], HO.out, by rw [mt_zero]; exact HRS.out, Below.refl _ _, hid fun _ _ _ => rfl⟩
  case round =>
    obtain ⟨j, hj, rfl, rfl, hown, hrs, hbel, HKP⟩ := hrel
    by_cases hlt : j < n
    · obtain ⟨r, hr⟩ := get_some (l := rows) (n := j) (by have := HN.out; omega)
      obtain ⟨x, hx⟩ := get_some (l := vs) (n := j) (by rw [hown.1]; omega)
      have hrow := hrs.own j x r hx (mt_get hr k)
      obtain ⟨a2, c2, hv, hr2⟩ := owns_rowAt hown hn
      simp only [Value.slice.injEq, true_and] at hv
      obtain ⟨rfl, rfl⟩ := hv
      obtain ⟨b, off, rfl, hb1, hc⟩ := hr2.at_ (by omega)
      have hcell := hc j _ hx
      have hcr := cells_row hr
      have hct := cells_take hr
      obtain ⟨q, hq⟩ : ∃ q, q = k + cells (rows.take j) := ⟨_, rfl⟩
      rw [← hq]
      have HQ := hid hq
      have HX := hid hx
      have HR := hid hr
      have HRW := hid hrow
      have hq2 : q + r.length ≤ 140737488355328 := by have := HK.out; omega
      have HCT := hid hct
      clear hc hr2 hx hr hrow hct hcr hq
      go_wp2_with fail
      refine (markIntS_c base x r.length q _ _ HRW.out (by omega) (by omega)).mono ?_
      rintro e w' ⟨rfl, ho2, hg2⟩
      go_wp2
      go_roundw
      case rel =>
        refine ⟨j + 1, by omega, by go_num, ?_, hown.kept hg2 (owns_ne hown HRW.out (by decide)), ?_, hbel.grown hg2 (Nat.le_trans hb hbel.size) (fun k hk => (HRW.out.lt k hk).1), hid fun z hz1 hz2 => ?_⟩
        · rw [HCT.out, ← Nat.add_assoc, ← HQ.out, Int.natCast_add]
        · rw [← mt_step HR.out k, ← HQ.out]
          exact hrs.changed (mt_get HR.out k) HX.out hg2 (by rw [markRow_len, markRow_vals]; exact ho2)
        · rw [← HKP.out z hz1 hz2]
          exact hg2.block z (Nat.lt_of_lt_of_le hz2 hbel.size) (fun e => by
            have := HBB.out x (List.mem_of_getElem? HX.out) z e.symm
            omega)
      case measure => simp [intOf]; omega
    · obtain rfl : j = n := by omega
      go_wp2
      go_ret
      refine ⟨?_, by rw [← HN.out]; exact hown, by rw [← mt_all, ← HN.out]; exact hrs, hbel, HKP.out⟩
      show Ending.returned (Value.int .i64 ((k + cells (rows.take j) : Nat) : Int)) = _
      rw [HN.out, List.take_length]


def sesA (a1 : Option Addr) (c1 : Nat) (a2 : Option Addr) (c2 : Nat) : Array Value := #[.slice a1 2 c1, .int .i64 2, .slice a2 1 c2, .int .i64 2, .int .i64 2, .string ⟨#[97, 98, 98, 97]⟩]
def sesM : List (List Int) := [[1, 1], [1, 0]]
def sesS : List ByteArray := [⟨#[98, 98]⟩]
theorem ses_box {w wr : World} {v0 v1 v2 v3 v4 v5 : Value} {T : TypeId} (h : Below (w.alloc (.cells #[v0, v1, v2, v3, v4, v5] T)).heap.size (w.alloc (.cells #[v0, v1, v2, v3, v4, v5] T)) wr) :
    (wr.cell? ⟨w.heap.size, 0, none⟩ = some v0 ∧ wr.cell? ⟨w.heap.size, 1, none⟩ = some v1 ∧ wr.cell? ⟨w.heap.size, 2, none⟩ = some v2 ∧ wr.cell? ⟨w.heap.size, 3, none⟩ = some v3 ∧ wr.cell? ⟨w.heap.size, 4, none⟩ = some v4 ∧ wr.cell? ⟨w.heap.size, 5, none⟩ = some v5) ∧
    (∀ k, wr.frozen? ⟨w.heap.size, k, none⟩ = false) ∧ w.heap.size < wr.heap.size ∧ Below w.heap.size w wr := by
  obtain ⟨h1, h2, h3, h4⟩ := boxS h
  exact ⟨⟨(h1 0).trans rfl, (h1 1).trans rfl, (h1 2).trans rfl, (h1 3).trans rfl, (h1 4).trans rfl, (h1 5).trans rfl⟩, h2, h3, h4⟩
theorem ses_kept {V V' : World} {p : Nat} {v0 v1 v2 v3 v4 v5 : Value} (h : V.cell? ⟨p, 0, none⟩ = some v0 ∧ V.cell? ⟨p, 1, none⟩ = some v1 ∧ V.cell? ⟨p, 2, none⟩ = some v2 ∧ V.cell? ⟨p, 3, none⟩ = some v3 ∧ V.cell? ⟨p, 4, none⟩ = some v4 ∧ V.cell? ⟨p, 5, none⟩ = some v5) (e : V'.heap[p]? = V.heap[p]?) :
    V'.cell? ⟨p, 0, none⟩ = some v0 ∧ V'.cell? ⟨p, 1, none⟩ = some v1 ∧ V'.cell? ⟨p, 2, none⟩ = some v2 ∧ V'.cell? ⟨p, 3, none⟩ = some v3 ∧ V'.cell? ⟨p, 4, none⟩ = some v4 ∧ V'.cell? ⟨p, 5, none⟩ = some v5 := by
  obtain ⟨h0, h1, h2, h3, h4, h5⟩ := h
  exact ⟨(World.cell?_of_block (a := ⟨p, 0, none⟩) e).trans h0, (World.cell?_of_block (a := ⟨p, 1, none⟩) e).trans h1, (World.cell?_of_block (a := ⟨p, 2, none⟩) e).trans h2, (World.cell?_of_block (a := ⟨p, 3, none⟩) e).trans h3, (World.cell?_of_block (a := ⟨p, 4, none⟩) e).trans h4, (World.cell?_of_block (a := ⟨p, 5, none⟩) e).trans h5⟩
set_option maxHeartbeats 2000000 in
theorem spec_ParseCode_ok (w : World) : Calls Tryd.prog 31 #[.string ⟨#[50, 32, 50, 32, 97, 98, 98, 97]⟩] w fun e w' => e = .returned (.tuple #[.agg #[.int .i64 2, .int .i64 2, .string ⟨#[97, 98, 98, 97]⟩], .bool true]) ∧ Below w.heap.size w w' := by
  have HC := hid (spec_SplitByte_c ⟨#[50, 32, 50, 32, 97, 98, 98, 97]⟩ 32 (w.alloc (.cells #[.int .i64 0, .int .i64 0, .string ⟨#[]⟩] 36)) (by decide))
  unfold CutPost at HC
  rw [show cutB ⟨#[50, 32, 50, 32, 97, 98, 98, 97]⟩ 32 = [⟨#[50]⟩, ⟨#[50]⟩, ⟨#[97, 98, 98, 97]⟩] from by decide +kernel] at HC
  have HP := hid (fun w => spec_ParseInt_c ⟨#[50]⟩ w (by decide))
  rw [read2] at HP
  simp only [Option.getD_some, Option.isSome_some] at HP
  have HI := hid (fun w => spec_IsCode_c 2 2 ⟨#[97, 98, 98, 97]⟩ w (by unfold maxLen; decide))
  rw [show isCode 2 2 ⟨#[97, 98, 98, 97]⟩ = true from by decide] at HI
  go_enter Tryd.func31, Tryd.ntmps31
  go_wp2_with fail
  refine HC.out.mono ?_
  rintro e w1 ⟨v1, rfl, ho1, hb1⟩
  obtain ⟨gp, cp, rfl, hgp0, hgp1⟩ := own_form ho1 (by simp)
  have x0 : w1.cell? ⟨gp, 0, none⟩ = some (.string ⟨#[50]⟩) := (ho1.cellAt 0 (by simp)).trans rfl
  have HX1 := hid (show w1.cell? ⟨gp, 1, none⟩ = some (.string ⟨#[50]⟩) from (ho1.cellAt 1 (by simp)).trans rfl)
  have HX2 := hid (show w1.cell? ⟨gp, 2, none⟩ = some (.string ⟨#[97, 98, 98, 97]⟩) from (ho1.cellAt 2 (by simp)).trans rfl)
  have HB1 := hid hb1
  clear ho1 hb1 HC
  go_wp2_with fail
  refine (HP.out _).mono ?_
  rintro e w2 ⟨rfl, hb2⟩
  have x1 := (hb2.cell (p := ⟨gp, 1, none⟩) hgp1).trans HX1.out
  have x2 := hid ((hb2.cell (p := ⟨gp, 2, none⟩) hgp1).trans HX2.out)
  have hg2 := Nat.lt_of_lt_of_le hgp1 hb2.size
  have HB2 := hid (bs HB1.out hb2)
  clear hb2 HX1 HX2
  go_wp2_with fail
  refine (HP.out _).mono ?_
  rintro e w3 ⟨rfl, hb3⟩
  have x3 := (hb3.cell (p := ⟨gp, 2, none⟩) hg2).trans x2.out
  have HB3 := hid (bs HB2.out hb3)
  clear hb3
  go_wp2_with fail
  refine (HI.out _).mono ?_
  rintro e w4 ⟨rfl, hb4⟩
  obtain ⟨hcS, hfS, hzS, hB34⟩ := boxS hb4
  have p0 := (hcS 0).trans (show _ = some (Value.int .i64 2) from rfl)
  have p1 := (hcS 1).trans (show _ = some (Value.int .i64 2) from rfl)
  have p2 := (hcS 2).trans (show _ = some (Value.string ⟨#[97, 98, 98, 97]⟩) from rfl)
  obtain ⟨hcR, hfR, hzR, hBR⟩ := boxS (bs HB3.out hB34)
  have q0 := (hcR 0).trans (show _ = some (Value.int .i64 0) from rfl)
  have q1 := (hcR 1).trans (show _ = some (Value.int .i64 0) from rfl)
  have q2 := (hcR 2).trans (show _ = some (Value.string ⟨#[]⟩) from rfl)
  have f0 := hfR 0
  have f1 := hfR 1
  have f2 := hfR 2
  have HBR := hid hBR
  clear hcS hfS hB34 hcR hfR hBR hb4
  go_wp2
  refine bodyPost_ret (v := .tuple #[.agg #[.int .i64 2, .int .i64 2, .string ⟨#[97, 98, 98, 97]⟩], .bool true]) (by simp [results, Tryd.results31, go_sem, q0, q1, q2, hzR]) rfl ⟨rfl, ?_⟩
  exact ((HBR.out.setCell (by simp) _).setCell (by simp) _).setCell (by simp) _
end Go.Proofs.YtpncmmdjkcdemaaDoor
