/- Which vertices of a matrix lie on paths that are infinite in both directions: the reference's way. Conditions: a square table. -/
import Derived.Test.YtpfeflhcbcgbfaaDoorLabP
import Derived.Test.YtpfeflhcbcgbfaaDoorIter
namespace Go.Proofs.YtpfeflhcbcgbfaaDoor
open Go.RowKit

def wayB (M : List (List Int)) (i j : Nat) : Bool := decide (0 < at2 M i j)
def rowsM (M : List (List Int)) (n : Nat) : List (List Int) := (List.range n).map fun i => ((List.range n).filter (wayB M i)).map fun j => ((j : Nat) : Int)
theorem rowsM_edg {M : List (List Int)} {n i j : Nat} (hi : i < n) (hj : j < n) : edg (rowsM M n) i j ↔ wayB M i j = true := by
  unfold edg rowsM
  rw [List.getD_eq_getElem?_getD, List.getElem?_map, List.getElem?_range hi]
  simp only [Option.map_some, Option.getD_some, List.mem_map, List.mem_filter, List.mem_range]
  constructor
  · rintro ⟨a, ⟨_, h⟩, e⟩
    rw [show j = a by omega]; exact h
  · intro h
    exact ⟨j, ⟨hj, h⟩, rfl⟩
def mOut (K : Nat → Bool) (M : List (List Int)) (i j : Nat) : Bool := (List.range j).any fun t => K t && wayB M i t
def mIn (K : Nat → Bool) (M : List (List Int)) (i j : Nat) : Bool := (List.range j).any fun t => K t && wayB M t i
theorem mOut_succ (K : Nat → Bool) (M : List (List Int)) (i j : Nat) : mOut K M i (j + 1) = (mOut K M i j || (K j && wayB M i j)) := by simp [mOut, List.range_succ]
theorem mIn_succ (K : Nat → Bool) (M : List (List Int)) (i j : Nat) : mIn K M i (j + 1) = (mIn K M i j || (K j && wayB M j i)) := by simp [mIn, List.range_succ]
theorem mOut_iff {K : Nat → Bool} {M : List (List Int)} {i n : Nat} : mOut K M i n = true ↔ ∃ t, t < n ∧ K t = true ∧ wayB M i t = true := by
  unfold mOut; rw [List.any_eq_true]
  constructor
  · rintro ⟨t, h1, h2⟩; rw [Bool.and_eq_true] at h2; exact ⟨t, List.mem_range.1 h1, h2⟩
  · rintro ⟨t, h1, h2⟩; exact ⟨t, List.mem_range.2 h1, by rw [Bool.and_eq_true]; exact h2⟩
theorem mIn_iff {K : Nat → Bool} {M : List (List Int)} {i n : Nat} : mIn K M i n = true ↔ ∃ t, t < n ∧ K t = true ∧ wayB M t i = true := by
  unfold mIn; rw [List.any_eq_true]
  constructor
  · rintro ⟨t, h1, h2⟩; rw [Bool.and_eq_true] at h2; exact ⟨t, List.mem_range.1 h1, h2⟩
  · rintro ⟨t, h1, h2⟩; exact ⟨t, List.mem_range.2 h1, by rw [Bool.and_eq_true]; exact h2⟩
/-- Nothing that lives is struck. -/
theorem mlive_keep {K : Nat → Bool} {M : List (List Int)} {n i : Nat} (hP : ∀ q, q < n → LiveG (rowsM M n) n q → K q = true) (hs : (mOut K M i n && mIn K M i n) = false) : ∀ q, q < n → LiveG (rowsM M n) n q → (if q = i then false else K q) = true := by
  intro q hq hl
  by_cases h : q = i
  · subst h
    obtain ⟨T, ht, hT⟩ := hl
    have hin : ∀ r, T r → K r = true := fun r hr => hP r (hT r hr).1 ⟨T, hr, hT⟩
    obtain ⟨_, ⟨r, hr, htr⟩, ⟨s, hs2, hts⟩⟩ := hT q ht
    have h1 : mOut K M q n = true := mOut_iff.2 ⟨r, (hT r htr).1, hin r htr, (rowsM_edg hq (hT r htr).1).1 hr⟩
    have h2 : mIn K M q n = true := mIn_iff.2 ⟨s, (hT s hts).1, hin s hts, (rowsM_edg (hT s hts).1 hq).1 hs2⟩
    rw [h1, h2] at hs; cases hs
  · rw [if_neg h]; exact hP q hq hl
theorem mlive_end {K : Nat → Bool} {M : List (List Int)} {n : Nat} (hP : ∀ q, q < n → LiveG (rowsM M n) n q → K q = true) (hE : ∀ i, i < n → K i = true → (mOut K M i n && mIn K M i n) = true) : ∀ i, i < n → (K i = true ↔ LiveG (rowsM M n) n i) := by
  intro i hi
  refine ⟨fun hk => ⟨fun j => j < n ∧ K j = true, ⟨hi, hk⟩, fun q hq => ⟨hq.1, ?_, ?_⟩⟩, hP i hi⟩
  · have h3 := hE q hq.1 hq.2
    rw [Bool.and_eq_true, mOut_iff] at h3
    obtain ⟨⟨t, h1, h2, h4⟩, _⟩ := h3
    exact ⟨t, (rowsM_edg hq.1 h1).2 h4, h1, h2⟩
  · have h3 := hE q hq.1 hq.2
    rw [Bool.and_eq_true, mIn_iff] at h3
    obtain ⟨_, t, h1, h2, h4⟩ := h3
    exact ⟨t, (rowsM_edg h1 hq.1).2 h4, h1, h2⟩
theorem cnt_strike {K : Nat → Bool} {n i : Nat} (hi : i < n) (hk : K i = true) : ((List.range n).filter fun q => if q = i then false else K q).length < ((List.range n).filter K).length :=
  filter_less (fun q hq => by by_cases h : q = i; · rw [if_pos h] at hq; cases hq
                              rw [if_neg h] at hq; exact hq) hi hk (by rw [if_pos rfl])
set_option maxHeartbeats 4000000 in
set_option maxRecDepth 100000 in
theorem spec_l5Live_c (n : Nat) (M : List (List Int)) (a : Option Addr) (c : Nat) (w : World) (hT : TabAt w a n M) (hrow : ∀ r ∈ M, r.length = n) (hn : n ≤ 1000) :
    Calls Tryd.prog 80 #[.slice a n c] w (LivePost (rowsM M n) n w) := by
  have HT := hid hT
  have HLEN := hid (tab_len hT).1
  have HROW := hid hrow
  clear hrow hT
  obtain ⟨ti, hi, hz, hz1, hz2⟩ := info_parts infoBool
  go_enter Tryd.func80, Tryd.ntmps80
  go_wp2_with (first | (at_make; refine wpList_make_full _ rfl _ _ 83 rfl w.heap.size 4 ti (.bool false) 1 Tryd.underlying83 hi hz hz1 .i64 .i64 _ _ n rfl rfl rfl rfl (by rw [hz2]; omega) (by unfold maxLen; omega) (Nat.le_refl _) ?_; intro w1 hown1 hgr1))
  rw [rowB_made] at hown1
  have hb1 : Below w.heap.size w w1 := (Below.refl _ _).grown hgr1 (Nat.le_refl _) (by intro k h; cases h)
  clear hgr1
  go_loopw [4] (fun i wr => ∃ j : Nat, j ≤ n ∧ i = .int .i64 j ∧ wr.ownsRow w.heap.size 4 1 (.slice (some ⟨w.heap.size, 0, none⟩) n n) n (boolVals (rowB (fun i => decide (i < j)) n)) ∧ Below w.heap.size w wr) (fun i _ => n - (intOf i).toNat)
  case atStart => exact ⟨0, by omega, rfl, by simpa using hown1, hb1⟩
  case round =>
    obtain ⟨j, hj, rfl, hown, hbel⟩ := hrel
    by_cases hlt : j < n
    · have hcell : wr.cell? ⟨w.heap.size, j, none⟩ = some (.bool (decide (j < j))) := (hown.cellAt j (by omega)).trans (rowB_get hlt)
      have hfr := hown.frozenAt j
      have HO := hid hown
      clear hown
      go_wp2
      go_roundw
      case rel =>
        have hst := HO.out.stored j (.bool true)
        rw [rowB_set, rowB_ext (L := fun i => decide (i < j + 1)) (fun i _ => by by_cases h : i = j <;> simp [h] <;> omega)] at hst
        exact ⟨j + 1, by omega, by go_num, hst.1, hbel.grown hst.2 hbel.size (by rintro k ⟨⟩; exact Nat.le_refl _)⟩
      case measure => simp [intOf]; omega
    · obtain rfl : j = n := by omega
      have HO := hid hown
      clear hown hown1 hb1
      go_wp2
      go_loopw [5] (fun ch wr => ∃ (K : Nat → Bool) (b : Bool), ch = .bool b ∧ wr.ownsRow w.heap.size 4 1 (.slice (some ⟨w.heap.size, 0, none⟩) j j) j (boolVals (rowB K j)) ∧ Below w.heap.size w wr ∧ Hid (∀ i, i < j → LiveG (rowsM M j) j i → K i = true) ∧ Hid (b = false → ∀ i, i < j → K i = true → (mOut K M i j && mIn K M i j) = true)) (fun ch wr => trues w.heap.size j wr + (match ch with | .bool true => 1 | _ => 0))
      case atStart => exact ⟨_, true, rfl, HO.out, hbel, fun i hi _ => by simp [hi], fun h => by cases h⟩
      case round =>
        obtain ⟨K, b, rfl, hown, hbel, HP, HE⟩ := hrel
        obtain ⟨m, rfl⟩ : ∃ m, m = j := ⟨_, rfl⟩
        cases b
        · have HF := hid (mlive_end HP.out (HE.out rfl))
          go_wp2
          go_ret
          exact ⟨_, K, rfl, hown, hbel, HF.out⟩
        · obtain ⟨wo, rfl⟩ : ∃ wo : World, wo = wr := ⟨_, rfl⟩
          have HO1 := hid hown
          clear hown HE HO
          go_wp2
          go_loopw [5, 6] (fun ch i wr => ∃ (q : Nat) (L : Nat → Bool) (b : Bool), q ≤ m ∧ i = .int .i64 q ∧ ch = .bool b ∧ wr.ownsRow w.heap.size 4 1 (.slice (some ⟨w.heap.size, 0, none⟩) m m) m (boolVals (rowB L m)) ∧ Below w.heap.size w wr ∧ Hid (∀ i, i < m → LiveG (rowsM M m) m i → L i = true) ∧ Hid (b = false → L = K ∧ ∀ i, i < q → K i = true → (mOut K M i m && mIn K M i m) = true) ∧ Hid (b = true → ((List.range m).filter L).length < ((List.range m).filter K).length)) (fun _ i _ => m - (intOf i).toNat)
          case atStart => exact ⟨0, K, false, by omega, rfl, rfl, HO1.out, hbel, HP, hid (fun _ => ⟨rfl, fun i hi => by omega⟩), hid (fun h => by cases h)⟩
          case round =>
            clear HP hbel
            obtain ⟨i, L, b, hi, rfl, rfl, hown, hbel, HP, HE, HC⟩ := hrel
            by_cases hlti : i < m
            · have HO2 := hid hown
              have hii : (i : Int) < (m : Int) := by omega
              clear hown
              go_wp2
              go_loop [7, 8, 9] (fun u v x => ∃ t : Nat, t ≤ m ∧ x = .int .i64 t ∧ u = .bool (mOut L M i t) ∧ v = .bool (mIn L M i t)) (fun _ _ x => m - (intOf x).toNat)
              case atStart => exact ⟨0, by omega, rfl, rfl, rfl⟩
              case round =>
                obtain ⟨j, hj, rfl, rfl, rfl⟩ := hrel
                by_cases hltj : j < m
                · skip
                  obtain ⟨ri, hri⟩ := get_some (l := M) (n := i) (by rw [HLEN.out]; exact hlti)
                  obtain ⟨rj, hrj⟩ := get_some (l := M) (n := j) (by rw [HLEN.out]; exact hltj)
                  have hil := HROW.out ri (List.mem_of_getElem? hri)
                  have hjl := HROW.out rj (List.mem_of_getElem? hrj)
                  obtain ⟨b0, o0, b1, o1, c1, he0, hb0, q0, hb1, q1⟩ := tab_cell HT.out hlti hri (j := j) (by omega)
                  obtain ⟨b0', o0', b2, o2, c2, he1, _, q2, hb2, q3⟩ := tab_cell HT.out hltj hrj (j := i) (by omega)
                  rw [he0] at he1
                  injection he1 with he1
                  injection he1 with e1 e2
                  subst e1 e2
                  subst he0
                  have q0 := (hbel.cell (p := ⟨b0, o0 + i, none⟩) hb0).trans q0
                  have q1 := (hbel.cell (p := ⟨b1, o1 + j, none⟩) hb1).trans q1
                  have q2 := (hbel.cell (p := ⟨b0, o0 + j, none⟩) hb0).trans q2
                  have q3 := (hbel.cell (p := ⟨b2, o2 + i, none⟩) hb2).trans q3
                  rw [hil] at q0
                  rw [hjl] at q2
                  clear hri hrj hil hjl
                  have hji : (j : Int) < (m : Int) := by omega
                  have qk : wr.cell? ⟨w.heap.size, j, none⟩ = some (.bool (L j)) := (HO2.out.cellAt j (by omega)).trans (rowB_get hltj)
                  have HU := hid (mOut_succ L M i j)
                  have HV := hid (mIn_succ L M i j)
                  obtain ⟨x, hx⟩ : ∃ x, x = mOut L M i j := ⟨_, rfl⟩
                  obtain ⟨y, hy⟩ : ∃ y, y = mIn L M i j := ⟨_, rfl⟩
                  obtain ⟨k, hk⟩ : ∃ k, k = L j := ⟨_, rfl⟩
                  obtain ⟨d, hd⟩ : ∃ d, d = at2 M i j := ⟨_, rfl⟩
                  obtain ⟨e, he⟩ : ∃ e, e = at2 M j i := ⟨_, rfl⟩
                  obtain ⟨d1, hd1⟩ : ∃ d1, d1 = wayB M i j := ⟨_, rfl⟩
                  obtain ⟨e1, he1⟩ : ∃ e1, e1 = wayB M j i := ⟨_, rfl⟩
                  have gd : decide (0 < d) = d1 := by rw [hd, hd1]; rfl
                  have ge : decide (0 < e) = e1 := by rw [he, he1]; rfl
                  rw [← hx, ← hk, ← hd1] at HU
                  rw [← hy, ← hk, ← he1] at HV
                  rw [← hx, ← hy]
                  rw [← hd] at q1
                  rw [← he] at q3
                  rw [← hk] at qk
                  clear hx hy hk hd he hd1 he1
                  cases k
                  · clear gd ge
                    cases x <;> cases y
                    all_goals
                      go_wp2
                      go_round
                      case rel => exact ⟨j + 1, by omega, by go_num, by rw [HU.out]; rfl, by rw [HV.out]; rfl⟩
                      case measure => simp [intOf]; omega
                  · cases x <;> cases y <;> cases d1 <;> cases e1
                    all_goals
                      go_wp2
                      go_round
                      case rel => exact ⟨j + 1, by omega, by go_num, by rw [HU.out]; rfl, by rw [HV.out]; rfl⟩
                      case measure => simp [intOf]; omega
                · obtain rfl : j = m := by omega
                  have qk : wr.cell? ⟨w.heap.size, i, none⟩ = some (.bool (L i)) := (HO2.out.cellAt i (by omega)).trans (rowB_get hlti)
                  have hfr := HO2.out.frozenAt i
                  have hst := HO2.out.stored i (.bool false)
                  rw [rowB_set] at hst
                  have HST := hid hst
                  have HKP := hid (mlive_keep (i := i) HP.out)
                  have HKL := hid (cnt_strike (K := L) (n := j) hlti)
                  obtain ⟨x, hx⟩ : ∃ x, x = mOut L M i j := ⟨_, rfl⟩
                  obtain ⟨y, hy⟩ : ∃ y, y = mIn L M i j := ⟨_, rfl⟩
                  have HX := hid hx
                  have HY := hid hy
                  rw [← hx, ← hy] at HKP
                  rw [← hx, ← hy]
                  obtain ⟨k, hk⟩ : ∃ k, k = L i := ⟨_, rfl⟩
                  rw [← hk] at qk HKL
                  have HKK := hid hk
                  clear hst hx hy hk
                  cases k
                  · have HE2 := hid (show b = false → L = K ∧ ∀ p, p < i + 1 → K p = true → (mOut K M p j && mIn K M p j) = true from fun hb => by
                      obtain ⟨h1, h2⟩ := HE.out hb
                      refine ⟨h1, fun p hp hkp => ?_⟩
                      by_cases e : p = i
                      · subst e; rw [← h1, ← HKK.out] at hkp; cases hkp
                      · exact h2 p (by omega) hkp)
                    clear HE HKP HKL HST hfr HX HY
                    go_wp2
                    go_roundw
                    case rel => exact ⟨i + 1, L, b, by omega, by go_num, rfl, HO2.out, hbel, HP, HE2, HC⟩
                    case measure => simp [intOf]; omega
                  · cases x
                    · have HP2 := hid (HKP.out rfl)
                      have HC2 := hid (show ((List.range j).filter fun q => if q = i then false else L q).length < ((List.range j).filter K).length from by
                        have h1 := HKL.out rfl
                        cases hb : b
                        · have := (HE.out hb).1; rw [← this]; exact h1
                        · exact Nat.lt_trans h1 (HC.out hb))
                      clear HE HKP HKL HC HX HY HP
                      go_wp2
                      go_roundw
                      case rel => exact ⟨i + 1, _, true, by omega, by go_num, rfl, HST.out.1, hbel.grown HST.out.2 hbel.size (by rintro k ⟨⟩; exact Nat.le_refl _), HP2, hid (fun h => by cases h), hid (fun _ => HC2.out)⟩
                      case measure => simp [intOf]; omega
                    · cases y
                      · have HP2 := hid (HKP.out rfl)
                        have HC2 := hid (show ((List.range j).filter fun q => if q = i then false else L q).length < ((List.range j).filter K).length from by
                          have h1 := HKL.out rfl
                          cases hb : b
                          · have := (HE.out hb).1; rw [← this]; exact h1
                          · exact Nat.lt_trans h1 (HC.out hb))
                        clear HE HKP HKL HC HX HY HP
                        go_wp2
                        go_roundw
                        case rel => exact ⟨i + 1, _, true, by omega, by go_num, rfl, HST.out.1, hbel.grown HST.out.2 hbel.size (by rintro k ⟨⟩; exact Nat.le_refl _), HP2, hid (fun h => by cases h), hid (fun _ => HC2.out)⟩
                        case measure => simp [intOf]; omega
                      · have HE2 := hid (show b = false → L = K ∧ ∀ p, p < i + 1 → K p = true → (mOut K M p j && mIn K M p j) = true from fun hb => by
                          obtain ⟨h1, h2⟩ := HE.out hb
                          refine ⟨h1, fun p hp hkp => ?_⟩
                          by_cases e : p = i
                          · subst e; rw [← h1, ← HX.out, ← HY.out]; rfl
                          · exact h2 p (by omega) hkp)
                        clear HE HKP HKL HST hfr HX HY
                        go_wp2
                        go_roundw
                        case rel => exact ⟨i + 1, L, b, by omega, by go_num, rfl, HO2.out, hbel, HP, HE2, HC⟩
                        case measure => simp [intOf]; omega
            · obtain rfl : i = m := by omega
              have HT2 := hid (show trues w.heap.size i wr + (match Value.bool b with | .bool true => 1 | _ => 0) < trues w.heap.size i wo + 1 by
                rw [trues_row hown, trues_row HO1.out]
                cases b
                · have := (HE.out rfl).1; rw [this]; simp only []; omega
                · have := HC.out rfl; simp only []; omega)
              have HE2 := hid (show b = false → ∀ p, p < i → L p = true → (mOut L M p i && mIn L M p i) = true from fun hb => by
                obtain ⟨h1, h2⟩ := HE.out hb
                rw [h1]; exact h2)
              go_wp2
              go_roundw
              case rel => exact ⟨L, b, rfl, hown, hbel, HP.out, HE2.out⟩
              case measure => exact HT2.out
end Go.Proofs.YtpfeflhcbcgbfaaDoor
