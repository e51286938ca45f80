/- The search for the shortest word without a source, onto: the reference's functions. Conditions: a code. -/
import Derived.Test.YtcmmlldincflkaaDoorOrpL
import Derived.Test.YtcmmlldincflkaaDoorStepS
import Derived.Test.YtcmmlldincflkaaDoorOneS
import Derived.Test.YtcmmlldincflkaaDoorRulesL
namespace Go.Proofs.YtcmmlldincflkaaDoor
open Go.RowKit

/-- What the search for an orphan hands back. -/
def orphV (o : ByteArray) (k S : Nat) : Value := match srchAll (fun s a => stepS o k S s a) k (2 ^ S - 1) with
  | some r => .tuple #[.string (wordB r), .bool true]
  | none => .tuple #[.string ⟨#[]⟩, .bool false]
theorem orphV_some {o : ByteArray} {k S : Nat} {r : List UInt8} (h : srchAll (fun s a => stepS o k S s a) k (2 ^ S - 1) = some r) : orphV o k S = .tuple #[.string (wordB r), .bool true] := by unfold orphV; rw [h]
theorem orphV_none {o : ByteArray} {k S : Nat} (h : srchAll (fun s a => stepS o k S s a) k (2 ^ S - 1) = none) : orphV o k S = .tuple #[.string ⟨#[]⟩, .bool false] := by unfold orphV; rw [h]
theorem abc_get : ∀ a : Nat, (h : a < 3) → ((ByteArray.mk #[97, 98, 99])[a]'h).toNat = 97 + a
  | 0, _ => rfl
  | 1, _ => rfl
  | 2, _ => rfl
theorem pow_shift1 : ∀ S : Nat, S < 10 → wrap64 (2 ^ S) = ((2 ^ S : Nat) : Int) := by decide +kernel
theorem pow_shift (S : Nat) (_h1 : 1 ≤ S) (h9 : S ≤ 9) : wrap64 (2 ^ S) = ((2 ^ S : Nat) : Int) := pow_shift1 S (by omega)
/-- Where the search stands in the memory. -/
structure OrpAt (W1 : World) (B : Nat) (ys : List (Nat × List UInt8)) (sv wv : Value) (wr : World) : Prop where
  sets : wr.ownsRow B 3 1 sv ys.length (setsV ys)
  words : wr.ownsRow B 9 1 wv ys.length (wordsV ys)
  bel : Below B W1 wr
theorem OrpAt.below {W1 : World} {B : Nat} {ys : List (Nat × List UInt8)} {sv wv : Value} {wr w' : World} (h : OrpAt W1 B ys sv wv wr) (hb : Below wr.heap.size wr w') (hB : B ≤ wr.heap.size) : OrpAt W1 B ys sv wv w' :=
  ⟨owns_below h.sets hb, owns_below h.words hb, h.bel.trans (hb.mono hB)⟩
def hasN (s : Nat) (l : List Nat) (j : Nat) : Bool := decide (s ∈ l.take j)
theorem hasN_succ {s x : Nat} {l : List Nat} {j : Nat} (h : l[j]? = some x) : hasN s l (j + 1) = (hasN s l j || decide (s = x)) := by
  unfold hasN
  rw [List.take_add_one, h]
  by_cases h1 : s ∈ l.take j <;> by_cases h2 : s = x <;> simp [h1, h2]
theorem hasN_all (s : Nat) (l : List Nat) : hasN s l l.length = decide (s ∈ l) := by unfold hasN; rw [List.take_length]
set_option maxHeartbeats 4000000 in
set_option maxRecDepth 100000 in
theorem spec_l12Orphan_c (k n : Nat) (o : ByteArray) (w : World) (hk : k = 2 ∨ k = 3) (hn1 : 1 ≤ n) (hn4 : n ≤ 4) (S : Nat) (hS : S = powN k (n - 1)) (hS9 : S ≤ 9) (hS1 : 1 ≤ S) (hos : o.size = S * k) :
    Calls Tryd.prog 23 #[.agg #[.int .i64 k, .int .i64 n, .string o]] w fun e w' => e = .returned (orphV o k S) ∧ Below w.heap.size w w' := by
  have hk3 : k ≤ 3 := by omega
  have HPW := hid (fun w => spec_l11Power_c k (n - 1) hk3 (by omega) w)
  rw [← hS] at HPW
  have hn1' : ((n : Int) - 1) = ((n - 1 : Nat) : Int) := by omega
  obtain ⟨n1, hn1e⟩ : ∃ m, m = n - 1 := ⟨_, rfl⟩
  rw [← hn1e] at HPW hn1'
  have hn13 : n1 ≤ 3 := by omega
  have HSTEP := hid (fun (s a : Nat) (w : World) (hs : s < 512) (ha : a < 3) => spec_l12Step_c k n o s a w hk hn1 hn4 S hS hS9 hS1 hos hs ha)
  have h512 : 2 ^ S ≤ 512 := Nat.le_trans (Nat.pow_le_pow_right (n := 2) (by omega) hS9) (show (2 : Nat) ^ 9 ≤ 512 by decide)
  obtain ⟨st, hst⟩ : ∃ st, st = fun s a => stepS o k S s a := ⟨_, rfl⟩
  obtain ⟨N, hN⟩ : ∃ N, N = 2 ^ S := ⟨_, rfl⟩
  have hN2 : 2 ≤ N := by rw [hN]; have := Nat.pow_le_pow_right (n := 2) (show 0 < 2 by omega) hS1; simpa using this
  have HSL := hid (show ∀ s a, st s a < N from fun s a => by rw [hst, hN]; exact stepS_lt (by omega))
  have HSE := hid (fun (s a : Nat) => show stepS o k S s a = st s a by rw [hst])
  have HPS := hid (pow_shift S hS1 hS9)
  rw [← hN] at HPS h512
  have HV1 := hid (fun (r : List UInt8) (h : srchAll st k (N - 1) = some r) => show orphV o k S = .tuple #[.string (wordB r), .bool true] from orphV_some (by rw [← hst, ← hN]; exact h))
  have HV0 := hid (fun (h : srchAll st k (N - 1) = none) => show orphV o k S = .tuple #[.string ⟨#[]⟩, .bool false] from orphV_none (by rw [← hst, ← hN]; exact h))
  obtain ⟨V, hV⟩ : ∃ V, V = orphV o k S := ⟨_, rfl⟩
  rw [← hV] at HV1 HV0
  rw [← hV]
  clear hV hN hst hS hn1e hos hk hn1 hn4
  go_enter Tryd.func23, Tryd.ntmps23
  go_wp2_with fail
  refine (HPW.out _).mono ?_
  rintro e w1 ⟨rfl, rfl⟩
  have hps := HPS.out
  obtain ⟨F, hF⟩ : ∃ F, F = N - 1 := ⟨_, rfl⟩
  have hFN : F < N := by omega
  have hF0 : F ≠ 0 := by omega
  have hFi : (N : Int) - 1 = (F : Int) := by omega
  rw [← hF] at HV1 HV0
  clear hF
  go_wp2
  clear hps hFi
  obtain ⟨B, hBe⟩ : ∃ B, B = w.heap.size + 1 := ⟨_, rfl⟩
  obtain ⟨W1, hW1⟩ : ∃ W1, W1 = w.alloc (.cells #[.int .i64 k, .int .i64 n, .string o] 26) := ⟨_, rfl⟩
  have hWB : W1.heap.size = B := by rw [hW1, hBe]; simp
  have HK := hid (fun (V : World) (hV : Below B W1 V) => show (V.cell? ⟨w.heap.size, 0, none⟩ = some (.int .i64 k) ∧ V.cell? ⟨w.heap.size, 1, none⟩ = some (.int .i64 n) ∧ V.cell? ⟨w.heap.size, 2, none⟩ = some (.string o)) from by
    rw [hW1] at hV
    have hlt : w.heap.size < B := by rw [hBe]; exact Nat.lt_succ_self _
    exact ⟨(hV.cell (p := ⟨w.heap.size, 0, none⟩) hlt).trans (World.cell?_alloc_at _ _ _ _ rfl), (hV.cell (p := ⟨w.heap.size, 1, none⟩) hlt).trans (World.cell?_alloc_at _ _ _ _ rfl), (hV.cell (p := ⟨w.heap.size, 2, none⟩) hlt).trans (World.cell?_alloc_at _ _ _ _ rfl)⟩)
  have HB0 := hid (fun (V : World) (hV : Below B W1 V) => show Below w.heap.size w V from by
    rw [hW1] at hV
    exact ((Below.refl _ _).alloc (Nat.le_refl _) _).trans (hV.mono (by rw [hBe]; omega)))
  have H0 := hid (show OrpAt W1 B [(F, [])] (.slice (some ⟨w.heap.size + 1, 0, none⟩) 1 1) (.slice (some ⟨w.heap.size + 1 + 1, 0, none⟩) 1 1) ((W1.alloc (.cells #[.int .i64 F] 3)).alloc (.cells #[.string ⟨#[]⟩] 9)) from by
    have e : w.heap.size + 1 = W1.heap.size := by rw [hWB, hBe]
    have hb1 : Below W1.heap.size W1 (W1.alloc (.cells #[.int .i64 F] 3)) := (Below.refl _ _).alloc (Nat.le_refl _) _
    have hb2 : Below (W1.alloc (.cells #[.int .i64 F] 3)).heap.size (W1.alloc (.cells #[.int .i64 F] 3)) ((W1.alloc (.cells #[.int .i64 F] 3)).alloc (.cells #[.string ⟨#[]⟩] 9)) := (Below.refl _ _).alloc (Nat.le_refl _) _
    have h1 := owns_lit3 (w := W1) (base := B) (e := 3) #[.int .i64 F] [.int .i64 F] rfl (by omega) (by unfold maxLen; simp)
    have h2 := owns_lit3 (w := W1.alloc (.cells #[.int .i64 F] 3)) (base := B) (e := 9) #[.string ⟨#[]⟩] [.string ⟨#[]⟩] rfl (by simp; omega) (by unfold maxLen; simp)
    rw [e]
    refine ⟨owns_below h1 hb2, ?_, hWB ▸ (bs hb1 hb2)⟩
    have e2 : (W1.alloc (.cells #[.int .i64 F] 3)).heap.size = W1.heap.size + 1 := by simp
    rw [← e2]
    exact h2)
  have HBW := hid hWB
  rw [← hW1]
  clear hW1 hWB
  go_loopw [4, 5, 6] (fun sv wv i wr => ∃ (K : Nat) (ys : List (Nat × List UInt8)), Hid (srchTo st k F K = (none, ys)) ∧ i = .int .i64 K ∧ Hid (K ≤ ys.length) ∧ Hid (OrpAt W1 B ys sv wv wr)) (fun _ _ i _ => 600 - (intOf i).toNat)
  case atStart => exact ⟨0, [(F, [])], hid rfl, rfl, hid (by simp), H0⟩
  case round =>
    obtain ⟨K, ys, HT, rfl, hK, HA⟩ := hrel
    by_cases hlt : K < ys.length
    · obtain ⟨p, hAt⟩ := At.start HT.out hlt
      have HAT := hid hAt
      have hAF := At.facts (N := N) hAt hk3 hF0 (Nat.zero_le _) hFN HSL.out
      have hK6 : K < 600 := by omega
      obtain ⟨m, hm⟩ : ∃ m, m = ys.length := ⟨_, rfl⟩
      have hAs := HA.out.sets
      rw [← hm] at hAs
      obtain ⟨gs, cs, rfl, _, _⟩ := own_form hAs (by omega)
      have hKm : (K : Int) < (m : Int) := by omega
      have HM := hid hm
      clear hAt hAF hAs hm hK
      go_wp2
      go_loopw [4, 5, 7] (fun sv wv i wr => ∃ (a : Nat) (zs : List (Nat × List UInt8)), a ≤ k ∧ i = .int .i64 a ∧ Hid (At st k F K p ys a zs) ∧ Hid (OrpAt W1 B zs sv wv wr)) (fun _ _ i _ => k - (intOf i).toNat)
      case atStart => exact ⟨0, ys, by omega, rfl, HAT, HA⟩
      case round =>
        obtain ⟨a, zs, ha, rfl, HAT, HA⟩ := hrel
        obtain ⟨hz1, hz2, hz3, hz4, hz5, hz6⟩ := At.facts (N := N) HAT.out hk3 hF0 ha hFN HSL.out
        clear HM hKm hlt
        obtain ⟨q, hq⟩ : ∃ q, q = zs.length := ⟨_, rfl⟩
        rw [← hq] at hz1 hz2 hz4
        have hAs := HA.out.sets
        have hAw := HA.out.words
        rw [← hq] at hAs hAw
        have HQ := hid hq
        obtain ⟨gs, cs, rfl, hgs1, hgs2⟩ := own_form hAs (by omega)
        obtain ⟨gw, cw, rfl, hgw1, hgw2⟩ := own_form hAw (by omega)
        by_cases hlta : a < k
        · have hai : (a : Int) < (k : Int) := by omega
          obtain ⟨h0, h1, h2⟩ := HK.out _ HA.out.bel
          have ha3 : a < 3 := by omega
          have ha3i : (a : Int) < 3 := by omega
          have habc := abc_get a ha3
          have hc1 : wr.cell? ⟨gs, K, none⟩ = some (.int .i64 p.1) := (hAs.cellAt K (by omega)).trans (setsV_get hz3)
          have hc2 : wr.cell? ⟨gw, K, none⟩ = some (.string (wordB p.2)) := (hAw.cellAt K (by omega)).trans (wordsV_get hz3)
          have hKq : (K : Int) < (q : Int) := by omega
          have hBw : B ≤ wr.heap.size := by have := HA.out.bel.size; rw [← HBW.out]; omega
          have HST := hid (fun (w : World) => HSTEP.out p.1 a w (by omega) ha3)
          rw [HSE.out] at HST
          obtain ⟨nx, hnx⟩ : ∃ nx, nx = st p.1 a := ⟨_, rfl⟩
          have hnxN : nx < N := by rw [hnx]; exact HSL.out _ _
          rw [← hnx] at HST
          obtain ⟨sK, hsK⟩ : ∃ sK, sK = p.1 := ⟨_, rfl⟩
          obtain ⟨u, hu⟩ : ∃ u, u = wordB p.2 := ⟨_, rfl⟩
          have huz : ¬ (9223372036854775807 < u.size + 1) := by rw [hu, wordB_size]; omega
          have HU := hid hu
          rw [← hsK] at HST hc1
          rw [← hu] at hc2
          have hex := abc_at ha3
          have hw1 : IntKind.i64.wrap ((a : Int) + 1) = (a : Int) + 1 := IntWalk.i64_in _ (by omega)
          have hw2 : ((a : Int) + 1).toNat = a + 1 := by omega
          have hb1 : (a : Int) ≤ (a : Int) + 1 := by omega
          have hb2 : (a : Int) + 1 ≤ 3 := by omega
          have HNX := hid hnx
          have HAW := hid hAw
          have HAS := hid hAs
          have hbel0 := (Below.refl wr.heap.size wr).drew
          clear hnx hsK hu hAs hAw hq hz3 hz4 hz5 hz6
          go_wp2
          go_region_held3 (fun V => V.cell? ⟨w.heap.size, 0, none⟩ = some (.int .i64 k) ∧ V.cell? ⟨w.heap.size, 1, none⟩ = some (.int .i64 n) ∧ V.cell? ⟨w.heap.size, 2, none⟩ = some (.string o) ∧ V.cell? ⟨gs, K, none⟩ = some (.int .i64 sK) ∧ Below wr.heap.size wr V)
            (first | exact ⟨h0, h1, h2, hc1, hbel0⟩ | exact ⟨(HK.out _ (HA.out.bel.trans (hbel2.mono hBw))).1, (HK.out _ (HA.out.bel.trans (hbel2.mono hBw))).2.1, (HK.out _ (HA.out.bel.trans (hbel2.mono hBw))).2.2, (hbel2.cell (p := ⟨gs, K, none⟩) hgs2).trans hc1, hbel2⟩)
            (first | (go_at_call 34; refine (HST.out _).mono ?_; rintro e w2 ⟨rfl, hb2⟩; have hbel2 := hbel0.trans (hb2.mono hbel0.size)))
          have hc3 := (hbel2.cell (p := ⟨gw, K, none⟩) hgw2).trans hc2
          have HA2 := hid (HA.out.below hbel2 hBw)
          have hBw2 : B ≤ w2.heap.size := Nat.le_trans hBw hbel2.size
          clear hb2 hbel0 hbel2 h0 h1 h2 hc1 hc2
          have hb2 : (a : Int) + 1 ≤ 3 := by omega
          go_wp2
          go_quiet (fail)
          have HA3 := hid (HA2.out.below (below_drewN (Below.refl _ _) nq) hBw2)
          obtain ⟨w3, hw3⟩ : ∃ w3, w3 = w2.drewN nq := ⟨_, rfl⟩
          rw [← hw3] at HA3
          rw [← hw3]
          have hBw3 : B ≤ w3.heap.size := by have := HA3.out.bel.size; rw [← HBW.out]; omega
          clear hw3 HA2 hc3
          by_cases hn0 : nx = 0
          · have hni : ((nx : Int) == 0) = true := by simp [hn0]
            have HR := hid (HV1.out _ (At.found HAT.out hlta (by omega) (by rw [← HNX.out]; exact hn0)))
            go_wp2
            go_ret2
            exact ⟨by rw [HR.out, HU.out, wordB_snoc]; rfl, HB0.out _ HA3.out.bel⟩
          · have hni : ((nx : Int) == 0) = false := by simp [hn0]
            have hAs := HA3.out.sets
            have hAw := HA3.out.words
            rw [← HQ.out] at hAs hAw
            have HAS := hid hAs
            have HAW := hid hAw
            obtain ⟨l, hl⟩ : ∃ l, l = zs.map (·.1) := ⟨_, rfl⟩
            have hll : l.length = q := by rw [hl, List.length_map, HQ.out]
            have HL := hid hl
            have HLL := hid hll
            clear hAs hAw hl hll
            go_wp2
            go_loop [11, 12] (fun f i => ∃ j : Nat, j ≤ q ∧ i = .int .i64 j ∧ f = .bool (hasN nx l j)) (fun _ i => q - (intOf i).toNat)
            case atStart => exact ⟨0, by omega, rfl, by simp [hasN]⟩
            case round =>
              obtain ⟨j, hj, rfl, rfl⟩ := hrel
              by_cases hltj : j < q
              · have hji : (j : Int) < (q : Int) := by omega
                obtain ⟨y, hy⟩ : ∃ y, zs[j]? = some y := ⟨zs[j]'(by rw [← HQ.out]; exact hltj), by simp⟩
                have hcell : w3.cell? ⟨gs, j, none⟩ = some (.int .i64 y.1) := (HAS.out.cellAt j (by omega)).trans (setsV_get hy)
                have hHS := hasN_succ (s := nx) (l := l) (j := j) (x := y.1) (by rw [HL.out, List.getElem?_map, hy]; rfl)
                obtain ⟨x, hx⟩ : ∃ x, x = y.1 := ⟨_, rfl⟩
                rw [← hx] at hcell hHS
                obtain ⟨f, hf⟩ : ∃ f, f = hasN nx l j := ⟨_, rfl⟩
                rw [← hf] at hHS
                rw [← hf]
                have HHS := hid hHS
                clear hHS hy hx hf
                cases f
                · by_cases hxn : x = nx
                  · have hxi : ((x : Int) == (nx : Int)) = true := by simp [hxn]
                    have HX := hid (show hasN nx l (j + 1) = true by rw [HHS.out, hxn]; simp)
                    clear hxn
                    go_wp2
                    go_round
                    case rel => exact ⟨j + 1, by omega, by go_num, by rw [HX.out]⟩
                    case measure => simp [intOf]; omega
                  · have hxi : ((x : Int) == (nx : Int)) = false := by simp; omega
                    have HX := hid (show hasN nx l (j + 1) = false by rw [HHS.out, decide_eq_false (fun e => hxn e.symm)]; rfl)
                    clear hxn
                    go_wp2
                    go_round
                    case rel => exact ⟨j + 1, by omega, by go_num, by rw [HX.out]⟩
                    case measure => simp [intOf]; omega
                · have HX := hid (show hasN nx l (j + 1) = true by rw [HHS.out]; rfl)
                  go_wp2
                  go_round
                  case rel => exact ⟨j + 1, by omega, by go_num, by rw [HX.out]⟩
                  case measure => simp [intOf]; omega
              · obtain rfl : j = q := by omega
                have hAll := hasN_all nx l
                rw [HLL.out] at hAll
                rw [hAll]
                clear hAll
                by_cases hmem : nx ∈ l
                · have hm := decide_eq_true hmem
                  have HN := hid (At.old HAT.out (by rw [← HNX.out]; exact hn0) (by rw [← HNX.out, ← HL.out]; exact hmem))
                  clear hmem
                  go_wp2
                  go_roundw
                  case rel => exact ⟨a + 1, zs, by omega, by go_num, HN, HA3⟩
                  case measure => simp [intOf]; omega
                · have hm := decide_eq_false hmem
                  have HN := hid (At.fresh HAT.out (by rw [← HNX.out]; exact hn0) (by rw [← HNX.out, ← HL.out]; exact hmem))
                  clear hmem
                  go_wp2_with (first | (at_builtin; refine wpList_appg rfl _ _ 46 rfl B 3 (.int .i64 0) 8 Tryd.underlying46 infoIntY rfl _ j (setsV zs) _ HAS.out rfl rfl rfl (by omega) (by unfold maxLen; omega) hBw3 ?_; intro v' w4 hown' hgr'; have hownw := HAW.out.kept hgr' (owns_ne HAW.out HAS.out (by decide)); have hb4 : Below B w3 w4 := (Below.refl _ _).grown hgr' hBw3 (fun k hk => (HAS.out.lt k hk).1); have hBw4 : B ≤ w4.heap.size := Nat.le_trans hBw3 hb4.size) | (at_builtin; refine wpList_appg rfl _ _ 47 rfl B 9 (.string ByteArray.empty) 16 Tryd.underlying47 infoStr3 rfl _ j (wordsV zs) _ hownw rfl rfl rfl (by omega) (by unfold maxLen; omega) hBw4 ?_; intro v2 w5 hown2 hgr2))
                  have hown1 := hown'.kept hgr2 (owns_ne hown' hownw (by decide))
                  have hb5 : Below B w4 w5 := (Below.refl _ _).grown hgr2 hBw4 (fun k hk => (hownw.lt k hk).1)
                  go_roundw
                  case rel => exact ⟨a + 1, _, by omega, by go_num, HN, hid ⟨by rw [setsV_snoc, ← HNX.out, List.length_append, ← HQ.out]; exact hown1, by rw [wordsV_snoc, ← wordB_snoc, ← HU.out, List.length_append, ← HQ.out]; exact hown2, (HA3.out.bel.trans hb4).trans hb5⟩⟩
                  case measure => simp [intOf]; omega
        · obtain rfl : a = k := by omega
          have HN := hid (At.next HAT.out)
          obtain ⟨h0, h1, h2⟩ := HK.out _ HA.out.bel
          go_wp2
          go_roundw
          case rel => exact ⟨K + 1, zs, HN, by go_num, hid (by rw [← HQ.out]; omega), hid (by have := HA.out; exact this)⟩
          case measure => simp [intOf]; omega
    · have hK2 := hK.out
      have hKe : ys.length = K := by omega
      have HR := hid (HV0.out (srchAll_none HT.out (by omega) (by
        have h0 := srchTo_ok (st := st) (K := k) (full := F) hk3 hF0 K
        rw [HT.out] at h0
        have := srchOk_len h0.1 hFN HSL.out
        omega)))
      have hAs := HA.out.sets
      rw [hKe] at hAs
      have hAs2 := owns_rowAt hAs (by
        have h0 := srchTo_ok (st := st) (K := k) (full := F) hk3 hF0 K
        rw [HT.out] at h0
        have := srchOk_len h0.1 hFN HSL.out
        omega)
      obtain ⟨a1, c1, rfl, _⟩ := hAs2
      clear hKe hAs hK2 hlt hK
      go_wp2
      go_ret2
      exact ⟨by rw [HR.out]; rfl, HB0.out _ HA.out.bel⟩
end Go.Proofs.YtcmmlldincflkaaDoor
