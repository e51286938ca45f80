/- The search for the shortest word without a source: the program's function. Conditions: a code. -/
import Derived.Test.YtcmmlldincflkaaDoorSetM
import Derived.Test.YtcmmlldincflkaaDoorOrpS
namespace Go.Proofs.YtcmmlldincflkaaDoor
open Go.RowKit

theorem zeroBoolV (w : World) : (zeroValue 4).run Tryd.prog w = .ok (.bool false) w := by kernel_rfl
theorem infoStepO : (Tryd.prog.info? 53).map (fun i => (i.zero, i.size, i.bytes)) = some (some (.agg #[.int .i64 0, .string ⟨#[]⟩]), 2, 24) := by kernel_rfl
theorem own_map_ne {w : World} {P : Program} {k e B s n m : Nat} {R : Value → Option (DataW Unit × List MemPlace)} {b : Nat} {D : DataW Unit} {v : Value} {xs : List Value} (h : w.ownsRow B e s v n xs) (h' : w.ownsMap P k R b m D) : v.ownBlock ≠ some b := by
  intro hv
  obtain ⟨es, clock, h1, _⟩ := h'
  rcases h.2 with ⟨rfl, _⟩ | ⟨g, cap, cur, rfl, _, hg, _⟩
  · cases hv
  · simp only [Value.ownBlock, Option.some.injEq] at hv
    subst hv
    rw [hg] at h1
    cases h1
/-- Where the search stands in the memory: the list of pairs, the map of sets seen. -/
structure OrpM (W1 : World) (B mb : Nat) (ys : List (Nat × List UInt8)) (v : Value) (wr : World) : Prop where
  list : wr.ownsRow B 53 2 v ys.length (pairsV ys)
  map : wr.ownsMap Tryd.prog 3 (plainElem Tryd.prog 4) mb ys.length (setD (ys.map (·.1)))
  bel : Below B W1 wr
theorem OrpM.below {W1 : World} {B mb : Nat} {ys : List (Nat × List UInt8)} {v : Value} {wr w' : World} (h : OrpM W1 B mb ys v wr) (hb : Below wr.heap.size wr w') (hB : B ≤ wr.heap.size) : OrpM W1 B mb ys v w' :=
  ⟨owns_below h.list hb, owns_map_below h.map hb, h.bel.trans (hb.mono hB)⟩
theorem own_formN {w : World} {base e s n : Nat} {v : Value} {xs : List Value} (h : w.ownsRow base e s v n xs) (hn : 0 < n) : ∃ g cap, v = .slice (some ⟨g, 0, none⟩) n cap ∧ base ≤ g ∧ g < w.heap.size := by
  rcases h.2 with ⟨rfl, h0⟩ | ⟨g, cap, cur, rfl, hb, hg, _⟩
  · omega
  · exact ⟨g, cap, rfl, hb, (Array.getElem?_eq_some_iff.1 hg).1⟩
set_option maxHeartbeats 4000000 in
set_option maxRecDepth 100000 in
theorem impl_orphan_c (k n : Nat) (o : ByteArray) (w : World) (hk : k = 2 ∨ k = 3) (hn1 : 1 ≤ n) (hn4 : n ≤ 4) (S : Nat) (hS : S = powN k (n - 1)) (hS9 : S ≤ 9) (hS1 : 1 ≤ S) (hos : o.size = S * k) (hlo : LW k o.data.toList) :
    Calls Tryd.prog 29 #[.agg #[.int .i64 k, .int .i64 n, .string o]] w fun e w' => e = .returned (orphV o k S) ∧ Below w.heap.size w w' := by
  have hk3 : k ≤ 3 := by omega
  have HPW := hid (fun w => impl_powB_c k (n - 1) hk3 (by omega) w)
  rw [← powN_pow, ← hS] at HPW
  have hn1' : ((n : Int) - 1) = ((n - 1 : Nat) : Int) := by omega
  obtain ⟨n1, hn1e⟩ : ∃ m, m = n - 1 := ⟨_, rfl⟩
  rw [← hn1e] at HPW hn1'
  have hn13 : n1 ≤ 3 := by omega
  have h512 : 2 ^ S ≤ 512 := Nat.le_trans (Nat.pow_le_pow_right (n := 2) (by omega) hS9) (show (2 : Nat) ^ 9 ≤ 512 by decide)
  have hk0 : 0 < k := by omega
  obtain ⟨st, hst⟩ : ∃ st, st = fun s a => stepS o k S s a := ⟨_, rfl⟩
  obtain ⟨N, hN⟩ : ∃ N, N = 2 ^ S := ⟨_, rfl⟩
  have hN2 : 2 ≤ N := by rw [hN]; have := Nat.pow_le_pow_right (n := 2) (show 0 < 2 by omega) hS1; simpa using this
  have HSL := hid (show ∀ s a, st s a < N from fun s a => by rw [hst, hN]; exact stepS_lt (by omega))
  have HSE := hid (fun (s a : Nat) => show stV o k S a s S = st s a by rw [hst]; rfl)
  have HXL := hid (fun (a s v x : Nat) => show stX o k S a s v x (stV o k S a s v) < N from by rw [hN]; exact stX_lt hS1 (stV_lt hS1 v) x)
  have HPS := hid (pow_shift S hS1 hS9)
  rw [← hN] at HPS h512
  have HV1 := hid (fun (r : List UInt8) (h : srchAll st k (N - 1) = some r) => show orphV o k S = .tuple #[.string (wordB r), .bool true] from orphV_some (by rw [← hst, ← hN]; exact h))
  have HV0 := hid (fun (h : srchAll st k (N - 1) = none) => show orphV o k S = .tuple #[.string ⟨#[]⟩, .bool false] from orphV_none (by rw [← hst, ← hN]; exact h))
  obtain ⟨V, hV⟩ : ∃ V, V = orphV o k S := ⟨_, rfl⟩
  rw [← hV] at HV1 HV0
  rw [← hV]
  have HOS := hid hos
  have hos27 : o.size ≤ 27 := by
    have : S * k ≤ 9 * 3 := Nat.mul_le_mul hS9 hk3
    omega
  have HLO := hid hlo
  have hmm := @run_makeMap Tryd.prog
  have hlaw : Maps.Keyed Tryd.prog 3 := Maps.int_keyed Tryd.underlying3
  clear hV hN hst hS hn1e hos hk hn1 hn4 hlo
  go_enter Tryd.func29, Tryd.ntmps29
  go_wp2_with fail
  refine (HPW.out _).mono ?_
  rintro e w1 ⟨rfl, rfl⟩
  have hps := HPS.out
  obtain ⟨F, hF⟩ : ∃ F, F = N - 1 := ⟨_, rfl⟩
  have hFN : F < N := by omega
  have hF0 : F ≠ 0 := by omega
  have hFi : (N : Int) - 1 = (F : Int) := by omega
  rw [← hF] at HV1 HV0
  have hkF : keyOf Tryd.prog 3 (.int .i64 (F : Int)) = some (.int .i64 (F : Int)) := Maps.keyOf_int_mk Tryd.underlying3 (wf_small F (by omega))
  clear hF
  obtain ⟨W1, hW1⟩ : ∃ W1, W1 = w.alloc (.cells #[.int .i64 k, .int .i64 n, .string o] 26) := ⟨_, rfl⟩
  obtain ⟨W2, hW2⟩ : ∃ W2, W2 = W1.alloc (.cells #[.int .i64 F, .string ⟨#[]⟩] 53) := ⟨_, rfl⟩
  have hz2 : W2.heap.size = w.heap.size + 1 + 1 := by rw [hW2, hW1]; simp
  obtain ⟨w3, hrun, hown3, hgr3⟩ := (World.ownsMap_made W2 Tryd.prog 3 (plainElem (H := Unit) Tryd.prog 4)).update hlaw Tryd.underlying55 (by unfold maxLen; omega) hkF (plainElem_bool Tryd.underlying4 true)
  rw [hz2, hW2, hW1] at hrun
  have hWB : W1.heap.size = w.heap.size + 1 := by rw [hW1]; simp
  have H0 := hid (show OrpM W1 (w.heap.size + 1) (w.heap.size + 1 + 1) [(F, [])] (.slice (some ⟨w.heap.size + 1, 0, none⟩) 1 1) w3 from by
    rw [← hz2, ← hWB]
    have h1 : W2.ownsRow W1.heap.size 53 2 (.slice (some ⟨W1.heap.size, 0, none⟩) 1 1) 1 [.int .i64 (F : Int), .string ⟨#[]⟩] := by
      rw [hW2]
      have := World.ownsRow_lit (base := W1.heap.size) (e := 53) (size := 2) W1 #[.int .i64 (F : Int), .string ⟨#[]⟩] 1 (Nat.le_refl _) (by unfold maxLen; simp) (by simp)
      simpa using this
    have hb1 : Below W2.heap.size W2 (W2.alloc (.map #[] 0)) := (Below.refl _ _).alloc (Nat.le_refl _) _
    have h2 := owns_below h1 hb1
    have hne : (Value.slice (some ⟨W1.heap.size, 0, none⟩) 1 1).ownBlock ≠ some W2.heap.size := by
      simp [Value.ownBlock, hz2, hWB]
    have h3 := h2.kept hgr3 (Or.inr hne)
    have hb0 : Below W1.heap.size W1 W2 := by rw [hW2]; exact (Below.refl _ _).alloc (Nat.le_refl _) _
    refine ⟨h3, ?_, (bs hb0 hb1).grown hgr3 (by have := (bs hb0 hb1).size; exact this) (by rintro q ⟨⟩; rw [hz2, hWB]; omega)⟩
    have e : setD ([(F, ([] : List UInt8))].map (·.1)) = (setD []).put (.int .i64 (F : Int)) (.lit (.bool true)) := setD_snoc [] F
    rw [e]
    exact hown3)
  have HK := hid (fun (V : World) (hV : Below (w.heap.size + 1) W1 V) => show (V.cell? ⟨w.heap.size, 0, none⟩ = some (.int .i64 k) ∧ V.cell? ⟨w.heap.size, 2, none⟩ = some (.string o)) from by
    rw [hW1] at hV
    have hlt : w.heap.size < w.heap.size + 1 := Nat.lt_succ_self _
    exact ⟨(hV.cell (p := ⟨w.heap.size, 0, none⟩) hlt).trans (World.cell?_alloc_at _ _ _ _ rfl), (hV.cell (p := ⟨w.heap.size, 2, none⟩) hlt).trans (World.cell?_alloc_at _ _ _ _ rfl)⟩)
  have HB0 := hid (fun (V : World) (hV : Below (w.heap.size + 1) W1 V) => show Below w.heap.size w V from by
    rw [hW1] at hV
    exact ((Below.refl _ _).alloc (Nat.le_refl _) _).trans (hV.mono (by omega)))
  have HBW := hid hWB
  go_wp2
  obtain ⟨B, hBe⟩ : ∃ B, B = w.heap.size + 1 := ⟨_, rfl⟩
  obtain ⟨mb, hmb⟩ : ∃ mb, mb = w.heap.size + 1 + 1 := ⟨_, rfl⟩
  rw [← hmb, ← hBe] at H0
  rw [← hBe] at HK HB0 HBW
  rw [← hmb]
  have hBmb : B ≤ mb := by omega
  clear hps hFi hrun hown3 hgr3 hz2 hW1 hW2 hWB hkF hmb
  have HOSx := HOS
  clear HOS
  go_loopw [5, 7] (fun v i wr => ∃ (K : Nat) (ys : List (Nat × List UInt8)), Hid (srchTo st k F K = (none, ys)) ∧ i = .int .i64 K ∧ Hid (K ≤ ys.length) ∧ Hid (OrpM W1 B mb ys v wr)) (fun _ i _ => 600 - (intOf i).toNat)
  case atStart => exact ⟨0, [(F, [])], hid rfl, rfl, hid (by simp), by rw [hBe]; rw [hBe] at H0; exact H0⟩
  case round =>
    obtain ⟨K, ys, HT, rfl, hK, HA⟩ := hrel
    by_cases hlt : K < ys.length
    · obtain ⟨p, hAt⟩ := At.start HT.out hlt
      have HAT := hid hAt
      have hAF := At.facts (N := N) hAt hk3 hF0 (Nat.zero_le _) hFN HSL.out
      have hK6 : K < 600 := by omega
      obtain ⟨m, hm⟩ : ∃ m, m = ys.length := ⟨_, rfl⟩
      have hAs := HA.out.list
      rw [← hm] at hAs
      obtain ⟨gs, cs, rfl, _, _⟩ := own_formN hAs (by omega)
      have hKm : (K : Int) < (m : Int) := by omega
      obtain ⟨h0, h2⟩ := HK.out _ HA.out.bel
      have HM := hid hm
      clear hAt hAF hAs hm hK
      go_wp2
      go_loopw [5, 37] (fun v i wr => ∃ (a : Nat) (zs : List (Nat × List UInt8)), a ≤ k ∧ i = .int .i64 a ∧ Hid (At st k F K p ys a zs) ∧ Hid (OrpM W1 B mb zs v wr)) (fun _ i _ => k - (intOf i).toNat)
      case atStart => exact ⟨0, ys, by omega, rfl, HAT, HA⟩
      case round =>
        obtain ⟨a, zs, ha, rfl, HAT, HA⟩ := hrel
        obtain ⟨hz1, hz2, hz3, hz4, hz5, hz6⟩ := At.facts (N := N) HAT.out hk3 hF0 ha hFN HSL.out
        clear HM hKm hlt h0 h2
        obtain ⟨q, hq⟩ : ∃ q, q = zs.length := ⟨_, rfl⟩
        rw [← hq] at hz1 hz2 hz4
        have hAs := HA.out.list
        rw [← hq] at hAs
        have HQ := hid hq
        obtain ⟨gs, cs, rfl, hgs1, hgs2⟩ := own_formN hAs (by omega)
        by_cases hlta : a < k
        · have hai : (a : Int) < (k : Int) := by omega
          obtain ⟨h0, h2⟩ := HK.out _ HA.out.bel
          have hc1 : wr.cell? ⟨gs, K * 2, none⟩ = some (.int .i64 p.1) := (hAs.cellAt (K * 2) (by omega)).trans (pairsV_get hz3).1
          have hc2 : wr.cell? ⟨gs, K * 2 + 1, none⟩ = some (.string (wordB p.2)) := (hAs.cellAt (K * 2 + 1) (by omega)).trans (pairsV_get hz3).2
          have hKq : (K : Int) < (q : Int) := by omega
          have hBw : B ≤ wr.heap.size := by have := HA.out.bel.size; rw [← HBW.out]; omega
          obtain ⟨s, hs⟩ : ∃ s, s = p.1 := ⟨_, rfl⟩
          have hs512 : s < 512 := by omega
          obtain ⟨u, hu⟩ : ∃ u, u = wordB p.2 := ⟨_, rfl⟩
          have huz : ¬ (9223372036854775807 < u.size + 1) := by rw [hu, wordB_size]; omega
          have HU := hid hu
          have HSP := hid hs
          rw [← hs] at hc1
          rw [← hu] at hc2
          clear hu hs hz3 hz4 hz5 hz6 hAs hq
          have ha3 : a < 3 := by omega
          go_wp2
          go_loop [9, 41] (fun t i => ∃ v : Nat, v ≤ S ∧ i = .int .i64 v ∧ t = .int .i64 (stV o k S a s v)) (fun _ i => S - (intOf i).toNat)
          case atStart => exact ⟨0, by omega, rfl, rfl⟩
          case round =>
            obtain ⟨v, hv, rfl, rfl⟩ := hrel
            by_cases hltv : v < S
            · have hvi : (v : Int) < (S : Int) := by omega
              have hb9 := bit_and9 v (by omega) s hs512
              go_wp2
              go_loop [9, 46] (fun t i => ∃ x : Nat, x ≤ k ∧ i = .int .i64 x ∧ t = .int .i64 (stX o k S a s v x (stV o k S a s v))) (fun _ i => k - (intOf i).toNat)
              case atStart => exact ⟨0, by omega, rfl, rfl⟩
              case round =>
                obtain ⟨x, hx, rfl, rfl⟩ := hrel
                by_cases hltx : x < k
                · have hxi : (x : Int) < (k : Int) := by omega
                  rcases bit_two s v with h00 | h01
                  · rw [h00] at hb9
                    have HEND := hid (show stX o k S a s v (x + 1) (stV o k S a s v) = stX o k S a s v x (stV o k S a s v) by rw [stX_off h00, stX_off h00])
                    clear h00
                    go_wp2
                    go_round
                    case rel => exact ⟨x + 1, by omega, by go_num, by rw [HEND.out]⟩
                    case measure => simp [intOf]; omega
                  · rw [h01] at hb9
                    have HSU := hid (stX_succ (o := o) (L := k) (n := S) (a := a) (acc := stV o k S a s v) (x := x) h01)
                    clear h01
                    have HQL := hid (Nat.lt_of_lt_of_le (HXL.out a s v x) h512)
                    obtain ⟨r, hr⟩ : ∃ r, r = stX o k S a s v x (stV o k S a s v) := ⟨_, rfl⟩
                    rw [← hr] at HSU HQL
                    rw [← hr]
                    obtain ⟨U, hU⟩ : ∃ U, U = v * k := ⟨_, rfl⟩
                    have hAb := idx_bnd HOSx.out hltv hltx
                    rw [← hU] at hAb HSU
                    have hUi : (v : Int) * (k : Int) = (U : Int) := by rw [hU]; simp
                    obtain ⟨A, hA⟩ : ∃ A, A = U + x := ⟨_, rfl⟩
                    rw [← hA] at hAb HSU
                    have hAi : (U : Int) + (x : Int) = (A : Int) := by omega
                    have hAo' : (A : Int) < (o.size : Int) := by omega
                    have hA0' : (0 : Int) ≤ (A : Int) := by omega
                    obtain ⟨y, hy, hoy⟩ : ∃ y, y < k ∧ o[A].toNat = 97 + y := by
                      obtain ⟨y, hy, e⟩ := HLO.out _ (List.mem_of_getElem? (byte_at o A hAb))
                      have := letB_nat (show y < 100 by omega)
                      exact ⟨y, hy, by rw [e]; omega⟩
                    have HGE := hid (show giveB o A = letB a ↔ y = a by
                      rw [giveB_at hAb]
                      constructor
                      · intro e; have := letB_nat (show a < 100 by omega); rw [e] at hoy; omega
                      · intro e; exact letB_backS (by omega))
                    obtain ⟨R, hR⟩ : ∃ R, R = A % S := ⟨_, rfl⟩
                    have hr1 : Int.tmod (A : Int) (S : Int) = (R : Int) := by rw [hR]; exact Int.ofNat_tmod A S
                    have hRlt : R < S := by rw [hR]; exact Nat.mod_lt _ (by omega)
                    rw [← hR] at HSU
                    have hm0 : ¬ ((S : Int) = 0) := by omega
                    have hm1 : ¬ (S = 0) := by omega
                    have hm2 : ((S : Int) == 0) = false := by simpa using hm1
                    have hwU : IntKind.i64.wrap (U : Int) = (U : Int) := IntWalk.i64_in _ (by omega)
                    have hwA : IntKind.i64.wrap (A : Int) = (A : Int) := IntWalk.i64_in _ (by omega)
                    have hwR : IntKind.i64.wrap (R : Int) = (R : Int) := IntWalk.i64_in _ (by omega)
                    have hor := bit_or9 R (by omega) r HQL.out
                    have hsub : ((o[A].toNat : Int) - 97) % 256 = (y : Int) := by rw [hoy]; omega
                    clear hU hA hR hr
                    by_cases hge : y = a
                    · have hge' : ((y : Int) == (a : Int)) = true := by simp [hge]
                      have HS2 := hid (HSU.out.trans (if_pos (HGE.out.2 hge)))
                      clear HSU HGE
                      go_wp2
                      go_round
                      case rel => exact ⟨x + 1, by omega, by go_num, by rw [HS2.out]⟩
                      case measure => simp [intOf]; omega
                    · have hge' : ((y : Int) == (a : Int)) = false := by simp; omega
                      have HS2 := hid (HSU.out.trans (if_neg fun h => hge (HGE.out.1 h)))
                      clear HSU HGE
                      go_wp2
                      go_round
                      case rel => exact ⟨x + 1, by omega, by go_num, by rw [HS2.out]⟩
                      case measure => simp [intOf]; omega
                · obtain rfl : x = k := by omega
                  go_wp2
                  go_round
                  case rel => exact ⟨v + 1, by omega, by go_num, rfl⟩
                  case measure => simp [intOf]; omega
            · obtain rfl : v = S := by omega
              have hSE := HSE.out s a
              have HNX := hid (show st p.1 a = st s a by rw [HSP.out])
              obtain ⟨nx, hnx⟩ : ∃ nx, nx = stV o k v a s v := ⟨_, rfl⟩
              rw [← hnx] at hSE
              rw [← hnx]
              have hnxN : nx < N := by rw [hSE]; exact HSL.out _ _
              have HSE2 := hid hSE
              clear hnx hSE
              have hmod : (97 + (a : Int)) % 256 = 97 + (a : Int) := by omega
              have hconv : (convert 41 9 (.slice (some ⟨wr.heap.size, 0, none⟩) 1 1)).run Tryd.prog (wr.alloc (.cells #[.int .u8 (97 + (a : Int))] 5)).drew = .ok (.string ⟨#[letB a]⟩) (wr.alloc (.cells #[.int .u8 (97 + (a : Int))] 5)).drew :=
                run_conv_row 41 9 5 Tryd.underlying41 Tryd.underlying5 Tryd.underlying9 _ 1 1 [letB a] ((rowAt_byte1 _ _ _ _ (letB_nat (by omega))).below (Below.refl _ _).drew (Nat.le_refl _))
              have hc2d : (wr.drew).cell? ⟨gs, K * 2 + 1, none⟩ = some (.string u) := hc2
              go_upto_region 21 with fail
              go_cut [12] from 86 to 96 (fun x wx => x = .string (u ++ ⟨#[letB a]⟩) ∧ Hid (Below wr.heap.size wr wx))
              case first =>
                clear HK HB0 HA HAT HU HSP HNX HSE2 HSL HSE HXL HPW HV1 HV0 HQ HT
                go_region
                all_goals
                  go_wp2
                  go_meet
                  case rel => exact ⟨rfl, hid (((Below.refl wr.heap.size wr).alloc (Nat.le_refl _) _).drew)⟩
              case rest =>
                obtain ⟨rfl, hcut⟩ := hcut
                obtain ⟨w3, rfl⟩ : ∃ w3, w3 = wc := ⟨_, rfl⟩
                have HA3 := hid (HA.out.below hcut.out hBw)
                have hBw3 : B ≤ w3.heap.size := Nat.le_trans hBw hcut.out.size
                clear hcut hconv hc2d hc1 hc2 h0 h2 HA
                by_cases hn0 : nx = 0
                · have hni : ((nx : Int) == 0) = true := by simp [hn0]
                  have HR := hid (HV1.out _ (At.found HAT.out hlta (by omega) (by rw [HNX.out, ← HSE2.out]; exact hn0)))
                  have hB := hid (HB0.out _ HA3.out.bel)
                  go_wp2
                  go_ret2
                  exact ⟨by rw [HR.out, HU.out, wordB_snoc]; rfl, hB.out⟩
                · have hni : ((nx : Int) == 0) = false := by simp [hn0]
                  obtain ⟨l, hl⟩ : ∃ l, l = zs.map (·.1) := ⟨_, rfl⟩
                  have hlk := look_set hlaw Tryd.underlying3 Tryd.underlying55 Tryd.underlying4 (zeroBoolV w3) HA3.out.map (s := nx) (by omega)
                  rw [← hl] at hlk
                  have HL := hid hl
                  clear hl
                  by_cases hmem : nx ∈ l
                  · rw [decide_eq_true hmem] at hlk
                    have HN := hid (At.old HAT.out (by rw [HNX.out, ← HSE2.out]; exact hn0) (by rw [HNX.out, ← HSE2.out, ← HL.out]; exact hmem))
                    clear hmem
                    go_wp2
                    go_roundw
                    case rel => exact ⟨a + 1, zs, by omega, by go_num, HN, HA3⟩
                    case measure => simp [intOf]; omega
                  · rw [decide_eq_false hmem] at hlk
                    have HN := hid (At.fresh HAT.out (by rw [HNX.out, ← HSE2.out]; exact hn0) (by rw [HNX.out, ← HSE2.out, ← HL.out]; exact hmem))
                    clear hmem
                    have hm3 := HA3.out.map
                    obtain ⟨w4, hrun, hown4, hgr4⟩ := hm3.update hlaw Tryd.underlying55 (by rw [← HQ.out]; unfold maxLen; omega) (Maps.keyOf_int_mk Tryd.underlying3 (wf_small nx (by omega))) (plainElem_bool Tryd.underlying4 true)
                    have hl3 := HA3.out.list
                    have hl4 := hl3.kept hgr4 (Or.inr (own_map_ne hl3 hm3))
                    have hb4 : Below B w3 w4 := (Below.refl _ _).grown hgr4 hBw3 (by rintro z ⟨⟩; exact hBmb)
                    have hBw4 : B ≤ w4.heap.size := Nat.le_trans hBw3 hb4.size
                    rw [← HQ.out] at hl4
                    have HOL := hid hl4
                    have HOM := hid hown4
                    have HB4 := hid hb4
                    have HU2 := hid (show u ++ ⟨#[letB a]⟩ = wordB (p.2 ++ [letB a]) by rw [HU.out, wordB_snoc])
                    have HNX2 := hid (show ((nx : Nat) : Int) = ((st p.1 a : Nat) : Int) by rw [HNX.out, ← HSE2.out])
                    clear hm3 hl3 hl4 hown4 hb4 hgr4
                    go_wp2_with (first | (at_builtin; refine wpList_app2P rfl _ _ 54 rfl B 53 24 Tryd.underlying54 infoStepO _ q zs (st p.1 a, p.2 ++ [letB a]) _ _ (by rw [HNX2.out]) (by rw [HU2.out]) HOL.out rfl rfl (by omega) (by unfold maxLen; omega) hBw4 ?_; intro v2 w5 hown5 hgr5))
                    have hmn : some mb ≠ (Value.slice (some ⟨gs, 0, none⟩) q cs).ownBlock := fun e => own_map_ne HOL.out HOM.out e.symm
                    have hmap5 := grown_map HOM.out hgr5 hmn
                    have hb5 : Below B w4 w5 := (Below.refl _ _).grown hgr5 hBw4 (fun z hz => (HOL.out.lt z hz).1)
                    go_roundw
                    case rel => exact ⟨a + 1, _, by omega, by go_num, HN, hid ⟨by rw [List.length_append, ← HQ.out]; exact hown5, by
                      rw [List.map_append, List.length_append]
                      show w5.ownsMap _ _ _ mb (zs.length + 1) (setD (zs.map (·.1) ++ [st p.1 a]))
                      rw [setD_snoc, ← HNX2.out]
                      exact hmap5, (HA3.out.bel.trans HB4.out).trans hb5⟩⟩
                    case measure => simp [intOf]; omega
        · obtain rfl : a = k := by omega
          have HN := hid (At.next HAT.out)
          obtain ⟨h0, h2⟩ := HK.out _ HA.out.bel
          go_wp2
          go_roundw
          case rel => exact ⟨K + 1, zs, HN, by go_num, hid (by rw [← HQ.out]; omega), HA⟩
          case measure => simp [intOf]; omega
    · have hK2 := hK.out
      have hKe : ys.length = K := by omega
      have hl6 : ys.length ≤ 512 := by
        have h0 := srchTo_ok (st := st) (K := k) (full := F) hk3 hF0 K
        rw [HT.out] at h0
        have := srchOk_len h0.1 hFN HSL.out
        omega
      have HR := hid (HV0.out (srchAll_none HT.out (by omega) (by omega)))
      have hAs := HA.out.list
      rw [hKe] at hAs
      have hform : ∃ a1 c1, u5 = .slice a1 K c1 := by
        rcases hAs.2 with ⟨h1, h2⟩ | ⟨g, cap, cur, h1, _⟩
        · exact ⟨none, 0, by rw [h2]; exact h1⟩
        · exact ⟨_, _, h1⟩
      obtain ⟨a1, c1, rfl⟩ := hform
      have hB := hid (HB0.out _ HA.out.bel)
      clear hKe hAs hK2 hlt hK HA hl6
      go_wp2
      go_ret2
      exact ⟨by rw [HR.out]; rfl, hB.out⟩
end Go.Proofs.YtcmmlldincflkaaDoor
