/- One to one: the program's function. Conditions: sizes within the reach. -/
import Derived.Test.YtcmmlldincflkaaDoorLively
import Derived.Test.YtcmmlldincflkaaDoorOneS
import Derived.Test.YtcmmlldincflkaaDoorRulesL
namespace Go.Proofs.YtcmmlldincflkaaDoor
open Go.RowKit

set_option maxHeartbeats 4000000 in
set_option maxRecDepth 100000 in
theorem impl_IsOneToOne_no (k n : Int) (o : ByteArray) (w : World) (ho : o.size ≤ maxLen) (h : isCode k n o = false) :
    Calls Tryd.prog 17 #[.agg #[.int .i64 k, .int .i64 n, .string o]] w fun e w' => e = .returned (.bool false) ∧ Below w.heap.size w w' := by
  have HI := hid (fun w : World => impl_IsCode_c k n o w ho)
  rw [h] at HI
  clear h
  go_enter Tryd.func17, Tryd.ntmps17
  go_wp2_with fail
  refine (HI.out _).mono ?_
  rintro e w1 ⟨rfl, hb⟩
  have hb2 : Below w.heap.size w w1 := ((Below.refl _ _).alloc (Nat.le_refl _) _).trans (hb.mono (by simp))
  clear hb HI
  go_wp2
  go_ret
  exact ⟨rfl, hb2⟩
set_option maxHeartbeats 8000000 in
set_option maxRecDepth 100000 in
theorem impl_IsOneToOne_yes (k n : Nat) (o : ByteArray) (w : World) (ho : o.size ≤ maxLen) (h : isCode k n o = true) :
    Calls Tryd.prog 17 #[.agg #[.int .i64 k, .int .i64 n, .string o]] w (OnePost (OneP o k n) w) := by
  obtain ⟨kk, nn, hkk, hnn, hk, ⟨hn1, hn4⟩, hp, hos, hl⟩ := code_facts h
  obtain rfl : kk = k := by omega
  obtain rfl : nn = n := by omega
  have HI := hid (fun w : World => impl_IsCode_c kk nn o w ho)
  rw [h] at HI
  obtain ⟨hS1, hS9, hSk⟩ := powN_facts hk hn1 hn4 hp
  have hk3 : kk ≤ 3 := by omega
  have hk2 : 2 ≤ kk := by omega
  have HP1 := hid (show OneP o kk nn ↔ OneP o kk nn from Iff.rfl)
  have HOS := hid hos
  have hos27 : o.size ≤ 27 := by omega
  unfold OnePost
  by_cases h1 : nn = 1
  · subst h1
    have HP := hid (show OneP o kk 1 ↔ ∀ x y, y < x → x < o.size → giveB o x ≠ giveB o y by unfold OneP; rw [if_pos rfl])
    clear h hos hl hkk hnn HP1 hSk hp hS1 hS9
    go_enter Tryd.func17, Tryd.ntmps17
    go_wp2_with fail
    refine (HI.out _).mono ?_
    rintro e w1 ⟨rfl, hb⟩
    obtain ⟨⟨s0, s1, s2⟩, _, hz⟩ := box3 hb
    have hb2 : Below w.heap.size w w1 := ((Below.refl _ _).alloc (Nat.le_refl _) _).trans (hb.mono (by simp))
    have HC := hid s2
    have HB := hid hb2
    clear hb hb2 HI
    go_wp2
    go_loopw [26] (fun i wr => ∃ x : Nat, x ≤ o.size ∧ i = .int .i64 x ∧ Hid (∀ a b, b < a → a < x → giveB o a ≠ giveB o b) ∧ Hid (Below w1.heap.size w1 wr)) (fun i _ => o.size - (intOf i).toNat)
    case atStart => exact ⟨0, by omega, rfl, hid (fun a b _ h => by omega), hid (Below.refl _ _)⟩
    case round =>
      obtain ⟨x, hx, rfl, HD, HBW⟩ := hrel
      have s2 := (HBW.out.cell (p := ⟨w.heap.size, 2, none⟩) hz).trans HC.out
      by_cases hlt : x < o.size
      · have hxi : (x : Int) < (o.size : Int) := by omega
        go_wp2
        go_loopw [30] (fun i wr => ∃ y : Nat, y ≤ x ∧ i = .int .i64 y ∧ Hid (∀ b, b < y → giveB o x ≠ giveB o b) ∧ Hid (Below w1.heap.size w1 wr)) (fun i _ => x - (intOf i).toNat)
        case atStart => exact ⟨0, by omega, rfl, hid (fun b h => by omega), HBW⟩
        case round =>
          obtain ⟨y, hy, rfl, HD2, HBW⟩ := hrel
          have s2 := (HBW.out.cell (p := ⟨w.heap.size, 2, none⟩) hz).trans HC.out
          by_cases hlty : y < x
          · have hyi : (y : Int) < (x : Int) := by omega
            have hyo : y < o.size := by omega
            have hyo' : (y : Int) < (o.size : Int) := by omega
            have HGE := hid (show giveB o x = giveB o y ↔ o[x].toNat = o[y].toNat by rw [giveB_at hlt, giveB_at hyo]; exact UInt8.toNat_inj.symm)
            by_cases hge : o[x].toNat = o[y].toNat
            · have hge' : ((o[x].toNat : Int) == (o[y].toNat : Int)) = true := by simp [hge]
              have HE := hid (HGE.out.2 hge)
              clear HGE
              go_wp2
              go_quiet (fail)
              go_wp2
              go_ret
              exact ⟨false, rfl, by simp only [Bool.false_eq_true, false_iff]; exact fun hp => (HP.out.1 hp) x y hlty hlt HE.out, below_drewN (HB.out.trans (HBW.out.mono HB.out.size)) _⟩
            · have hge' : ((o[x].toNat : Int) == (o[y].toNat : Int)) = false := by simp; omega
              have HE := hid (fun h => hge (HGE.out.1 h))
              clear HGE
              go_wp2
              go_quiet (fail)
              go_wp2
              go_roundw
              case rel => exact ⟨y + 1, by omega, by go_num, hid (fun b hb => by
                by_cases hby : b = y
                · rw [hby]; exact HE.out
                · exact HD2.out b (by omega)), hid (below_drewN HBW.out _)⟩
              case measure => simp [intOf]; omega
          · obtain rfl : y = x := by omega
            go_wp2
            go_roundw
            case rel => exact ⟨y + 1, by omega, by go_num, hid (fun a b hb ha => by
              by_cases hay : a = y
              · rw [hay]; exact HD2.out b (by omega)
              · exact HD.out a b hb (by omega)), HBW⟩
            case measure => simp [intOf]; omega
      · obtain rfl : x = o.size := by omega
        go_wp2
        go_ret
        exact ⟨true, rfl, by simp only [true_iff]; exact HP.out.2 HD.out, HB.out.trans (HBW.out.mono HB.out.size)⟩
  · obtain ⟨S, hS⟩ : ∃ S, S = powN kk (nn - 1) := ⟨_, rfl⟩
    have HP := hid (show OneP o kk nn ↔ ∀ p, p < S * S → LiveG (stepRows o kk S (S * S)) (S * S) p → p / S = p % S by unfold OneP; rw [if_neg h1, ← hS])
    rw [← hS] at hS1 hS9 hSk
    have HPW := hid (fun w => impl_powB_c kk (nn - 1) hk3 (by omega) w)
    rw [← powN_pow, ← hS] at HPW
    have hSS : S * S ≤ 81 := Nat.mul_le_mul hS9 hS9
    have hSS1 : 1 ≤ S * S := Nat.mul_le_mul hS1 hS1
    have HLV := hid (fun (a : Option Addr) (c : Nat) (w : World) (hT : TabAt w a (S * S) (stepRows o kk S (S * S))) => impl_lively_c (S * S) (stepRows o kk S (S * S)) a c w hT (stepRows_bd hS1) (by omega))
    unfold LivePost at HLV
    have hn1' : ((nn : Int) - 1) = ((nn - 1 : Nat) : Int) := by omega
    obtain ⟨n1, hn1e⟩ : ∃ m, m = nn - 1 := ⟨_, rfl⟩
    rw [← hn1e] at HPW hn1'
    have hn13 : n1 ≤ 3 := by omega
    have hne1 : ((nn : Int) == 1) = false := by simp; omega
    obtain ⟨M, hM⟩ : ∃ M, M = S * S := ⟨_, rfl⟩
    have HM := hid hM
    have hMi : (S : Int) * (S : Int) = (M : Int) := by rw [hM]; simp
    have hrw : ∀ r ∈ stepRows o kk S (S * S), r.length ≤ 140737488351232 := fun r hr => by
      unfold stepRows at hr
      obtain ⟨p, _, rfl⟩ := List.mem_map.1 hr
      have h1 := stepOut_len o kk S (p / S) (p % S) kk
      have h2 : kk * kk ≤ 3 * 3 := Nat.mul_le_mul hk3 hk3
      show (stepOut o kk S (p / S) (p % S) kk).length ≤ _
      omega
    rw [← hM] at HLV HP hSS hSS1 hrw
    have HRW := hid hrw
    have HOSk := hid (show o.size = S * kk by rw [HOS.out, hSk])
    clear h hos hl hkk hnn HP1 hSk hp hn1e hS hM h1 hrw hk HOS
    go_enter Tryd.func17, Tryd.ntmps17
    go_wp2_with fail
    refine (HI.out _).mono ?_
    rintro e w1 ⟨rfl, hb⟩
    obtain ⟨⟨s0, s1, s2⟩, _, hz⟩ := box3 hb
    have hb2 : Below w.heap.size w w1 := ((Below.refl _ _).alloc (Nat.le_refl _) _).trans (hb.mono (by simp))
    have HB := hid hb2
    have HBX := hid (fun (V : World) (hV : Below w1.heap.size w1 V) => (⟨(hV.cell (p := ⟨w.heap.size, 0, none⟩) hz).trans s0, (hV.cell (p := ⟨w.heap.size, 2, none⟩) hz).trans s2⟩ : V.cell? ⟨w.heap.size, 0, none⟩ = some (.int .i64 kk) ∧ V.cell? ⟨w.heap.size, 2, none⟩ = some (.string o)))
    clear hb hb2 HI
    go_wp2_with fail
    refine (HPW.out _).mono ?_
    rintro e w2 ⟨rfl, rfl⟩
    have HO0 := hid (own_nilM w1 46 (Nat.le_refl w1.heap.size))
    have HB0 := hid ((Below.refl w1.heap.size w1).alloc (Nat.le_refl _) (.cells #[] 46))
    clear s0 s1 s2
    go_wp2
    go_loopw [6, 54] (fun v i wr => ∃ (p : Nat) (vs : List Value), p ≤ M ∧ i = .int .i64 p ∧ Hid (wr.ownsRow w1.heap.size 46 1 v p vs) ∧ Hid (TRows 3 wr w1.heap.size vs (stepRows o kk S p)) ∧ Hid (Below w1.heap.size w1 wr)) (fun _ i _ => M - (intOf i).toNat)
    case atStart => exact ⟨0, [], by omega, rfl, HO0, hid (TRows.nil _ _ _), HB0⟩
    case round =>
      obtain ⟨p, vs, hp, rfl, HOW, HT, HBW⟩ := hrel
      by_cases hltp : p < M
      · have hpi : (p : Int) < (M : Int) := by omega
        obtain ⟨u, hu⟩ : ∃ u, u = p / S := ⟨_, rfl⟩
        obtain ⟨y, hy⟩ : ∃ y, y = p % S := ⟨_, rfl⟩
        have hd1 : Int.tdiv (p : Int) (S : Int) = (u : Int) := by rw [hu]; exact Int.ofNat_tdiv p S
        have hd2 : Int.tmod (p : Int) (S : Int) = (y : Int) := by rw [hy]; exact Int.ofNat_tmod p S
        have hult : u < S := by rw [hu]; exact Nat.div_lt_of_lt_mul (by rw [← HM.out]; exact hltp)
        have hylt : y < S := by rw [hy]; exact Nat.mod_lt _ (by omega)
        have HRR := hid (show stepRows o kk S (p + 1) = stepRows o kk S p ++ [stepOut o kk S u y kk] by rw [stepRows_succ, stepRow, hu, hy])
        have hm0 : ¬ ((S : Int) = 0) := by omega
        have hm1 : ¬ (S = 0) := by omega
        have hm2 : ((S : Int) == 0) = false := by simpa using hm1
        have hwu : IntKind.i64.wrap (u : Int) = (u : Int) := IntWalk.i64_in _ (by omega)
        have hwy : IntKind.i64.wrap (y : Int) = (y : Int) := IntWalk.i64_in _ (by omega)
        clear hu hy
        go_wp2
        go_quiet (fail)
        obtain ⟨wo, hwo⟩ : ∃ wo, wo = wr.drewN nq := ⟨_, rfl⟩
        rw [← hwo]
        have hbo : Below wr.heap.size wr wo := by rw [hwo]; exact below_drewN (Below.refl _ _) _
        have hWw : w1.heap.size ≤ wr.heap.size := HBW.out.size
        have HOW2 := hid (owns_below HOW.out hbo)
        have HT2 := hid (HT.out.below hbo)
        have HBW2 := hid (HBW.out.trans (hbo.mono hWw))
        have hWr : w1.heap.size ≤ wo.heap.size := HBW2.out.size
        clear hwo hbo HOW HT HBW hd1 hd2
        have hbr1 := hid ((Below.refl wo.heap.size wo).alloc (Nat.le_refl _) (.cells #[] 3))
        have hR0 := hid (own_nilM wo 3 (Nat.le_refl wo.heap.size))
        obtain ⟨t0, t2⟩ := HBX.out _ (HBW2.out.trans (hbr1.out.mono hWr))
        go_wp2
        go_loopw [10, 66] (fun v i wr => ∃ (x c g cg : Nat) (ys : List Int), x ≤ kk ∧ i = .int .i64 x ∧ v = .slice (some ⟨g, 0, none⟩) c cg ∧ Hid (ys = stepOut o kk S u y x) ∧ Hid (c = ys.length) ∧ Hid (wr.ownsRow wo.heap.size 3 1 (.slice (some ⟨g, 0, none⟩) c cg) c (intVals ys)) ∧ Hid (Below wo.heap.size wo wr)) (fun _ i _ => kk - (intOf i).toNat)
        case atStart => exact ⟨0, 0, wo.heap.size, 0, [], by omega, rfl, rfl, hid rfl, hid rfl, hR0, hbr1⟩
        case round =>
          obtain ⟨x, c, g, cg, ys, hx, rfl, rfl, HY, HC, HRW2, HBQ⟩ := hrel
          obtain ⟨s0, s2⟩ := HBX.out _ (HBW2.out.trans (HBQ.out.mono hWr))
          clear t0 t2
          by_cases hltx : x < kk
          · have hi3 : (x : Int) < (kk : Int) := by omega
            go_wp2
            go_loopw [10, 71] (fun v i wr => ∃ (z c g cg : Nat) (ys : List Int), z ≤ kk ∧ i = .int .i64 z ∧ v = .slice (some ⟨g, 0, none⟩) c cg ∧ Hid (ys = stepOut o kk S u y x ++ stepIn o kk S u y x z) ∧ Hid (c = ys.length) ∧ Hid (wr.ownsRow wo.heap.size 3 1 (.slice (some ⟨g, 0, none⟩) c cg) c (intVals ys)) ∧ Hid (Below wo.heap.size wo wr)) (fun _ i _ => kk - (intOf i).toNat)
            case atStart => exact ⟨0, c, g, cg, ys, by omega, rfl, rfl, hid (by rw [HY.out]; simp [stepIn]), HC, HRW2, HBQ⟩
            case round =>
              obtain ⟨z, c, g, cg, ys, hz2, rfl, rfl, HY, HC, HRW2, HBQ⟩ := hrel
              obtain ⟨s0, s2⟩ := HBX.out _ (HBW2.out.trans (HBQ.out.mono hWr))
              by_cases hltz : z < kk
              · have hi4 : (z : Int) < (kk : Int) := by omega
                have hwrq : wo.heap.size ≤ wr.heap.size := HBQ.out.size
                have hc9 : c ≤ 20 := by
                  have h1 := stepOut_len o kk S u y x
                  have h2 := stepIn_len o kk S u y x z
                  have h3 : x * kk ≤ 2 * 3 := Nat.mul_le_mul (by omega) hk3
                  rw [HC.out, HY.out, List.length_append]; omega
                obtain ⟨U, hU⟩ : ∃ U, U = u * kk := ⟨_, rfl⟩
                obtain ⟨V, hV⟩ : ∃ V, V = y * kk := ⟨_, rfl⟩
                have hAb := idx_bound HOSk.out hult hltx
                have hBb := idx_bound HOSk.out hylt hltz
                have HE := hid (show stepE kk S u y x z = (u * kk + x) % S * S + (y * kk + z) % S from rfl)
                have HEB := hid (stepE_lt (k := kk) (u := u) (v := y) (x := x) (y := z) (S := S) (by omega))
                rw [← HM.out] at HEB
                have HIN := hid (show stepIn o kk S u y x (z + 1) = stepIn o kk S u y x z ++ (if giveB o (u * kk + x) = giveB o (y * kk + z) then [(stepE kk S u y x z : Int)] else []) from rfl)
                rw [← hU] at hAb HE HIN
                rw [← hV] at hBb HE HIN
                have hUi : (u : Int) * (kk : Int) = (U : Int) := by rw [hU]; simp
                have hVi : (y : Int) * (kk : Int) = (V : Int) := by rw [hV]; simp
                obtain ⟨A, hA⟩ : ∃ A, A = U + x := ⟨_, rfl⟩
                obtain ⟨B, hB⟩ : ∃ B, B = V + z := ⟨_, rfl⟩
                rw [← hA] at hAb HE HIN
                rw [← hB] at hBb HE HIN
                have hAi : (U : Int) + (x : Int) = (A : Int) := by omega
                have hBi : (V : Int) + (z : Int) = (B : Int) := by omega
                have hAo' : (A : Int) < (o.size : Int) := by omega
                have hBo' : (B : Int) < (o.size : Int) := by omega
                have hA0' : (0 : Int) ≤ (A : Int) := by omega
                have hB0' : (0 : Int) ≤ (B : Int) := by omega
                have HGE := hid (show giveB o A = giveB o B ↔ o[A].toNat = o[B].toNat by rw [giveB_at hAb, giveB_at hBb]; exact UInt8.toNat_inj.symm)
                obtain ⟨E, hE⟩ : ∃ E, E = stepE kk S u y x z := ⟨_, rfl⟩
                rw [← hE] at HE HEB HIN
                obtain ⟨R1, hR1⟩ : ∃ R1, R1 = A % S := ⟨_, rfl⟩
                obtain ⟨R2, hR2⟩ : ∃ R2, R2 = B % S := ⟨_, rfl⟩
                have hr1 : Int.tmod (A : Int) (S : Int) = (R1 : Int) := by rw [hR1]; exact Int.ofNat_tmod A S
                have hr2 : Int.tmod (B : Int) (S : Int) = (R2 : Int) := by rw [hR2]; exact Int.ofNat_tmod B S
                rw [← hR1, ← hR2] at HE
                obtain ⟨Q, hQ⟩ : ∃ Q, Q = R1 * S := ⟨_, rfl⟩
                have hQi : (R1 : Int) * (S : Int) = (Q : Int) := by rw [hQ]; simp
                rw [← hQ] at HE
                have hEi : (Q : Int) + (R2 : Int) = (E : Int) := by have := HE.out; omega
                have hE81 : E < 81 := by have := HEB.out; omega
                have hwU : IntKind.i64.wrap (U : Int) = (U : Int) := IntWalk.i64_in _ (by omega)
                have hwV : IntKind.i64.wrap (V : Int) = (V : Int) := IntWalk.i64_in _ (by omega)
                have hwA : IntKind.i64.wrap (A : Int) = (A : Int) := IntWalk.i64_in _ (by omega)
                have hwB : IntKind.i64.wrap (B : Int) = (B : Int) := IntWalk.i64_in _ (by omega)
                have hwQ : IntKind.i64.wrap (Q : Int) = (Q : Int) := IntWalk.i64_in _ (by omega)
                have hwE : IntKind.i64.wrap (E : Int) = (E : Int) := IntWalk.i64_in _ (by omega)
                have hR1lt : R1 < S := by rw [hR1]; exact Nat.mod_lt _ (by omega)
                have hwR1 : IntKind.i64.wrap (R1 : Int) = (R1 : Int) := IntWalk.i64_in _ (by omega)
                have hwR2 : IntKind.i64.wrap (R2 : Int) = (R2 : Int) := IntWalk.i64_in _ (by omega)
                clear hU hV hA hB hE hR1 hR2 hQ
                go_wp2
                go_quiet (fail)
                obtain ⟨w4, hw4⟩ : ∃ w4, w4 = wr.drewN nq := ⟨_, rfl⟩
                rw [← hw4]
                have hb4 : Below wr.heap.size wr w4 := by rw [hw4]; exact below_drewN (Below.refl _ _) _
                have HRW4 := hid (owns_below HRW2.out hb4)
                have HBQ4 := hid (HBQ.out.trans (hb4.mono hwrq))
                have hwr4 : wo.heap.size ≤ w4.heap.size := HBQ4.out.size
                clear hw4 hb4 s0 s2
                obtain ⟨s0, s2⟩ := HBX.out _ (HBW2.out.trans (HBQ4.out.mono hWr))
                by_cases hge : o[A].toNat = o[B].toNat
                · have hge' : ((o[A].toNat : Int) == (o[B].toNat : Int)) = true := by simp [hge]
                  have HI2 := HIN.out
                  rw [if_pos (HGE.out.2 hge)] at HI2
                  have HIN2 := hid HI2
                  clear HI2 HIN HGE
                  go_wp2
                  go_quiet (fail)
                  obtain ⟨w5, hw5⟩ : ∃ w5, w5 = w4.drewN nq := ⟨_, rfl⟩
                  rw [← hw5]
                  have hb5 : Below w4.heap.size w4 w5 := by rw [hw5]; exact below_drewN (Below.refl _ _) _
                  have hownx := owns_below HRW4.out hb5
                  have hbelx := HBQ4.out.trans (hb5.mono hwr4)
                  have hB0 : wo.heap.size ≤ w5.heap.size := hbelx.size
                  clear hw5 hb5 s0 s2
                  obtain ⟨s0, s2⟩ := HBX.out _ (HBW2.out.trans (hbelx.mono hWr))
                  clear s2
                  go_wp2
                  go_region_held3 (fun V => V.cell? ⟨w.heap.size, 0, none⟩ = some (.int .i64 kk)) (first | go_keep | exact (HBX.out _ (HBW2.out.trans (hbel'.mono hWr))).1)
                    ((refine step_app1 (by rfl) _ _ 46 (by rfl) wo.heap.size 3 (.int .i64 0) 8 Tryd.underlying46 infoIntY rfl _ c (intVals ys) _ hownx (by rfl) (by rfl) rfl (by omega) (by unfold maxLen; omega) hbelx hB0 ?_; intro v' w6 hown' hbel' hgr'))
                  obtain ⟨g6, c6, rfl, _, _⟩ := own_form hown' (by omega)
                  go_wp2
                  go_roundw
                  case rel => exact ⟨z + 1, c + 1, g6, c6, ys ++ [(E : Int)], by omega, by go_num, rfl, hid (by rw [HIN2.out, ← List.append_assoc, ← HY.out]), hid (by rw [List.length_append, ← HC.out]; rfl), hid (by simpa [intVals] using hown'), hid hbel'⟩
                  case measure => simp [intOf]; omega
                · have hge' : ((o[A].toNat : Int) == (o[B].toNat : Int)) = false := by simp; omega
                  have HI2 := HIN.out
                  rw [if_neg (fun h => hge (HGE.out.1 h)), List.append_nil] at HI2
                  have HIN2 := hid HI2
                  clear HI2 HIN HGE
                  go_wp2
                  go_quiet (fail)
                  go_wp2
                  go_roundw
                  case rel => exact ⟨z + 1, c, g, cg, ys, by omega, by go_num, rfl, hid (by rw [HIN2.out]; exact HY.out), HC, hid (owns_below HRW4.out (below_drewN (Below.refl _ _) _)), hid (HBQ4.out.trans ((below_drewN (Below.refl _ _) _).mono hwr4))⟩
                  case measure => simp [intOf]; omega
              · obtain rfl : z = kk := by omega
                go_wp2
                go_roundw
                case rel => exact ⟨x + 1, c, g, cg, ys, by omega, by go_num, rfl, HY, HC, HRW2, HBQ⟩
                case measure => simp [intOf]; omega
          · obtain rfl : x = kk := by omega
            have hg0 : wo.heap.size ≤ g := (HRW2.out.lt g rfl).1
            have hRWc := HRW2.out
            rw [HC.out] at hRWc
            have HOQ := hid (owns_below HOW2.out HBQ.out)
            have HTQ := hid (HT2.out.moreAt (below_none HBQ.out) hg0 (owns_base hRWc hWr))
            have HBW3 := hid (HBW2.out.trans (HBQ.out.mono hWr))
            have hwq : w1.heap.size ≤ wr.heap.size := Nat.le_trans hWr HBQ.out.size
            clear hRWc
            go_wp2_with (first | (at_builtin; go_must (refine wpList_appg rfl _ _ 39 rfl w1.heap.size 46 (.slice none 0 0) 24 Tryd.underlying39 infoIntsY rfl _ p vs _ HOQ.out rfl rfl rfl (by omega) (by unfold maxLen; omega) hwq ?_); intro v' w4 hown' hgr'))
            go_roundw
            case rel => exact ⟨p + 1, vs ++ [.slice (some ⟨g, 0, none⟩) c cg], by omega, by go_num, hid hown', hid (by have := HTQ.out.kept HOQ.out (by decide) hgr'; rw [HRR.out, ← HY.out, HC.out]; exact this), hid (HBW3.out.grown hgr' hwq (fun k hk => (HOQ.out.lt k hk).1))⟩
            case measure => simp [intOf]; omega
      · obtain rfl : p = M := by omega
        obtain ⟨a9, c9, rfl, hr9⟩ := owns_rowAt HOW.out (by omega)
        have hg9 : TGrid 46 3 wr w1.heap.size (.slice a9 p c9) (stepRows o kk S p) := ⟨vs, by rw [stepRows_len]; exact HOW.out, HT.out⟩
        obtain ⟨a1, c1, he, ht1⟩ := grid_tabAt hg9 (by rw [stepRows_len]; omega) HRW.out
        rw [stepRows_len] at he ht1
        injection he with he1 _ he2
        subst he1
        subst he2
        have HL2 := hid (HLV.out a9 c9 wr ht1)
        have HB2 := hid (HB.out.trans (HBW.out.mono HB.out.size))
        clear hr9 hg9 ht1 HLV HOW HT HBW
        go_wp2_with fail
        refine HL2.out.mono ?_
        rintro e w3 ⟨v3, K, rfl, ho3, hb3, hK⟩
        obtain ⟨g3, c3, rfl, hg3, _⟩ := own_form ho3 (by omega)
        have HO3 := hid ho3
        have HB3 := hid (bs HB2.out hb3)
        have HK := hid hK
        clear ho3 hb3 hK HL2
        go_wp2
        go_loopw [117] (fun i wr => ∃ q : Nat, q ≤ p ∧ i = .int .i64 q ∧ Hid (∀ z, z < q → K z = true → z / S = z % S) ∧ Hid (Below w3.heap.size w3 wr)) (fun i _ => p - (intOf i).toNat)
        case atStart => exact ⟨0, by omega, rfl, hid (fun q h => by omega), hid (Below.refl _ _)⟩
        case round =>
          obtain ⟨q, hq, rfl, HD, HBW⟩ := hrel
          by_cases hlt : q < p
          · have hpi : (q : Int) < (p : Int) := by omega
            have hcell : wr.cell? ⟨g3, q, none⟩ = some (.bool (K q)) := (HBW.out.cell (p := ⟨g3, q, none⟩) (HO3.out.lt g3 rfl).2).trans ((HO3.out.cellAt q (by omega)).trans (rowB_get hlt))
            obtain ⟨u, hu⟩ : ∃ u, u = K q := ⟨_, rfl⟩
            rw [← hu] at hcell
            have HU := hid hu
            clear hu
            cases u
            · go_wp2
              go_quiet (fail)
              go_wp2
              go_roundw
              case rel => exact ⟨q + 1, by omega, by go_num, hid (fun z hz hk => by
                by_cases hqp : z = q
                · rw [hqp, ← HU.out] at hk; cases hk
                · exact HD.out z (by omega) hk), hid (below_drewN HBW.out _)⟩
              case measure => simp [intOf]; omega
            · obtain ⟨D, hDe⟩ : ∃ D, D = q / S := ⟨_, rfl⟩
              obtain ⟨R, hRe⟩ : ∃ R, R = q % S := ⟨_, rfl⟩
              have hd1 : Int.tdiv (q : Int) (S : Int) = (D : Int) := by rw [hDe]; exact Int.ofNat_tdiv q S
              have hd2 : Int.tmod (q : Int) (S : Int) = (R : Int) := by rw [hRe]; exact Int.ofNat_tmod q S
              have hm0 : ¬ ((S : Int) = 0) := by omega
              have hm1 : ¬ (S = 0) := by omega
              have hm2 : ((S : Int) == 0) = false := by simpa using hm1
              have hDb : D ≤ 81 := by have := Nat.div_le_self q S; omega
              have hRb : R ≤ 81 := by have := Nat.mod_le q S; omega
              have hwD : IntKind.i64.wrap (D : Int) = (D : Int) := IntWalk.i64_in _ (by omega)
              have hwR : IntKind.i64.wrap (R : Int) = (R : Int) := IntWalk.i64_in _ (by omega)
              have HDE := hid hDe
              have HRE := hid hRe
              clear hDe hRe
              by_cases hDR : D = R
              · have hne : ((D : Int) != (R : Int)) = false := by simp [hDR]
                have HDR := hid hDR
                clear hDR
                go_wp2
                go_quiet (fail)
                go_wp2
                go_roundw
                case rel => exact ⟨q + 1, by omega, by go_num, hid (fun z hz hk => by
                  by_cases hqp : z = q
                  · rw [hqp, ← HDE.out, ← HRE.out]; exact HDR.out
                  · exact HD.out z (by omega) hk), hid (below_drewN HBW.out _)⟩
                case measure => simp [intOf]; omega
              · have hne : ((D : Int) != (R : Int)) = true := by simp; omega
                go_wp2
                go_quiet (fail)
                go_wp2
                go_ret
                refine ⟨false, rfl, ?_, below_drewN (HB3.out.trans (HBW.out.mono HB3.out.size)) _⟩
                simp only [Bool.false_eq_true, false_iff]
                intro hP
                exact hDR (by rw [HDE.out, HRE.out]; exact (HP.out.1 hP) q hlt ((HK.out q hlt).1 HU.out.symm))
          · obtain rfl : q = p := by omega
            go_wp2
            go_ret
            refine ⟨true, rfl, ?_, HB3.out.trans (HBW.out.mono HB3.out.size)⟩
            simp only [true_iff]
            exact HP.out.2 fun z hz hl => HD.out z hz ((HK.out z hz).2 hl)
end Go.Proofs.YtcmmlldincflkaaDoor
