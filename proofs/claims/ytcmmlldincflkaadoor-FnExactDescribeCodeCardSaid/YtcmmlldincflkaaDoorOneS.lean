/- One to one: the reference's function. Conditions: sizes within the reach. -/
import Derived.Test.YtcmmlldincflkaaDoorSteps
namespace Go.Proofs.YtcmmlldincflkaaDoor
open Go.RowKit

/-- What one to one means here: no pair of different ends lies on a way that is infinite in both directions. -/
def OneP (o : ByteArray) (k n : Nat) : Prop :=
  if n = 1 then ∀ x y, y < x → x < o.size → giveB o x ≠ giveB o y
  else ∀ p, p < powN k (n - 1) * powN k (n - 1) → LiveG (stepRows o k (powN k (n - 1)) (powN k (n - 1) * powN k (n - 1))) (powN k (n - 1) * powN k (n - 1)) p → p / powN k (n - 1) = p % powN k (n - 1)
def OnePost (P : Prop) (w : World) (e : Ending) (w' : World) : Prop := ∃ b : Bool, e = .returned (.bool b) ∧ (b = true ↔ P) ∧ Below w.heap.size w w'
theorem powN_facts {k n : Nat} (hk : k = 2 ∨ k = 3) (hn1 : 1 ≤ n) (hn4 : n ≤ 4) (h27 : k ^ n ≤ 27) : 1 ≤ powN k (n - 1) ∧ powN k (n - 1) ≤ 9 ∧ k ^ n = powN k (n - 1) * k := by
  have h2 : ∀ n, n ≤ 4 → 1 ≤ n → (1 ≤ powN 2 (n - 1) ∧ powN 2 (n - 1) ≤ 9 ∧ 2 ^ n = powN 2 (n - 1) * 2) := by decide
  have h3 : ∀ n, n ≤ 4 → 1 ≤ n → 3 ^ n ≤ 27 → (1 ≤ powN 3 (n - 1) ∧ powN 3 (n - 1) ≤ 9 ∧ 3 ^ n = powN 3 (n - 1) * 3) := by decide
  rcases hk with rfl | rfl
  · exact h2 n hn4 hn1
  · exact h3 n hn4 hn1 h27
set_option maxHeartbeats 4000000 in
set_option maxRecDepth 100000 in
theorem spec_IsOneToOne_no (k n : Int) (o : ByteArray) (w : World) (ho : o.size ≤ maxLen) (h : isCode k n o = false) :
    Calls Tryd.prog 11 #[.agg #[.int .i64 k, .int .i64 n, .string o]] w fun e w' => e = .returned (.bool false) ∧ Below w.heap.size w w' := by
  have HI := hid (fun w : World => spec_IsCode_c k n o w ho)
  rw [h] at HI
  clear h
  go_enter Tryd.func11, Tryd.ntmps11
  go_wp2_with fail
  refine (HI.out _).mono ?_
  rintro e w1 ⟨rfl, hb⟩
  have hb2 : Below w.heap.size w w1 := ((Below.refl _ _).alloc (Nat.le_refl _) _).trans (hb.mono (by simp))
  clear hb HI
  go_wp2
  go_ret
  exact ⟨rfl, hb2⟩
set_option maxHeartbeats 4000000 in
set_option maxRecDepth 100000 in
theorem spec_IsOneToOne_yes (k n : Nat) (o : ByteArray) (w : World) (ho : o.size ≤ maxLen) (h : isCode k n o = true) :
    Calls Tryd.prog 11 #[.agg #[.int .i64 k, .int .i64 n, .string o]] w (OnePost (OneP o k n) w) := by
  obtain ⟨kk, nn, hkk, hnn, hk, ⟨hn1, hn4⟩, hp, hos, hl⟩ := code_facts h
  obtain rfl : kk = k := by omega
  obtain rfl : nn = n := by omega
  have HI := hid (fun w : World => spec_IsCode_c kk nn o w ho)
  rw [h] at HI
  obtain ⟨hS1, hS9, hSk⟩ := powN_facts hk hn1 hn4 hp
  have hk3 : kk ≤ 3 := by omega
  have HP1 := hid (show OneP o kk nn ↔ OneP o kk nn from Iff.rfl)
  have HOS := hid hos
  have hos27 : o.size ≤ 27 := by omega
  unfold OnePost
  by_cases h1 : nn = 1
  · subst h1
    have HP := hid (show OneP o kk 1 ↔ ∀ x y, y < x → x < o.size → giveB o x ≠ giveB o y by unfold OneP; rw [if_pos rfl])
    clear h hos hl hkk hnn HP1 hSk hp hS1 hS9
    go_enter Tryd.func11, Tryd.ntmps11
    go_wp2_with fail
    refine (HI.out _).mono ?_
    rintro e w1 ⟨rfl, hb⟩
    obtain ⟨⟨s0, s1, s2⟩, _, hz⟩ := box3 hb
    have hb2 : Below w.heap.size w w1 := ((Below.refl _ _).alloc (Nat.le_refl _) _).trans (hb.mono (by simp))
    have HC := hid s2
    have HB := hid hb2
    clear hb hb2 HI
    go_wp2
    go_loopw [3] (fun i wr => ∃ x : Nat, x ≤ o.size ∧ i = .int .i64 x ∧ Hid (∀ a b, b < a → a < x → giveB o a ≠ giveB o b) ∧ Hid (Below w1.heap.size w1 wr)) (fun i _ => o.size - (intOf i).toNat)
    case atStart => exact ⟨0, by omega, rfl, hid (fun a b _ h => by omega), hid (Below.refl _ _)⟩
    case round =>
      obtain ⟨x, hx, rfl, HD, HBW⟩ := hrel
      have s2 := (HBW.out.cell (p := ⟨w.heap.size, 2, none⟩) hz).trans HC.out
      by_cases hlt : x < o.size
      · have hxi : (x : Int) < (o.size : Int) := by omega
        go_wp2
        go_loopw [4] (fun i wr => ∃ y : Nat, y ≤ x ∧ i = .int .i64 y ∧ Hid (∀ b, b < y → giveB o x ≠ giveB o b) ∧ Hid (Below w1.heap.size w1 wr)) (fun i _ => x - (intOf i).toNat)
        case atStart => exact ⟨0, by omega, rfl, hid (fun b h => by omega), HBW⟩
        case round =>
          obtain ⟨y, hy, rfl, HD2, HBW⟩ := hrel
          have s2 := (HBW.out.cell (p := ⟨w.heap.size, 2, none⟩) hz).trans HC.out
          by_cases hlty : y < x
          · have hyi : (y : Int) < (x : Int) := by omega
            have hyo : y < o.size := by omega
            have hyo' : (y : Int) < (o.size : Int) := by omega
            have HGE := hid (show giveB o x = giveB o y ↔ o[x].toNat = o[y].toNat by rw [giveB_at hlt, giveB_at hyo]; exact UInt8.toNat_inj.symm)
            by_cases hge : o[x].toNat = o[y].toNat
            · have hge' : ((o[x].toNat : Int) == (o[y].toNat : Int)) = true := by simp [hge]
              have HE := hid (HGE.out.2 hge)
              clear HGE
              go_wp2
              go_quiet (fail)
              go_wp2
              go_ret
              exact ⟨false, rfl, by simp only [Bool.false_eq_true, false_iff]; exact fun hp => (HP.out.1 hp) x y hlty hlt HE.out, below_drewN (HB.out.trans (HBW.out.mono HB.out.size)) _⟩
            · have hge' : ((o[x].toNat : Int) == (o[y].toNat : Int)) = false := by simp; omega
              have HE := hid (fun h => hge (HGE.out.1 h))
              clear HGE
              go_wp2
              go_quiet (fail)
              go_wp2
              go_roundw
              case rel => exact ⟨y + 1, by omega, by go_num, hid (fun b hb => by
                by_cases hby : b = y
                · rw [hby]; exact HE.out
                · exact HD2.out b (by omega)), hid (below_drewN HBW.out _)⟩
              case measure => simp [intOf]; omega
          · obtain rfl : y = x := by omega
            go_wp2
            go_roundw
            case rel => exact ⟨y + 1, by omega, by go_num, hid (fun a b hb ha => by
              by_cases hay : a = y
              · rw [hay]; exact HD2.out b (by omega)
              · exact HD.out a b hb (by omega)), HBW⟩
            case measure => simp [intOf]; omega
      · obtain rfl : x = o.size := by omega
        go_wp2
        go_ret
        exact ⟨true, rfl, by simp only [true_iff]; exact HP.out.2 HD.out, HB.out.trans (HBW.out.mono HB.out.size)⟩
  · obtain ⟨S, hS⟩ : ∃ S, S = powN kk (nn - 1) := ⟨_, rfl⟩
    have HP := hid (show OneP o kk nn ↔ ∀ p, p < S * S → LiveG (stepRows o kk S (S * S)) (S * S) p → p / S = p % S by unfold OneP; rw [if_neg h1, ← hS])
    rw [← hS] at hS1 hS9 hSk
    have HST := hid (fun w : World => spec_l13Steps_c kk nn o w hk hn1 hn4 S hS hS9 hS1 (by rw [hos, hSk]))
    have HPW := hid (fun w => spec_l11Power_c kk (nn - 1) hk3 (by omega) w)
    rw [← hS] at HPW
    have hSS : S * S ≤ 81 := Nat.mul_le_mul hS9 hS9
    have hSS1 : 1 ≤ S * S := Nat.mul_le_mul hS1 hS1
    have HLV := hid (fun (a : Option Addr) (c : Nat) (w : World) (hT : TabAt w a (S * S) (stepRows o kk S (S * S))) => spec_l13Live_c (S * S) (stepRows o kk S (S * S)) a c w hT (stepRows_bd hS1) (by omega) hSS1)
    unfold LivePost at HLV
    unfold StepsPost at HST
    have hn1' : ((nn : Int) - 1) = ((nn - 1 : Nat) : Int) := by omega
    obtain ⟨n1, hn1e⟩ : ∃ m, m = nn - 1 := ⟨_, rfl⟩
    rw [← hn1e] at HPW hn1'
    have hne1 : ((nn : Int) == 1) = false := by simp; omega
    obtain ⟨M, hM⟩ : ∃ M, M = S * S := ⟨_, rfl⟩
    have HM := hid hM
    obtain ⟨rows, hrows⟩ : ∃ rows, rows = stepRows o kk S (S * S) := ⟨_, rfl⟩
    have hrl : rows.length = M := by rw [hrows, stepRows_len, hM]
    have hrw : ∀ r ∈ rows, r.length ≤ 140737488351232 := fun r hr => by
      rw [hrows] at hr
      unfold stepRows at hr
      obtain ⟨p, _, rfl⟩ := List.mem_map.1 hr
      have h1 := stepOut_len o kk S (p / S) (p % S) kk
      have h2 : kk * kk ≤ 3 * 3 := Nat.mul_le_mul hk3 hk3
      show (stepOut o kk S (p / S) (p % S) kk).length ≤ _
      omega
    rw [← hrows] at HST HLV HP
    rw [← hM] at HLV HP hSS hSS1
    have HRL := hid hrl
    have HRW := hid hrw
    clear h hos hl hkk hnn HP1 hSk hp hn1e hS hM h1 hrows hrl hrw hk
    go_enter Tryd.func11, Tryd.ntmps11
    go_wp2_with fail
    refine (HI.out _).mono ?_
    rintro e w1 ⟨rfl, hb⟩
    obtain ⟨⟨s0, s1, s2⟩, _, hz⟩ := box3 hb
    have hb2 : Below w.heap.size w w1 := ((Below.refl _ _).alloc (Nat.le_refl _) _).trans (hb.mono (by simp))
    have HB := hid hb2
    clear hb hb2 HI
    go_wp2_with fail
    refine (HPW.out _).mono ?_
    rintro e w2 ⟨rfl, rfl⟩
    go_wp2_with fail
    refine (HST.out _).mono ?_
    rintro e w2 ⟨v, rfl, hg, hb2⟩
    obtain ⟨a1, c1, he, ht1⟩ := grid_tabAt hg (by rw [HRL.out]; omega) HRW.out
    rw [HRL.out] at he ht1
    subst he
    have HL2 := hid (HLV.out a1 c1 w2 ht1)
    have HB2 := hid (bs HB.out hb2)
    clear hg hb2 ht1 HST HLV s0 s1 s2
    go_wp2_with fail
    refine HL2.out.mono ?_
    rintro e w3 ⟨v3, K, rfl, ho3, hb3, hK⟩
    obtain ⟨g3, c3, rfl, hg3, _⟩ := own_form ho3 (by omega)
    have HO3 := hid ho3
    have HB3 := hid (bs HB2.out hb3)
    have HK := hid hK
    clear ho3 hb3 hK HL2
    go_wp2
    go_loopw [7] (fun i wr => ∃ p : Nat, p ≤ M ∧ i = .int .i64 p ∧ Hid (∀ q, q < p → K q = true → q / S = q % S) ∧ Hid (Below w3.heap.size w3 wr)) (fun i _ => M - (intOf i).toNat)
    case atStart => exact ⟨0, by omega, rfl, hid (fun q h => by omega), hid (Below.refl _ _)⟩
    case round =>
      obtain ⟨p, hp, rfl, HD, HBW⟩ := hrel
      by_cases hlt : p < M
      · have hpi : (p : Int) < (M : Int) := by omega
        have hcell : wr.cell? ⟨g3, p, none⟩ = some (.bool (K p)) := (HBW.out.cell (p := ⟨g3, p, none⟩) (HO3.out.lt g3 rfl).2).trans ((HO3.out.cellAt p (by omega)).trans (rowB_get hlt))
        obtain ⟨u, hu⟩ : ∃ u, u = K p := ⟨_, rfl⟩
        rw [← hu] at hcell
        have HU := hid hu
        clear hu
        cases u
        · go_wp2
          go_quiet (fail)
          go_wp2
          go_roundw
          case rel => exact ⟨p + 1, by omega, by go_num, hid (fun q hq hk => by
            by_cases hqp : q = p
            · rw [hqp, ← HU.out] at hk; cases hk
            · exact HD.out q (by omega) hk), hid (below_drewN HBW.out _)⟩
          case measure => simp [intOf]; omega
        · obtain ⟨D, hDe⟩ : ∃ D, D = p / S := ⟨_, rfl⟩
          obtain ⟨R, hRe⟩ : ∃ R, R = p % S := ⟨_, rfl⟩
          have hd1 : Int.tdiv (p : Int) (S : Int) = (D : Int) := by rw [hDe]; exact Int.ofNat_tdiv p S
          have hd2 : Int.tmod (p : Int) (S : Int) = (R : Int) := by rw [hRe]; exact Int.ofNat_tmod p S
          have hm0 : ¬ ((S : Int) = 0) := by omega
          have hm1 : ¬ (S = 0) := by omega
          have hm2 : ((S : Int) == 0) = false := by simpa using hm1
          have hDb : D ≤ 81 := by have := Nat.div_le_self p S; omega
          have hRb : R ≤ 81 := by have := Nat.mod_le p S; omega
          have hwD : IntKind.i64.wrap (D : Int) = (D : Int) := IntWalk.i64_in _ (by omega)
          have hwR : IntKind.i64.wrap (R : Int) = (R : Int) := IntWalk.i64_in _ (by omega)
          have HDE := hid hDe
          have HRE := hid hRe
          clear hDe hRe
          by_cases hDR : D = R
          · have hne : ((D : Int) != (R : Int)) = false := by simp [hDR]
            have HDR := hid hDR
            clear hDR
            go_wp2
            go_quiet (fail)
            go_wp2
            go_roundw
            case rel => exact ⟨p + 1, by omega, by go_num, hid (fun q hq hk => by
              by_cases hqp : q = p
              · rw [hqp, ← HDE.out, ← HRE.out]; exact HDR.out
              · exact HD.out q (by omega) hk), hid (below_drewN HBW.out _)⟩
            case measure => simp [intOf]; omega
          · have hne : ((D : Int) != (R : Int)) = true := by simp; omega
            go_wp2
            go_quiet (fail)
            go_wp2
            go_ret
            refine ⟨false, rfl, ?_, below_drewN (HB3.out.trans (HBW.out.mono HB3.out.size)) _⟩
            simp only [Bool.false_eq_true, false_iff]
            intro hP
            exact hDR (by rw [HDE.out, HRE.out]; exact (HP.out.1 hP) p hlt ((HK.out p hlt).1 HU.out.symm))
      · obtain rfl : p = M := by omega
        go_wp2
        go_ret
        refine ⟨true, rfl, ?_, HB3.out.trans (HBW.out.mono HB3.out.size)⟩
        simp only [true_iff]
        exact HP.out.2 fun q hq hl => HD.out q hq ((HK.out q hq).2 hl)
end Go.Proofs.YtcmmlldincflkaaDoor
