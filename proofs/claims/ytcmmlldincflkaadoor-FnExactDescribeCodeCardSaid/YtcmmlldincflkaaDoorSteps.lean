/- Pairs of ends that follow pairs of ends, the reference's way. Conditions: a code. -/
import Derived.Test.YtcmmlldincflkaaDoorLive
import Derived.Test.YtcmmlldincflkaaDoorParseM
import Derived.Test.YtcmmlldincflkaaDoorApply
import Derived.Test.YtcmmlldincflkaaDoorTail
import Derived.Test.YtcmmlldincflkaaDoorNumber
import Derived.BigQuiet
import Derived.IntWalk
import Derived.StillTailTactics
namespace Go.Proofs.YtcmmlldincflkaaDoor
open Go.RowKit

/-- Which pair follows the pair (u, v) by the letters x and y. -/
def stepE (k S u v x y : Nat) : Nat := (u * k + x) % S * S + (v * k + y) % S
def stepIn (o : ByteArray) (k S u v x : Nat) : Nat → List Int
  | 0 => []
  | y + 1 => stepIn o k S u v x y ++ (if giveB o (u * k + x) = giveB o (v * k + y) then [(stepE k S u v x y : Int)] else [])
def stepOut (o : ByteArray) (k S u v : Nat) : Nat → List Int
  | 0 => []
  | x + 1 => stepOut o k S u v x ++ stepIn o k S u v x k
def stepRow (o : ByteArray) (k S p : Nat) : List Int := stepOut o k S (p / S) (p % S) k
def stepRows (o : ByteArray) (k S m : Nat) : List (List Int) := (List.range m).map (stepRow o k S)
theorem stepIn_len (o : ByteArray) (k S u v x : Nat) : ∀ y, (stepIn o k S u v x y).length ≤ y
  | 0 => Nat.le_refl _
  | y + 1 => by
    unfold stepIn
    have := stepIn_len o k S u v x y
    rw [List.length_append]
    split <;> simp <;> omega
theorem stepOut_len (o : ByteArray) (k S u v : Nat) : ∀ x, (stepOut o k S u v x).length ≤ x * k
  | 0 => by simp [stepOut]
  | x + 1 => by
    unfold stepOut
    have h1 := stepOut_len o k S u v x
    have h2 := stepIn_len o k S u v x k
    rw [List.length_append, Nat.succ_mul]
    omega
theorem stepIn_mem {o : ByteArray} {k S u v x : Nat} {e : Int} : ∀ {y : Nat}, e ∈ stepIn o k S u v x y ↔ ∃ z, z < y ∧ giveB o (u * k + x) = giveB o (v * k + z) ∧ e = (stepE k S u v x z : Int)
  | 0 => by simp [stepIn]
  | y + 1 => by
    unfold stepIn
    rw [List.mem_append, stepIn_mem]
    constructor
    · rintro (⟨z, hz, h⟩ | h)
      · exact ⟨z, by omega, h⟩
      · split at h
        · rename_i hg
          simp at h
          exact ⟨y, by omega, hg, h⟩
        · cases h
    · rintro ⟨z, hz, hg, h⟩
      by_cases hzy : z = y
      · subst hzy
        right
        rw [if_pos hg]; simp [h]
      · exact Or.inl ⟨z, by omega, hg, h⟩
theorem stepOut_mem {o : ByteArray} {k S u v : Nat} {e : Int} : ∀ {x : Nat}, e ∈ stepOut o k S u v x ↔ ∃ t z, t < x ∧ z < k ∧ giveB o (u * k + t) = giveB o (v * k + z) ∧ e = (stepE k S u v t z : Int)
  | 0 => by simp [stepOut]
  | x + 1 => by
    unfold stepOut
    rw [List.mem_append, stepOut_mem, stepIn_mem]
    constructor
    · rintro (⟨t, z, ht, h⟩ | ⟨z, hz, h⟩)
      · exact ⟨t, z, by omega, h⟩
      · exact ⟨x, z, by omega, hz, h⟩
    · rintro ⟨t, z, ht, hz, h⟩
      by_cases hzy : t = x
      · subst hzy
        exact Or.inr ⟨z, hz, h⟩
      · exact Or.inl ⟨t, z, by omega, hz, h⟩
theorem stepE_lt {k S u v x y : Nat} (hS : 0 < S) : stepE k S u v x y < S * S := by
  have h1 := Nat.mod_lt (u * k + x) hS
  have h2 := Nat.mod_lt (v * k + y) hS
  unfold stepE
  have h3 : (u * k + x) % S * S + S ≤ S * S := by
    have := Nat.mul_le_mul_right S (show (u * k + x) % S + 1 ≤ S by omega)
    rwa [Nat.succ_mul] at this
  omega
theorem stepRows_get {o : ByteArray} {k S m p : Nat} (h : p < m) : (stepRows o k S m)[p]? = some (stepRow o k S p) := by simp [stepRows, h]
theorem stepRows_len (o : ByteArray) (k S m : Nat) : (stepRows o k S m).length = m := by simp [stepRows]
theorem stepRows_succ (o : ByteArray) (k S m : Nat) : stepRows o k S (m + 1) = stepRows o k S m ++ [stepRow o k S m] := by simp [stepRows, List.range_succ]
theorem stepRows_bd {o : ByteArray} {k S m : Nat} (hS : 0 < S) : ∀ (i : Nat) (r : List Int), (stepRows o k S m)[i]? = some r → ∀ x ∈ r, 0 ≤ x ∧ x < ((S * S : Nat) : Int) := by
  intro i r hr x hx
  unfold stepRows at hr
  rw [List.getElem?_map] at hr
  cases hg : (List.range m)[i]? with
  | none => rw [hg] at hr; cases hr
  | some p =>
    rw [hg] at hr
    simp at hr
    subst hr
    unfold stepRow at hx
    rw [stepOut_mem] at hx
    obtain ⟨t, z, _, _, _, rfl⟩ := hx
    have := stepE_lt (k := k) (u := p / S) (v := p % S) (x := t) (y := z) hS
    omega
theorem stepRow_at (o : ByteArray) (k : Nat) {S u v : Nat} (hv : v < S) : stepRow o k S (u * S + v) = stepOut o k S u v k := by
  unfold stepRow
  rw [show (u * S + v) / S = u by rw [Nat.add_comm, Nat.add_mul_div_right _ _ (by omega), Nat.div_eq_of_lt hv, Nat.zero_add], show (u * S + v) % S = v by rw [Nat.add_comm, Nat.add_mul_mod_self_right, Nat.mod_eq_of_lt hv]]
theorem edg_step {o : ByteArray} {k S p q : Nat} (hp : p < S * S) : edg (stepRows o k S (S * S)) p q ↔ ∃ x y, x < k ∧ y < k ∧ giveB o (p / S * k + x) = giveB o (p % S * k + y) ∧ q = stepE k S (p / S) (p % S) x y := by
  unfold edg
  rw [List.getD_eq_getElem?_getD, stepRows_get hp]
  show (q : Int) ∈ stepRow o k S p ↔ _
  unfold stepRow
  rw [stepOut_mem]
  constructor
  · rintro ⟨x, y, hx, hy, hg, e⟩; exact ⟨x, y, hx, hy, hg, by omega⟩
  · rintro ⟨x, y, hx, hy, hg, e⟩; exact ⟨x, y, hx, hy, hg, by omega⟩
/-- The table of steps as it lies. -/
def StepsPost (o : ByteArray) (k S : Nat) (w : World) (e : Ending) (w' : World) : Prop :=
  ∃ v, e = .returned v ∧ TGrid 46 3 w' w.heap.size v (stepRows o k S (S * S)) ∧ Below w.heap.size w w'
theorem idx_bound {k S P u x : Nat} (hP : P = S * k) (hu : u < S) (hx : x < k) : u * k + x < P := by
  have := Nat.mul_le_mul_right k (show u + 1 ≤ S by omega)
  rw [Nat.succ_mul] at this
  omega
theorem infoIntY : (Tryd.prog.info? 3).map (fun i => (i.zero, i.size, i.bytes)) = some (some (.int .i64 0), 1, 8) := by kernel_rfl
theorem infoIntsY : (Tryd.prog.info? 46).map (fun i => (i.zero, i.size, i.bytes)) = some (some (.slice none 0 0), 1, 24) := by kernel_rfl
set_option maxHeartbeats 8000000 in
set_option maxRecDepth 100000 in
theorem spec_l13Steps_c (k n : Nat) (o : ByteArray) (w : World) (hk : k = 2 ∨ k = 3) (hn1 : 1 ≤ n) (hn4 : n ≤ 4) (S : Nat) (hS : S = powN k (n - 1)) (hS9 : S ≤ 9) (hS1 : 1 ≤ S) (hos : o.size = S * k) :
    Calls Tryd.prog 25 #[.agg #[.int .i64 k, .int .i64 n, .string o]] w (StepsPost o k S w) := by
  have hk3 : k ≤ 3 := by omega
  have hk2 : 2 ≤ k := by omega
  have hSk : S * k ≤ 27 := by
    have := Nat.mul_le_mul hS9 hk3
    omega
  have HS := hid hS
  have HPW := hid (fun w => spec_l11Power_c k (n - 1) hk3 (by omega) w)
  rw [← hS] at HPW
  have hn1' : ((n : Int) - 1) = ((n - 1 : Nat) : Int) := by omega
  obtain ⟨n1, hn1e⟩ : ∃ m, m = n - 1 := ⟨_, rfl⟩
  rw [← hn1e] at HPW hn1'
  have HOS := hid hos
  clear hS hk hn1e hos
  unfold StepsPost
  go_enter Tryd.func25, Tryd.ntmps25
  go_wp2_with fail
  refine (HPW.out _).mono ?_
  rintro e w1 ⟨rfl, rfl⟩
  have HBX := hid (show ∀ V, Below (w.heap.size + 1) (w.alloc (.cells #[.int .i64 k, .int .i64 n, .string o] 26)) V → V.cell? ⟨w.heap.size, 0, none⟩ = some (.int .i64 k) ∧ V.cell? ⟨w.heap.size, 1, none⟩ = some (.int .i64 n) ∧ V.cell? ⟨w.heap.size, 2, none⟩ = some (.string o) from fun V hV => ⟨(box_kept hV 0).1, (box_kept hV 1).1, (box_kept hV 2).1⟩)
  have HB0 := hid (show Below (w.heap.size + 1) (w.alloc (.cells #[.int .i64 k, .int .i64 n, .string o] 26)) ((w.alloc (.cells #[.int .i64 k, .int .i64 n, .string o] 26)).alloc (.cells #[] 46)) from (Below.refl _ _).alloc (by simp) _)
  have HO0 := hid (own_nilM (w.alloc (.cells #[.int .i64 k, .int .i64 n, .string o] 26)) 46 (B := (w.heap.size + 1)) (by simp))
  rw [World.size_alloc] at HO0
  go_wp2
  go_loopw [4, 5] (fun v i wr => ∃ (u p : Nat) (vs : List Value), u ≤ S ∧ i = .int .i64 u ∧ Hid (p = u * S) ∧ p ≤ 81 ∧ Hid (wr.ownsRow (w.heap.size + 1) 46 1 v p vs) ∧ Hid (TRows 3 wr (w.heap.size + 1) vs (stepRows o k S p)) ∧ Hid (Below (w.heap.size + 1) (w.alloc (.cells #[.int .i64 k, .int .i64 n, .string o] 26)) wr)) (fun _ i _ => S - (intOf i).toNat)
  case atStart => exact ⟨0, 0, [], by omega, rfl, hid (by omega), by omega, HO0, hid (TRows.nil _ _ _), HB0⟩
  case round =>
    obtain ⟨u, p, vs, hu, rfl, HP, hp, HOW, HT, HB⟩ := hrel
    by_cases hlt : u < S
    · have hi1 : (u : Int) < (S : Int) := by omega
      go_wp2
      go_loopw [4, 6] (fun v i wr => ∃ (y p : Nat) (vs : List Value), y ≤ S ∧ i = .int .i64 y ∧ Hid (p = u * S + y) ∧ p ≤ 81 ∧ Hid (wr.ownsRow (w.heap.size + 1) 46 1 v p vs) ∧ Hid (TRows 3 wr (w.heap.size + 1) vs (stepRows o k S p)) ∧ Hid (Below (w.heap.size + 1) (w.alloc (.cells #[.int .i64 k, .int .i64 n, .string o] 26)) wr)) (fun _ i _ => S - (intOf i).toNat)
      case atStart => exact ⟨0, p, vs, by omega, rfl, hid (by rw [HP.out]; omega), hp, HOW, HT, HB⟩
      case round =>
        obtain ⟨y, p, vs, hy, rfl, HP, hp, HOW, HT, HB⟩ := hrel
        obtain ⟨wo, rfl⟩ : ∃ wo, wo = wr := ⟨_, rfl⟩
        have hWr : (w.heap.size + 1) ≤ wo.heap.size := by have := HB.out.size; simpa using this
        by_cases hlty : y < S
        · have hi2 : (y : Int) < (S : Int) := by omega
          have hbr1 := hid ((Below.refl wo.heap.size wo).alloc (Nat.le_refl _) (.cells #[] 3))
          have hR0 := hid (own_nilM wo 3 (Nat.le_refl wo.heap.size))
          go_wp2
          go_loopw [7, 8] (fun v i wr => ∃ (x c g cg : Nat) (ys : List Int), x ≤ k ∧ i = .int .i64 x ∧ v = .slice (some ⟨g, 0, none⟩) c cg ∧ Hid (ys = stepOut o k S u y x) ∧ Hid (c = ys.length) ∧ Hid (wr.ownsRow wo.heap.size 3 1 (.slice (some ⟨g, 0, none⟩) c cg) c (intVals ys)) ∧ Hid (Below wo.heap.size wo wr)) (fun _ i _ => k - (intOf i).toNat)
          case atStart => exact ⟨0, 0, wo.heap.size, 0, [], by omega, rfl, rfl, hid rfl, hid rfl, hR0, hbr1⟩
          case round =>
            obtain ⟨x, c, g, cg, ys, hx, rfl, rfl, HY, HC, HRW, HBQ⟩ := hrel
            obtain ⟨s0, s1, s2⟩ := HBX.out _ (HB.out.trans (HBQ.out.mono hWr))
            by_cases hltx : x < k
            · have hi3 : (x : Int) < (k : Int) := by omega
              go_wp2
              go_loopw [7, 9] (fun v i wr => ∃ (z c g cg : Nat) (ys : List Int), z ≤ k ∧ i = .int .i64 z ∧ v = .slice (some ⟨g, 0, none⟩) c cg ∧ Hid (ys = stepOut o k S u y x ++ stepIn o k S u y x z) ∧ Hid (c = ys.length) ∧ Hid (wr.ownsRow wo.heap.size 3 1 (.slice (some ⟨g, 0, none⟩) c cg) c (intVals ys)) ∧ Hid (Below wo.heap.size wo wr)) (fun _ i _ => k - (intOf i).toNat)
              case atStart => exact ⟨0, c, g, cg, ys, by omega, rfl, rfl, hid (by rw [HY.out]; simp [stepIn]), HC, HRW, HBQ⟩
              case round =>
                obtain ⟨z, c, g, cg, ys, hz, rfl, rfl, HY, HC, HRW, HBQ⟩ := hrel
                obtain ⟨s0, s1, s2⟩ := HBX.out _ (HB.out.trans (HBQ.out.mono hWr))
                by_cases hltz : z < k
                · have hi4 : (z : Int) < (k : Int) := by omega
                  have hwrq : wo.heap.size ≤ wr.heap.size := HBQ.out.size
                  have hc9 : c ≤ 20 := by
                    have h1 := stepOut_len o k S u y x
                    have h2 := stepIn_len o k S u y x z
                    have h3 : x * k ≤ 2 * 3 := Nat.mul_le_mul (by omega) hk3
                    rw [HC.out, HY.out, List.length_append]; omega
                  obtain ⟨U, hU⟩ : ∃ U, U = u * k := ⟨_, rfl⟩
                  obtain ⟨V, hV⟩ : ∃ V, V = y * k := ⟨_, rfl⟩
                  have hAb := idx_bound (P := S * k) rfl hlt hltx
                  have hBb := idx_bound (P := S * k) rfl hlty hltz
                  have HE := hid (show stepE k S u y x z = (u * k + x) % S * S + (y * k + z) % S from rfl)
                  have HEB := hid (stepE_lt (k := k) (u := u) (v := y) (x := x) (y := z) (S := S) (by omega))
                  have hSS : S * S ≤ 81 := Nat.mul_le_mul hS9 hS9
                  have HIN := hid (show stepIn o k S u y x (z + 1) = stepIn o k S u y x z ++ (if giveB o (u * k + x) = giveB o (y * k + z) then [(stepE k S u y x z : Int)] else []) from rfl)
                  rw [← hU] at hAb HE HIN
                  rw [← hV] at hBb HE HIN
                  have hUi : (u : Int) * (k : Int) = (U : Int) := by rw [hU]; simp
                  have hVi : (y : Int) * (k : Int) = (V : Int) := by rw [hV]; simp
                  obtain ⟨A, hA⟩ : ∃ A, A = U + x := ⟨_, rfl⟩
                  obtain ⟨B, hB⟩ : ∃ B, B = V + z := ⟨_, rfl⟩
                  rw [← hA] at hAb HE HIN
                  rw [← hB] at hBb HE HIN
                  have hAi : (U : Int) + (x : Int) = (A : Int) := by omega
                  have hBi : (V : Int) + (z : Int) = (B : Int) := by omega
                  have hAo : A < o.size := by rw [HOS.out]; omega
                  have hBo : B < o.size := by rw [HOS.out]; omega
                  have hAo' : (A : Int) < (o.size : Int) := by omega
                  have hBo' : (B : Int) < (o.size : Int) := by omega
                  have hA0' : (0 : Int) ≤ (A : Int) := by omega
                  have hB0' : (0 : Int) ≤ (B : Int) := by omega
                  have hA27 : A ≤ 27 := by omega
                  have hB27 : B ≤ 27 := by omega
                  have HGE := hid (show giveB o A = giveB o B ↔ o[A].toNat = o[B].toNat by rw [giveB_at hAo, giveB_at hBo]; exact UInt8.toNat_inj.symm)
                  obtain ⟨E, hE⟩ : ∃ E, E = stepE k S u y x z := ⟨_, rfl⟩
                  rw [← hE] at HE HEB HIN
                  obtain ⟨R1, hR1⟩ : ∃ R1, R1 = A % S := ⟨_, rfl⟩
                  obtain ⟨R2, hR2⟩ : ∃ R2, R2 = B % S := ⟨_, rfl⟩
                  have hr1 : Int.tmod (A : Int) (S : Int) = (R1 : Int) := by rw [hR1]; exact Int.ofNat_tmod A S
                  have hr2 : Int.tmod (B : Int) (S : Int) = (R2 : Int) := by rw [hR2]; exact Int.ofNat_tmod B S
                  rw [← hR1, ← hR2] at HE
                  obtain ⟨Q, hQ⟩ : ∃ Q, Q = R1 * S := ⟨_, rfl⟩
                  have hQi : (R1 : Int) * (S : Int) = (Q : Int) := by rw [hQ]; simp
                  rw [← hQ] at HE
                  have hEi : (Q : Int) + (R2 : Int) = (E : Int) := by have := HE.out; omega
                  have hE81 : E < 81 := by have := HEB.out; omega
                  have hm0 : ¬ ((S : Int) = 0) := by omega
                  have hm1 : ¬ (S = 0) := by omega
                  have hm2 : ((S : Int) == 0) = false := by simpa using hm1
                  have hwU : IntKind.i64.wrap (U : Int) = (U : Int) := IntWalk.i64_in _ (by omega)
                  have hwV : IntKind.i64.wrap (V : Int) = (V : Int) := IntWalk.i64_in _ (by omega)
                  have hwA : IntKind.i64.wrap (A : Int) = (A : Int) := IntWalk.i64_in _ (by omega)
                  have hwB : IntKind.i64.wrap (B : Int) = (B : Int) := IntWalk.i64_in _ (by omega)
                  have hwQ : IntKind.i64.wrap (Q : Int) = (Q : Int) := IntWalk.i64_in _ (by omega)
                  have hwE : IntKind.i64.wrap (E : Int) = (E : Int) := IntWalk.i64_in _ (by omega)
                  have hR1lt : R1 < S := by rw [hR1]; exact Nat.mod_lt _ (by omega)
                  have hwR1 : IntKind.i64.wrap (R1 : Int) = (R1 : Int) := IntWalk.i64_in _ (by omega)
                  have hwR2 : IntKind.i64.wrap (R2 : Int) = (R2 : Int) := IntWalk.i64_in _ (by omega)
                  clear hU hV hA hB hE hR1 hR2 hQ
                  by_cases hge : o[A].toNat = o[B].toNat
                  · have hge' : ((o[A].toNat : Int) == (o[B].toNat : Int)) = true := by simp [hge]
                    have HI2 := HIN.out
                    rw [if_pos (HGE.out.2 hge)] at HI2
                    have HIN2 := hid HI2
                    clear HI2 HIN HGE
                    go_wp2
                    go_quiet (fail)
                    obtain ⟨w5, hw5⟩ : ∃ w5, w5 = wr.drewN nq := ⟨_, rfl⟩
                    rw [← hw5]
                    have hb5 : Below wr.heap.size wr w5 := by rw [hw5]; exact below_drewN (Below.refl _ _) _
                    have HRW5 := hid (owns_below HRW.out (hb5.trans (Below.refl _ _).drew))
                    have HBQ5 := hid (HBQ.out.trans ((hb5.trans (Below.refl _ _).drew).mono hwrq))
                    obtain ⟨s0, s1, s2⟩ := HBX.out w5 (HB.out.trans ((HBQ.out.trans (hb5.mono hwrq)).mono hWr))
                    have hwr5 : wo.heap.size ≤ w5.drew.heap.size := HBQ5.out.size
                    clear hw5 hb5
                    go_wp2_with fail
                    obtain ⟨S', hSd⟩ : ∃ S' : World → Prop, S' = fun V => V.cell? ⟨w.heap.size, 0, none⟩ = some (.int .i64 k) := ⟨_, rfl⟩
                    have HSO := hid (show ∀ V, S' V → V.cell? ⟨w.heap.size, 0, none⟩ = some (.int .i64 k) from fun V hV => by rw [hSd] at hV; exact hV)
                    have hS0 : S' w5.drew := by rw [hSd]; exact s0
                    have hS1' : S' (w5.drew.alloc (.cells #[.int .i64 E] 3)) := by
                      have h3 := ((Below.refl w5.drew.heap.size w5.drew).alloc (Nat.le_refl _) (.cells #[.int .i64 E] 3)).cell (p := ⟨w.heap.size, 0, none⟩) (by show w.heap.size < w5.drew.heap.size; omega)
                      rw [hSd]; exact h3.trans s0
                    have HSK := hid (show ∀ V, Below wo.heap.size w5.drew V → S' V from fun V hb => by
                      rw [hSd]; exact (hb.cell (p := ⟨w.heap.size, 0, none⟩) (by show w.heap.size < wo.heap.size; omega)).trans s0)
                    clear hSd
                    refine wp_region_T (S := S') 22 (by kernel_rfl) ?_
                    (refine wpAnyT_take (i := 0) (v := ?v0) rfl (by kernel_rfl) (by kernel_rfl) (by kernel_rfl) (by kernel_rfl) (fun _ _ _ h => h) (Or.inl ⟨by rfl, ?y0⟩) (by assumption) ?r0; case y0 => (intro V hSw; have hSw := HSO.out V hSw; go_split_ands; go_simp; first | done | with_reducible rfl); try simp only [Act.put, List.setIfInBounds_toArray, List.set_cons_zero, List.set_cons_succ])
                    (refine wpAnyT_take (i := 1) (v := ?v1) rfl (by kernel_rfl) (by kernel_rfl) (by kernel_rfl) (by kernel_rfl) (fun _ _ _ h => h) (Or.inl ⟨by rfl, ?y1⟩) (by assumption) ?r1; case y1 => (intro V hSw; have hSw := HSO.out V hSw; go_split_ands; go_simp; first | done | with_reducible rfl); try simp only [Act.put, List.setIfInBounds_toArray, List.set_cons_zero, List.set_cons_succ])
                    (refine wpAnyT_take (i := 2) (v := ?v2) rfl (by kernel_rfl) (by kernel_rfl) (by kernel_rfl) (by kernel_rfl) (fun _ _ _ h => h) (Or.inl ⟨by rfl, ?y2⟩) (by assumption) ?r2; case y2 => (intro V hSw; have hSw := HSO.out V hSw; go_split_ands; go_simp; first | done | with_reducible rfl); try simp only [Act.put, List.setIfInBounds_toArray, List.set_cons_zero, List.set_cons_succ])
                    (refine wpAnyT_take (i := 3) (v := ?v3) rfl (by kernel_rfl) (by kernel_rfl) (by kernel_rfl) (by kernel_rfl) (fun _ _ _ h => h) (Or.inl ⟨by rfl, ?y3⟩) (by assumption) ?r3; case y3 => (intro V hSw; have hSw := HSO.out V hSw; go_split_ands; go_simp; first | done | with_reducible rfl); try simp only [Act.put, List.setIfInBounds_toArray, List.set_cons_zero, List.set_cons_succ])
                    (refine wpAnyT_take (i := 4) (v := ?v4) rfl (by kernel_rfl) (by kernel_rfl) (by kernel_rfl) (by kernel_rfl) (fun _ _ _ h => h) (Or.inl ⟨by rfl, ?y4⟩) (by assumption) ?r4; case y4 => (intro V hSw; have hSw := HSO.out V hSw; go_split_ands; go_simp; first | done | with_reducible rfl); try simp only [Act.put, List.setIfInBounds_toArray, List.set_cons_zero, List.set_cons_succ])
                    (refine wpAnyT_take (i := 5) (v := ?v5) rfl (by kernel_rfl) (by kernel_rfl) (by kernel_rfl) (by kernel_rfl) (fun _ _ _ h => h) (Or.inl ⟨by rfl, ?y5⟩) (by assumption) ?r5; case y5 => (intro V hSw; have hSw := HSO.out V hSw; go_split_ands; go_simp; first | done | with_reducible rfl); try simp only [Act.put, List.setIfInBounds_toArray, List.set_cons_zero, List.set_cons_succ])
                    (refine wpAnyT_take (i := 6) (v := ?v6) rfl (by kernel_rfl) (by kernel_rfl) (by kernel_rfl) (by kernel_rfl) (fun _ _ _ h => h) (Or.inl ⟨by rfl, ?y6⟩) (by assumption) ?r6; case y6 => (intro V hSw; have hSw := HSO.out V hSw; go_split_ands; go_simp; first | done | with_reducible rfl); try simp only [Act.put, List.setIfInBounds_toArray, List.set_cons_zero, List.set_cons_succ])
                    (refine wpAnyT_take (i := 7) (v := ?v7) rfl (by kernel_rfl) (by kernel_rfl) (by kernel_rfl) (by kernel_rfl) (fun _ _ _ h => h) (Or.inl ⟨by rfl, ?y7⟩) (by assumption) ?r7; case y7 => (intro V hSw; have hSw := HSO.out V hSw; go_split_ands; go_simp; first | done | with_reducible rfl); try simp only [Act.put, List.setIfInBounds_toArray, List.set_cons_zero, List.set_cons_succ])
                    (refine wpAnyT_take (i := 8) (v := ?v8) rfl (by kernel_rfl) (by kernel_rfl) (by kernel_rfl) (by kernel_rfl) (fun _ _ _ h => h) (Or.inl ⟨by rfl, ?y8⟩) (by assumption) ?r8; case y8 => (intro V hSw; have hSw := HSO.out V hSw; go_split_ands; go_simp; first | done | with_reducible rfl); try simp only [Act.put, List.setIfInBounds_toArray, List.set_cons_zero, List.set_cons_succ])
                    (refine wpAnyT_take (i := 9) (v := ?v9) rfl (by kernel_rfl) (by kernel_rfl) (by kernel_rfl) (by kernel_rfl) (fun _ _ _ h => h) (Or.inl ⟨by rfl, ?y9⟩) (by assumption) ?r9; case y9 => (intro V hSw; have hSw := HSO.out V hSw; go_split_ands; go_simp; first | done | with_reducible rfl); try simp only [Act.put, List.setIfInBounds_toArray, List.set_cons_zero, List.set_cons_succ])
                    (refine wpAnyT_take (i := 10) (v := ?v10) rfl (by kernel_rfl) (by kernel_rfl) (by kernel_rfl) (by kernel_rfl) (fun _ _ _ h => h) (Or.inl ⟨by rfl, ?y10⟩) (by assumption) ?r10; case y10 => (intro V hSw; have hSw := HSO.out V hSw; go_split_ands; go_simp; first | done | with_reducible rfl); try simp only [Act.put, List.setIfInBounds_toArray, List.set_cons_zero, List.set_cons_succ])
                    (refine wpAnyT_take (i := 11) (v := ?v11) rfl (by kernel_rfl) (by kernel_rfl) (by kernel_rfl) (by kernel_rfl) (fun _ _ _ h => h) (Or.inl ⟨by rfl, ?y11⟩) (by assumption) ?r11; case y11 => (intro V hSw; have hSw := HSO.out V hSw; go_split_ands; go_simp; first | done | with_reducible rfl); try simp only [Act.put, List.setIfInBounds_toArray, List.set_cons_zero, List.set_cons_succ])
                    (refine wpAnyT_take (i := 12) (v := ?v12) rfl (by kernel_rfl) (by kernel_rfl) (by kernel_rfl) (by kernel_rfl) (fun _ _ _ h => h) (Or.inl ⟨by rfl, ?y12⟩) (by assumption) ?r12; case y12 => (intro V hSw; have hSw := HSO.out V hSw; go_split_ands; go_simp; first | done | with_reducible rfl); try simp only [Act.put, List.setIfInBounds_toArray, List.set_cons_zero, List.set_cons_succ])
                    (refine wpAnyT_take (i := 13) (v := ?v13) rfl (by kernel_rfl) (by kernel_rfl) (by kernel_rfl) (by kernel_rfl) (fun _ _ _ h => h) (Or.inl ⟨by rfl, ?y13⟩) (by assumption) ?r13; case y13 => (intro V hSw; have hSw := HSO.out V hSw; go_split_ands; go_simp; first | done | with_reducible rfl); try simp only [Act.put, List.setIfInBounds_toArray, List.set_cons_zero, List.set_cons_succ])
                    (refine wpAnyT_take (i := 14) (v := ?v14) rfl (by kernel_rfl) (by kernel_rfl) (by kernel_rfl) (by kernel_rfl) (fun _ _ _ h => h) (Or.inl ⟨by rfl, ?y14⟩) (by assumption) ?r14; case y14 => (intro V hSw; have hSw := HSO.out V hSw; go_split_ands; go_simp; first | done | with_reducible rfl); try simp only [Act.put, List.setIfInBounds_toArray, List.set_cons_zero, List.set_cons_succ])
                    (refine wpAnyT_take (i := 15) (v := ?v15) rfl (by kernel_rfl) (by kernel_rfl) (by kernel_rfl) (by kernel_rfl) (fun _ _ _ h => h) (Or.inl ⟨by rfl, ?y15⟩) (by assumption) ?r15; case y15 => (intro V hSw; have hSw := HSO.out V hSw; go_split_ands; go_simp; first | done | with_reducible rfl); try simp only [Act.put, List.setIfInBounds_toArray, List.set_cons_zero, List.set_cons_succ])
                    (refine wpAnyT_take (i := 16) (v := ?v16) rfl (by kernel_rfl) (by kernel_rfl) (by kernel_rfl) (by kernel_rfl) (fun _ _ _ h => h) (Or.inl ⟨by rfl, ?y16⟩) (by assumption) ?r16; case y16 => (intro V hSw; have hSw := HSO.out V hSw; go_split_ands; go_simp; first | done | with_reducible rfl); try simp only [Act.put, List.setIfInBounds_toArray, List.set_cons_zero, List.set_cons_succ])
                    (refine wpAnyT_take (i := 17) (v := ?v17) rfl (by kernel_rfl) (by kernel_rfl) (by kernel_rfl) (by kernel_rfl) (fun _ _ _ h => h) (Or.inl ⟨by rfl, ?y17⟩) (by assumption) ?r17; case y17 => (intro V hSw; have hSw := HSO.out V hSw; go_split_ands; go_simp; first | done | with_reducible rfl); try simp only [Act.put, List.setIfInBounds_toArray, List.set_cons_zero, List.set_cons_succ])
                    (refine wpAnyT_take (i := 18) (v := ?v18) rfl (by kernel_rfl) (by kernel_rfl) (by kernel_rfl) (by kernel_rfl) (fun _ _ _ h => h) (Or.inl ⟨by rfl, ?y18⟩) (by assumption) ?r18; case y18 => (intro V hSw; have hSw := HSO.out V hSw; go_split_ands; go_simp; first | done | with_reducible rfl); try simp only [Act.put, List.setIfInBounds_toArray, List.set_cons_zero, List.set_cons_succ])
                    (refine wpAnyT_take (i := 19) (v := ?v19) rfl (by kernel_rfl) (by kernel_rfl) (by kernel_rfl) (by kernel_rfl) (fun _ _ _ h => h) (Or.inl ⟨by rfl, ?y19⟩) (by assumption) ?r19; case y19 => (intro V hSw; have hSw := HSO.out V hSw; go_split_ands; go_simp; first | done | with_reducible rfl); try simp only [Act.put, List.setIfInBounds_toArray, List.set_cons_zero, List.set_cons_succ])
                    refine wpAnyT_step (i := 20) rfl (by kernel_rfl) (by decide) (fun K hK => ?_)
                    go_simp
                    refine hK.out _ _ hS1' ?_
                    clear hK K
                    try simp only [Act.put, List.setIfInBounds_toArray, List.set_cons_zero, List.set_cons_succ]
                    refine wpAnyT_step (i := 21) rfl (by kernel_rfl) (by decide) (fun K hK => ?_)
                    refine step_app2 (by rfl) _ _ 46 (by rfl) wo.heap.size 3 (.int .i64 0) 8 Tryd.underlying46 infoIntY rfl _ c (intVals ys) _ HRW5.out (by rfl) (by rfl) rfl (by omega) (by unfold maxLen; omega) HBQ5.out hwr5 ?_
                    intro v' w6 hown' hbel6 hgr'
                    refine hK.out _ _ (HSK.out _ ((Below.refl _ _).grown hgr' hwr5 (fun k hk => (HRW5.out.lt k hk).1))) ?_
                    clear hK K
                    try simp only [Act.put, List.setIfInBounds_toArray, List.set_cons_zero, List.set_cons_succ]
                    refine wpAnyT_last rfl (by kernel_rfl) (by kernel_rfl) (fun K hK => ?_)
                    go_simp
                    refine hK.out _ _ ?_
                    clear hK K
                    obtain ⟨g6, c6, rfl, _, _⟩ := own_form hown' (by omega)
                    go_wp2
                    go_roundw
                    case rel => exact ⟨z + 1, c + 1, g6, c6, ys ++ [(E : Int)], by omega, by go_num, rfl, hid (by rw [HIN2.out, ← List.append_assoc, ← HY.out]), hid (by rw [List.length_append, ← HC.out]; rfl), hid (by simpa [intVals] using hown'), hid hbel6⟩
                    case measure => simp [intOf]; omega
                  · have hge' : ((o[A].toNat : Int) == (o[B].toNat : Int)) = false := by simp; omega
                    have HI2 := HIN.out
                    rw [if_neg (fun h => hge (HGE.out.1 h)), List.append_nil] at HI2
                    have HIN2 := hid HI2
                    clear HI2 HIN HGE
                    go_wp2
                    go_quiet (fail)
                    go_wp2
                    go_roundw
                    case rel => exact ⟨z + 1, c, g, cg, ys, by omega, by go_num, rfl, hid (by rw [HIN2.out]; exact HY.out), HC, hid (owns_below HRW.out (below_drewN (Below.refl _ _) _)), hid (HBQ.out.trans ((below_drewN (Below.refl _ _) _).mono hwrq))⟩
                    case measure => simp [intOf]; omega
                · obtain rfl : z = k := by omega
                  go_wp2
                  go_roundw
                  case rel => exact ⟨x + 1, c, g, cg, ys, by omega, by go_num, rfl, HY, HC, HRW, HBQ⟩
                  case measure => simp [intOf]; omega
            · obtain rfl : x = k := by omega
              have hpp := idx_bound (k := S) (P := S * S) rfl hlt hlty
              have hSS : S * S ≤ 81 := Nat.mul_le_mul hS9 hS9
              have hP := HP.out
              have hp80 : p + 1 ≤ 81 := by omega
              have hg0 : wo.heap.size ≤ g := (HRW.out.lt g rfl).1
              have hRWc := HRW.out
              have HCc := HC
              rw [HC.out] at hRWc
              have HOQ := hid (owns_below HOW.out HBQ.out)
              have HTQ := hid (HT.out.moreAt (below_none HBQ.out) hg0 (owns_base hRWc hWr))
              have HBW := hid (HB.out.trans (HBQ.out.mono hWr))
              have hwq : (w.heap.size + 1) ≤ wr.heap.size := Nat.le_trans hWr HBQ.out.size
              have HRR := hid (show stepRows o x S (p + 1) = stepRows o x S p ++ [ys] by rw [stepRows_succ, hP, stepRow_at o x hlty, HY.out])
              clear hRWc hpp hP
              go_wp2_with (first | (at_builtin; go_must (refine wpList_appg rfl _ _ 39 rfl (w.heap.size + 1) 46 (.slice none 0 0) 24 Tryd.underlying39 infoIntsY rfl _ p vs _ HOQ.out rfl rfl rfl (by omega) (by unfold maxLen; omega) hwq ?_); intro v' w4 hown' hgr'))
              go_roundw
              case rel => exact ⟨y + 1, p + 1, vs ++ [.slice (some ⟨g, 0, none⟩) c cg], by omega, by go_num, hid (by rw [HP.out]; omega), hp80, hid hown', hid (by have := HTQ.out.kept HOQ.out (by decide) hgr'; rw [← HC.out] at this; rw [HRR.out]; exact this), hid (HBW.out.grown hgr' hwq (fun k hk => (HOQ.out.lt k hk).1))⟩
              case measure => simp [intOf]; omega
        · obtain rfl : y = S := by omega
          go_wp2
          go_roundw
          case rel => exact ⟨u + 1, p, vs, by omega, by go_num, hid (by rw [HP.out, Nat.succ_mul]), hp, HOW, HT, HB⟩
          case measure => simp [intOf]; omega
    · obtain rfl : u = S := by omega
      obtain ⟨a9, c9, rfl, _⟩ := owns_rowAt HOW.out (by omega)
      go_wp2
      go_ret
      exact ⟨_, rfl, TGrid.base (base := (w.heap.size + 1)) ⟨vs, by rw [stepRows_len, ← HP.out]; exact HOW.out, by rw [← HP.out]; exact HT.out⟩ (by omega), ((Below.refl _ _).alloc (Nat.le_refl _) _).trans (HB.out.mono (by omega))⟩
end Go.Proofs.YtcmmlldincflkaaDoor
