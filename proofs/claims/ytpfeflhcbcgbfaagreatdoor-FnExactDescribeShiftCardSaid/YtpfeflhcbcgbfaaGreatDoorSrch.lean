/- The search for the shortest word without a source: sets of ends, letters in order. Plain law. No condition. -/
import Derived.Test.YtpfeflhcbcgbfaaGreatDoorNumber
import Derived.Test.YtpfeflhcbcgbfaaGreatDoorZero
import Derived.Test.YtpfeflhcbcgbfaaGreatDoorStep
import Derived.Test.YtpfeflhcbcgbfaaGreatDoorIntsIn
namespace Go.Proofs.YtpfeflhcbcgbfaaGreatDoor
open Go.RowKit

/-- The letter number x. -/
def letB (x : Nat) : UInt8 := UInt8.ofNat (97 + x)
theorem letB_nat {x : Nat} (h : x < 100) : ((letB x).toNat : Int) = 97 + (x : Int) := by unfold letB; simp [UInt8.toNat_ofNat']; omega
/-- The word of n letters with an index. -/
def wAt (k : Nat) : Nat → Nat → List UInt8 | 0, _ => [] | n + 1, x => wAt k n (x / k) ++ [letB (x % k)]
theorem wAt_len (k : Nat) : ∀ n x, (wAt k n x).length = n
  | 0, _ => rfl
  | n + 1, x => by simp [wAt, wAt_len k n]
theorem infoU8b : (Tryz.prog.info? 5).map (fun i => (i.zero, i.size, i.bytes)) = some (some (.int .u8 0), 1, 1) := by kernel_rfl
theorem infoStr3 : (Tryz.prog.info? 9).map (fun i => (i.zero, i.size, i.bytes)) = some (some (.string ByteArray.empty), 1, 16) := by kernel_rfl
theorem set_zero (d : Nat) (S : List Value) (z u : Value) : (List.replicate (d + 1) z ++ S).set d u = List.replicate d z ++ u :: S := by
  rw [List.replicate_succ', List.append_assoc, List.set_append_right _ _ (by simp)]
  simp
theorem byteVals_cons (c : UInt8) (l : List UInt8) : byteVals (c :: l) = .int .u8 (c.toNat : Int) :: byteVals l := rfl

set_option maxHeartbeats 1000000 in
theorem wordAt_c (k n x0 : Nat) (w : World) (hk : 1 ≤ k ∧ k ≤ 3) (hn : n ≤ 16) (hx : x0 ≤ 1048576) :
    Calls Tryz.prog 151 #[.int .i64 k, .int .i64 n, .int .i64 x0] w fun e w' => e = .returned (.string ⟨(wAt k n x0).toArray⟩) ∧ Below w.heap.size w w' := by
  obtain ⟨hk1, hk3⟩ := hk
  obtain ⟨i, hi, hz, hz1, hz2⟩ := info_parts infoU8b
  go_enter Tryz.func151, Tryz.ntmps151
  go_wp2_with (first | (at_make; refine wpList_make_full _ rfl _ _ 71 rfl w.heap.size 5 i (.int .u8 0) 1 Tryz.underlying71 hi hz hz1 .i64 .i64 _ _ n rfl rfl rfl rfl (by rw [hz2]; omega) (by unfold maxLen; omega) (Nat.le_refl _) ?_; intro w1 hown1 hgr1))
  have hb1 : Below w.heap.size w w1 := (Below.refl _ _).grown hgr1 (Nat.le_refl _) (by intro k h; cases h)
  rw [show (madeCells (Value.int .u8 0).cells (n * 1)).toList = List.replicate n (.int .u8 0) by rw [Nat.mul_one]; exact toList_madeCells_one _ _] at hown1
  clear hgr1
  go_loopw [2, 8] (fun x i wr => ∃ (d y : Nat) (suf : List UInt8), d ≤ n ∧ i = .int .i64 ((d : Int) - 1) ∧ x = .int .i64 y ∧ y ≤ x0 ∧ Hid (wAt k n x0 = wAt k d y ++ suf) ∧ wr.ownsRow w.heap.size 5 1 (.slice (some ⟨w.heap.size, 0, none⟩) n n) n (List.replicate d (.int .u8 0) ++ byteVals suf) ∧ Below w.heap.size w wr) (fun _ i _ => (intOf i + 1).toNat)
  case atStart => exact ⟨n, x0, [], by omega, by go_num, rfl, by omega, by show _ = _; simp, by simpa [byteVals] using hown1, hb1⟩
  case round =>
    obtain ⟨d, y, suf, hd, rfl, rfl, hy, HW, hown, hbel⟩ := hrel
    by_cases hlt : 0 < d
    · obtain ⟨d', rfl⟩ : ∃ d', d = d' + 1 := ⟨d - 1, by omega⟩
      have hdd : ((d' + 1 : Nat) : Int) - 1 = (d' : Int) := by omega
      have hym : y % k < k := Nat.mod_lt _ (by omega)
      have hyk : y / k ≤ y := Nat.div_le_self _ _
      obtain ⟨u, hu⟩ := get_some (l := List.replicate (d' + 1) (Value.int .u8 0) ++ byteVals suf) (n := d') (by simp; omega)
      have hcell : wr.cell? ⟨w.heap.size, d', none⟩ = some u := (hown.cellAt d' (by omega)).trans hu
      clear hu
      have hfr := hown.frozenAt d'
      obtain ⟨q, hq⟩ : ∃ q, q = y % k := ⟨_, rfl⟩
      have hqi : (y : Int) % (k : Int) = (q : Int) := by rw [hq]; omega
      have hq3 : q < 3 := by omega
      have HQ := hid hq
      clear hq hym
      obtain ⟨r, hr⟩ : ∃ r, r = y / k := ⟨_, rfl⟩
      have hri : (y : Int) / (k : Int) = (r : Int) := by rw [hr]; omega
      rw [← hr] at hyk
      have HWW := hid (show wAt k n x0 = wAt k d' r ++ (letB q :: suf) by rw [HW.out, wAt, HQ.out, hr, List.append_assoc]; rfl)
      clear hr
      go_wp2
      go_roundw
      case rel =>
        have hst := hown.stored d' (.int .u8 (97 + (q : Int)))
        rw [set_zero, ← letB_nat (show q < 100 by omega), ← byteVals_cons] at hst
        rw [← letB_nat (show q < 100 by omega)]
        exact ⟨d', r, letB q :: suf, by omega, by go_num, by go_num, by omega, HWW.out, hst.1, hbel.setCell (Nat.le_refl _) _⟩
      case measure => first | (simp [intOf]; done) | (simp [intOf]; omega)
    · obtain rfl : d = 0 := by omega
      have HF := hid (show wAt k n x0 = suf by rw [HW.out]; rfl)
      obtain ⟨ad, c, hv, hrow⟩ := owns_rowAt hown (by omega)
      simp only [Value.slice.injEq, true_and] at hv
      obtain ⟨rfl, rfl⟩ := hv
      simp only [List.replicate_zero, List.nil_append] at hrow
      go_wp2_with (with_reducible refine wpList_convs rfl _ 71 9 5 rfl Tryz.underlying71 Tryz.underlying5 Tryz.underlying9 _ n _ suf rfl hrow ?_)
      go_ret
      exact ⟨ret_str (by rw [HF.out]), hbel⟩

/-- The index of a word. -/
def idxOf (k : Nat) (l : List UInt8) : Nat := l.foldl (fun a c => a * k + (c.toNat - 97)) 0
theorem idxOf_take {k : Nat} {l : List UInt8} {j : Nat} {c : UInt8} (h : l[j]? = some c) : idxOf k (l.take (j + 1)) = idxOf k (l.take j) * k + (c.toNat - 97) := by
  rw [List.take_add_one, h]; simp [idxOf, List.foldl_append]
theorem idxOf_lt {k : Nat} {l : List UInt8} (hl : lets k l = true) (hk : k ≤ 3) : ∀ j, j ≤ l.length → idxOf k (l.take j) < k ^ j
  | 0, _ => by simp [idxOf]
  | j + 1, h => by
    obtain ⟨c, hc⟩ := get_some (l := l) (n := j) (by omega)
    have ih := idxOf_lt hl hk j (by omega)
    have h1 := List.all_eq_true.1 hl c (List.mem_of_getElem? hc)
    rw [inB_iff] at h1
    rw [idxOf_take hc, Nat.pow_succ]
    have h2 : (idxOf k (l.take j) + 1) * k ≤ k ^ j * k := Nat.mul_le_mul_right _ ih
    rw [Nat.add_mul] at h2
    omega

end Go.Proofs.YtpfeflhcbcgbfaaGreatDoor
namespace Go.Proofs.YtpfeflhcbcgbfaaGreatDoor
open Go.RowKit

/-- The first m words of n letters. -/
def wdB (k n i : Nat) : ByteArray := ⟨(wAt k n i).toArray⟩
def wds (k n m : Nat) : List ByteArray := (List.range m).map (wdB k n)
theorem wds_len (k n m : Nat) : (wds k n m).length = m := by simp [wds]
theorem wds_succ (k n m : Nat) : strVals (wds k n (m + 1)) = strVals (wds k n m) ++ [.string (wdB k n m)] := by simp [wds, strVals, List.range_succ]
theorem wds_get {k n m i : Nat} (h : i < m) : (wds k n m)[i]? = some (wdB k n i) := by simp [wds, h]
theorem wdB_list (k n i : Nat) : (wdB k n i).data.toList = wAt k n i := rfl
theorem wdB_size (k n i : Nat) : (wdB k n i).size = n := by
  simp [wdB, ByteArray.size, wAt_len]
theorem wAt_next {k n j x : Nat} (hx : x < k) : wAt k (n + 1) (j * k + x) = wAt k n j ++ [letB x] := by
  have h1 : (j * k + x) / k = j := by rw [Nat.add_comm, Nat.add_mul_div_right _ _ (by omega), Nat.div_eq_of_lt hx, Nat.zero_add]
  have h2 : (j * k + x) % k = x := by rw [Nat.add_comm, Nat.add_mul_mod_self_right, Nat.mod_eq_of_lt hx]
  rw [wAt, h1, h2]
theorem wdB_next {k n j x : Nat} (hx : x < k) : wdB k (n + 1) (j * k + x) = wdB k n j ++ ⟨#[letB x]⟩ := by
  unfold wdB
  rw [wAt_next hx, show (ByteArray.mk #[letB x]) = ⟨[letB x].toArray⟩ from rfl, ByteArray.mk_append_mk]
  first | done | simp
theorem wAt_lets {k : Nat} (hk : 1 ≤ k ∧ k ≤ 3) : ∀ n x, lets k (wAt k n x) = true
  | 0, _ => rfl
  | n + 1, x => by
    unfold wAt lets
    rw [List.all_append, show (wAt k n (x / k)).all (fun c => inB ((c.toNat : Int) - 97) 0 ((k : Int) - 1)) = true from wAt_lets hk n (x / k)]
    have h : x % k < k := Nat.mod_lt _ (by omega)
    have h2 := letB_nat (show x % k < 100 by omega)
    simp only [List.all_cons, List.all_nil, Bool.and_true, Bool.true_and]
    rw [inB_iff, h2]; omega
theorem pow_small {k n : Nat} (hk : k ≤ 3) (hn : n ≤ 8) : k ^ n ≤ 6561 := by
  have h1 := Nat.pow_le_pow_left hk n
  have h2 := Nat.pow_le_pow_right (n := 3) (by decide) hn
  have e : 3 ^ 8 = 6561 := by decide
  omega
/-- A slice of all words. -/
def WordsPost (k n : Nat) (w : World) (e : Ending) (w' : World) : Prop := ∃ v, e = .returned v ∧ w'.ownsRow w.heap.size 9 1 v (k ^ n) (strVals (wds k n (k ^ n))) ∧ Below w.heap.size w w'

set_option maxHeartbeats 1000000 in
theorem impl_powB_c (k n : Nat) (hk : k ≤ 3) (hn : n ≤ 8) (w : World) :
    Calls Tryz.prog 150 #[.int .i64 k, .int .i64 n] w fun e w' => e = .returned (.int .i64 ((k ^ n : Nat) : Int)) ∧ w = w' := by
  go_enter Tryz.func150, Tryz.ntmps150
  go_wp2
  go_loop [5, 7] (fun o i => ∃ j q : Nat, j ≤ n ∧ i = .int .i64 j ∧ o = .int .i64 q ∧ Hid (q = k ^ j)) (fun _ i => n - (intOf i).toNat)
  case atStart => exact ⟨0, 1, by omega, rfl, rfl, rfl⟩
  case round =>
    obtain ⟨j, q, hj, rfl, rfl, H⟩ := hrel
    by_cases hlt : j < n
    · have hq1 := pow_small hk (show j ≤ 8 by omega)
      have hq2 := pow_small hk (show j + 1 ≤ 8 by omega)
      rw [Nat.pow_succ, ← H.out] at hq2
      rw [← H.out] at hq1
      have hmul : (0 : Int) ≤ (q : Int) * k ∧ (q : Int) * k ≤ 6561 := by
        have : ((q * k : Nat) : Int) ≤ 6561 := by omega
        rw [Int.natCast_mul] at this
        exact ⟨by rw [← Int.natCast_mul]; omega, this⟩
      go_wp2
      go_round
      case rel => exact ⟨j + 1, q * k, by omega, by go_num, by go_num, by show _ = _; rw [H.out, Nat.pow_succ]⟩
      case measure => simp [intOf]; omega
    · obtain rfl : j = n := by omega
      go_wp2
      go_ret
      exact ⟨ret_int (by rw [H.out]; first | done | simp), rfl⟩

set_option maxHeartbeats 1000000 in
theorem impl_wordsOf_c (k n : Nat) (w : World) (hk : 1 ≤ k ∧ k ≤ 3) (hn : n ≤ 8) :
    Calls Tryz.prog 118 #[.int .i64 k, .int .i64 n] w (WordsPost k n w) := by
  have hps := pow_small hk.2 hn
  obtain ⟨m, hm⟩ : ∃ m, m = k ^ n := ⟨_, rfl⟩
  have HM := hid hm
  rw [← hm] at hps
  have HK := hid hk
  have HN := hid hn
  have HPW := hid (fun w : World => impl_powB_c k n hk.2 hn w)
  rw [← hm] at HPW
  clear hm hk hn
  go_enter Tryz.func118, Tryz.ntmps118
  go_wp2_with fail
  refine (HPW.out _).mono ?_
  rintro e w' ⟨rfl, rfl⟩
  go_wp2
  go_loopw [5, 11] (fun v i wr => ∃ j : Nat, j ≤ m ∧ i = .int .i64 j ∧ wr.ownsRow w.heap.size 9 1 v j (strVals (wds k n j)) ∧ Below w.heap.size w wr) (fun _ i _ => m - (intOf i).toNat)
  case atStart => exact ⟨0, by omega, rfl, owns_lit3 #[] _ rfl (Nat.le_refl _) (by unfold maxLen; simp), (Below.refl _ _).alloc (Nat.le_refl _) _⟩
  case round =>
    obtain ⟨j, hj, rfl, hown, hbel⟩ := hrel
    by_cases hlt : j < m
    · go_wp2_with fail
      refine (wordAt_c k n j _ HK.out (by have := HN.out; omega) (by omega)).mono ?_
      rintro e w1 ⟨rfl, hb1⟩
      have hown1 := owns_below hown hb1
      have hbel1 := hbel.trans (hb1.mono hbel.size)
      go_wp2_with (first | (at_builtin; go_must (refine wpList_app1 rfl _ _ 22 rfl w.heap.size 9 (.string ByteArray.empty) 16 Tryz.underlying22 infoStr3 rfl _ j (strVals (wds k n j)) _ hown1 rfl rfl rfl (by omega) (by unfold maxLen; omega) hbel1 hbel1.size ?_); intro v' w2 hown' hbel'))
      go_roundw
      case rel => exact ⟨j + 1, by omega, by go_num, by rw [wds_succ]; exact hown', hbel'⟩
      case measure => simp [intOf]; omega
    · obtain rfl : j = m := by omega
      go_wp2
      go_ret
      exact ⟨_, rfl, by rw [← HM.out]; exact hown, hbel⟩

theorem abc_at {x : Nat} (h : x < 3) : (ByteArray.mk #[97, 98, 99]).extract x (x + 1) = ⟨#[letB x]⟩ := by
  have : x = 0 ∨ x = 1 ∨ x = 2 := by omega
  rcases this with rfl | rfl | rfl <;> rfl
set_option maxHeartbeats 2000000 in
set_option maxRecDepth 100000 in
theorem spec_l2All_c (k n : Nat) (w : World) (hk : 1 ≤ k ∧ k ≤ 3) (hn : n ≤ 8) :
    Calls Tryz.prog 62 #[.int .i64 k, .int .i64 n] w (WordsPost k n w) := by
  obtain ⟨hk1, hk3⟩ := hk
  go_enter Tryz.func62, Tryz.ntmps62
  go_wp2
  go_loopw [5, 6] (fun v i wr => ∃ (ii : Nat) (v5 : Value), ii ≤ n ∧ i = .int .i64 ii ∧ v = v5 ∧ wr.ownsRow w.heap.size 9 1 v5 (k ^ ii) (strVals (wds k ii (k ^ ii))) ∧ Below w.heap.size w wr) (fun _ i _ => n - (intOf i).toNat)
  case atStart => exact ⟨0, _, by omega, rfl, rfl, owns_lit3 #[.string ⟨#[]⟩] _ rfl (Nat.le_refl _) (by unfold maxLen; simp), (Below.refl _ _).alloc (Nat.le_refl _) _⟩
  case round =>
    obtain ⟨ii, v5, hi, rfl, rfl, hown, hbel⟩ := hrel
    have hps := pow_small hk3 (show ii ≤ 8 by omega)
    obtain ⟨m, hm⟩ : ∃ m, m = k ^ ii := ⟨_, rfl⟩
    rw [← hm] at hown hps
    have HM := hid hm
    have hm1 : 1 ≤ m := by rw [hm]; exact Nat.one_le_pow _ _ (by omega)
    obtain ⟨a5, c5, rfl, hr5⟩ := owns_rowAt hown (by omega)
    have HOWN := hid hown
    clear hm hown
    by_cases hlt : ii < n
    · obtain ⟨b5, o5, rfl, hb5, hcl5⟩ := hr5.at_ (by omega)
      have HC5 := hid hcl5
      have HPS2 := hid (show m * k = k ^ (ii + 1) by rw [HM.out, Nat.pow_succ])
      have hmk : m * k ≤ 19683 := by have := Nat.mul_le_mul hps hk3; omega
      clear hcl5 hr5
      obtain ⟨wo, rfl⟩ : ∃ wo : World, wo = wr := ⟨_, rfl⟩
      go_wp2
      go_loopw [7, 8] (fun v i wr => ∃ jj : Nat, jj ≤ m ∧ i = .int .i64 jj ∧ wr.ownsRow wo.heap.size 9 1 v (jj * k) (strVals (wds k (ii + 1) (jj * k))) ∧ Below wo.heap.size wo wr) (fun _ i _ => m - (intOf i).toNat)
      case atStart => exact ⟨0, by omega, rfl, by rw [Nat.zero_mul]; exact owns_lit3 #[] _ rfl (Nat.le_refl _) (by unfold maxLen; simp), (Below.refl _ _).alloc (Nat.le_refl _) _⟩
      case round =>
        obtain ⟨jj, hj, rfl, hownj, hbelj⟩ := hrel
        have HJ := hid hownj
        clear hownj
        by_cases hltj : jj < m
        · have hjk : jj * k + k ≤ m * k := by have := Nat.mul_le_mul_right k (show jj + 1 ≤ m from hltj); rw [Nat.add_mul] at this; omega
          have hcell0 := HC5.out jj _ (strVals_get (wds_get hltj))
          have HCL := hid hcell0
          clear hcell0
          go_wp2
          go_loopw [7, 9] (fun v i wr => ∃ x : Nat, x ≤ k ∧ i = .int .i64 x ∧ wr.ownsRow wo.heap.size 9 1 v (jj * k + x) (strVals (wds k (ii + 1) (jj * k + x))) ∧ Below wo.heap.size wo wr) (fun _ i _ => k - (intOf i).toNat)
          case atStart => exact ⟨0, by omega, rfl, HJ.out, hbelj⟩
          case round =>
            obtain ⟨x, hx, rfl, hownx, hbelx⟩ := hrel
            by_cases hltx : x < k
            · have hcell := (hbelx.cell (p := ⟨b5, o5 + jj, none⟩) hb5).trans HCL.out
              have hx3 : x < 3 := by omega
              have hex := abc_at hx3
              have hw1 : IntKind.i64.wrap ((x : Int) + 1) = (x : Int) + 1 := IntWalk.i64_in _ (by omega)
              have hw2 : ((x : Int) + 1).toNat = x + 1 := by omega
              have hb1 : (x : Int) ≤ (x : Int) + 1 := by omega
              have hb2 : (x : Int) + 1 ≤ 3 := by omega
              obtain ⟨y, hy⟩ : ∃ y, y = jj * k + x := ⟨_, rfl⟩
              have hy2 : y ≤ 19683 := by omega
              rw [← hy] at hownx
              have HST := hid (show wdB k ii jj ++ ⟨#[letB x]⟩ = wdB k (ii + 1) y by rw [hy, wdB_next hltx])
              have HY := hid hy
              obtain ⟨u, hu⟩ : ∃ u, u = wdB k ii jj := ⟨_, rfl⟩
              rw [← hu] at hcell HST
              have huz : ¬ (9223372036854775807 < u.size + 1) := by rw [hu, wdB_size]; omega
              have hB0 := hbelx.size
              have HCC := hid HCL.out
              rw [← hu] at HCC
              clear hy hu
              go_wp2
              go_region_held3 (fun W => W.cell? ⟨b5, o5 + jj, none⟩ = some (.string u)) (first | go_keep | exact (hbel'.cell (p := ⟨b5, o5 + jj, none⟩) hb5).trans HCC.out)
                ((refine step_app1 (by rfl) _ _ 22 (by rfl) wo.heap.size 9 (.string ByteArray.empty) 16 Tryz.underlying22 infoStr3 rfl _ y (strVals (wds k (ii + 1) y)) _ hownx (by rfl) (by rfl) rfl (by omega) (by unfold maxLen; omega) hbelx hB0 ?_; intro v' w3 hown' hbel' hgr'))
              go_wp2
              go_roundw
              case rel => exact ⟨x + 1, by omega, by go_num, by rw [← Nat.add_assoc, ← HY.out, wds_succ, ← HST.out]; exact hown', hbel'⟩
              case measure => simp [intOf]; omega
            · obtain rfl : x = k := by omega
              have HX := hid hownx
              clear hownx
              go_wp2
              go_roundw
              case rel => exact ⟨jj + 1, by omega, by go_num, by rw [Nat.add_mul, Nat.one_mul]; exact HX.out, hbelx⟩
              case measure => simp [intOf]; omega
        · obtain rfl : jj = m := by omega
          go_wp2
          go_roundw
          case rel => exact ⟨ii + 1, _, by omega, by go_num, rfl, by rw [← HPS2.out]; exact owns_base HJ.out hbel.size, hbel.trans (hbelj.mono hbel.size)⟩
          case measure => simp [intOf]; omega
    · obtain rfl : ii = n := by omega
      go_wp2
      go_ret
      exact ⟨_, rfl, by rw [← HM.out]; exact HOWN.out, hbel⟩
end Go.Proofs.YtpfeflhcbcgbfaaGreatDoor
namespace Go.Proofs.YtpfeflhcbcgbfaaGreatDoor
open Go.ChangeShapes Go.WideShapes Go.ChangeAt Go.RowKit
open Go.ChangeMaps (open_string shut_string)

/-- A code that came in. -/
def CodeIn (v : Value) : Prop := ∃ k n o, v = .agg #[.int .i64 k, .int .i64 n, .string o] ∧ o.size ≤ maxLen

end Go.Proofs.YtpfeflhcbcgbfaaGreatDoor
namespace Go.Proofs.YtpfeflhcbcgbfaaGreatDoor
open Go.RowKit

def giveB (o : ByteArray) (q : Nat) : UInt8 := o.data.toList.getD q 0
theorem giveB_at {o : ByteArray} {q : Nat} (h : q < o.size) : giveB o q = o[q] := by
  unfold giveB; rw [List.getD_eq_getElem?_getD, byte_at o q h]; rfl
theorem one_ext {o : ByteArray} {q : Nat} (h : q < o.size) : o.extract q (q + 1) = ⟨#[giveB o q]⟩ := by
  rw [giveB_at h]
  have h' : q < o.data.size := h
  apply ByteArray.ext
  rw [ByteArray.data_extract]
  apply Array.ext
  · simp; omega
  · intro i h1 h2
    have hi : i = 0 := by simp at h2; omega
    subst hi
    simp
    rfl
theorem idx_bd {k : Nat} {l : List UInt8} (hl : lets k l = true) (hk : k ≤ 3) : idxOf k l < k ^ l.length := by
  have := idxOf_lt hl hk l.length (Nat.le_refl _)
  rwa [List.take_length] at this

/-- What a code is, as facts. -/
theorem code_facts {k n : Int} {o : ByteArray} (h : isCode k n o = true) : ∃ kk nn : Nat, k = kk ∧ n = nn ∧ (kk = 2 ∨ kk = 3) ∧ (1 ≤ nn ∧ nn ≤ 4) ∧ kk ^ nn ≤ 27 ∧ o.size = kk ^ nn ∧ lets kk o.data.toList = true := by
  simp only [isCode, Bool.and_eq_true, decide_eq_true_eq] at h
  obtain ⟨⟨h1, h2, h3, h4⟩, h5⟩ := h
  obtain ⟨kk, rfl⟩ : ∃ kk : Nat, k = kk := ⟨k.toNat, by omega⟩
  obtain ⟨nn, rfl⟩ : ∃ nn : Nat, n = nn := ⟨n.toNat, by omega⟩
  rw [Int.toNat_natCast, Int.toNat_natCast] at h3 h4
  exact ⟨kk, nn, rfl, rfl, by omega, by omega, h3, h4, h5⟩

end Go.Proofs.YtpfeflhcbcgbfaaGreatDoor
namespace Go.Proofs.YtpfeflhcbcgbfaaGreatDoor
open Go.RowKit

/-- One place of the search: the letters below a tried; what is found, and the list of sets with their words. -/
def srchIn (st : Nat → Nat → Nat) (p : Nat × List UInt8) (xs : List (Nat × List UInt8)) : Nat → Option (List UInt8) × List (Nat × List UInt8)
  | 0 => (none, xs)
  | a + 1 => match srchIn st p xs a with
    | (some r, ys) => (some r, ys)
    | (none, ys) => if st p.1 a = 0 then (some (p.2 ++ [letB a]), ys) else if st p.1 a ∈ ys.map (·.1) then (none, ys) else (none, ys ++ [(st p.1 a, p.2 ++ [letB a])])
/-- The search through the first k places. -/
def srchTo (st : Nat → Nat → Nat) (K full : Nat) : Nat → Option (List UInt8) × List (Nat × List UInt8)
  | 0 => (none, [(full, [])])
  | k + 1 => match srchTo st K full k with
    | (some r, ys) => (some r, ys)
    | (none, ys) => match ys[k]? with
      | some p => srchIn st p ys K
      | none => (none, ys)
/-- The set that a word leads to. -/
def reachW (st : Nat → Nat → Nat) (full : Nat) (w : List UInt8) : Nat := w.foldl (fun s c => st s (c.toNat - 97)) full
theorem reachW_snoc (st : Nat → Nat → Nat) (full : Nat) (w : List UInt8) (c : UInt8) : reachW st full (w ++ [c]) = st (reachW st full w) (c.toNat - 97) := by simp [reachW]
theorem letB_sub {a : Nat} (h : a < 100) : (letB a).toNat - 97 = a := by unfold letB; rw [UInt8.toNat_ofNat']; omega
/-- What holds of a list of sets with their words: each set is what its word leads to, none is empty, the sets are different. -/
structure SrchOk (st : Nat → Nat → Nat) (K full : Nat) (ys : List (Nat × List UInt8)) : Prop where
  reach : ∀ p ∈ ys, reachW st full p.2 = p.1 ∧ p.1 ≠ 0 ∧ ∀ c ∈ p.2, ∃ a, a < K ∧ c = letB a
  new : (ys.map (·.1)).Nodup
  start : (full, []) ∈ ys
theorem srchIn_ok {st : Nat → Nat → Nat} {K full : Nat} (hK : K ≤ 3) {p : Nat × List UInt8} {xs : List (Nat × List UInt8)} (h : SrchOk st K full xs) (hp : p ∈ xs) :
    ∀ a, a ≤ K → match srchIn st p xs a with
      | (some r, _) => reachW st full r = 0 ∧ ∀ c ∈ r, ∃ a, a < K ∧ c = letB a
      | (none, ys) => SrchOk st K full ys ∧ (∃ zs, ys = xs ++ zs) ∧ ∀ b, b < a → st p.1 b ≠ 0 ∧ st p.1 b ∈ ys.map (·.1)
  | 0, _ => ⟨h, ⟨[], by simp⟩, fun b hb => by omega⟩
  | a + 1, ha => by
    have ih := srchIn_ok hK h hp a (by omega)
    unfold srchIn
    cases hs : srchIn st p xs a with
    | mk f ys =>
      rw [hs] at ih
      cases f with
      | some r => exact ih
      | none =>
        obtain ⟨h1, ⟨zs, hz⟩, h3⟩ := ih
        have hpy : p ∈ ys := by rw [hz]; exact List.mem_append_left _ hp
        have hr := h1.reach p hpy
        have hstep : reachW st full (p.2 ++ [letB a]) = st p.1 a := by rw [reachW_snoc, hr.1, letB_sub (by omega)]
        have hlet : ∀ c ∈ p.2 ++ [letB a], ∃ b, b < K ∧ c = letB b := fun c hc => by
          rcases List.mem_append.1 hc with hc | hc
          · exact hr.2.2 c hc
          · exact ⟨a, by omega, by simpa using hc⟩
        simp only
        by_cases h0 : st p.1 a = 0
        · rw [if_pos h0]
          exact ⟨by rw [hstep, h0], hlet⟩
        · rw [if_neg h0]
          by_cases hm : st p.1 a ∈ ys.map (·.1)
          · rw [if_pos hm]
            refine ⟨h1, ⟨zs, hz⟩, fun b hb => ?_⟩
            by_cases hba : b = a
            · rw [hba]; exact ⟨h0, hm⟩
            · exact h3 b (by omega)
          · rw [if_neg hm]
            refine ⟨⟨fun q hq => ?_, ?_, List.mem_append_left _ h1.start⟩, ⟨zs ++ [(st p.1 a, p.2 ++ [letB a])], by rw [hz, List.append_assoc]⟩, fun b hb => ?_⟩
            · rcases List.mem_append.1 hq with hq | hq
              · exact h1.reach q hq
              · simp at hq
                subst hq
                exact ⟨hstep, h0, hlet⟩
            · rw [List.map_append, List.nodup_append]
              refine ⟨h1.new, by simp, fun x hx y hy => ?_⟩
              simp at hy
              subst hy
              exact fun e => hm (e ▸ hx)
            · by_cases hba : b = a
              · rw [hba]; exact ⟨h0, by simp⟩
              · have := h3 b (by omega)
                exact ⟨this.1, by rw [List.map_append]; exact List.mem_append_left _ this.2⟩
theorem srchTo_ok {st : Nat → Nat → Nat} {K full : Nat} (hK : K ≤ 3) (hf : full ≠ 0) : ∀ k, match srchTo st K full k with
      | (some r, _) => reachW st full r = 0 ∧ ∀ c ∈ r, ∃ a, a < K ∧ c = letB a
      | (none, ys) => SrchOk st K full ys ∧ ∀ q, q < k → ∀ p, ys[q]? = some p → ∀ b, b < K → st p.1 b ≠ 0 ∧ st p.1 b ∈ ys.map (·.1)
  | 0 => ⟨⟨fun p hp => by
      simp at hp
      subst hp
      exact ⟨rfl, hf, fun c hc => by cases hc⟩, by simp, by simp⟩, fun q hq => by omega⟩
  | k + 1 => by
    have ih := srchTo_ok (st := st) hK hf k
    unfold srchTo
    cases hs : srchTo st K full k with
    | mk f ys =>
      rw [hs] at ih
      cases f with
      | some r => exact ih
      | none =>
        obtain ⟨h1, h2⟩ := ih
        simp only
        cases hg : ys[k]? with
        | none =>
          refine ⟨h1, fun q hq p hp => ?_⟩
          by_cases hqk : q = k
          · rw [hqk, hg] at hp; cases hp
          · exact h2 q (by omega) p hp
        | some p =>
          have h3 := srchIn_ok hK h1 (List.mem_of_getElem? hg) K (Nat.le_refl _)
          simp only
          cases hr : srchIn st p ys K with
          | mk f' zs =>
            rw [hr] at h3
            cases f' with
            | some r => exact h3
            | none =>
              obtain ⟨h4, ⟨us, hu⟩, h5⟩ := h3
              refine ⟨h4, fun q hq p' hp' => ?_⟩
              have hl : k < ys.length := (List.getElem?_eq_some_iff.1 hg).1
              rw [hu, List.getElem?_append_left (by omega)] at hp'
              by_cases hqk : q = k
              · subst hqk
                rw [hg] at hp'
                injection hp' with hp'
                subst hp'
                exact h5
              · intro b hb
                have := h2 q (by omega) p' hp' b hb
                exact ⟨this.1, by rw [hu, List.map_append]; exact List.mem_append_left _ this.2⟩
/-- Nothing found: no word of the letters leads to the empty set. -/
theorem srch_none {st : Nat → Nat → Nat} {K full : Nat} (hK : K ≤ 3) (hf : full ≠ 0) {k : Nat} {ys : List (Nat × List UInt8)} (h : srchTo st K full k = (none, ys)) (hk : ys.length ≤ k) (w : List UInt8) (hw : ∀ c ∈ w, ∃ a, a < K ∧ c = letB a) : reachW st full w ≠ 0 := by
  have h0 := srchTo_ok (st := st) hK hf k
  rw [h] at h0
  obtain ⟨h1, h2⟩ := h0
  have hcl : ∀ s, s ∈ ys.map (·.1) → s ≠ 0 ∧ ∀ b, b < K → st s b ≠ 0 ∧ st s b ∈ ys.map (·.1) := fun s hs => by
    obtain ⟨p, hp, rfl⟩ := List.mem_map.1 hs
    obtain ⟨q, hq, e⟩ := List.getElem_of_mem hp
    exact ⟨(h1.reach p hp).2.1, h2 q (by omega) p (List.getElem?_eq_some_iff.2 ⟨hq, e⟩)⟩
  have key : ∀ (w : List UInt8) (s : Nat), s ∈ ys.map (·.1) → (∀ c ∈ w, ∃ a, a < K ∧ c = letB a) → w.foldl (fun s c => st s (c.toNat - 97)) s ∈ ys.map (·.1) := fun w => by
    induction w with
    | nil => intro s hs _; exact hs
    | cons c w ih =>
      intro s hs hw
      obtain ⟨a, ha, hc⟩ := hw c (by simp)
      show w.foldl _ (st s (c.toNat - 97)) ∈ _
      refine ih _ ?_ fun d hd => hw d (by simp [hd])
      rw [hc, letB_sub (by omega)]
      exact ((hcl s hs).2 a ha).2
  exact (hcl _ (key w full (List.mem_map.2 ⟨_, h1.start, rfl⟩) hw)).1
theorem srch_some {st : Nat → Nat → Nat} {K full : Nat} (hK : K ≤ 3) (hf : full ≠ 0) {k : Nat} {r : List UInt8} {ys : List (Nat × List UInt8)} (h : srchTo st K full k = (some r, ys)) : reachW st full r = 0 ∧ ∀ c ∈ r, ∃ a, a < K ∧ c = letB a := by
  have h0 := srchTo_ok (st := st) hK hf k
  rw [h] at h0
  exact h0
def bitOn (s v : Nat) : Bool := decide (s / 2 ^ v % 2 = 1)
theorem bitOn_test (s v : Nat) : bitOn s v = s.testBit v := by unfold bitOn; rw [Nat.testBit_eq_decide_div_mod_eq]
/-- The ends reached with a letter from the end v, of a set s, by the first x letters. -/
def stX (o : ByteArray) (L n a s v : Nat) : Nat → Nat → Nat
  | 0, acc => acc
  | x + 1, acc => if (bitOn s v && decide (giveB o (v * L + x) = letB a)) = true then stX o L n a s v x acc ||| 2 ^ ((v * L + x) % n) else stX o L n a s v x acc
def stV (o : ByteArray) (L n a s : Nat) : Nat → Nat
  | 0 => 0
  | v + 1 => stX o L n a s v L (stV o L n a s v)
/-- The set of ends reached from a set with a letter. -/
def stepS (o : ByteArray) (L n s a : Nat) : Nat := stV o L n a s n
theorem stX_bit {o : ByteArray} {L n a s v acc j : Nat} : ∀ {x : Nat}, (stX o L n a s v x acc).testBit j = true ↔ acc.testBit j = true ∨ (s.testBit v = true ∧ ∃ y, y < x ∧ giveB o (v * L + y) = letB a ∧ (v * L + y) % n = j)
  | 0 => by simp [stX]
  | x + 1 => by
    unfold stX
    rw [bitOn_test]
    by_cases h : (s.testBit v && decide (giveB o (v * L + x) = letB a)) = true
    · rw [if_pos h, Nat.testBit_or, Nat.testBit_two_pow, Bool.or_eq_true, stX_bit, decide_eq_true_eq]
      rw [Bool.and_eq_true, decide_eq_true_eq] at h
      constructor
      · rintro ((h1 | ⟨h1, y, hy, h2⟩) | h1)
        · exact .inl h1
        · exact .inr ⟨h1, y, by omega, h2⟩
        · exact .inr ⟨h.1, x, by omega, h.2, h1⟩
      · rintro (h1 | ⟨h1, y, hy, h2, h3⟩)
        · exact .inl (.inl h1)
        · by_cases hyx : y = x
          · subst hyx; exact .inr h3
          · exact .inl (.inr ⟨h1, y, by omega, h2, h3⟩)
    · rw [if_neg h, stX_bit]
      rw [Bool.and_eq_true, decide_eq_true_eq] at h
      constructor
      · rintro (h1 | ⟨h1, y, hy, h2⟩)
        · exact .inl h1
        · exact .inr ⟨h1, y, by omega, h2⟩
      · rintro (h1 | ⟨h1, y, hy, h2, h3⟩)
        · exact .inl h1
        · by_cases hyx : y = x
          · subst hyx; exact absurd ⟨h1, h2⟩ h
          · exact .inr ⟨h1, y, by omega, h2, h3⟩
theorem stV_bit {o : ByteArray} {L n a s j : Nat} : ∀ {m : Nat}, (stV o L n a s m).testBit j = true ↔ ∃ v y, v < m ∧ y < L ∧ s.testBit v = true ∧ giveB o (v * L + y) = letB a ∧ (v * L + y) % n = j
  | 0 => by simp [stV]
  | m + 1 => by
    unfold stV
    rw [stX_bit, stV_bit]
    constructor
    · rintro (⟨v, y, hv, hy, h⟩ | ⟨h1, y, hy, h2⟩)
      · exact ⟨v, y, by omega, hy, h⟩
      · exact ⟨m, y, by omega, hy, h1, h2⟩
    · rintro ⟨v, y, hv, hy, h1, h2⟩
      by_cases hvm : v = m
      · subst hvm; exact .inr ⟨h1, y, hy, h2⟩
      · exact .inl ⟨v, y, by omega, hy, h1, h2⟩
theorem stX_lt {o : ByteArray} {L n a s v acc : Nat} (hn : 0 < n) (h : acc < 2 ^ n) : ∀ x, stX o L n a s v x acc < 2 ^ n
  | 0 => h
  | x + 1 => by
    unfold stX
    have ih := stX_lt (o := o) (L := L) (a := a) (s := s) (v := v) hn h x
    split
    · exact Nat.or_lt_two_pow ih (Nat.pow_lt_pow_right (by omega) (Nat.mod_lt _ hn))
    · exact ih
theorem stV_lt {o : ByteArray} {L n a s : Nat} (hn : 0 < n) : ∀ m, stV o L n a s m < 2 ^ n
  | 0 => Nat.pow_pos (by omega)
  | m + 1 => stX_lt hn (stV_lt hn m) L
theorem stepS_lt {o : ByteArray} {L n s a : Nat} (hn : 0 < n) : stepS o L n s a < 2 ^ n := stV_lt hn n
theorem ne_zero_bit {s n : Nat} (h : s < 2 ^ n) : s ≠ 0 ↔ ∃ j, j < n ∧ s.testBit j = true := by
  constructor
  · intro h0
    refine Classical.byContradiction fun hne => h0 ?_
    refine Nat.eq_of_testBit_eq fun i => ?_
    rw [Nat.zero_testBit]
    cases hi : s.testBit i
    · rfl
    · by_cases hin : i < n
      · exact absurd ⟨i, hin, hi⟩ hne
      · rw [Nat.testBit_lt_two_pow (Nat.lt_of_lt_of_le h (Nat.pow_le_pow_right (by omega) (by omega)))] at hi
        cases hi
  · rintro ⟨j, _, hj⟩ rfl
    rw [Nat.zero_testBit] at hj; cases hj
end Go.Proofs.YtpfeflhcbcgbfaaGreatDoor
