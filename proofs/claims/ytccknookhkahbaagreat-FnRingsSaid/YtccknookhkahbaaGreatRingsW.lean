/- What both sides answer on rings, for all arguments. Conditions: sizes within the reach. -/
import Derived.Test.YtccknookhkahbaaGreatKeptS
import Derived.Test.YtccknookhkahbaaGreatPerW
import Derived.Test.YtccknookhkahbaaGreatAfter
import Derived.Test.YtccknookhkahbaaGreatOneL
namespace Go.Proofs.YtccknookhkahbaaGreat
open Go.RowKit

set_option maxHeartbeats 2000000 in
theorem spec_CountOnRings_no (k n : Int) (o : ByteArray) (m : Int) (w : World) (ho : o.size ≤ maxLen) (h : fitsB k n o m = false) :
    Calls Tryz.prog 17 #[.agg #[.int .i64 k, .int .i64 n, .string o], .int .i64 m] w fun e w' => e = .returned (.int .i64 (-1)) ∧ Below w.heap.size w w' := by
  have HN := hid (fun w => spec_l33Fits_c k n o m w ho)
  rw [h] at HN
  clear h
  go_enter Tryz.func17, Tryz.ntmps17
  go_wp2_with fail
  refine (HN.out _).mono ?_
  rintro e w1 ⟨rfl, hb1⟩
  go_wp2
  go_ret
  exact ⟨rfl, ((Below.refl _ _).alloc (Nat.le_refl _) _).trans (hb1.mono (by simp))⟩
set_option maxHeartbeats 2000000 in
set_option maxRecDepth 100000 in
theorem spec_CountOnRings_yes (n m : Nat) (o : ByteArray) (w : World) (ho : o.size ≤ maxLen) (h : RFit o n m) (hf : fitsB 2 n o m = true) :
    Calls Tryz.prog 17 #[.agg #[.int .i64 2, .int .i64 n, .string o], .int .i64 m] w fun e w' => e = .returned (.int .i64 (cntP o n m : Int)) ∧ Below w.heap.size w w' := by
  have hps := pow_small (k := 2) (by omega) h.m8
  have HN := hid (fun w => spec_l33Fits_c 2 n o m w ho)
  rw [hf] at HN
  have HX := hid (fun w => spec_l33Next_c n m o w ho h)
  have HK := hid (fun (a : Option Addr) (c : Nat) (w : World) (hr : RowAt w a (2 ^ m) (intVals (nexts o n m (2 ^ m)))) => spec_l33Kept_c (2 ^ m) (nextB o n m) a c w (next_lt h) hps hr)
  have HPR := hid (fun (K : Nat → Bool) (h1 : ∀ i, i < 2 ^ m → AgainN (nextB o n m) i → K i = true) (h2 : ∀ i, i < 2 ^ m → K i = true → hitK (nextB o n m) K (2 ^ m) i = true) =>
    show ((List.range (2 ^ m)).filter K).length = cntP o n m from by
      unfold cntP
      congr 1
      refine List.filter_congr fun i hi => ?_
      have hi2 := List.mem_range.1 hi
      rw [Bool.eq_iff_iff, ← againN_per h hi2]
      exact ⟨fun hk => keep_again (next_lt h) h2 hi2 hk, fun ha => h1 i hi2 ha⟩)
  unfold NextsPost at HX
  unfold KeptSPost at HK
  obtain ⟨M, hM⟩ : ∃ M, M = 2 ^ m := ⟨_, rfl⟩
  obtain ⟨g, hg⟩ : ∃ g, g = nextB o n m := ⟨_, rfl⟩
  obtain ⟨cp, hcp⟩ : ∃ cp, cp = cntP o n m := ⟨_, rfl⟩
  rw [← hM] at HX hps HK HPR
  rw [← hg] at HK HPR
  rw [← hcp] at HPR
  rw [← hcp]
  clear hM hf h hg hcp
  go_enter Tryz.func17, Tryz.ntmps17
  go_wp2_with fail
  refine (HN.out _).mono ?_
  rintro e w1 ⟨rfl, hb1⟩
  obtain ⟨⟨hc0, hc1, hc2⟩, _, hzz⟩ := box3 hb1
  have hbw1 : Below w.heap.size w w1 := ((Below.refl _ _).alloc (Nat.le_refl _) _).trans (hb1.mono (by simp))
  go_wp2_with fail
  refine (HX.out _).mono ?_
  rintro e w2 ⟨v, rfl, hown, hb2⟩
  obtain ⟨a5, c5, rfl, hr5⟩ := owns_rowAt hown (by omega)
  have HR5 := hid hr5
  have hbw2 := bs hbw1 hb2
  clear hc0 hc1 hc2 hown hr5
  go_wp2_with fail
  refine (HK.out _ _ _ HR5.out).mono ?_
  rintro e w3 ⟨v3, K, rfl, hown3, hb3, h1, h2⟩
  have HCN := hid (HPR.out K h1 h2)
  obtain ⟨a6, c6, rfl, hr6⟩ := owns_rowAt hown3 (by omega)
  have HR6 := hid hr6
  have hbw3 := bs hbw2 hb3
  clear h1 h2 hown3 hr6
  go_wp2
  go_loop [5, 7] (fun c i => ∃ q r : Nat, r ≤ M ∧ i = .int .i64 r ∧ c = .int .i64 q ∧ q ≤ r ∧ Hid (q = ((List.range r).filter K).length)) (fun _ i => M - (intOf i).toNat)
  case atStart => exact ⟨0, 0, by omega, rfl, rfl, by omega, rfl⟩
  case round =>
    obtain ⟨q, r, hr, rfl, rfl, hqr, HQ⟩ := hrel
    by_cases hlt2 : r < M
    · obtain ⟨b5, o5, rfl, hb5, hcl5⟩ := HR6.out.at_ (by omega)
      have hcell := hcl5 r _ (rowB_get hlt2)
      clear hcl5
      cases hb : K r
      · rw [hb] at hcell
        have HB := hid hb
        clear hb
        go_wp2_with (go_at_call 46; refine (l1Bit_c _ _).mono ?_; rintro e w' ⟨rfl, rfl⟩)
        go_round
        case rel => exact ⟨q, r + 1, by omega, by go_num, by go_num, by omega, by show _ = _; rw [cn_no HB.out]; exact HQ.out⟩
        case measure => simp [intOf]; omega
      · rw [hb] at hcell
        have HB := hid hb
        clear hb
        go_wp2_with (go_at_call 46; refine (l1Bit_c _ _).mono ?_; rintro e w' ⟨rfl, rfl⟩)
        go_round
        case rel => exact ⟨q + 1, r + 1, by omega, by go_num, by go_num, by omega, by show _ = _; rw [cn_yes HB.out]; rw [HQ.out]⟩
        case measure => simp [intOf]; omega
    · obtain rfl : r = M := by omega
      go_wp2
      go_ret
      exact ⟨ret_int (by rw [HQ.out, HCN.out]), hbw3⟩
end Go.Proofs.YtccknookhkahbaaGreat
namespace Go.Proofs.YtccknookhkahbaaGreat
open Go.RowKit

/-- A tail of words on a ring, or none. -/
def TailIs (k m : Int) (o s : ByteArray) (t p : Int) : Prop :=
  (t = -1 ∧ p = 0) ∨ ∃ kk nn tt pp : Nat, k = kk ∧ m = nn ∧ tailOk kk nn o s = true ∧ IsTail (ringB o kk nn) s.data.toList tt pp ∧ tt + pp ≤ 6561 ∧ t = tt ∧ p = pp
theorem tail_is_ex {k n : Nat} {o s : ByteArray} (h : tailOk k n o s = true) : ∃ t p, IsTail (ringB o k n) s.data.toList t p ∧ t + p ≤ 6561 := by
  obtain ⟨h1, h2⟩ := tail_facts h
  obtain ⟨kk, nn, hkk, hnn, hk, hn, hp, ho, hl, hs, hls, hc⟩ := ring_facts h1
  obtain rfl : kk = k := by omega
  obtain rfl : nn = n := by omega
  have hw := fun q => ring_words (k := kk) (n := nn) (o := o) (l := s.data.toList) (by omega) hn.1 hl (Nat.le_of_eq ho.symm) hls (by rw [size_list]; omega) q
  rw [size_list] at hw
  obtain ⟨t, p, hT⟩ := tail_ex (f := ringB o kk nn) (l := s.data.toList) (kk ^ s.size + 1) fun hf => by
    have := fresh_le (k := kk) (L := s.size) (by omega) hw hf
    omega
  have h3 := fresh_le (k := kk) (L := s.size) (by omega) hw hT.new
  have h4 := pow_small (k := kk) (n := s.size) (by omega) h2
  exact ⟨t, p, hT, by omega⟩
theorem tail_nat {k n : Int} {o s : ByteArray} (h : tailOk k n o s = true) : ∃ kk nn : Nat, k = kk ∧ n = nn := by
  obtain ⟨kk, nn, hkk, hnn, _⟩ := ring_facts (tail_facts h).1
  exact ⟨kk, nn, hkk, hnn⟩
theorem tails_ex (k m : Int) (o s : ByteArray) (ho : o.size ≤ maxLen) (hs : s.size ≤ maxLen) : ∃ t p : Int, TailIs k m o s t p ∧
    (∀ w, Calls Tryz.prog 6 #[.agg #[.int .i64 k, .int .i64 m, .string o], .string s] w fun e w' => e = .returned (.tuple #[.int .i64 t, .int .i64 p]) ∧ Below w.heap.size w w') ∧
    (∀ w, Calls Tryz.prog 7 #[.agg #[.int .i64 k, .int .i64 m, .string o], .string s] w fun e w' => e = .returned (.tuple #[.int .i64 t, .int .i64 p]) ∧ Below w.heap.size w w') := by
  cases h : tailOk k m o s
  · exact ⟨-1, 0, .inl ⟨rfl, rfl⟩, fun w => impl_RingTail_no k m o s w ho hs h, fun w => spec_RingTail_no k m o s w ho hs h⟩
  · obtain ⟨kk, nn, rfl, rfl⟩ := tail_nat h
    obtain ⟨t, p, hT, hb⟩ := tail_is_ex h
    refine ⟨t, p, .inr ⟨kk, nn, t, p, rfl, rfl, h, hT, hb, rfl, rfl⟩, fun w => (impl_RingTail_yes kk nn o s w ho hs h).mono ?_, fun w => (spec_RingTail_yes kk nn o s w ho h).mono ?_⟩
    · rintro e w' ⟨t', p', hT', _, rfl, hbl⟩
      obtain ⟨rfl, rfl⟩ := isTail_unique hT hT'
      exact ⟨rfl, hbl⟩
    · rintro e w' ⟨t', p', hT', _, rfl, hbl⟩
      obtain ⟨rfl, rfl⟩ := isTail_unique hT hT'
      exact ⟨rfl, hbl⟩
theorem after_facts2 {k m : Int} {o s : ByteArray} {z : Int} (h : afterOk k m o s z = true) : ∃ kk nn zz : Nat, k = kk ∧ m = nn ∧ z = zz ∧ zz ≤ 1000000 ∧ tailOk kk nn o s = true := by
  obtain ⟨h1, h2, h3⟩ := after_facts h
  obtain ⟨kk, nn, rfl, rfl⟩ := tail_nat h1
  exact ⟨kk, nn, z.toNat, rfl, rfl, by omega, by omega, h1⟩
theorem afters_ex (k m : Int) (o s : ByteArray) (z : Int) (ho : o.size ≤ maxLen) (hs : s.size ≤ maxLen) : ∃ (x : ByteArray) (b : Bool),
    (∀ w, Calls Tryz.prog 9 #[.agg #[.int .i64 k, .int .i64 m, .string o], .string s, .int .i64 z] w fun e w' => e = .returned (.tuple #[.string x, .bool b]) ∧ Below w.heap.size w w') ∧
    (∀ w, Calls Tryz.prog 10 #[.agg #[.int .i64 k, .int .i64 m, .string o], .string s, .int .i64 z] w fun e w' => e = .returned (.tuple #[.string x, .bool b]) ∧ Below w.heap.size w w') := by
  cases h : afterOk k m o s z
  · exact ⟨⟨#[]⟩, false, fun w => impl_RingAfter_no k m o s z w ho hs h, fun w => spec_RingAfter_no k m o s z w ho hs h⟩
  · obtain ⟨kk, nn, zz, rfl, rfl, rfl, hz, ht⟩ := after_facts2 h
    obtain ⟨t, p, hT, hb⟩ := tail_is_ex ht
    refine ⟨txt (itr (ringB o kk nn) s.data.toList (redn t p zz)), true, fun w => (impl_RingAfter_yes kk nn o s zz w ho hs ht hz).mono ?_, fun w => (spec_RingAfter_yes kk nn o s zz w ho ht hz).mono ?_⟩
    · rintro e w' ⟨t', p', hT', rfl, hbl⟩
      obtain ⟨rfl, rfl⟩ := isTail_unique hT hT'
      exact ⟨rfl, hbl⟩
    · rintro e w' ⟨t', p', hT', rfl, hbl⟩
      obtain ⟨rfl, rfl⟩ := isTail_unique hT hT'
      exact ⟨rfl, hbl⟩
/-- From the tail's beginning on, and a period later, the word is the same. -/
theorem after_tail (kk nn : Nat) (o s : ByteArray) (t p : Nat) (ho : o.size ≤ maxLen) (hs : s.size ≤ maxLen) (h : tailOk kk nn o s = true) (hT : IsTail (ringB o kk nn) s.data.toList t p) (hb : t + p ≤ 6561) : ∃ x : ByteArray,
    (∀ w, Calls Tryz.prog 9 #[.agg #[.int .i64 kk, .int .i64 nn, .string o], .string s, .int .i64 t] w fun e w' => e = .returned (.tuple #[.string x, .bool true]) ∧ Below w.heap.size w w') ∧
    (∀ w, Calls Tryz.prog 9 #[.agg #[.int .i64 kk, .int .i64 nn, .string o], .string s, .int .i64 ((t + p : Nat) : Int)] w fun e w' => e = .returned (.tuple #[.string x, .bool true]) ∧ Below w.heap.size w w') := by
  refine ⟨txt (itr (ringB o kk nn) s.data.toList t), fun w => (impl_RingAfter_yes kk nn o s t w ho hs h (by omega)).mono ?_, fun w => (impl_RingAfter_yes kk nn o s (t + p) w ho hs h (by omega)).mono ?_⟩
  · rintro e w' ⟨t', p', hT', rfl, hbl⟩
    obtain ⟨rfl, rfl⟩ := isTail_unique hT hT'
    rw [redn_le (Nat.lt_irrefl _)]
    exact ⟨rfl, hbl⟩
  · rintro e w' ⟨t', p', hT', rfl, hbl⟩
    obtain ⟨rfl, rfl⟩ := isTail_unique hT hT'
    have hp := hT.pos
    rw [redn_gt (by omega), show t + p - t = p by omega, Nat.mod_self, Nat.add_zero]
    exact ⟨rfl, hbl⟩
/-- What both sides say of all rings of a length. -/
structure RingsAre (k n : Int) (o : ByteArray) (m : Int) (R : List Int) (c z f : Int) : Prop where
  r1 : ∀ w, Calls Tryz.prog 12 #[.agg #[.int .i64 k, .int .i64 n, .string o], .int .i64 m] w fun e w' => ∃ v, e = .returned v ∧ w'.ownsRow w.heap.size 3 1 v R.length (intVals R) ∧ Below w.heap.size w w'
  r2 : ∀ w, Calls Tryz.prog 16 #[.agg #[.int .i64 k, .int .i64 n, .string o], .int .i64 m] w fun e w' => ∃ v, e = .returned v ∧ w'.ownsRow w.heap.size 3 1 v R.length (intVals R) ∧ Below w.heap.size w w'
  c1 : ∀ w, Calls Tryz.prog 13 #[.agg #[.int .i64 k, .int .i64 n, .string o], .int .i64 m] w fun e w' => e = .returned (.int .i64 c) ∧ Below w.heap.size w w'
  c2 : ∀ w, Calls Tryz.prog 17 #[.agg #[.int .i64 k, .int .i64 n, .string o], .int .i64 m] w fun e w' => e = .returned (.int .i64 c) ∧ Below w.heap.size w w'
  z1 : ∀ w, Calls Tryz.prog 14 #[.agg #[.int .i64 k, .int .i64 n, .string o], .int .i64 m] w fun e w' => e = .returned (.int .i64 z) ∧ Below w.heap.size w w'
  z2 : ∀ w, Calls Tryz.prog 18 #[.agg #[.int .i64 k, .int .i64 n, .string o], .int .i64 m] w fun e w' => e = .returned (.int .i64 z) ∧ Below w.heap.size w w'
  f1 : ∀ w, Calls Tryz.prog 21 #[.agg #[.int .i64 k, .int .i64 n, .string o], .int .i64 m] w fun e w' => e = .returned (.int .i64 f) ∧ Below w.heap.size w w'
  f2 : ∀ w, Calls Tryz.prog 22 #[.agg #[.int .i64 k, .int .i64 n, .string o], .int .i64 m] w fun e w' => e = .returned (.int .i64 f) ∧ Below w.heap.size w w'
theorem distinctI_le2 (zs : List Int) : (distinctI zs).length ≤ zs.length := nodup_le _ _ (distinctI_facts zs).1 fun x hx => ((distinctI_facts zs).2 x).1 hx
theorem rings_ex (k n : Int) (o : ByteArray) (m : Int) (ho : o.size ≤ maxLen) : ∃ (R : List Int) (c z f : Int), RingsAre k n o m R c z f ∧ R.length ≤ 1000 ∧
    ((c = -1 ∧ z = -1 ∧ R = []) ∨ ∃ nn mm cc zz ff : Nat, k = 2 ∧ n = nn ∧ m = mm ∧ RFit o nn mm ∧ c = cc ∧ z = zz ∧ f = ff ∧ cc + zz ≤ 2 ^ mm ∧ (zz = 0 ↔ cc = 2 ^ mm) ∧ R ≠ [] ∧ (0 < ff ↔ (1 : Int) ∈ R) ∧ (ff : Int) = closedOf (lawM o nn (2 ^ nn)) (2 ^ (nn - 1)) mm ∧ (OneP o 2 nn → zz = 0)) := by
  cases hok : fitsB k n o m
  · refine ⟨[], -1, -1, -1, ⟨fun w => impl_RingPeriods_no k n o m w ho hok, fun w => spec_RingPeriods_no k n o m w ho hok, fun w => impl_CountOnRings_no k n o m w ho hok, fun w => spec_CountOnRings_no k n o m w ho hok, fun w => impl_RingOrphans_no k n o m w ho hok, fun w => spec_RingOrphans_no k n o m w ho hok, fun w => impl_FixedOnRings_no k n o m w ho hok, fun w => spec_FixedOnRings_no k n o m w ho hok⟩, by simp, .inl ⟨rfl, rfl, rfl⟩⟩
  · obtain ⟨rfl, nn, mm, rfl, rfl, hR⟩ := fits_facts hok
    have hT := tails_all hR
    have hmem := (distinctI_facts (tps o nn mm (2 ^ mm))).2
    refine ⟨distinctI (tps o nn mm (2 ^ mm)), cntP o nn mm, orph o nn mm, cntS o nn mm, ⟨fun w => impl_RingPeriods_yes nn mm o w ho hR hok, fun w => spec_RingPeriods_yes nn mm o w ho hR hok hT, fun w => impl_CountOnRings_yes nn mm o w ho hR hok, fun w => spec_CountOnRings_yes nn mm o w ho hR hok, fun w => impl_RingOrphans_yes nn mm o w ho hR hok, fun w => spec_RingOrphans_yes nn mm o w ho hR hok, fun w => impl_FixedOnRings_yes nn mm o w ho hR hok, fun w => spec_FixedOnRings_yes nn mm o w ho hR hok⟩, ?_, .inr ⟨nn, mm, cntP o nn mm, orph o nn mm, cntS o nn mm, rfl, rfl, rfl, hR, rfl, rfl, rfl, kept_orph hR, orph_zero hR, ?_, ?_, (closed_law hR).symm, fun h1 => one_orph hR h1⟩⟩
    · have h1 := distinctI_le2 (tps o nn mm (2 ^ mm))
      rw [tps_len] at h1
      have h2 : 2 ^ mm ≤ 2 ^ 8 := Nat.pow_le_pow_right (by omega) hR.m8
      omega
    · intro hE
      have h1 : 0 < 2 ^ mm := Nat.pow_pos (by omega)
      obtain ⟨x, hx⟩ := get_some (l := tps o nn mm (2 ^ mm)) (n := 0) (by rw [tps_len]; exact h1)
      have := (hmem x).2 (List.mem_of_getElem? hx)
      rw [hE] at this
      cases this
    · rw [per_one hR hT]
      exact (hmem 1).symm
theorem rings_ex2 (k n : Int) (o : ByteArray) (m : Int) (ho : o.size ≤ maxLen) : ∃ (R : List Int) (c z f : Int), RingsAre k n o m R c z f ∧ R.length ≤ 1000 ∧
    ((c = -1 ∧ z = -1 ∧ R.length = 0) ∨ ∃ (nn mm P : Nat) (bz bo : Bool), k = 2 ∧ n = nn ∧ m = mm ∧ RFit o nn mm ∧ (2 : Int) ^ mm = (P : Int) ∧ P ≤ 256 ∧ 0 ≤ c ∧ 0 ≤ z ∧ c + z ≤ (P : Int) ∧ (z == 0) = bz ∧ (c == (P : Int)) = bz ∧ 0 < R.length ∧ decide (0 < f) = bo ∧ decide ((1 : Int) ∈ R) = bo ∧ f = closedOf (lawM o nn (2 ^ nn)) (2 ^ (nn - 1)) mm ∧ (OneP o 2 nn → bz = true)) := by
  obtain ⟨R, c, z, f, h1, h2, h3⟩ := rings_ex k n o m ho
  refine ⟨R, c, z, f, h1, h2, ?_⟩
  rcases h3 with ⟨a1, a2, a3⟩ | ⟨nn, mm, cc, zz, ff, hk, hn, hm, hfit, hc, hz, hf, hle, hiff, hne, hone, hcl, hor⟩
  · exact .inl ⟨a1, a2, by rw [a3]; rfl⟩
  · refine .inr ⟨nn, mm, 2 ^ mm, decide (zz = 0), decide ((1 : Int) ∈ R), hk, hn, hm, hfit, by simp, ?_, by omega, by omega, ?_, ?_, ?_, List.length_pos_iff.2 hne, ?_, rfl, by rw [hf]; exact hcl, fun h => decide_eq_true (hor h)⟩
    · have h8 : 2 ^ mm ≤ 2 ^ 8 := Nat.pow_le_pow_right (by omega) hfit.m8
      have h9 : 2 ^ 8 = 256 := by decide
      omega
    · rw [hc, hz, ← Int.natCast_add]
      exact Int.ofNat_le.2 hle
    · rw [hz, Bool.eq_iff_iff, decide_eq_true_eq, beq_iff_eq]
      omega
    · rw [hc, Bool.eq_iff_iff, decide_eq_true_eq, hiff, beq_iff_eq]
      exact Int.ofNat_inj
    · rw [hf, decide_eq_decide]
      exact ⟨fun h => hone.1 (by omega), fun h => by have := hone.2 h; omega⟩
end Go.Proofs.YtccknookhkahbaaGreat
