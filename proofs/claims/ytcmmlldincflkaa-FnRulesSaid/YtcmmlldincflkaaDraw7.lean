/- Codes drawn, words drawn: what the laws of codes and rings begin with. Conditions: the bytes lie in memory. -/
import Derived.Test.YtcmmlldincflkaaDraw6
namespace Go.Proofs.Ytcmmlldincflkaa
open Go.RowKit

def exTexts : List ByteArray := [⟨#[50, 32, 50, 32, 97, 98, 98, 97]⟩, ⟨#[50, 32, 49, 32, 98, 97]⟩, ⟨#[50, 32, 51, 32, 97, 97, 98, 98, 97, 97, 98, 98]⟩, ⟨#[50, 32, 51, 32, 97, 98, 98, 97, 98, 97, 97, 98]⟩, ⟨#[50, 32, 51, 32, 97, 98, 97, 98, 97, 98, 97, 98]⟩, ⟨#[50, 32, 51, 32, 97, 98, 98, 98, 98, 98, 98, 97]⟩, ⟨#[50, 32, 50, 32, 97, 97, 98, 98]⟩, ⟨#[50, 32, 50, 32, 97, 97, 97, 98]⟩, ⟨#[51, 32, 49, 32, 98, 99, 97]⟩, ⟨#[51, 32, 50, 32, 97, 98, 99, 98, 99, 97, 99, 97, 98]⟩, ⟨#[50, 32, 51, 32, 97, 98, 98, 97, 97, 98, 98, 97]⟩, ⟨#[50, 32, 52, 32, 97, 97, 98, 97, 98, 98, 97, 98, 97, 97, 98, 97, 98, 98, 97, 98]⟩]
theorem exTexts_size {s : ByteArray} (h : s ∈ exTexts) : s.size ≤ 100 := by
  have : ∀ s ∈ exTexts, s.size ≤ 100 := by decide
  exact this s h
theorem lit_rowJ {w : World} {e : TypeId} (cs : Array Value) (zs : List Int) (k : Nat) (hz : zs.length = k) (hcs : ∀ (j : Nat) (v : Value), (intVals zs)[j]? = some v → cs[j]? = some v) (hk : k ≤ 1000) :
    RowAt (w.alloc (.cells cs e)) (some ⟨w.heap.size, 0, none⟩) k (intVals zs) :=
  ⟨by simp [intVals, hz], by omega, fun _ => ⟨w.heap.size, 0, rfl, by simp, fun j v hj => by
    rw [World.cell?_alloc_at _ _ _ _ rfl, Nat.zero_add]; exact hcs j v hj⟩⟩
theorem Drew.gW {W w w1 : World} {g : Nat} {a : Option Addr} {n c : Nat} {bs : List UInt8} (h : Drew W w w1 g a n c bs) : g < w1.heap.size := by
  obtain ⟨⟨i, k, x⟩, _⟩ := h
  exact x.hi
theorem Cur.drew0 {W w : World} {g : Nat} {a : Option Addr} {n c : Nat} {bs : List UInt8} (h : Cur W w g a n c bs) : Drew W w w g a n c bs := ⟨h, World.grownBy.refl _ _⟩
theorem pow_k {k m : Nat} (h : (k = 2 ∧ m ≤ 3) ∨ (k = 3 ∧ m ≤ 2)) : powN k m ≤ 9 := by
  have h1 : ∀ m, m ≤ 3 → powN 2 m ≤ 9 := by decide
  have h2 : ∀ m, m ≤ 2 → powN 3 m ≤ 9 := by decide
  rcases h with ⟨rfl, h⟩ | ⟨rfl, h⟩
  · exact h1 m h
  · exact h2 m h
theorem below_set3 {base b : Nat} {w wr : World} (h : Below base w wr) (hb : base ≤ b) (x y z : Value) : Below base w (((wr.setCell ⟨b, 0, none⟩ x).setCell ⟨b, 1, none⟩ y).setCell ⟨b, 2, none⟩ z) := by
  have h1 : Below base w (wr.setCell ⟨b, 0, none⟩ x) := h.setCell hb x
  have h2 : Below base w ((wr.setCell ⟨b, 0, none⟩ x).setCell ⟨b, 1, none⟩ y) := h1.setCell hb y
  exact h2.setCell hb z
set_option maxHeartbeats 4000000 in
set_option maxRecDepth 100000 in
theorem l11Draw_c (W w : World) (g : Nat) (a : Option Addr) (n c : Nat) (bs : List UInt8) (h : Cur W w g a n c bs) :
    Calls Try.prog 64 #[.pointer (some ⟨g, 0, none⟩)] w (CodeDraw W w g a n c bs) := by
  have hgw : g < w.heap.size ∧ W.heap.size ≤ w.heap.size := by obtain ⟨i, k, x⟩ := h; exact ⟨x.hi, x.bel.size⟩
  have HD0 := hid (h.drew0.alloc (.cells #[.int .i64 0, .int .i64 0, .string ⟨#[]⟩] 26))
  have HB0 := hid (BoxC.new w #[.int .i64 0, .int .i64 0, .string ⟨#[]⟩] 26)
  have HB := hid (l1Once_c W (w.alloc (.cells #[.int .i64 0, .int .i64 0, .string ⟨#[]⟩] 26)) g a n c bs 3 HD0.out.1 (by omega) (by omega))
  unfold CodeDraw
  clear h
  go_enter Try.func64, Try.ntmps64
  go_wp2_with fail
  refine HB.out.mono ?_
  rintro e w1 ⟨b, rfl, hd⟩
  have HB1 := hid (HB0.out.grown hd.2 (by omega))
  have HD1 := hid (HD0.out.trans hd)
  have hw1 := HD1.out.2.size
  have hgw1 := hd.gW
  clear hd HB HB0 HD0
  cases b
  · have HB2 := hid (l1Below_c W w1 g a n c bs 3 HD1.out.1 (by omega) (by omega))
    go_wp2_with fail
    refine HB2.out.mono ?_
    rintro e w2 ⟨y, rfl, hy, hd⟩
    have hw12 := hd.2.size
    obtain ⟨m, hm⟩ : ∃ m, m = 1 + y := ⟨_, rfl⟩
    have hm3 : 1 ≤ m ∧ m ≤ 3 := by omega
    have hyN : (1 : Int) + (y : Int) = (m : Int) := by omega
    clear hm hy
    have HB3 := hid (HB1.out.grown hd.2 (by omega))
    have HD2 := hid (HD1.out.trans hd)
    have hgw2 := hd.gW
    have HD3 := hid (HD2.out.alloc (.cells #[.int .i64 2, .int .i64 (m : Int), .string ⟨#[]⟩] 26))
    have HQ3 := hid (BoxC.new w2 #[.int .i64 2, .int .i64 (m : Int), .string ⟨#[]⟩] 26)
    have HB4 := hid (l1Once_c W (w2.alloc (.cells #[.int .i64 2, .int .i64 (m : Int), .string ⟨#[]⟩] 26)) g a n c bs 5 HD3.out.1 (by omega) (by omega))
    clear hd HB2 HB1 HD1
    go_wp2_with fail
    refine HB4.out.mono ?_
    rintro e w3 ⟨b, rfl, hd⟩
    have hw23 := hd.2.size
    simp only [World.size_alloc] at hw23
    have HB5 := hid ((HB3.out.alloc (.cells #[.int .i64 2, .int .i64 (m : Int), .string ⟨#[]⟩] 26)).grown (hd.2) (by omega))
    have HD4 := hid (HD3.out.trans (hd))
    have HQ4 := hid (HQ3.out.grown (hd.2) (by omega))
    have hlt0 := HB3.out.lt
    have hwq : w.heap.size < w2.heap.size := hlt0
    clear hd HB4 HB3 HD2 HD3 HQ3
    obtain ⟨⟨s0, s1, s2⟩, t0, t1, t2⟩ := HQ4.out.c3
    cases b
    · have B0 := HB5.out
      have BQ := HQ4.out
      have HD := HD4
      have HB0 := HB5
      obtain ⟨k, hk⟩ : ∃ k : Nat, k = 2 := ⟨_, rfl⟩
      rw [show ((2 : Int)) = ((2 : Nat) : Int) from rfl] at s0 BQ
      have hkm : (k = 2 ∧ m ≤ 3) ∨ (k = 3 ∧ m ≤ 2) := by omega
      rw [← hk] at s0 BQ
      clear hk hyN HQ4 HD4 HB5
      have hpk := pow_k hkm
      have hgq : g ≠ w2.heap.size := by omega
      go_wp2_with fail
      refine (spec_l11Power_c k m (by omega) (by omega) _).mono ?_
      rintro e w9 ⟨rfl, rfl⟩
      obtain ⟨N, hN⟩ : ∃ N, N = powN k m := ⟨_, rfl⟩
      rw [← hN]
      rw [← hN] at hpk
      clear hN
      go_wp2
      go_loopw [6] (fun i wr => ∃ (j : Nat) (o : ByteArray), i = .int .i64 j ∧ j + o.size ≤ 9 ∧ BoxC wr w2.heap.size #[.int .i64 k, .int .i64 m, .string o] ∧ BoxC wr w.heap.size #[.int .i64 0, .int .i64 0, .string ⟨#[]⟩] ∧ Drew W w wr g a n c bs) (fun i _ => (intOf i).toNat)
      case atStart => exact ⟨N, ⟨#[]⟩, rfl, hpk, BQ, B0, HD.out⟩
      case round =>
        obtain ⟨j, o, rfl, hj, bq, b0, hd⟩ := hrel
        have HB0 := hid b0
        have HBQ := hid bq
        obtain ⟨⟨s0, s1, s2⟩, t0, t1, t2⟩ := bq.c3
        obtain ⟨⟨r0, r1, r2⟩, u0, u1, u2⟩ := b0.c3
        have hqs := bq.lt
        have hzs := b0.lt
        clear bq b0
        by_cases hlt : 0 < j
        · have HD1 := hid hd
          have hwr := hd.2.size
          have hgd := hd.gW
          clear hd r0 r1 r2 u0 u1 u2
          have hk3 : (k : Int) ≤ 3 := by omega
          have hk0 : (0 : Int) ≤ (k : Int) := by omega
          have hqd : w2.heap.size < wr.drew.heap.size := hqs
          have hos : o.size ≤ 9 := by omega
          obtain ⟨S, hSd⟩ : ∃ S : World → Prop, S = fun V => V.cell? ⟨w2.heap.size, 0, none⟩ = some (.int .i64 k) ∧ V.cell? ⟨w2.heap.size, 2, none⟩ = some (.string o) := ⟨_, rfl⟩
          have HSO := hid (show ∀ V, S V → V.cell? ⟨w2.heap.size, 0, none⟩ = some (.int .i64 k) ∧ V.cell? ⟨w2.heap.size, 2, none⟩ = some (.string o) from fun V hV => by rw [hSd] at hV; exact hV)
          have hS0 : S wr.drew := by rw [hSd]; exact ⟨s0, s2⟩
          have hS1 : S (wr.drew.alloc (.cells #[.string ⟨#[97]⟩, .string ⟨#[98]⟩, .string ⟨#[99]⟩] 9)) := by
            have h3 := (HBQ.out.below (Below.refl _ _).drew).alloc (.cells #[.string ⟨#[97]⟩, .string ⟨#[98]⟩, .string ⟨#[99]⟩] 9)
            rw [hSd]; exact ⟨h3.cell 0, h3.cell 2⟩
          have HSB := hid (show ∀ V, BoxC V w2.heap.size #[.int .i64 k, .int .i64 m, .string o] → S V from fun V h3 => by rw [hSd]; exact ⟨h3.cell 0, h3.cell 2⟩)
          clear hSd s0 s1 s2 t0 t1 t2
          have HD2 := hid ((HD1.out.app (Below.refl _ _).drew hgw.1 hgw.2).alloc (.cells #[.string ⟨#[97]⟩, .string ⟨#[98]⟩, .string ⟨#[99]⟩] 9))
          have HP := hid (l1Pick_c W (wr.drew.alloc (.cells #[.string ⟨#[97]⟩, .string ⟨#[98]⟩, .string ⟨#[99]⟩] 9)) g a n c bs (some ⟨wr.drew.heap.size, 0, none⟩) k 3 (abc.take k) HD2.out.1 (by omega) (by omega) (lit_row _ _ _ (by simp [abc]; omega) (fun j v hj => by
            unfold strVals at hj
            rw [List.map_take] at hj
            rw [List.getElem?_take] at hj
            split at hj
            · simpa [abc] using hj
            · cases hj) (by omega)) (fun z off e => by
            injection e with e
            injection e with e1
            have : g < wr.drew.heap.size := hgd
            omega))
          go_wp2_with fail
          refine wp_region_T (S := S) 10 (by kernel_rfl) ?_
          (refine wpAnyT_take (i := 0) (v := ?v0a) rfl (by kernel_rfl) (by kernel_rfl) (by kernel_rfl) (by kernel_rfl) (fun _ _ _ h => h) (Or.inl ⟨by rfl, ?y0a⟩) (by assumption) ?r0a; case y0a => (intro V hSw; have hSw := HSO.out V hSw; go_split_ands; go_simp; first | done | with_reducible rfl); try simp only [Act.put, List.setIfInBounds_toArray, List.set_cons_zero, List.set_cons_succ])
          (refine wpAnyT_take (i := 1) (v := ?v1a) rfl (by kernel_rfl) (by kernel_rfl) (by kernel_rfl) (by kernel_rfl) (fun _ _ _ h => h) (Or.inl ⟨by rfl, ?y1a⟩) (by assumption) ?r1a; case y1a => (intro V hSw; have hSw := HSO.out V hSw; go_split_ands; go_simp; first | done | with_reducible rfl); try simp only [Act.put, List.setIfInBounds_toArray, List.set_cons_zero, List.set_cons_succ])
          (refine wpAnyT_take (i := 2) (v := ?v2a) rfl (by kernel_rfl) (by kernel_rfl) (by kernel_rfl) (by kernel_rfl) (fun _ _ _ h => h) (Or.inl ⟨by rfl, ?y2a⟩) (by assumption) ?r2a; case y2a => (intro V hSw; have hSw := HSO.out V hSw; go_split_ands; go_simp; first | done | with_reducible rfl); try simp only [Act.put, List.setIfInBounds_toArray, List.set_cons_zero, List.set_cons_succ])
          (refine wpAnyT_take (i := 4) (v := ?v4a) rfl (by kernel_rfl) (by kernel_rfl) (by kernel_rfl) (by kernel_rfl) (fun _ _ _ h => h) (Or.inl ⟨by rfl, ?y4a⟩) (by assumption) ?r4a; case y4a => (intro V hSw; have hSw := HSO.out V hSw; go_split_ands; go_simp; first | done | with_reducible rfl); try simp only [Act.put, List.setIfInBounds_toArray, List.set_cons_zero, List.set_cons_succ])
          (refine wpAnyT_take (i := 5) (v := ?v5a) rfl (by kernel_rfl) (by kernel_rfl) (by kernel_rfl) (by kernel_rfl) (fun _ _ _ h => h) (Or.inl ⟨by rfl, ?y5a⟩) (by assumption) ?r5a; case y5a => (intro V hSw; have hSw := HSO.out V hSw; go_split_ands; go_simp; first | done | with_reducible rfl); try simp only [Act.put, List.setIfInBounds_toArray, List.set_cons_zero, List.set_cons_succ])
          refine wpAnyT_step (i := 3) rfl (by kernel_rfl) (by decide) (fun K hK => ?_)
          go_simp
          refine hK.out _ _ hS1 ?_
          clear hK K
          try simp only [Act.put, List.setIfInBounds_toArray, List.set_cons_zero, List.set_cons_succ]
          refine wpAnyT_step (i := 6) rfl (by kernel_rfl) (by decide) (fun K hK => ?_)
          go_simp
          refine hK.out _ _ hS1 ?_
          clear hK K
          try simp only [Act.put, List.setIfInBounds_toArray, List.set_cons_zero, List.set_cons_succ]
          refine wpAnyT_step (i := 7) rfl (by kernel_rfl) (by decide) (fun K hK => ?_)
          go_simp
          go_at_call 80
          refine HP.out.mono ?_
          rintro e w3 ⟨x, rfl, hx, hd3⟩
          have hx1 := abc_size hx
          have HQ3 := hid (((HBQ.out.below (Below.refl _ _).drew).alloc (.cells #[.string ⟨#[97]⟩, .string ⟨#[98]⟩, .string ⟨#[99]⟩] 9)).grown hd3.2 (fun e => hgq e.symm))
          have HB3 := hid (((HB0.out.below (Below.refl _ _).drew).alloc (.cells #[.string ⟨#[97]⟩, .string ⟨#[98]⟩, .string ⟨#[99]⟩] 9)).grown hd3.2 (by omega))
          have HD3 := hid (HD2.out.trans hd3)
          have hS3 := HSB.out _ HQ3.out
          have hF3 := HQ3.out.froz 2
          have hO3 := HQ3.out.cell 2
          clear hd3 HP HD2
          go_wp2_with fail
          refine hK.out _ _ hS3 ?_
          clear hK K
          try simp only [Act.put, List.setIfInBounds_toArray, List.set_cons_zero, List.set_cons_succ]
          have hcat : ¬ (9223372036854775807 < o.size + 1) := by omega
          refine wpAnyT_step (i := 8) rfl (by kernel_rfl) (by decide) (fun K hK => ?_)
          go_simp
          refine hK.out _ _ hS3 ?_
          clear hK K
          try simp only [Act.put, List.setIfInBounds_toArray, List.set_cons_zero, List.set_cons_succ]
          (refine wpAnyT_take (i := 9) (v := ?v9a) rfl (by kernel_rfl) (by kernel_rfl) (by kernel_rfl) (by kernel_rfl) (fun _ _ _ h => h) (Or.inl ⟨by rfl, ?y9a⟩) (by assumption) ?r9a; case y9a => (intro V hSw; have hSw := HSO.out V hSw; go_split_ands; go_simp; first | done | with_reducible rfl); try simp only [Act.put, List.setIfInBounds_toArray, List.set_cons_zero, List.set_cons_succ])
          refine wpAnyT_last rfl (by kernel_rfl) (by kernel_rfl) (fun K hK => ?_)
          go_simp
          refine hK.out _ _ ?_
          clear hK K
          go_wp2
          go_roundw
          case rel =>
            refine ⟨j - 1, o ++ x, by go_num, by rw [ByteArray.size_append]; omega, ?_, HB3.out.other (by omega) _, HD3.out.app (show Below w.heap.size w3 (w3.setCell ⟨w2.heap.size, 2, none⟩ (.string (o ++ x))) from (Below.refl _ _).setCell (by show w.heap.size ≤ w2.heap.size; omega) _) hgw.1 hgw.2⟩
            exact HQ3.out.set _ (by show 2 < 3; omega) (fun k => match k with | 0 => rfl | 1 => rfl | 2 => rfl | k + 3 => rfl)
          case measure => simp [intOf] <;> omega
        · obtain rfl : j = 0 := by omega
          have HD2 := hid (hd.app (below_set3 (Below.refl w.heap.size wr) (Nat.le_refl _) (.int .i64 k) (.int .i64 m) (.string o)) hgw.1 hgw.2)
          have ho9 : o.size ≤ 100 := by omega
          clear hd hj hkm hpk HB0 HBQ HD hgq
          go_wp2
          refine bodyPost_ret (v := .agg #[.int .i64 k, .int .i64 m, .string o]) ?_ rfl ⟨_, _, _, rfl, ho9, HD2.out⟩
          simp [results, Try.results64, go_sem, r0, r1, r2, hzs]
    · have HD5 := hid (HD4.out.app (show Below w.heap.size w3 (w3.setCell ⟨w2.heap.size, 0, none⟩ (.int .i64 3)) from (Below.refl _ _).setCell (by show w.heap.size ≤ w2.heap.size; omega) _) hgw.1 hgw.2)
      have HB6 := hid (l1Below_c W (w3.setCell ⟨w2.heap.size, 0, none⟩ (.int .i64 3)) g a n c bs 2 HD5.out.1 (by omega) (by omega))
      go_wp2_with fail
      refine HB6.out.mono ?_
      rintro e w4 ⟨z, rfl, hz, hd⟩
      obtain ⟨p, hp⟩ : ∃ p, p = 1 + z := ⟨_, rfl⟩
      have hp2 : 1 ≤ p ∧ p ≤ 2 := by omega
      have hzN : (1 : Int) + (z : Int) = (p : Int) := by omega
      clear hp hz
      have HQ5 := hid ((HQ4.out.set (A' := #[.int .i64 3, .int .i64 (m : Int), .string ⟨#[]⟩]) (.int .i64 3) (i := 0) (by show 0 < 3; omega) (fun k => match k with | 0 => rfl | 1 => rfl | 2 => rfl | k + 3 => rfl)).grown hd.2 (by omega))
      have BQ := HQ5.out.set (A' := #[.int .i64 3, .int .i64 (p : Int), .string ⟨#[]⟩]) (.int .i64 (p : Int)) (i := 1) (by show 1 < 3; omega) (fun k => match k with | 0 => rfl | 1 => rfl | 2 => rfl | k + 3 => rfl)
      have B0 := ((HB5.out.other (q := w2.heap.size) (i := 0) (by omega) (.int .i64 3)).grown hd.2 (by omega)).other (q := w2.heap.size) (i := 1) (by omega) (.int .i64 (p : Int))
      have HD := hid ((HD5.out.trans hd).app (show Below w.heap.size w4 (w4.setCell ⟨w2.heap.size, 1, none⟩ (.int .i64 (p : Int))) from (Below.refl _ _).setCell (by show w.heap.size ≤ w2.heap.size; omega) _) hgw.1 hgw.2)
      obtain ⟨⟨s0, s1, s2⟩, t0, t1, t2⟩ := HQ5.out.c3
      have HB0 := hid B0
      clear hd HB6 HD4 HB5 HQ4 HD5 HQ5
      go_wp2_with fail
      obtain ⟨k, hk⟩ : ∃ k : Nat, k = 3 := ⟨_, rfl⟩
      rw [show ((3 : Int)) = ((3 : Nat) : Int) from rfl] at s0 BQ ⊢
      have hkm : (k = 2 ∧ p ≤ 3) ∨ (k = 3 ∧ p ≤ 2) := by omega
      rw [← hk] at s0 BQ ⊢
      clear hk hyN hzN
      clear hm3
      obtain ⟨m, rfl⟩ : ∃ m, m = p := ⟨_, rfl⟩
      have hpk := pow_k hkm
      have hgq : g ≠ w2.heap.size := by omega
      go_wp2_with fail
      refine (spec_l11Power_c k m (by omega) (by omega) _).mono ?_
      rintro e w9 ⟨rfl, rfl⟩
      obtain ⟨N, hN⟩ : ∃ N, N = powN k m := ⟨_, rfl⟩
      rw [← hN]
      rw [← hN] at hpk
      clear hN
      go_wp2
      go_loopw [6] (fun i wr => ∃ (j : Nat) (o : ByteArray), i = .int .i64 j ∧ j + o.size ≤ 9 ∧ BoxC wr w2.heap.size #[.int .i64 k, .int .i64 m, .string o] ∧ BoxC wr w.heap.size #[.int .i64 0, .int .i64 0, .string ⟨#[]⟩] ∧ Drew W w wr g a n c bs) (fun i _ => (intOf i).toNat)
      case atStart => exact ⟨N, ⟨#[]⟩, rfl, hpk, BQ, B0, HD.out⟩
      case round =>
        obtain ⟨j, o, rfl, hj, bq, b0, hd⟩ := hrel
        have HB0 := hid b0
        have HBQ := hid bq
        obtain ⟨⟨s0, s1, s2⟩, t0, t1, t2⟩ := bq.c3
        obtain ⟨⟨r0, r1, r2⟩, u0, u1, u2⟩ := b0.c3
        have hqs := bq.lt
        have hzs := b0.lt
        clear bq b0
        by_cases hlt : 0 < j
        · have HD1 := hid hd
          have hwr := hd.2.size
          have hgd := hd.gW
          clear hd r0 r1 r2 u0 u1 u2
          have hk3 : (k : Int) ≤ 3 := by omega
          have hk0 : (0 : Int) ≤ (k : Int) := by omega
          have hqd : w2.heap.size < wr.drew.heap.size := hqs
          have hos : o.size ≤ 9 := by omega
          obtain ⟨S, hSd⟩ : ∃ S : World → Prop, S = fun V => V.cell? ⟨w2.heap.size, 0, none⟩ = some (.int .i64 k) ∧ V.cell? ⟨w2.heap.size, 2, none⟩ = some (.string o) := ⟨_, rfl⟩
          have HSO := hid (show ∀ V, S V → V.cell? ⟨w2.heap.size, 0, none⟩ = some (.int .i64 k) ∧ V.cell? ⟨w2.heap.size, 2, none⟩ = some (.string o) from fun V hV => by rw [hSd] at hV; exact hV)
          have hS0 : S wr.drew := by rw [hSd]; exact ⟨s0, s2⟩
          have hS1 : S (wr.drew.alloc (.cells #[.string ⟨#[97]⟩, .string ⟨#[98]⟩, .string ⟨#[99]⟩] 9)) := by
            have h3 := (HBQ.out.below (Below.refl _ _).drew).alloc (.cells #[.string ⟨#[97]⟩, .string ⟨#[98]⟩, .string ⟨#[99]⟩] 9)
            rw [hSd]; exact ⟨h3.cell 0, h3.cell 2⟩
          have HSB := hid (show ∀ V, BoxC V w2.heap.size #[.int .i64 k, .int .i64 m, .string o] → S V from fun V h3 => by rw [hSd]; exact ⟨h3.cell 0, h3.cell 2⟩)
          clear hSd s0 s1 s2 t0 t1 t2
          have HD2 := hid ((HD1.out.app (Below.refl _ _).drew hgw.1 hgw.2).alloc (.cells #[.string ⟨#[97]⟩, .string ⟨#[98]⟩, .string ⟨#[99]⟩] 9))
          have HP := hid (l1Pick_c W (wr.drew.alloc (.cells #[.string ⟨#[97]⟩, .string ⟨#[98]⟩, .string ⟨#[99]⟩] 9)) g a n c bs (some ⟨wr.drew.heap.size, 0, none⟩) k 3 (abc.take k) HD2.out.1 (by omega) (by omega) (lit_row _ _ _ (by simp [abc]; omega) (fun j v hj => by
            unfold strVals at hj
            rw [List.map_take] at hj
            rw [List.getElem?_take] at hj
            split at hj
            · simpa [abc] using hj
            · cases hj) (by omega)) (fun z off e => by
            injection e with e
            injection e with e1
            have : g < wr.drew.heap.size := hgd
            omega))
          go_wp2_with fail
          refine wp_region_T (S := S) 10 (by kernel_rfl) ?_
          (refine wpAnyT_take (i := 0) (v := ?v0b) rfl (by kernel_rfl) (by kernel_rfl) (by kernel_rfl) (by kernel_rfl) (fun _ _ _ h => h) (Or.inl ⟨by rfl, ?y0b⟩) (by assumption) ?r0b; case y0b => (intro V hSw; have hSw := HSO.out V hSw; go_split_ands; go_simp; first | done | with_reducible rfl); try simp only [Act.put, List.setIfInBounds_toArray, List.set_cons_zero, List.set_cons_succ])
          (refine wpAnyT_take (i := 1) (v := ?v1b) rfl (by kernel_rfl) (by kernel_rfl) (by kernel_rfl) (by kernel_rfl) (fun _ _ _ h => h) (Or.inl ⟨by rfl, ?y1b⟩) (by assumption) ?r1b; case y1b => (intro V hSw; have hSw := HSO.out V hSw; go_split_ands; go_simp; first | done | with_reducible rfl); try simp only [Act.put, List.setIfInBounds_toArray, List.set_cons_zero, List.set_cons_succ])
          (refine wpAnyT_take (i := 2) (v := ?v2b) rfl (by kernel_rfl) (by kernel_rfl) (by kernel_rfl) (by kernel_rfl) (fun _ _ _ h => h) (Or.inl ⟨by rfl, ?y2b⟩) (by assumption) ?r2b; case y2b => (intro V hSw; have hSw := HSO.out V hSw; go_split_ands; go_simp; first | done | with_reducible rfl); try simp only [Act.put, List.setIfInBounds_toArray, List.set_cons_zero, List.set_cons_succ])
          (refine wpAnyT_take (i := 4) (v := ?v4b) rfl (by kernel_rfl) (by kernel_rfl) (by kernel_rfl) (by kernel_rfl) (fun _ _ _ h => h) (Or.inl ⟨by rfl, ?y4b⟩) (by assumption) ?r4b; case y4b => (intro V hSw; have hSw := HSO.out V hSw; go_split_ands; go_simp; first | done | with_reducible rfl); try simp only [Act.put, List.setIfInBounds_toArray, List.set_cons_zero, List.set_cons_succ])
          (refine wpAnyT_take (i := 5) (v := ?v5b) rfl (by kernel_rfl) (by kernel_rfl) (by kernel_rfl) (by kernel_rfl) (fun _ _ _ h => h) (Or.inl ⟨by rfl, ?y5b⟩) (by assumption) ?r5b; case y5b => (intro V hSw; have hSw := HSO.out V hSw; go_split_ands; go_simp; first | done | with_reducible rfl); try simp only [Act.put, List.setIfInBounds_toArray, List.set_cons_zero, List.set_cons_succ])
          refine wpAnyT_step (i := 3) rfl (by kernel_rfl) (by decide) (fun K hK => ?_)
          go_simp
          refine hK.out _ _ hS1 ?_
          clear hK K
          try simp only [Act.put, List.setIfInBounds_toArray, List.set_cons_zero, List.set_cons_succ]
          refine wpAnyT_step (i := 6) rfl (by kernel_rfl) (by decide) (fun K hK => ?_)
          go_simp
          refine hK.out _ _ hS1 ?_
          clear hK K
          try simp only [Act.put, List.setIfInBounds_toArray, List.set_cons_zero, List.set_cons_succ]
          refine wpAnyT_step (i := 7) rfl (by kernel_rfl) (by decide) (fun K hK => ?_)
          go_simp
          go_at_call 80
          refine HP.out.mono ?_
          rintro e w3 ⟨x, rfl, hx, hd3⟩
          have hx1 := abc_size hx
          have HQ3 := hid (((HBQ.out.below (Below.refl _ _).drew).alloc (.cells #[.string ⟨#[97]⟩, .string ⟨#[98]⟩, .string ⟨#[99]⟩] 9)).grown hd3.2 (fun e => hgq e.symm))
          have HB3 := hid (((HB0.out.below (Below.refl _ _).drew).alloc (.cells #[.string ⟨#[97]⟩, .string ⟨#[98]⟩, .string ⟨#[99]⟩] 9)).grown hd3.2 (by omega))
          have HD3 := hid (HD2.out.trans hd3)
          have hS3 := HSB.out _ HQ3.out
          have hF3 := HQ3.out.froz 2
          have hO3 := HQ3.out.cell 2
          clear hd3 HP HD2
          go_wp2_with fail
          refine hK.out _ _ hS3 ?_
          clear hK K
          try simp only [Act.put, List.setIfInBounds_toArray, List.set_cons_zero, List.set_cons_succ]
          have hcat : ¬ (9223372036854775807 < o.size + 1) := by omega
          refine wpAnyT_step (i := 8) rfl (by kernel_rfl) (by decide) (fun K hK => ?_)
          go_simp
          refine hK.out _ _ hS3 ?_
          clear hK K
          try simp only [Act.put, List.setIfInBounds_toArray, List.set_cons_zero, List.set_cons_succ]
          (refine wpAnyT_take (i := 9) (v := ?v9b) rfl (by kernel_rfl) (by kernel_rfl) (by kernel_rfl) (by kernel_rfl) (fun _ _ _ h => h) (Or.inl ⟨by rfl, ?y9b⟩) (by assumption) ?r9b; case y9b => (intro V hSw; have hSw := HSO.out V hSw; go_split_ands; go_simp; first | done | with_reducible rfl); try simp only [Act.put, List.setIfInBounds_toArray, List.set_cons_zero, List.set_cons_succ])
          refine wpAnyT_last rfl (by kernel_rfl) (by kernel_rfl) (fun K hK => ?_)
          go_simp
          refine hK.out _ _ ?_
          clear hK K
          go_wp2
          go_roundw
          case rel =>
            refine ⟨j - 1, o ++ x, by go_num, by rw [ByteArray.size_append]; omega, ?_, HB3.out.other (by omega) _, HD3.out.app (show Below w.heap.size w3 (w3.setCell ⟨w2.heap.size, 2, none⟩ (.string (o ++ x))) from (Below.refl _ _).setCell (by show w.heap.size ≤ w2.heap.size; omega) _) hgw.1 hgw.2⟩
            exact HQ3.out.set _ (by show 2 < 3; omega) (fun k => match k with | 0 => rfl | 1 => rfl | 2 => rfl | k + 3 => rfl)
          case measure => simp [intOf] <;> omega
        · obtain rfl : j = 0 := by omega
          have HD2 := hid (hd.app (below_set3 (Below.refl w.heap.size wr) (Nat.le_refl _) (.int .i64 k) (.int .i64 m) (.string o)) hgw.1 hgw.2)
          have ho9 : o.size ≤ 100 := by omega
          clear hd hj hkm hpk HB0 HBQ HD hgq
          go_wp2
          refine bodyPost_ret (v := .agg #[.int .i64 k, .int .i64 m, .string o]) ?_ rfl ⟨_, _, _, rfl, ho9, HD2.out⟩
          simp [results, Try.results64, go_sem, r0, r1, r2, hzs]
  · have HD2 := hid (HD1.out.alloc (.cells #[.string ⟨#[50, 32, 50, 32, 97, 98, 98, 97]⟩, .string ⟨#[50, 32, 49, 32, 98, 97]⟩, .string ⟨#[50, 32, 51, 32, 97, 97, 98, 98, 97, 97, 98, 98]⟩, .string ⟨#[50, 32, 51, 32, 97, 98, 98, 97, 98, 97, 97, 98]⟩, .string ⟨#[50, 32, 51, 32, 97, 98, 97, 98, 97, 98, 97, 98]⟩, .string ⟨#[50, 32, 51, 32, 97, 98, 98, 98, 98, 98, 98, 97]⟩, .string ⟨#[50, 32, 50, 32, 97, 97, 98, 98]⟩, .string ⟨#[50, 32, 50, 32, 97, 97, 97, 98]⟩, .string ⟨#[51, 32, 49, 32, 98, 99, 97]⟩, .string ⟨#[51, 32, 50, 32, 97, 98, 99, 98, 99, 97, 99, 97, 98]⟩, .string ⟨#[50, 32, 51, 32, 97, 98, 98, 97, 97, 98, 98, 97]⟩, .string ⟨#[50, 32, 52, 32, 97, 97, 98, 97, 98, 98, 97, 98, 97, 97, 98, 97, 98, 98, 97, 98]⟩] 9))
    have HP := hid (l1Pick_c W (w1.alloc (.cells #[.string ⟨#[50, 32, 50, 32, 97, 98, 98, 97]⟩, .string ⟨#[50, 32, 49, 32, 98, 97]⟩, .string ⟨#[50, 32, 51, 32, 97, 97, 98, 98, 97, 97, 98, 98]⟩, .string ⟨#[50, 32, 51, 32, 97, 98, 98, 97, 98, 97, 97, 98]⟩, .string ⟨#[50, 32, 51, 32, 97, 98, 97, 98, 97, 98, 97, 98]⟩, .string ⟨#[50, 32, 51, 32, 97, 98, 98, 98, 98, 98, 98, 97]⟩, .string ⟨#[50, 32, 50, 32, 97, 97, 98, 98]⟩, .string ⟨#[50, 32, 50, 32, 97, 97, 97, 98]⟩, .string ⟨#[51, 32, 49, 32, 98, 99, 97]⟩, .string ⟨#[51, 32, 50, 32, 97, 98, 99, 98, 99, 97, 99, 97, 98]⟩, .string ⟨#[50, 32, 51, 32, 97, 98, 98, 97, 97, 98, 98, 97]⟩, .string ⟨#[50, 32, 52, 32, 97, 97, 98, 97, 98, 98, 97, 98, 97, 97, 98, 97, 98, 98, 97, 98]⟩] 9)) g a n c bs (some ⟨w1.heap.size, 0, none⟩) 12 12 exTexts HD2.out.1 (by omega) (by omega) (lit_row _ _ _ rfl (fun j v hj => by simpa [strVals, exTexts] using hj) (by omega)) (fun q off e => by
      injection e with e
      injection e with e1
      omega))
    go_wp2_with fail
    refine HP.out.mono ?_
    rintro e w2 ⟨s, rfl, hs, hd⟩
    have hs1 := exTexts_size hs
    have HB2 := hid ((HB1.out.alloc (.cells #[.string ⟨#[50, 32, 50, 32, 97, 98, 98, 97]⟩, .string ⟨#[50, 32, 49, 32, 98, 97]⟩, .string ⟨#[50, 32, 51, 32, 97, 97, 98, 98, 97, 97, 98, 98]⟩, .string ⟨#[50, 32, 51, 32, 97, 98, 98, 97, 98, 97, 97, 98]⟩, .string ⟨#[50, 32, 51, 32, 97, 98, 97, 98, 97, 98, 97, 98]⟩, .string ⟨#[50, 32, 51, 32, 97, 98, 98, 98, 98, 98, 98, 97]⟩, .string ⟨#[50, 32, 50, 32, 97, 97, 98, 98]⟩, .string ⟨#[50, 32, 50, 32, 97, 97, 97, 98]⟩, .string ⟨#[51, 32, 49, 32, 98, 99, 97]⟩, .string ⟨#[51, 32, 50, 32, 97, 98, 99, 98, 99, 97, 99, 97, 98]⟩, .string ⟨#[50, 32, 51, 32, 97, 98, 98, 97, 97, 98, 98, 97]⟩, .string ⟨#[50, 32, 52, 32, 97, 97, 98, 97, 98, 98, 97, 98, 97, 97, 98, 97, 98, 98, 97, 98]⟩] 9)).grown hd.2 (by omega))
    have HD3 := hid (HD2.out.trans hd)
    clear hd hs HP HD2 HB1 HD1
    go_wp2_with fail
    refine (spec_ParseCode_any s _ hs1).mono ?_
    rintro e w3 ⟨k, m, o, p, rfl, ho, hb⟩
    have HB3 := hid (HB2.out.below hb)
    have HD4 := hid (HD3.out.app (hb.mono HD3.out.2.size) hgw.1 hgw.2)
    have HB4 := hid (HB3.out.alloc (.cells #[.int .i64 k, .int .i64 m, .string o] 26))
    have hw3 := HD4.out.2.size
    have HD5 := hid (HD4.out.alloc (.cells #[.int .i64 k, .int .i64 m, .string o] 26))
    obtain ⟨⟨r0, r1, r2⟩, u0, u1, u2⟩ := HB3.out.c3
    have hz3 := HB3.out.lt
    clear HB2 HD3 hb
    go_wp2
    refine bodyPost_ret (v := .agg #[.int .i64 k, .int .i64 m, .string o]) (by simp [results, Try.results64, go_sem, r0, r1, r2, hz3]) rfl ⟨_, _, _, rfl, ho, HD4.out.app ?_ hgw.1 hgw.2⟩
    exact (below_set3 (Below.refl w.heap.size w3) (Nat.le_refl _) (.int .i64 k) (.int .i64 m) (.string o)).alloc (by simpa using hw3) _
end Go.Proofs.Ytcmmlldincflkaa
