/- Sessions compared by both functions. Conditions: what they hold lies in memory. -/
import Derived.Test.YtomeinlaiidmpaaEqM
namespace Go.Proofs.Ytomeinlaiidmpaa
open Go.RowKit

def sesEq (s t : Ses) : Bool := decide (s.rows = t.rows) && (decide (s.l = t.l) && (decide (s.ss = t.ss) && (decide (s.k = t.k) && (decide (s.q = t.q) && decide (s.o = t.o)))))
theorem boxes2 {w w1 : World} {A B : Array Value} {S T : TypeId} {z : Nat} (h : w1 = ((w.alloc (.cells A S)).alloc (.cells B T)).drewN z) :
    (∀ k, w1.cell? ⟨w.heap.size, k, none⟩ = A[k]?) ∧ (∀ k, w1.cell? ⟨w.heap.size + 1, k, none⟩ = B[k]?) ∧ w.heap.size + 1 < w1.heap.size ∧ Below w.heap.size w w1 := by
  have hb : Below (((w.alloc (.cells A S)).alloc (.cells B T)).heap.size) ((w.alloc (.cells A S)).alloc (.cells B T)) w1 := by
    rw [h]; exact below_drewN (Below.refl _ _) z
  obtain ⟨⟨hA, _⟩, ⟨hA', _⟩, hz1, hB⟩ := box2 hb
  exact ⟨hA, hA', hz1, hB⟩
set_option maxHeartbeats 2000000 in
theorem impl_EqualSession_c (v u : Value) (s t : Ses) (w : World) (h : SesAt w v s) (h' : SesAt w u t) :
    Calls Try.prog 35 #[v, u] w fun e w' => e = .returned (.bool (sesEq s t)) ∧ Below w.heap.size w w' := by
  obtain ⟨a, c, b, d, rfl, hT, hR⟩ := h
  obtain ⟨a', c', b', d', rfl, hT', hR'⟩ := h'
  obtain ⟨rows, l, ss, k, q, o⟩ := s
  obtain ⟨rows', l', ss', k', q', o'⟩ := t
  simp only at hT hR hT' hR' ⊢
  obtain ⟨r, hr⟩ : ∃ r, decide (rows = rows') = r := ⟨_, rfl⟩
  obtain ⟨p, hp⟩ : ∃ p, decide (ss = ss') = p := ⟨_, rfl⟩
  have hse : sesEq ⟨rows, l, ss, k, q, o⟩ ⟨rows', l', ss', k', q', o'⟩ = (r && (decide (l = l') && (p && (decide (k = k') && (decide (q = q') && decide (o = o')))))) := by
    rw [← hr, ← hp]; rfl
  rw [hse]
  have H1 := hid (fun (V : World) (hV : Below w.heap.size w V) => impl_EqualMatrix_c a a' c c' rows rows' r V (hT.below hV (Nat.le_refl _)) (hT'.below hV (Nat.le_refl _)) hr)
  have H2 := hid (fun (V : World) (hV : Below w.heap.size w V) => slicesEqualS_c b b' d d' ss ss' p V (hR.below hV (Nat.le_refl _)) (hR'.below hV (Nat.le_refl _)) hp)
  obtain ⟨n, hn⟩ : ∃ n, n = rows.length := ⟨_, rfl⟩
  obtain ⟨m, hm⟩ : ∃ m, m = ss.length := ⟨_, rfl⟩
  obtain ⟨n', hn'⟩ : ∃ n, n = rows'.length := ⟨_, rfl⟩
  obtain ⟨m', hm'⟩ : ∃ m, m = ss'.length := ⟨_, rfl⟩
  rw [← hn, ← hn'] at H1
  rw [← hn, ← hn', ← hm, ← hm']
  rw [← hm, ← hm'] at H2
  clear hT hR hT' hR' hn hm hn' hm' hr hp hse
  go_enter Try.func35, Try.ntmps35
  go_wp2_with fail
  refine (H1.out _ (((Below.refl _ _).alloc (Nat.le_refl _) _).alloc (by simp) _)).mono ?_
  rintro e w1 ⟨rfl, z, hz⟩
  obtain ⟨hA, hA', hz1, hB⟩ := boxes2 hz
  have q1 := hA 1
  have q2 := hA 2
  have q3 := hA 3
  have q4 := hA 4
  have q5 := hA 5
  have p1 := hA' 1
  have p2 := hA' 2
  have p3 := hA' 3
  have p4 := hA' 4
  have p5 := hA' 5
  simp at q1 q2 q3 q4 q5 p1 p2 p3 p4 p5
  clear hz hA hA'
  cases r
  · go_wp2
    go_ret
    exact ⟨by simp, hB⟩
  by_cases hl : l = l'
  · subst hl
    go_wp2_with fail
    refine (H2.out _ hB).mono ?_
    rintro e w2 ⟨rfl, z2, hz2⟩
    have hB2 : Below w.heap.size w w2 := by rw [hz2]; exact below_drewN hB z2
    have q3 : w2.cell? ⟨w.heap.size, 3, none⟩ = some (.int .i64 k) := by rw [hz2]; exact q3
    have q4 : w2.cell? ⟨w.heap.size, 4, none⟩ = some (.int .i64 q) := by rw [hz2]; exact q4
    have q5 : w2.cell? ⟨w.heap.size, 5, none⟩ = some (.string o) := by rw [hz2]; exact q5
    have p3 : w2.cell? ⟨w.heap.size + 1, 3, none⟩ = some (.int .i64 k') := by rw [hz2]; exact p3
    have p4 : w2.cell? ⟨w.heap.size + 1, 4, none⟩ = some (.int .i64 q') := by rw [hz2]; exact p4
    have p5 : w2.cell? ⟨w.heap.size + 1, 5, none⟩ = some (.string o') := by rw [hz2]; exact p5
    clear hz2
    cases p
    · go_wp2
      go_ret
      exact ⟨by simp, hB2⟩
    · by_cases hk : k = k'
      · subst hk
        by_cases hq : q = q'
        · subst hq
          by_cases ho : o = o'
          · subst ho
            go_wp2
            go_ret
            exact ⟨by simp, hB2⟩
          · have ho2 : ¬ o.toList = o'.toList := by simpa using str_ne2 ho
            go_wp2
            go_ret
            exact ⟨by simp [ho], hB2⟩
        · go_wp2
          go_ret
          exact ⟨by simp [hq], hB2⟩
      · go_wp2
        go_ret
        exact ⟨by simp [hk], hB2⟩
  · have hl2 : (l == l') = false := by simpa using hl
    go_wp2
    go_ret
    exact ⟨by simp [hl], hB⟩
set_option maxHeartbeats 4000000 in
theorem spec_EqualSession_c (v u : Value) (s t : Ses) (w : World) (h : SesAt w v s) (h' : SesAt w u t) :
    Calls Try.prog 33 #[v, u] w fun e w' => e = .returned (.bool (sesEq s t)) ∧ Below w.heap.size w w' := by
  obtain ⟨a, c, b, d, rfl, hT, hR⟩ := h
  obtain ⟨a', c', b', d', rfl, hT', hR'⟩ := h'
  obtain ⟨rows, l, ss, k, q, o⟩ := s
  obtain ⟨rows', l', ss', k', q', o'⟩ := t
  simp only at hT hR hT' hR' ⊢
  obtain ⟨r, hr⟩ : ∃ r, decide (rows = rows') = r := ⟨_, rfl⟩
  have hse : sesEq ⟨rows, l, ss, k, q, o⟩ ⟨rows', l', ss', k', q', o'⟩ = (r && (decide (l = l') && (decide (ss = ss') && (decide (k = k') && (decide (q = q') && decide (o = o')))))) := by
    rw [← hr]; rfl
  rw [hse]
  have H1 := hid (fun (V : World) (hV : Below w.heap.size w V) => spec_EqualMatrix_c a a' c c' rows rows' r V (hT.below hV (Nat.le_refl _)) (hT'.below hV (Nat.le_refl _)) hr)
  obtain ⟨n, hn⟩ : ∃ n, n = rows.length := ⟨_, rfl⟩
  obtain ⟨n', hn'⟩ : ∃ n, n = rows'.length := ⟨_, rfl⟩
  rw [← hn, ← hn'] at H1
  rw [← hn, ← hn']
  clear hT hT' hn hn' hr hse
  obtain ⟨m, hm⟩ : ∃ m, m = ss.length := ⟨_, rfl⟩
  obtain ⟨m', hm'⟩ : ∃ m, m = ss'.length := ⟨_, rfl⟩
  rw [← hm] at hR ⊢
  rw [← hm'] at hR' ⊢
  have hlim := hR.lim
  have hlim' := hR'.lim
  have hat := hid hR.at_
  have hbt := hid hR'.at_
  have HM := hid hm
  have HM' := hid hm'
  clear hR hR' hm hm'
  by_cases hl : l = l'
  · subst hl
    by_cases hmm : m = m'
    · subst hmm
      have hB := hid (show Below w.heap.size w ((w.alloc (.cells #[.slice a n c, .int .i64 l, .slice b m d, .int .i64 k, .int .i64 q, .string o] 57)).alloc (.cells #[.slice a' n' c', .int .i64 l, .slice b' m d', .int .i64 k', .int .i64 q', .string o'] 57)) from ((Below.refl _ _).alloc (Nat.le_refl _) _).alloc (by simp) _)
      obtain ⟨W1, hW1⟩ : ∃ W1, W1 = ((w.alloc (.cells #[.slice a n c, .int .i64 l, .slice b m d, .int .i64 k, .int .i64 q, .string o] 57)).alloc (.cells #[.slice a' n' c', .int .i64 l, .slice b' m d', .int .i64 k', .int .i64 q', .string o'] 57)) := ⟨_, rfl⟩
      obtain ⟨hA, hA', hz1, _⟩ := boxes2 (z := 0) (hW1.trans rfl)
      have q2 := hA 2
      have q3 := hA 3
      have q4 := hA 4
      have q5 := hA 5
      have q0 := hA 0
      have p0 := hA' 0
      have p2 := hA' 2
      have p3 := hA' 3
      have p4 := hA' 4
      have p5 := hA' 5
      simp at q0 q2 q3 q4 q5 p0 p2 p3 p4 p5
      clear hA hA'
      go_enter Try.func33, Try.ntmps33
      go_wp2
      rw [← hW1]
      rw [← hW1] at hB
      clear hW1
      go_loopw [5] (fun i wr => ∃ j : Nat, j ≤ m ∧ i = .int .i64 j ∧ ss.take j = ss'.take j ∧ ∃ z, wr = W1.drewN z) (fun i _ => m - (intOf i).toNat)
      case atStart => exact ⟨0, by omega, rfl, rfl, 0, rfl⟩
      case round =>
        obtain ⟨j, hj, rfl, htk, z, hz⟩ := hrel
        have HTK := hid htk
        have hbel : Below w.heap.size w wr := by rw [hz]; exact below_drewN hB.out z
        have hsz : w.heap.size + 1 < wr.heap.size := by rw [hz]; exact hz1
        have q0 : wr.cell? ⟨w.heap.size, 0, none⟩ = some (.slice a n c) := by rw [hz]; exact q0
        have q2 : wr.cell? ⟨w.heap.size, 2, none⟩ = some (.slice b m d) := by rw [hz]; exact q2
        have q3 : wr.cell? ⟨w.heap.size, 3, none⟩ = some (.int .i64 k) := by rw [hz]; exact q3
        have q4 : wr.cell? ⟨w.heap.size, 4, none⟩ = some (.int .i64 q) := by rw [hz]; exact q4
        have q5 : wr.cell? ⟨w.heap.size, 5, none⟩ = some (.string o) := by rw [hz]; exact q5
        have p0 : wr.cell? ⟨w.heap.size + 1, 0, none⟩ = some (.slice a' n' c') := by rw [hz]; exact p0
        have p2 : wr.cell? ⟨w.heap.size + 1, 2, none⟩ = some (.slice b' m d') := by rw [hz]; exact p2
        have p3 : wr.cell? ⟨w.heap.size + 1, 3, none⟩ = some (.int .i64 k') := by rw [hz]; exact p3
        have p4 : wr.cell? ⟨w.heap.size + 1, 4, none⟩ = some (.int .i64 q') := by rw [hz]; exact p4
        have p5 : wr.cell? ⟨w.heap.size + 1, 5, none⟩ = some (.string o') := by rw [hz]; exact p5
        have HZ := hid hz
        have HBEL := hid hbel
        clear htk hz
        by_cases hlt : j < m
        · obtain ⟨s, hs⟩ := get_some (l := ss) (n := j) (by rw [← HM.out]; exact hlt)
          obtain ⟨t, ht⟩ := get_some (l := ss') (n := j) (by rw [← HM'.out]; exact hlt)
          obtain ⟨b1, off1, rfl, hb1, hc1⟩ := hat.out (by omega)
          obtain ⟨b2, off2, rfl, hb2, hc2⟩ := hbt.out (by omega)
          have hcell1 := (hbel.cell (p := ⟨b1, off1 + j, none⟩) hb1).trans (hc1 j _ (strVals_get hs))
          have hcell2 := (hbel.cell (p := ⟨b2, off2 + j, none⟩) hb2).trans (hc2 j _ (strVals_get ht))
          have E1 := hid hs
          have E2 := hid ht
          clear hs ht hc1 hc2 hbel
          by_cases hst : s = t
          · subst hst
            go_wp2
            go_quiet (fail)
            go_wp2
            go_roundw
            case rel => exact ⟨j + 1, by omega, by go_num, rows_take E1.out E2.out HTK.out, z + nq, by rw [HZ.out, World.drewN_drewN]⟩
            case measure => simp [intOf]; omega
          · have HNE := hid (rows_part E1.out E2.out hst)
            have hst2 := str_ne2 hst
            go_wp2
            go_quiet (fail)
            go_wp2
            go_ret
            exact ⟨by rw [decide_eq_false HNE.out]; simp, below_drewN HBEL.out _⟩
        · obtain rfl : j = m := by omega
          have HE := hid (decide_eq_true (rows_all HM.out.symm HM'.out.symm HTK.out))
          have HCALL := hid (H1.out _ hbel)
          clear hbel
          go_wp2_with fail
          refine HCALL.out.mono ?_
          rintro e w2 ⟨rfl, z2, hz2⟩
          have hB2 : Below w.heap.size w w2 := by rw [hz2]; exact below_drewN HBEL.out z2
          have q3 : w2.cell? ⟨w.heap.size, 3, none⟩ = some (.int .i64 k) := by rw [hz2]; exact q3
          have q4 : w2.cell? ⟨w.heap.size, 4, none⟩ = some (.int .i64 q) := by rw [hz2]; exact q4
          have q5 : w2.cell? ⟨w.heap.size, 5, none⟩ = some (.string o) := by rw [hz2]; exact q5
          have p3 : w2.cell? ⟨w.heap.size + 1, 3, none⟩ = some (.int .i64 k') := by rw [hz2]; exact p3
          have p4 : w2.cell? ⟨w.heap.size + 1, 4, none⟩ = some (.int .i64 q') := by rw [hz2]; exact p4
          have p5 : w2.cell? ⟨w.heap.size + 1, 5, none⟩ = some (.string o') := by rw [hz2]; exact p5
          clear hz2
          cases r
          · go_wp2
            go_ret
            exact ⟨by simp, hB2⟩
          · by_cases hk : k = k'
            · subst hk
              by_cases hq : q = q'
              · subst hq
                by_cases ho : o = o'
                · subst ho
                  go_wp2
                  go_ret
                  exact ⟨by rw [HE.out]; simp, hB2⟩
                · have ho2 : ¬ o.toList = o'.toList := by simpa using str_ne2 ho
                  go_wp2
                  go_ret
                  exact ⟨by simp [ho], hB2⟩
              · go_wp2
                go_ret
                exact ⟨by simp [hq], hB2⟩
            · go_wp2
              go_ret
              exact ⟨by simp [hk], hB2⟩
    · have hmm2 : ¬ ((m : Int) = (m' : Int)) := by omega
      have hss : ss ≠ ss' := fun e => hmm (by rw [HM.out, HM'.out, e])
      have HSS := hid hss
      clear hss
      go_enter Try.func33, Try.ntmps33
      go_wp2
      go_ret
      exact ⟨by rw [decide_eq_false HSS.out]; simp, ((Below.refl _ _).alloc (Nat.le_refl _) _).alloc (by simp) _⟩
  · have hl2 : (l == l') = false := by simpa using hl
    go_enter Try.func33, Try.ntmps33
    go_wp2
    go_ret
    exact ⟨by simp [hl], ((Below.refl _ _).alloc (Nat.le_refl _) _).alloc (by simp) _⟩
end Go.Proofs.Ytomeinlaiidmpaa
