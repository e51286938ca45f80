/- Parts from one place up to the next. Conditions: sizes of at most 1048576 bytes. -/
import Derived.Test.YtcfjchaklgjmkaaPlaces
import Derived.Deep.AppendLies
namespace Go.Proofs.Ytcfjchaklgjmkaa
open Go.RowKit

/-- As wpList_app1, and where the slice lies behind it: where it lay, or in a new block. -/
theorem wpList_app2 {P : Program} {wr : World} {ops : Array Oper} {rest : List Oper} {o : Oper} {a : Act} {Q : Exit → Act → World → Prop}
    (hg : o.guard = none) (s x : Operand) (t : TypeId) (hop : o.op = Op.call { callee := Callee.builtin Builtin.append, args := #[s, x], argTypes := #[t, t] })
    (B : Nat) (e : TypeId) (z : Value) (bytes : Nat) (h1 : P.underlying t = some (.slice e)) (hinfo : (P.info? e).map (fun i => (i.zero, i.size, i.bytes)) = some (some z, 1, bytes)) (hzs : z.cells.size = 1)
    (v : Value) (m : Nat) (xs : List Value) (u : Value) (hown : wr.ownsRow B e 1 v m xs) (hs : a.eval s = v) (hx : a.eval x = .slice (some ⟨wr.heap.size, 0, none⟩) 1 1)
    (hu : u.oneCell' = true) (hlim : (m + 1) * bytes ≤ 140737488355328) (hlim2 : m + 1 ≤ maxLen) (hB : B ≤ wr.heap.size)
    (hK : ∀ v' w1, w1.ownsRow B e 1 v' (m + 1) (xs ++ [u]) → (wr.alloc (.cells #[u] e)).grownBy w1 v.ownBlock → (v'.ownBlock = v.ownBlock ∨ v'.ownBlock = some (wr.heap.size + 1)) → wpList P ops Q rest (a.put o.dst v') w1) :
    wpList P ops Q (o :: rest) a (wr.alloc (.cells #[u] e)) := by
  obtain ⟨i, hi, hz, hz1, hz2⟩ := info_parts hinfo
  refine wpList_append_lies _ hg s x t hop B e i z 1 bytes h1 hi hz hz1 hz2 hzs (by decide) v m xs hs (hown.alloc _) ⟨wr.heap.size, 0, none⟩ 1 1 [u] hx rfl ?_ ?_ (by decide) hlim2 hlim (by simp; omega) (wr.heap.size + 1) (by simp) ?_
  · intro j y hj
    match j, hj with
    | 0, hj => simp at hj; subst hj; simp [Addr.add]
  · intro y hy; simp at hy; subst hy; exact hu
  · intro g cap w1 hown' hgrow hat _
    refine hK _ w1 hown' hgrow ?_
    rcases hat with h | h
    · exact .inl h.symm
    · exact .inr (by rw [h]; rfl)

/-- Is the text among those of a list? -/
def hasB (ss : List ByteArray) (x : ByteArray) : Bool := ss.any fun y => y.toList == x.toList
def hasNo (ss : List ByteArray) (x : ByteArray) : Bool := ss.all fun y => !(y.toList == x.toList)
theorem hasB_eq (ss : List ByteArray) (x : ByteArray) : hasB ss x = !hasNo ss x := by
  unfold hasB hasNo; induction ss with
  | nil => rfl
  | cons a l ih => simp [ih, Bool.not_and]

theorem owns_from {w : World} {base e : Nat} {a : Option Addr} {n cap : Nat} {xs : List Value} (h : w.ownsRow base e 1 (.slice a n cap) n xs) (hn : 0 < n) :
    ∃ b, a = some ⟨b, 0, none⟩ ∧ base ≤ b ∧ b < w.heap.size ∧ ∀ k x, xs[k]? = some x → w.cell? ⟨b, 0 + k, none⟩ = some x := by
  rcases h.2 with ⟨h1, h2⟩ | ⟨g, cap', cur, hv, hb, hg, hnc, hcm, hcs, htake⟩
  · omega
  · simp only [Value.slice.injEq] at hv
    obtain ⟨rfl, _, rfl⟩ := hv
    refine ⟨g, rfl, hb, (Array.getElem?_eq_some_iff.1 hg).1, fun k x hx => ?_⟩
    rw [cell_of_row w g (0 + k) cur e (0, 0) hg]
    rw [← htake, List.getElem?_take] at hx
    split at hx
    · simpa using hx
    · cases hx

set_option maxHeartbeats 1000000 in
theorem l2HasText_c (a : Option Addr) (n cap : Nat) (ss : List ByteArray) (x : ByteArray) (w : World) (hr : RowAt w a n (strVals ss)) :
    Calls Try.prog 77 #[.slice a n cap, .string x] w fun e w' => e = .returned (.bool (hasB ss x)) ∧ w = w' := by
  obtain ⟨hl, hlim, hat⟩ := hr
  have hlen := hid (show ss.length = n by simpa [strVals] using hl)
  have HAT := hid hat
  clear hl hat
  go_enter Try.func77, Try.ntmps77
  go_wp2
  go_loop [5] (fun i => ∃ k : Nat, k ≤ n ∧ i = .int .i64 k ∧ Hid (hasNo (ss.take k) x = true)) (fun i => n - (intOf i).toNat)
  case atStart => exact ⟨0, by omega, rfl, rfl⟩
  case round =>
    obtain ⟨k, hk, rfl, H⟩ := hrel
    by_cases hlt : k < n
    · obtain ⟨b, off, rfl, hb, hc⟩ := HAT.out (by omega)
      clear HAT
      obtain ⟨s, hsk⟩ := get_some (l := ss) (n := k) (by rw [hlen.out]; exact hlt)
      have hcell := hc k _ (strVals_get hsk)
      have HS := hid hsk
      clear hsk hc
      cases hq : s.toList == x.toList
      · have HQ := hid hq
        go_wp2
        go_round
        case rel => exact ⟨k + 1, by omega, by go_num, all_step HS.out H.out (by rw [HQ.out]; rfl)⟩
        case measure => simp [intOf]; omega
      · have HQ := hid hq
        go_wp2
        go_ret
        exact ⟨ret_bool (by rw [hasB_eq, show hasNo ss x = false from all_stop HS.out (by rw [HQ.out]; rfl)]; rfl), rfl⟩
    · go_wp2
      go_ret
      exact ⟨ret_bool (by rw [hasB_eq, show hasNo ss x = true from all_end H.out (by rw [hlen.out]; omega)]; rfl), rfl⟩

/-- What Index returns: a number that is not negative exactly if the text is there. -/
def IdxPost (ss : List ByteArray) (x : ByteArray) (w : World) (e : Ending) (w' : World) : Prop := w = w' ∧ ∃ r : Int, e = .returned (.int .i64 r) ∧ decide (0 ≤ r) = hasB ss x
set_option maxHeartbeats 1000000 in
theorem slicesIndexS_c (a : Option Addr) (n cap : Nat) (ss : List ByteArray) (x : ByteArray) (w : World) (hr : RowAt w a n (strVals ss)) :
    Calls Try.prog 87 #[.slice a n cap, .string x] w (IdxPost ss x w) := by
  obtain ⟨hl, hlim, hat⟩ := hr
  have hlen := hid (show ss.length = n by simpa [strVals] using hl)
  have HAT := hid hat
  clear hl hat
  go_enter Try.func87, Try.ntmps87
  go_wp2
  go_loop [5, 8] (fun _ i => ∃ k : Nat, k ≤ n ∧ i = .int .i64 k ∧ Hid (hasNo (ss.take k) x = true)) (fun _ i => n - (intOf i).toNat)
  case atStart => exact ⟨0, by omega, rfl, rfl⟩
  case round =>
    obtain ⟨k, hk, rfl, H⟩ := hrel
    by_cases hlt : k < n
    · obtain ⟨b, off, rfl, hb, hc⟩ := HAT.out (by omega)
      clear HAT
      obtain ⟨s, hsk⟩ := get_some (l := ss) (n := k) (by rw [hlen.out]; exact hlt)
      have hcell := hc k _ (strVals_get hsk)
      have HS := hid hsk
      clear hsk hc
      have hcm : (s.toList == x.toList) = (x.toList == s.toList) := Bool.beq_comm
      have HCM := hid hcm
      clear hcm
      cases hq : x.toList == s.toList
      · have HQ := hid hq
        go_wp2
        go_round
        case rel => exact ⟨k + 1, by omega, by go_num, all_step HS.out H.out (by rw [HCM.out, HQ.out]; rfl)⟩
        case measure => simp [intOf]; omega
      · have HQ := hid hq
        go_wp2
        go_ret
        exact ⟨rfl, _, rfl, by rw [hasB_eq, show hasNo ss x = false from all_stop HS.out (by rw [HCM.out, HQ.out]; rfl)]; simp⟩
    · go_wp2
      go_ret
      exact ⟨rfl, _, rfl, by rw [hasB_eq, show hasNo ss x = true from all_end H.out (by rw [hlen.out]; omega)]; simp⟩

set_option maxHeartbeats 1000000 in
theorem slicesContainsS_c (a : Option Addr) (n cap : Nat) (ss : List ByteArray) (x : ByteArray) (w : World) (hr : RowAt w a n (strVals ss)) :
    Calls Try.prog 71 #[.slice a n cap, .string x] w fun e w' => e = .returned (.bool (hasB ss x)) ∧ w = w' := by
  go_enter Try.func71, Try.ntmps71
  go_wp2_with fail
  refine (slicesIndexS_c a n cap ss x _ hr).mono ?_
  rintro e w' ⟨rfl, r, rfl, hrr⟩
  have HR := hid hrr
  clear hrr
  go_wp2
  go_ret
  exact ⟨ret_bool HR.out, rfl⟩

/-- The parts between places, each once, up to place k. -/
def addB (acc : List ByteArray) (x : ByteArray) : List ByteArray := if hasB acc x = true then acc else acc ++ [x]
def rtN (s : ByteArray) (ps : List Int) : Nat → List ByteArray | 0 => [] | k + 1 => addB (rtN s ps k) (s.extract (ps.getD k 0).toNat (ps.getD (k + 1) 0).toNat)
theorem addB_len (acc : List ByteArray) (x : ByteArray) : (addB acc x).length ≤ acc.length + 1 := by unfold addB; split <;> simp
theorem rtN_len (s : ByteArray) (ps : List Int) (k : Nat) : (rtN s ps k).length ≤ k := by
  induction k with
  | zero => simp [rtN]
  | succ k ih => have := addB_len (rtN s ps k) (s.extract (ps.getD k 0).toNat (ps.getD (k + 1) 0).toNat); simp only [rtN]; omega
def rtOf (s p : ByteArray) : List ByteArray := rtN s (plOf s.data.toList p.data.toList) ((plOf s.data.toList p.data.toList).length - 1)
theorem pl_sorted (s p : List UInt8) (n : Nat) : (pl s p n).Pairwise (· < ·) := by
  unfold pl
  rw [List.pairwise_map]
  exact (List.pairwise_lt_range.filter _).imp (fun h => by omega)
theorem pl_mem {s p : List UInt8} {n : Nat} {x : Int} (h : x ∈ pl s p n) : 0 ≤ x ∧ x < n := by
  unfold pl at h
  obtain ⟨j, hj, rfl⟩ := List.mem_map.1 h
  have := (List.mem_filter.1 hj).1
  rw [List.mem_range] at this
  omega
/-- Two places in a row. -/
theorem plOf_two {s p : List UInt8} {k : Nat} (h : k + 1 < (plOf s p).length) : ∃ q1 q2 : Nat, (plOf s p)[k]? = some (q1 : Int) ∧ (plOf s p)[k + 1]? = some (q2 : Int) ∧ q1 ≤ q2 ∧ q2 ≤ s.length := by
  unfold plOf at *
  split at h
  · rename_i hc
    rw [if_pos hc]
    have hp := List.pairwise_iff_getElem.1 (pl_sorted s p s.length) k (k + 1) (by omega) h (by omega)
    have m1 := pl_mem (List.getElem_mem (show k < (pl s p s.length).length by omega))
    have m2 := pl_mem (List.getElem_mem h)
    refine ⟨((pl s p s.length)[k]'(by omega)).toNat, ((pl s p s.length)[k + 1]).toNat, ?_, ?_, by omega, by omega⟩
    · rw [List.getElem?_eq_getElem (by omega)]; congr 1; omega
    · rw [List.getElem?_eq_getElem h]; congr 1; omega
  · simp at h

/-- What both functions return: the parts, in new memory. -/
def RtPost (s p : ByteArray) (w : World) (e : Ending) (w' : World) : Prop :=
  ∃ v, e = .returned v ∧ w'.ownsRow w.heap.size 9 1 v (rtOf s p).length (strVals (rtOf s p)) ∧ Below w.heap.size w w'
theorem infoStr2 : (Try.prog.info? 9).map (fun i => (i.zero, i.size, i.bytes)) = some (some (.string ByteArray.empty), 1, 16) := by kernel_rfl

set_option maxHeartbeats 1000000 in
theorem spec_ReturnsTo_c (s p : ByteArray) (w : World) (hs : s.size ≤ 1048576) (hp : p.size ≤ 1048576) :
    Calls Try.prog 42 #[.string s, .string p] w (RtPost s p w) := by
  have hemp : World.ownsRow (w.alloc (.cells #[] 9)) w.heap.size 9 1 (.slice (some ⟨w.heap.size, 0, none⟩) 0 0) 0 [] :=
    World.ownsRow_made w #[] 0 (Nat.le_refl _) (Nat.zero_le _) rfl
  have hbe : Below w.heap.size w (w.alloc (.cells #[] 9)) := (Below.refl _ _).alloc (Nat.le_refl _) _
  have HE := hid hemp
  have HB := hid hbe
  clear hemp hbe
  obtain ⟨m, hm⟩ : ∃ m, m = (plOf s.data.toList p.data.toList).length := ⟨_, rfl⟩
  have hml : m ≤ 1048576 := by
    have h1 : (plOf s.data.toList p.data.toList).length ≤ s.data.toList.length := by
      unfold plOf; split
      · exact pl_le _ _ _
      · simp
    rw [size_list] at h1; omega
  have HM := hid hm
  clear hm
  go_enter Try.func42, Try.ntmps42
  go_wp2_with fail
  refine (spec_PlacesIn_c s p _ hs hp).mono ?_
  rintro e w1 ⟨vp, rfl, hop, hbp⟩
  rw [← HM.out] at hop
  obtain ⟨ap, cp, rfl, hrp⟩ := owns_rowAt hop (by omega)
  have HAT := hid (fun hn => owns_from hop hn)
  have hsz0 : w.heap.size + 1 ≤ w1.heap.size := by simpa using hbp.size
  have hown1 := owns_below HE.out hbp
  have hb1 : Below w.heap.size w w1 := HB.out.trans (hbp.mono (by simp))
  clear hop hrp hbp
  go_wp2
  go_loopw [5, 7, 8] (fun v i _ wr => ∃ (j : Nat) (acc : List ByteArray), j + 1 ≤ max m 1 ∧ i = .int .i64 ((j + 1 : Nat) : Int) ∧ acc.length ≤ j ∧ Hid (acc = rtN s (plOf s.data.toList p.data.toList) j) ∧ wr.ownsRow w.heap.size 9 1 v acc.length (strVals acc) ∧
      Below w.heap.size w wr ∧ Hid (∀ k, w.heap.size < k → k < w1.heap.size → wr.heap[k]? = w1.heap[k]?) ∧ w1.heap.size ≤ wr.heap.size ∧ (v.ownBlock = some w.heap.size ∨ ∃ k, v.ownBlock = some k ∧ w1.heap.size ≤ k)) (fun _ i _ _ => m + 1 - (intOf i).toNat)
  case atStart => exact ⟨0, [], by omega, by go_num, by simp, rfl, hown1, hb1, fun _ _ _ => rfl, Nat.le_refl _, .inl rfl⟩
  case round =>
    obtain ⟨j, acc, hj, rfl, hacc, HA, hown, hbel, HKEEP, hsz1, hblk⟩ := hrel
    by_cases hlt : j + 1 < m
    · obtain ⟨q1, q2, hq1, hq2, hq12, hq2s⟩ := plOf_two (s := s.data.toList) (p := p.data.toList) (k := j) (by rw [← HM.out]; exact hlt)
      rw [size_list] at hq2s
      obtain ⟨bp, rfl, hbpl, hbps, hcp⟩ := HAT.out (by omega)
      clear HAT
      have hbpl2 : w.heap.size < bp := by simp at hbpl; omega
      have hkb := HKEEP.out bp hbpl2 hbps
      have hcp1 := (World.cell?_of_block (w := w1) (a := ⟨bp, 0 + j, none⟩) hkb).trans (hcp j _ (intVals_get hq1))
      have hcp2 := (World.cell?_of_block (w := w1) (a := ⟨bp, 0 + (j + 1), none⟩) hkb).trans (hcp (j + 1) _ (intVals_get hq2))
      simp only [Nat.zero_add] at hcp1 hcp2
      obtain ⟨av, cv, rfl, hrv⟩ := owns_rowAt hown (by omega)
      have hji : (j : Int) + 1 < (m : Int) := by omega
      have hjj : ((j + 1 : Nat) : Int) = (j : Int) + 1 := by omega
      have HST := hid (show rtN s (plOf s.data.toList p.data.toList) (j + 1) = addB acc (s.extract q1 q2) by
        rw [HA.out]; show addB _ _ = _; rw [List.getD_eq_getElem?_getD, hq1, List.getD_eq_getElem?_getD, hq2]; simp)
      clear hkb hcp hq1 hq2
      have hrtl := rtN_len s (plOf s.data.toList p.data.toList) j
      cases hh : hasB acc (s.extract q1 q2)
      · have HST2 := hid (HST.out.trans (show addB acc (s.extract q1 q2) = acc ++ [s.extract q1 q2] by unfold addB; rw [hh]; rfl))
        go_wp2_with fail
        go_quiet (fail)
        go_wp2_with fail
        have hown2 : (wr.drewN nq).ownsRow w.heap.size 9 1 (.slice av acc.length cv) acc.length (strVals acc) := hown
        have hrv2 : RowAt (wr.drewN nq) av acc.length (strVals acc) := ⟨hrv.len, hrv.lim, hrv.at_⟩
        have hbel2 : Below w.heap.size w (wr.drewN nq) := below_drewN hbel _
        have HK2 : Hid (∀ k, w.heap.size < k → k < w1.heap.size → (wr.drewN nq).heap[k]? = w1.heap[k]?) := HKEEP
        have hsz2 : w1.heap.size ≤ (wr.drewN nq).heap.size := hsz1
        clear hown hrv hbel HKEEP hsz1 hcp1 hcp2
        generalize wr.drewN nq = wq at *
        refine (l2HasText_c av acc.length cv acc _ _ hrv2).mono ?_
        rintro e wz ⟨rfl, rfl⟩
        go_wp2_with (first | (at_builtin; go_must (refine wpList_app2 rfl _ _ 24 rfl w.heap.size 9 (.string ByteArray.empty) 16 Try.underlying24 infoStr2 rfl _ acc.length (strVals acc) _ hown2 rfl rfl rfl (by omega) (by unfold maxLen; omega) hbel2.size ?_); intro v' w2 hown' hgrow hwhere))
        go_roundw
        case rel =>
          refine ⟨j + 1, acc ++ [s.extract q1 q2], by omega, by go_num, by rw [List.length_append]; simp; omega, HST2.out.symm, ?_, (hbel2.alloc hbel2.size _).grown hgrow (by have := hbel2.size; simp; omega) (fun k hk => (hown2.lt k hk).1), ?_, by have := hgrow.size; simp at this; omega, ?_⟩
          · rw [List.length_append]
            simpa [strVals] using hown'
          · intro k hk1 hk2
            rw [hgrow.block k (by simp; omega) (by rcases hblk with h | ⟨q, h, hq⟩ <;> rw [h] <;> simp <;> omega)]
            exact (Below.heap_alloc _ _ _ (by omega)).trans (HK2.out k hk1 hk2)
          · rcases hwhere with h | h
            · rw [h]; exact hblk
            · exact .inr ⟨_, h, by omega⟩
        case measure => simp [intOf]; omega
      · have HST2 := hid (HST.out.trans (show addB acc (s.extract q1 q2) = acc by unfold addB; rw [hh]; rfl))
        go_wp2_with fail
        go_quiet (fail)
        go_wp2_with fail
        have hown2 : (wr.drewN nq).ownsRow w.heap.size 9 1 (.slice av acc.length cv) acc.length (strVals acc) := hown
        have hrv2 : RowAt (wr.drewN nq) av acc.length (strVals acc) := ⟨hrv.len, hrv.lim, hrv.at_⟩
        have hbel2 : Below w.heap.size w (wr.drewN nq) := below_drewN hbel _
        have HK2 : Hid (∀ k, w.heap.size < k → k < w1.heap.size → (wr.drewN nq).heap[k]? = w1.heap[k]?) := HKEEP
        have hsz2 : w1.heap.size ≤ (wr.drewN nq).heap.size := hsz1
        clear hown hrv hbel HKEEP hsz1 hcp1 hcp2
        generalize wr.drewN nq = wq at *
        refine (l2HasText_c av acc.length cv acc _ _ hrv2).mono ?_
        rintro e wz ⟨rfl, rfl⟩
        go_wp2
        go_roundw
        case rel => exact ⟨j + 1, acc, by omega, by go_num, by omega, HST2.out.symm, hown2, hbel2, HK2, hsz2, hblk⟩
        case measure => simp [intOf]; omega
    · have hnl : ¬ ((j + 1 : Nat) : Int) < (m : Int) := by omega
      have HFIN := hid (show rtOf s p = acc by rw [rtOf, ← HM.out, HA.out]; congr 1; omega)
      go_wp2
      go_ret
      exact ⟨_, rfl, by rw [HFIN.out]; exact hown, hbel⟩
end Go.Proofs.Ytcfjchaklgjmkaa
