/- Shifts: the words of the language, the reference's way. Conditions: a shift that is one, in memory, short words. -/
import Derived.Test.YtpfeflhcbcgbfaaGreatDoorKept
import Derived.Test.YtpfeflhcbcgbfaaGreatDoorShfO
import Derived.Test.YtpfeflhcbcgbfaaGreatDoorStI
import Derived.Test.YtpfeflhcbcgbfaaGreatDoorIsSh
import Derived.Test.YtpfeflhcbcgbfaaGreatDoorShfQ
namespace Go.Proofs.YtpfeflhcbcgbfaaGreatDoor
open Go.RowKit

/-- A function over two boxes that keeps words. -/
def Keeps2 (F : FuncId) (c1 c2 : Value) (k n : Nat) (p : Nat → Bool) (W : World) : Prop :=
  ∀ i w, i < k ^ n → Below W.heap.size W w → Calls Tryz.prog F #[.string (wdB k n i), c1, c2] w fun e w' => e = .returned (.bool (p i)) ∧ Below w.heap.size w w'
set_option maxHeartbeats 2000000 in
set_option maxRecDepth 100000 in
theorem filtered2_c (k n : Nat) (F : FuncId) (c1 c2 : Value) (p : Nat → Bool) (w : World) (hk : 1 ≤ k ∧ k ≤ 3) (hn : n ≤ 8) (hF : Keeps2 F c1 c2 k n p w) (hE : ∀ x w, (callFunc F #[x, c1, c2]).run Tryz.prog w = .ok (.enter F #[x, c1, c2]) w) :
    Calls Tryz.prog 74 #[.int .i64 k, .int .i64 n, .func (.func F) #[] #[c1, c2]] w (KeptPost p k n w) := by
  have hps := pow_small hk.2 hn
  have HWO := hid (fun w : World => impl_wordsOf_c k n w hk hn)
  obtain ⟨m, hm⟩ : ∃ m, m = k ^ n := ⟨_, rfl⟩
  have HF := hid hF
  unfold Keeps2 at HF
  unfold WordsPost at HWO
  unfold KeptPost
  rw [← hm] at HWO HF hps
  rw [← hm]
  have hm1 : 1 ≤ m := by rw [hm]; exact Nat.one_le_pow _ _ (by omega)
  clear hF hm hk
  go_enter Tryz.func74, Tryz.ntmps74
  go_wp2_with fail
  refine (HWO.out _).mono ?_
  rintro e w1 ⟨v, rfl, hown, hb1⟩
  have hown2 := owns_base (base' := w.heap.size) hown (by simp)
  obtain ⟨g5, c5, rfl, hg5, hlt5⟩ := hown2.form (by omega)
  have hg6 : w.heap.size + 1 ≤ g5 := by
    obtain ⟨g7, c7, he7, hg7, _⟩ := hown.form (by omega)
    simp at he7 hg7
    omega
  have HW2 := hid hown2
  have hbelB : Below w.heap.size w w1 := ((Below.refl _ _).alloc (Nat.le_refl _) _).trans (hb1.mono (by simp))
  have hown8 : w1.ownsRow w.heap.size 9 1 (.slice (some ⟨w.heap.size, 0, none⟩) 0 0) 0 (strVals (kp p k n 0)) := owns_below (show (w.alloc (.cells #[] 9)).ownsRow w.heap.size 9 1 (.slice (some ⟨w.heap.size, 0, none⟩) 0 0) 0 (strVals (kp p k n 0)) from owns_lit3 #[] _ rfl (Nat.le_refl _) (by unfold maxLen; simp)) hb1
  clear hown hown2
  go_wp2
  go_loopw [7, 15] (fun v i wr => ∃ j : Nat, j ≤ m ∧ i = .int .i64 j ∧ wr.ownsRow w.heap.size 9 1 v ((List.range j).filter p).length (strVals (kp p k n j)) ∧ v.ownBlock ≠ some g5 ∧ wr.ownsRow w.heap.size 9 1 (.slice (some ⟨g5, 0, none⟩) m c5) m (strVals (wds k n m)) ∧ Below w.heap.size w wr) (fun _ i _ => m - (intOf i).toNat)
  case atStart => exact ⟨0, by omega, rfl, hown8, by simp [Value.ownBlock]; omega, HW2.out, hbelB⟩
  case round =>
    obtain ⟨j, hj, rfl, hown, hne, hwords, hbel⟩ := hrel
    have hcnt := kp_le p j
    by_cases hlt : j < m
    · obtain ⟨a6, c6, he6, hr6⟩ := owns_rowAt hwords (by omega)
      simp only [Value.slice.injEq, true_and] at he6
      obtain ⟨rfl, rfl⟩ := he6
      obtain ⟨b5, o5, he5, hb5, hcl5⟩ := hr6.at_ (by omega)
      simp only [Option.some.injEq, Addr.mk.injEq, and_true] at he5
      obtain ⟨rfl, rfl⟩ := he5
      have hcell := hcl5 j _ (strVals_get (wds_get hlt))
      rw [Nat.zero_add] at hcell
      have HO := hid hown
      have HWD := hid hwords
      have HFj := hid (HF.out j wr hlt hbel)
      clear hr6 hcl5 hown hwords
      obtain ⟨c, hc⟩ : ∃ c, c = ((List.range j).filter p).length := ⟨_, rfl⟩
      have HC := hid hc
      rw [← hc] at HO hcnt
      clear hc
      cases hpj : p j
      · rw [hpj] at HFj
        have HPJ := hid hpj
        clear hpj
        go_wp2_with fail
        refine HFj.out.mono ?_
        rintro e w2 ⟨rfl, hb2⟩
        have hown2 := owns_below HO.out hb2
        have hw2 := owns_below HWD.out hb2
        have hbel2 := hbel.trans (hb2.mono hbel.size)
        go_wp2
        go_roundw
        case rel => exact ⟨j + 1, by omega, by go_num, by rw [kp_no HPJ.out, cn_no HPJ.out, ← HC.out]; exact hown2, hne, hw2, hbel2⟩
        case measure => simp [intOf]; omega
      · rw [hpj] at HFj
        have HPJ := hid hpj
        clear hpj
        go_wp2_with fail
        refine HFj.out.mono ?_
        rintro e w2 ⟨rfl, hb2⟩
        have hown2 := owns_below HO.out hb2
        have hw2 := owns_below HWD.out hb2
        have hbel2 := hbel.trans (hb2.mono hbel.size)
        have hb52 := Nat.lt_of_lt_of_le hb5 hb2.size
        go_wp2_with (first | (at_builtin; go_must (refine wpList_app3 rfl _ _ 22 rfl w.heap.size 9 (.string ByteArray.empty) 16 Tryz.underlying22 infoStr3 rfl _ c (strVals (kp p k n j)) _ hown2 rfl rfl rfl (by omega) (by unfold maxLen; omega) hbel2.size g5 hne hb52 ?_); intro v' w3 hown3 hgr3 hne3))
        go_roundw
        case rel => exact ⟨j + 1, by omega, by go_num, by rw [kp_yes HPJ.out, cn_yes HPJ.out, ← HC.out]; exact hown3, hne3, hw2.kept hgr3 (Or.inr fun e => hne (by rw [← e]; rfl)), hbel2.grown hgr3 hbel2.size (fun k hk => (hown2.lt k hk).1)⟩
        case measure => simp [intOf]; omega
    · obtain rfl : j = m := by omega
      clear hwords
      go_wp2
      go_ret
      exact ⟨_, rfl, hown, hbel⟩
end Go.Proofs.YtpfeflhcbcgbfaaGreatDoor
namespace Go.Proofs.YtpfeflhcbcgbfaaGreatDoor
open Go.RowKit

/-- A word in the language. -/
noncomputable def inL (ss : List ByteArray) (k nn i : Nat) : Bool := inLV ss ((stL ss k).map (wdB k 2)) (wdB k nn i)
theorem hasV_L (ss : List ByteArray) (k nn i : Nat) : hasV ss ((stL ss k).map (wdB k 2)) (wdB k nn i) = inL ss k nn i := hasV_in stW_av
theorem stL_len {ss : List ByteArray} {k : Nat} (hk : k ≤ 3) : (stL ss k).length ≤ 9 := by
  have h1 := List.length_filter_le (livB ss k) (List.range (k ^ 2))
  rw [List.length_range] at h1
  have h2 : k ^ 2 ≤ 3 ^ 2 := Nat.pow_le_pow_left hk 2
  unfold stL
  omega
set_option maxHeartbeats 1000000 in
theorem lang_see (k M n c cw b1 b2 nn i : Nat) (a : Option Addr) (ss : List ByteArray) (gw : Option Addr) (V : World) (hr : RowAt V a n (strVals ss)) (hn : n ≤ 1048576) (hM : M ≤ 1048576) (hw : RowAt V gw M (strVals ((stL ss k).map (wdB k 2)))) (hnn : nn ≤ 1048576) (hm : MaxW V)
    (h0 : V.cell? ⟨b1, 0, none⟩ = some (.int .i64 k)) (h1 : V.cell? ⟨b1, 1, none⟩ = some (.slice a n c)) (h2 : V.cell? ⟨b2, 0, none⟩ = some (.slice gw M cw)) :
    Calls Tryz.prog 115 #[.string (wdB k nn i), .pointer (some ⟨b1, 0, none⟩), .pointer (some ⟨b2, 0, none⟩)] V fun e w' => e = .returned (.bool (inL ss k nn i)) ∧ Below V.heap.size V w' := by
  have HH := hid (has_c k M a n c ss ((stL ss k).map (wdB k 2)) gw cw (wdB k nn i) V hr hn (fun t ht => by obtain ⟨j, _, rfl⟩ := List.mem_map.1 ht; rw [wdB_size]; omega) hM hw (by rw [wdB_size]; omega) hm)
  rw [hasV_L] at HH
  clear hr hw hm
  go_enter Tryz.func115, Tryz.ntmps115
  go_wp2_with fail
  refine HH.out.mono ?_
  rintro e w1 ⟨rfl, hb⟩
  go_wp2
  go_ret
  exact ⟨rfl, hb⟩
set_option maxHeartbeats 4000000 in
set_option maxRecDepth 100000 in
theorem language_c (k nn : Nat) (a : Option Addr) (n c : Nat) (ss : List ByteArray) (w : World) (hr : RowAt w a n (strVals ss)) (hk : 1 ≤ k ∧ k ≤ 3) (hn : n ≤ 1048576) (hm : MaxW w) (hnn : nn ≤ 8) :
    Calls Tryz.prog 71 #[.agg #[.int .i64 k, .slice a n c], .int .i64 nn] w (KeptPost (inL ss k nn) k nn w) := by
  obtain ⟨W2, hW2⟩ : ∃ W2, W2 = w.alloc (.cells #[.int .i64 k, .slice a n c] 27) := ⟨_, rfl⟩
  have hB : Below w.heap.size w W2 := by rw [hW2]; exact (Below.refl _ _).alloc (Nat.le_refl _) _
  have hsz : W2.heap.size = w.heap.size + 1 := by rw [hW2]; simp
  have hbx : BoxC W2 w.heap.size #[.int .i64 k, .slice a n c] := by rw [hW2]; exact BoxC.new _ _ _
  have q0 := hbx.cell 0
  have q1 := hbx.cell 1
  have hr2 := hr.below hB (Nat.le_refl _)
  have HST := hid (impl_states_c k a n c ss W2 hr2 hk hn (max_below hm hB (Nat.le_refl _)))
  have HLEN := hid (stL_len (ss := ss) hk.2)
  have HK := hid hk
  have HBX := hid hbx
  have HR := hid hr2
  have HM := hid (max_below hm hB (Nat.le_refl _))
  have HB := hid hB
  have HC := hid (fun (cw M b2 : Nat) (gw : Option Addr) (W : World) (hW : Below W2.heap.size W2 W) (hM : M ≤ 9) (hrow : RowAt W gw M (strVals ((stL ss k).map (wdB k 2)))) (hb2 : b2 < W.heap.size) (h2 : W.cell? ⟨b2, 0, none⟩ = some (.slice gw M cw)) =>
    filtered2_c k nn 115 (.pointer (some ⟨w.heap.size, 0, none⟩)) (.pointer (some ⟨b2, 0, none⟩)) (inL ss k nn) W hk hnn
      (fun i V _ hV => lang_see k M n c cw w.heap.size b2 nn i a ss gw V (hr2.below (hW.trans (hV.mono hW.size)) (Nat.le_refl _)) hn (by omega) (hrow.below hV (Nat.le_refl _)) (by omega) (max_below (max_below hm hB (Nat.le_refl _)) (hW.trans (hV.mono hW.size)) (Nat.le_refl _))
        ((hbx.below (hW.trans (hV.mono hW.size))).cell 0) ((hbx.below (hW.trans (hV.mono hW.size))).cell 1) ((hV.cell hb2).trans h2))
      (fun x w => Tryz.call115 _ w))
  unfold StPost at HST
  unfold KeptPost at HC
  unfold KeptPost
  obtain ⟨N, hN⟩ : ∃ N, N = (stL ss k).length := ⟨_, rfl⟩
  obtain ⟨SV, hSV⟩ : ∃ SV, SV = strVals ((stL ss k).map (wdB k 2)) := ⟨_, rfl⟩
  obtain ⟨d, hd⟩ : ∃ d, d = ((List.range (k ^ nn)).filter (inL ss k nn)).length := ⟨_, rfl⟩
  obtain ⟨KV, hKV⟩ : ∃ KV, KV = strVals (kp (inL ss k nn) k nn (k ^ nn)) := ⟨_, rfl⟩
  rw [← hd, ← hKV] at HC
  rw [← hd, ← hKV]
  rw [← hSV] at HC HST
  rw [← hN] at HST HLEN
  clear hB hr hr2 hm hbx hN hSV hd hKV hn hk hnn
  go_enter Tryz.func71, Tryz.ntmps71
  go_wp2_with (rw [← hW2])
  first | rw [← hW2] | skip
  clear hW2
  refine HST.out.mono ?_
  rintro e w1 ⟨v, rfl, hown, hb1⟩
  have hN9 := HLEN.out
  obtain ⟨gw, cw, rfl, hrow⟩ := owns_rowAt hown (by omega)
  obtain ⟨W5, hW5⟩ : ∃ W5, W5 = w1.alloc (.cells #[.slice gw N cw] 22) := ⟨_, rfl⟩
  have hE5 : Below w1.heap.size w1 W5 := by rw [hW5]; exact (Below.refl _ _).alloc (Nat.le_refl _) _
  have hs5 : W5.heap.size = w1.heap.size + 1 := by rw [hW5]; simp
  have hc5 : W5.cell? ⟨w1.heap.size, 0, none⟩ = some (.slice gw N cw) := by rw [hW5]; exact (World.cell?_alloc_at _ _ _ _ rfl).trans rfl
  have hs1 := hb1.size
  have hb5 : Below W2.heap.size W2 W5 := hb1.trans (hE5.mono hs1)
  have q0b := (hb5.cell (p := ⟨w.heap.size, 0, none⟩) (by show w.heap.size < _; omega)).trans q0
  have q1b := (hb5.cell (p := ⟨w.heap.size, 1, none⟩) (by show w.heap.size < _; omega)).trans q1
  have HFI := hid (HC.out cw N w1.heap.size gw W5 hb5 HLEN.out (hrow.below hE5 (Nat.le_refl _)) (by omega) hc5)
  have HB5 := hid (HB.out.trans (hb5.mono HB.out.size))
  clear hown hrow q0 q1 hE5 hs5 hc5 hs1 hb5 hb1 HC HB HR HM HBX HST
  subst hW5
  go_wp2_with fail
  refine HFI.out.mono ?_
  rintro e w6 ⟨v6, rfl, hown6, hb6⟩
  have HO6 := hid (owns_base (base' := w.heap.size) hown6 HB5.out.size)
  have HB6 := hid (HB5.out.trans (hb6.mono HB5.out.size))
  clear hown6 hb6
  go_wp2
  go_ret
  exact ⟨_, rfl, HO6.out, HB6.out⟩
set_option maxHeartbeats 4000000 in
set_option maxRecDepth 100000 in
theorem impl_LanguageOf_c (k nn : Nat) (a : Option Addr) (n c : Nat) (ss : List ByteArray) (w : World) (hr : RowAt w a n (strVals ss)) (hok : okShB k ss = true) (hm : MaxW w) (hnn : nn ≤ 6) :
    Calls Tryz.prog 81 #[.agg #[.int .i64 k, .slice a n c], .int .i64 nn] w (KeptPost (inL ss k nn) k nn w) := by
  obtain ⟨hk, hl8, hsw, _⟩ := okSh_facts hok
  have hln : ss.length = n := by simpa [strVals] using hr.len
  obtain ⟨W2, hW2⟩ : ∃ W2, W2 = w.alloc (.cells #[.int .i64 k, .slice a n c] 27) := ⟨_, rfl⟩
  have hB : Below w.heap.size w W2 := by rw [hW2]; exact (Below.refl _ _).alloc (Nat.le_refl _) _
  have hsz : W2.heap.size = w.heap.size + 1 := by rw [hW2]; simp
  have hbx : BoxC W2 w.heap.size #[.int .i64 k, .slice a n c] := by rw [hW2]; exact BoxC.new _ _ _
  have q0 := hbx.cell 0
  have q1 := hbx.cell 1
  have HIS := hid (impl_IsShift_ok k a n c ss W2 (hr.below hB (Nat.le_refl _)) hok)
  have HLA := hid (fun (V : World) (hV : Below w.heap.size w V) => language_c k nn a n c ss V (hr.below hV (Nat.le_refl _)) hk (by omega) (max_below hm hV (Nat.le_refl _)) (by omega))
  unfold KeptPost at HLA
  unfold KeptPost
  obtain ⟨d, hd⟩ : ∃ d, d = ((List.range (k ^ nn)).filter (inL ss k nn)).length := ⟨_, rfl⟩
  obtain ⟨KV, hKV⟩ : ∃ KV, KV = strVals (kp (inL ss k nn) k nn (k ^ nn)) := ⟨_, rfl⟩
  rw [← hd, ← hKV] at HLA
  rw [← hd, ← hKV]
  have HB := hid hB
  have hn0 : ¬ ((nn : Int) < 0) := by omega
  have hn6 : ¬ ((6 : Int) < (nn : Int)) := by omega
  clear hB hr hm hbx hd hKV hk hnn hok hsw hln hl8
  go_enter Tryz.func81, Tryz.ntmps81
  go_wp2_with (rw [← hW2])
  first | rw [← hW2] | skip
  clear hW2
  refine HIS.out.mono ?_
  rintro e w1 ⟨rfl, hb1⟩
  have q0b := (hb1.cell (p := ⟨w.heap.size, 0, none⟩) (by show w.heap.size < _; omega)).trans q0
  have q1b := (hb1.cell (p := ⟨w.heap.size, 1, none⟩) (by show w.heap.size < _; omega)).trans q1
  have HB1 := hid (HB.out.trans (hb1.mono HB.out.size))
  have HL1 := hid (HLA.out _ HB1.out)
  clear q0 q1 HLA HIS HB hb1
  go_wp2_with fail
  refine HL1.out.mono ?_
  rintro e w6 ⟨v6, rfl, hown6, hb6⟩
  have HO6 := hid (owns_base (base' := w.heap.size) hown6 HB1.out.size)
  have HB6 := hid (HB1.out.trans (hb6.mono HB1.out.size))
  clear hown6 hb6
  go_wp2
  go_ret
  exact ⟨_, rfl, HO6.out, HB6.out⟩
end Go.Proofs.YtpfeflhcbcgbfaaGreatDoor
namespace Go.Proofs.YtpfeflhcbcgbfaaGreatDoor
open Go.RowKit
/-- A value appended; the row's block stays another than each that it was not. -/
theorem wpList_app4 {P : Program} {wr : World} {ops : Array Oper} {rest : List Oper} {o : Oper} {a : Act} {Q : Exit → Act → World → Prop}
    (hg : o.guard = none) (s x : Operand) (t : TypeId) (hop : o.op = Op.call { callee := Callee.builtin Builtin.append, args := #[s, x], argTypes := #[t, t] })
    (B : Nat) (e : TypeId) (z : Value) (bytes : Nat) (h1 : P.underlying t = some (.slice e)) (hinfo : (P.info? e).map (fun i => (i.zero, i.size, i.bytes)) = some (some z, 1, bytes)) (hzs : z.cells.size = 1)
    (v : Value) (m : Nat) (xs : List Value) (u : Value) (hown : wr.ownsRow B e 1 v m xs) (hs : a.eval s = v) (hx : a.eval x = .slice (some ⟨wr.heap.size, 0, none⟩) 1 1)
    (hu : u.oneCell' = true) (hlim : (m + 1) * bytes ≤ 140737488355328) (hlim2 : m + 1 ≤ maxLen) (hB : B ≤ wr.heap.size)
    (hK : ∀ v' w1, w1.ownsRow B e 1 v' (m + 1) (xs ++ [u]) → wr.grownBy w1 v.ownBlock → (∀ bb, v.ownBlock ≠ some bb → bb < wr.heap.size → v'.ownBlock ≠ some bb) → wpList P ops Q rest (a.put o.dst v') w1) :
    wpList P ops Q (o :: rest) a (wr.alloc (.cells #[u] e)) := by
  obtain ⟨i, hi, hz, hz1, hz2⟩ := info_parts hinfo
  refine wpList_append_lies _ hg s x t hop B e i z 1 bytes h1 hi hz hz1 hz2 hzs (by decide) v m xs hs (hown.alloc _) ⟨wr.heap.size, 0, none⟩ 1 1 [u] hx rfl ?_ ?_ (by decide) hlim2 hlim (by simp; omega) (wr.heap.size + 1) (by simp) ?_
  · intro j y hj
    match j, hj with
    | 0, hj => simp at hj; subst hj; simp [Addr.add]
  · intro y hy; simp at hy; subst hy; exact hu
  · intro g cap w1 hown' hgrow hor _
    refine hK _ w1 hown' (grown_trans (World.grownBy_alloc _ _ _) hgrow) ?_
    intro bb hne hbb
    rcases hor with h | h
    · intro e
      apply hne
      rw [h]
      simpa [Value.ownBlock] using e
    · intro e
      have : g = bb := by simpa [Value.ownBlock] using e
      omega
set_option maxHeartbeats 8000000 in
set_option maxRecDepth 100000 in
theorem spec_LanguageOf_c (k nn : Nat) (a : Option Addr) (n c : Nat) (ss : List ByteArray) (w : World) (hr : RowAt w a n (strVals ss)) (hok : okShB k ss = true) (hnn : nn ≤ 6) :
    Calls Tryz.prog 60 #[.agg #[.int .i64 k, .slice a n c], .int .i64 nn] w (KeptPost (inL ss k nn) k nn w) := by
  obtain ⟨hk, hl8, hsw, _⟩ := okSh_facts hok
  have hln : ss.length = n := by simpa [strVals] using hr.len
  have hs : ∀ t ∈ ss, t.size ≤ 1048576 := fun t ht => by
    obtain ⟨i, hi⟩ := List.mem_iff_getElem?.1 ht
    have := (hsw i t hi).2.2
    omega
  have hps := pow_small hk.2 (show nn ≤ 8 by omega)
  have HWO := hid (fun w : World => spec_l2All_c k nn w hk (by omega))
  have HIS := hid (fun (V : World) (hV : Below w.heap.size w V) => spec_IsShift_ok k a n c ss V (hr.below hV (Nat.le_refl _)) hok)
  have HLI := hid (fun w => l1In_c (nn : Int) 0 6 w)
  rw [inB_t (show (0 : Int) ≤ (nn : Int) ∧ (nn : Int) ≤ 6 by omega)] at HLI
  have HPR := hid (fun (V : World) (hV : Below w.heap.size w V) => l3Pairs_c k a n c ss V (hr.below hV (Nat.le_refl _)) hs hk (by omega))
  have HLEN := hid (stL_len (ss := ss) hk.2)
  have HIN := hid (fun (V : World) (M cw i : Nat) (gw : Option Addr) (hV : Below w.heap.size w V) (hM : M ≤ 9) (hrow : RowAt V gw M (strVals ((stL ss k).map (wdB k 2)))) => show Calls Tryz.prog 111 #[.agg #[.int .i64 k, .slice a n c], .slice gw M cw, .string (wdB k nn i)] V fun e w' => e = .returned (.bool (inL ss k nn i)) ∧ Below V.heap.size V w' from
    l3In_c k M a n c ss ((stL ss k).map (wdB k 2)) gw cw (wdB k nn i) V (hr.below hV (Nat.le_refl _)) hs (by omega) (fun t ht => by obtain ⟨j, _, rfl⟩ := List.mem_map.1 ht; rw [wdB_size]; omega) (by omega) hrow (by rw [wdB_size]; omega))
  unfold PrPost at HPR
  unfold WordsPost at HWO
  unfold KeptPost
  obtain ⟨p, hp⟩ : ∃ p, p = inL ss k nn := ⟨_, rfl⟩
  rw [← hp] at HIN
  rw [← hp]
  obtain ⟨N, hN⟩ : ∃ N, N = (stL ss k).length := ⟨_, rfl⟩
  obtain ⟨SV, hSV⟩ : ∃ SV, SV = strVals ((stL ss k).map (wdB k 2)) := ⟨_, rfl⟩
  rw [← hSV] at HIN HPR
  rw [← hN] at HPR HLEN
  obtain ⟨m, hm⟩ : ∃ m, m = k ^ nn := ⟨_, rfl⟩
  rw [← hm] at HWO hps
  rw [← hm]
  have hm1 : 1 ≤ m := by rw [hm]; exact Nat.one_le_pow _ _ (by omega)
  obtain ⟨W2, hW2⟩ : ∃ W2, W2 = w.alloc (.cells #[.int .i64 k, .slice a n c] 27) := ⟨_, rfl⟩
  have hB : Below w.heap.size w W2 := by rw [hW2]; exact (Below.refl _ _).alloc (Nat.le_refl _) _
  have hsz : W2.heap.size = w.heap.size + 1 := by rw [hW2]; simp
  have hbx : BoxC W2 w.heap.size #[.int .i64 k, .slice a n c] := by rw [hW2]; exact BoxC.new _ _ _
  have HBX := hid (fun (V : World) (hV : Below W2.heap.size W2 V) => show (V.cell? ⟨w.heap.size, 0, none⟩ = some (.int .i64 k) ∧ V.cell? ⟨w.heap.size, 1, none⟩ = some (.slice a n c)) ∧ Below w.heap.size w V from ⟨⟨(hbx.below hV).cell 0, (hbx.below hV).cell 1⟩, hB.trans (hV.mono (by omega))⟩)
  have HO0 := hid (owns_lit3 (w := W2) (base := W2.heap.size) (e := 9) #[] [] rfl (Nat.le_refl _) (by unfold maxLen; simp))
  have HE0 := hid (show Below W2.heap.size W2 (W2.alloc (.cells #[] 9)) from (Below.refl _ _).alloc (Nat.le_refl _) _)
  have hszW := hB.size
  obtain ⟨⟨q0, q1⟩, hbl0⟩ := HBX.out _ HE0.out
  have HIS1 := hid (HIS.out _ hbl0)
  clear hB hbx hp hm hk hr hs hN hSV hok hsw hln hbl0 HIS
  go_enter Tryz.func60, Tryz.ntmps60
  go_wp2_with (first | rw [← hW2])
  first | rw [← hW2] | skip
  clear hW2
  refine HIS1.out.mono ?_
  rintro e w1 ⟨rfl, hb1⟩
  have hb2 : Below W2.heap.size W2 w1 := HE0.out.trans (hb1.mono HE0.out.size)
  obtain ⟨⟨s0, s1⟩, hbl1⟩ := HBX.out _ hb2
  have HPR1 := hid (HPR.out _ hbl1)
  have HO1 := hid (owns_below HO0.out hb1)
  have HB1 := hid hb2
  clear hb1 hbl1 q0 q1 HPR HIS1 HO0 HE0
  go_wp2_with (go_at_call 58; refine (HLI.out _).mono ?_; rintro e w' ⟨rfl, rfl⟩)
  refine HPR1.out.mono ?_
  rintro e w3 ⟨v, rfl, hown3, hb3⟩
  have hN9 := HLEN.out
  obtain ⟨gw, cw, rfl, hrow3⟩ := owns_rowAt hown3 (by omega)
  have hb4 : Below W2.heap.size W2 w3 := HB1.out.trans (hb3.mono HB1.out.size)
  obtain ⟨⟨t0, t1⟩, _⟩ := HBX.out _ hb4
  have HO3 := hid (owns_below HO1.out hb3)
  have HB3 := hid hb4
  have HROW3 := hid hrow3
  have hown3K := hown3
  have hs1 := (HO1.out.lt W2.heap.size rfl).2
  clear hown3 hrow3 hb3 hb4 s0 s1 HO1 HB1 HPR1
  go_wp2_with fail
  refine (HWO.out _).mono ?_
  rintro e w5 ⟨v, rfl, hown5, hb5⟩
  obtain ⟨g5, c5, rfl, hg5, hlt5⟩ := hown5.form (by omega)
  have hs3 := HB3.out.size
  have hl3 := HO3.out.lt W2.heap.size rfl
  have hgne : g5 ≠ W2.heap.size := by omega
  have HW5 := hid (owns_base (base' := W2.heap.size) hown5 (by omega))
  have HO5 := hid (show w5.ownsRow W2.heap.size 9 1 (.slice (some ⟨W2.heap.size, 0, none⟩) 0 0) ((List.range 0).filter p).length (strVals (kp p k nn 0)) from owns_below HO3.out hb5)
  have HN5 := hid (show (Value.slice (some ⟨W2.heap.size, 0, none⟩) 0 0).ownBlock ≠ some g5 by simp [Value.ownBlock]; omega)
  have HB5 := hid (HB3.out.trans (hb5.mono hs3))
  have HP5 := hid (owns_base (base' := W2.heap.size) (owns_below hown3K hb5) (by omega))
  have HPE5 := hid (fun (bb : Nat) (h : (Value.slice gw N cw).ownBlock = some bb) => show (Value.slice (some ⟨W2.heap.size, 0, none⟩) 0 0).ownBlock ≠ some bb from by have := (hown3K.lt bb h).1; simp [Value.ownBlock]; omega)
  clear hown5 hb5 hlt5 hg5 hown3K t0 t1 HO3 HB3 HWO
  go_wp2
  go_loopw [5, 8] (fun v i wr => ∃ j : Nat, j ≤ m ∧ i = .int .i64 j ∧ Hid (wr.ownsRow W2.heap.size 9 1 v ((List.range j).filter p).length (strVals (kp p k nn j))) ∧ Hid (v.ownBlock ≠ some g5) ∧ Hid (wr.ownsRow W2.heap.size 9 1 (.slice (some ⟨g5, 0, none⟩) m c5) m (strVals (wds k nn m))) ∧ Hid (∀ bb, (Value.slice gw N cw).ownBlock = some bb → v.ownBlock ≠ some bb) ∧ Hid (wr.ownsRow W2.heap.size 9 1 (.slice gw N cw) N SV) ∧ Hid (Below W2.heap.size W2 wr)) (fun _ i _ => m - (intOf i).toNat)
  case atStart =>
    refine ⟨0, by omega, rfl, ?_, ?_, HW5, ?_, HP5, HB5⟩
    · rw [← hsz]
      exact HO5
    · rw [← hsz]
      exact HN5
    · rw [← hsz]
      exact HPE5
  case round =>
    clear HO5 HN5 HW5 HP5 HPE5 HB5
    obtain ⟨j, hj, rfl, HO, HNE, HWD, HPE, HPD, HBL⟩ := hrel
    have hcnt := kp_le p j
    by_cases hlt : j < m
    · have hji : (j : Int) < (m : Int) := by omega
      obtain ⟨a6, c6, he6, hr6⟩ := owns_rowAt HWD.out (by omega)
      simp only [Value.slice.injEq, true_and] at he6
      obtain ⟨rfl, rfl⟩ := he6
      obtain ⟨b5, o5, he5, hb5, hcl5⟩ := hr6.at_ (by omega)
      simp only [Option.some.injEq, Addr.mk.injEq, and_true] at he5
      obtain ⟨rfl, rfl⟩ := he5
      have hcell := hcl5 j _ (strVals_get (wds_get hlt))
      rw [Nat.zero_add] at hcell
      obtain ⟨a7, c7, he7, hr7⟩ := owns_rowAt HPD.out (by omega)
      simp only [Value.slice.injEq, true_and] at he7
      obtain ⟨rfl, rfl⟩ := he7
      obtain ⟨⟨s0, s1⟩, hbw⟩ := HBX.out _ HBL.out
      have HBW := hid hbw
      have HKK := hid (fun (V : World) (hV : Below wr.heap.size wr V) => show V.cell? ⟨w.heap.size, 0, none⟩ = some (.int .i64 k) ∧ V.cell? ⟨w.heap.size, 1, none⟩ = some (.slice a n c) ∧ V.cell? ⟨g5, j, none⟩ = some (.string (wdB k nn j)) ∧ Below wr.heap.size wr V from ⟨(HBX.out _ (HBL.out.trans (hV.mono HBL.out.size))).1.1, (HBX.out _ (HBL.out.trans (hV.mono HBL.out.size))).1.2, (hV.cell (p := ⟨g5, j, none⟩) hb5).trans hcell, hV⟩)
      have HCT := hid (fun (V : World) (hV : Below wr.heap.size wr V) => HIN.out V N cw j gw (HBW.out.trans (hV.mono HBW.out.size)) (by omega) (hr7.below hV (Nat.le_refl _)))
      have hbZ : Below wr.heap.size wr wr.drew := (Below.refl _ _).drew
      clear hr6 hcl5 hbw hr7
      obtain ⟨d, hd⟩ : ∃ d, d = ((List.range j).filter p).length := ⟨_, rfl⟩
      have HC := hid hd
      have HY := hid (fun h : p j = true => kp_yes (k := k) (n := nn) h)
      have HN := hid (fun h : p j = false => kp_no (k := k) (n := nn) h)
      have HCY := hid (fun h : p j = true => cn_yes h)
      have HCN := hid (fun h : p j = false => cn_no h)
      have hszQ := HBL.out.size
      have HO2 := HO.out
      rw [← hd] at HO2 hcnt HCY HCN
      have HO := hid HO2
      clear HO2 hd
      obtain ⟨o, ho⟩ : ∃ o, o = p j := ⟨_, rfl⟩
      rw [← ho] at HCT HY HN HCY HCN
      clear ho
      go_wp2
      go_region_held3 (fun V => V.cell? ⟨w.heap.size, 0, none⟩ = some (.int .i64 k) ∧ V.cell? ⟨w.heap.size, 1, none⟩ = some (.slice a n c) ∧ V.cell? ⟨g5, j, none⟩ = some (.string (wdB k nn j)) ∧ Below wr.heap.size wr V)
        (first | with_reducible exact HKK.out _ hbZ)
        (first | (go_at_call 111; refine (HCT.out _ hbZ).mono ?_; rintro e w3 ⟨rfl, hb3⟩; have hbZ := hbZ.trans (hb3.mono hbZ.size)))
      have HBq := hid (HBL.out.trans (hbZ.mono hszQ))
      have HOq := hid (owns_below HO.out hbZ)
      have HWq := hid (owns_below HWD.out hbZ)
      have HPq := hid (owns_below HPD.out hbZ)
      have hszq := HBq.out.size
      have hb5q := Nat.lt_of_lt_of_le hb5 hbZ.size
      have hcq := (HKK.out _ hbZ).2.2.1
      clear hbZ HCT HKK HO HWD HPD HBL HBW s0 s1
      cases o with
      | false =>
        have HN2 := hid (HN.out rfl)
        have HCN2 := hid (HCN.out rfl)
        clear HY HN HCY HCN
        go_wp2
        go_roundw
        case rel => exact ⟨j + 1, by omega, by go_num, hid (by rw [HN2.out, HCN2.out]; exact HOq.out), HNE, HWq, HPE, HPq, HBq⟩
        case measure => simp [intOf]; omega
      | true =>
        have HY2 := hid (HY.out rfl)
        have HCY2 := hid (HCY.out rfl)
        clear HY HN HCY HCN
        have HO3 := HOq.out
        go_wp2_with (first | (at_builtin; go_must (refine wpList_app4 rfl _ _ 22 rfl W2.heap.size 9 (.string ByteArray.empty) 16 Tryz.underlying22 infoStr3 rfl _ d _ _ HO3 rfl rfl rfl (by omega) (by unfold maxLen; omega) hszq ?_); intro v' w8 hown8 hgr8 hne8))
        have HO8 := hid hown8
        have HE8 := hid (hne8 g5 HNE.out hb5q)
        have HP8 := hid (fun (bb : Nat) (h : (Value.slice gw N cw).ownBlock = some bb) => hne8 bb (HPE.out bb h) (HPq.out.lt bb h).2)
        have HK8 := hid (HWq.out.kept hgr8 (Or.inr fun e => HNE.out (by rw [← e]; rfl)))
        have HPK8 := hid (HPq.out.kept hgr8 (by
          cases hv : (Value.slice gw N cw).ownBlock with
          | none => exact Or.inl rfl
          | some bb => exact Or.inr fun e => HPE.out bb hv e.symm))
        have HB8 := hid (HBq.out.grown hgr8 hszq (fun k hk => (HO3.lt k hk).1))
        clear hown8 hgr8 hne8 HO3
        go_roundw
        case rel => exact ⟨j + 1, by omega, by go_num, hid (by rw [HY2.out, HCY2.out]; exact HO8.out), HE8, HK8, HP8, HPK8, HB8⟩
        case measure => simp [intOf]; omega
    · obtain rfl : j = m := by omega
      have HFIN := hid (owns_base (base' := w.heap.size) HO.out hszW)
      go_wp2
      go_ret
      exact ⟨_, rfl, HFIN.out, (HBX.out _ HBL.out).2⟩
end Go.Proofs.YtpfeflhcbcgbfaaGreatDoor
