/- The class of a rule's number: both functions. No condition. -/
import Derived.Test.YtcmmlldincflkaaClassP
import Derived.Deep.RegionHeld3
namespace Go.Proofs.Ytcmmlldincflkaa
open Go.RowKit

theorem flat7 {a b c d e f g : Prop} (h : (a ∧ b ∧ c) ∧ (d ∧ e ∧ f) ∧ g) : a ∧ b ∧ c ∧ d ∧ e ∧ f ∧ g := ⟨h.1.1, h.1.2.1, h.1.2.2, h.2.1.1, h.2.1.2.1, h.2.1.2.2, h.2.2⟩
/-- A text of 8 letters of two. -/
def P8 : Type := { p : ByteArray // p.size = 8 ∧ lets 2 p.data.toList = true }
theorem mir8 {o : ByteArray} (h : o.size = 8 ∧ lets 2 o.data.toList = true) : (mirOut o 2 3).size = 8 ∧ lets 2 (mirOut o 2 3).data.toList = true := by
  refine ⟨by show (outB (mirB o 2 3) (2 ^ 3)).toArray.size = 8; simp [outB_len], ?_⟩
  show lets 2 (outB (mirB o 2 3) (2 ^ 3)) = true
  unfold lets
  rw [List.all_eq_true]
  intro c hc
  obtain ⟨i, _, rfl⟩ := List.mem_map.1 hc
  have hb := idx_bd (k := 2) (l := (wAt 2 3 i).reverse) (lets_rev (wAt_lets (k := 2) (by omega) 3 i)) (by omega)
  rw [List.length_reverse, wAt_len] at hb
  have hg := give2 (o := o) (q := idxOf 2 (wAt 2 3 i).reverse) h.2 (by rw [h.1]; exact hb)
  unfold mirB
  rcases hg with hg | hg <;> rw [hg] <;> decide
def mirP (p : P8) : P8 := ⟨mirOut p.1 2 3, mir8 p.2⟩
def numP (p : P8) : Int := (numOf p.1.data.toList 8 : Int)
def ClassPost (n : Nat) (w : World) (e : Ending) (w' : World) : Prop :=
  ∃ g c, e = .returned (.slice (some ⟨g, 0, none⟩) (classOf n).length c) ∧ w'.ownsRow w.heap.size 3 1 (.slice (some ⟨g, 0, none⟩) (classOf n).length c) (classOf n).length (intVals (classOf n)) ∧ Below w.heap.size w w'
theorem code_size {o : ByteArray} (h : isCode 2 3 o = true) : o.size ≤ maxLen := by rw [(code8 h).1]; unfold maxLen; omega
set_option maxHeartbeats 4000000 in
set_option maxRecDepth 100000 in
theorem spec_RuleClass_yes (n : Nat) (hn : n < 256) (w : World) :
    Calls Try.prog 19 #[.int .i64 n] w (ClassPost n w) := by
  obtain ⟨h0, h1, h2, h3, hnum⟩ := codes_ok hn
  have hci := class_ins n
  unfold ClassPost
  rw [← hci]
  have HRC := hid (fun w => show Calls Try.prog 7 #[.int .i64 n] w fun e w' => e = .returned (.tuple #[.agg #[.int .i64 2, .int .i64 3, .string (o0 n)], .bool true]) ∧ Below w.heap.size w w' from spec_RuleCode_c n hn w)
  have HM1 := hid (fun w => show Calls Try.prog 10 #[.agg #[.int .i64 2, .int .i64 3, .string (o0 n)]] w fun e w' => e = .returned (.tuple #[.agg #[.int .i64 2, .int .i64 3, .string (o1 n)], .bool true]) ∧ Below w.heap.size w w' from by
    have h := spec_MirrorCode_c 2 3 (o0 n) w (code_size h0)
    unfold mirC at h
    rw [h0] at h
    exact h)
  have HX := hid (fun w => show Calls Try.prog 13 #[.agg #[.int .i64 2, .int .i64 3, .string (o0 n)]] w fun e w' => e = .returned (.tuple #[.agg #[.int .i64 2, .int .i64 3, .string (o2 n)], .bool true]) ∧ Below w.heap.size w w' from by
    have h := spec_ExchangeCode_c 2 3 (o0 n) w (code_size h0)
    unfold exC isCode2 at h
    rw [h0] at h
    exact h)
  have HM3 := hid (fun w => show Calls Try.prog 10 #[.agg #[.int .i64 2, .int .i64 3, .string (o2 n)]] w fun e w' => e = .returned (.tuple #[.agg #[.int .i64 2, .int .i64 3, .string (o3 n)], .bool true]) ∧ Below w.heap.size w w' from by
    have h := spec_MirrorCode_c 2 3 (o2 n) w (code_size h2)
    unfold mirC at h
    rw [h2] at h
    exact h)
  have HN0 := hid (fun w => show Calls Try.prog 23 #[.agg #[.int .i64 2, .int .i64 3, .string (o0 n)]] w fun e w' => e = .returned (.int .i64 (n : Int)) ∧ Below w.heap.size w w' from by
    have h := spec_RuleNumber_yes (o0 n) w (code_size h0) h0
    rw [numB_yes h0, hnum] at h
    exact h)
  have HN1 := hid (fun w => show Calls Try.prog 23 #[.agg #[.int .i64 2, .int .i64 3, .string (o1 n)]] w fun e w' => e = .returned (.int .i64 (numOf (o1 n).data.toList 8 : Int)) ∧ Below w.heap.size w w' from by
    have h := spec_RuleNumber_yes (o1 n) w (code_size h1) h1
    rw [numB_yes h1] at h
    exact h)
  have HN2 := hid (fun w => show Calls Try.prog 23 #[.agg #[.int .i64 2, .int .i64 3, .string (o2 n)]] w fun e w' => e = .returned (.int .i64 (numOf (o2 n).data.toList 8 : Int)) ∧ Below w.heap.size w w' from by
    have h := spec_RuleNumber_yes (o2 n) w (code_size h2) h2
    rw [numB_yes h2] at h
    exact h)
  have HN3 := hid (fun w => show Calls Try.prog 23 #[.agg #[.int .i64 2, .int .i64 3, .string (o3 n)]] w fun e w' => e = .returned (.int .i64 (numOf (o3 n).data.toList 8 : Int)) ∧ Below w.heap.size w w' from by
    have h := spec_RuleNumber_yes (o3 n) w (code_size h3) h3
    rw [numB_yes h3] at h
    exact h)
  have HADD := hid (fun (B g cap : Nat) (xs : List Int) (x : Int) (w : World) h1 h2 h3 => spec_l32Add_c B g cap xs.length xs x w rfl h1 h2 h3)
  unfold AddPost at HADD
  obtain ⟨p0, hp0⟩ : ∃ p, p = o0 n := ⟨_, rfl⟩
  obtain ⟨p1, hp1⟩ : ∃ p, p = o1 n := ⟨_, rfl⟩
  obtain ⟨p2, hp2⟩ : ∃ p, p = o2 n := ⟨_, rfl⟩
  obtain ⟨p3, hp3⟩ : ∃ p, p = o3 n := ⟨_, rfl⟩
  rw [← hp0] at HRC HM1 HX HN0
  rw [← hp1] at HM1
  rw [← hp2] at HX HM3
  rw [← hp3] at HM3
  obtain ⟨r1, hr1⟩ : ∃ r : Int, r = (numOf (o1 n).data.toList 8 : Int) := ⟨_, rfl⟩
  obtain ⟨r2, hr2⟩ : ∃ r : Int, r = (numOf (o2 n).data.toList 8 : Int) := ⟨_, rfl⟩
  obtain ⟨r3, hr3⟩ : ∃ r : Int, r = (numOf (o3 n).data.toList 8 : Int) := ⟨_, rfl⟩
  rw [← hr1, ← hp1] at HN1
  rw [← hr2, ← hp2] at HN2
  rw [← hr3, ← hp3] at HN3
  rw [← hr1, ← hr2, ← hr3]
  have hL1 := ins_len (lt := ltI) [] (n : Int)
  obtain ⟨l1, hl1⟩ : ∃ l, l = ins ltI [] (n : Int) := ⟨_, rfl⟩
  have HA1 := hid (fun B g cap w h1 h2 => HADD.out B g cap [] (n : Int) w h1 h2 (by simp))
  rw [← hl1] at HA1 hL1
  rw [← hl1]
  have hL2 := ins_len (lt := ltI) l1 r1
  have HA2 := hid (fun B g cap w h1 h2 => HADD.out B g cap l1 r1 w h1 h2 (by simp at hL1; omega))
  obtain ⟨l2, hl2⟩ : ∃ l, l = ins ltI l1 r1 := ⟨_, rfl⟩
  rw [← hl2] at HA2 hL2
  rw [← hl2]
  have hL3 := ins_len (lt := ltI) l2 r2
  have HA3 := hid (fun B g cap w h1 h2 => HADD.out B g cap l2 r2 w h1 h2 (by simp at hL1; omega))
  obtain ⟨l3, hl3⟩ : ∃ l, l = ins ltI l2 r2 := ⟨_, rfl⟩
  rw [← hl3] at HA3 hL3
  rw [← hl3]
  have HA4 := hid (fun B g cap w h1 h2 => HADD.out B g cap l3 r3 w h1 h2 (by simp at hL1; omega))
  obtain ⟨l4, hl4⟩ : ∃ l, l = ins ltI l3 r3 := ⟨_, rfl⟩
  rw [← hl4] at HA4
  rw [← hl4]
  have hown0 := owns_nil w 3
  have hbe : Below w.heap.size w (w.alloc (.cells #[] 3)) := (Below.refl _ _).alloc (Nat.le_refl _) _
  clear h0 h1 h2 h3 hnum hci hp0 hp1 hp2 hp3 hr1 hr2 hr3 hl1 hl2 hl3 hl4 HADD hL1 hL2 hL3
  go_enter Try.func19, Try.ntmps19
  go_wp2_with fail
  refine (HRC.out _).mono ?_
  rintro e w1 ⟨rfl, hb1⟩
  have hs1 := hb1.size
  simp at hs1
  have hownA := owns_below hown0 hb1
  have hbA := bs hbe hb1
  clear hown0 hbe hb1
  go_wp2_with fail
  refine (HM1.out _).mono ?_
  rintro e w2 ⟨rfl, hb2⟩
  obtain ⟨hB0, hbb2⟩ := stored3 hb2
  have hownB := owns_below hownA hbb2
  have hbB := bs hbA hbb2
  have hs2 := hbb2.size
  clear hb2 hbb2 hownA hbA
  obtain ⟨q0, q1, q2, q3⟩ := hB0
  have hB0 : Box3 w2 w1.heap.size p0 := ⟨q0, q1, q2, q3⟩
  have HB0 := hid hB0
  clear hB0
  go_wp2_with fail
  refine (HX.out _).mono ?_
  rintro e w3 ⟨rfl, hb3⟩
  obtain ⟨hB1, hbb3⟩ := stored3 hb3
  have hownC := owns_below hownB hbb3
  have hbC := bs hbB hbb3
  have hs3 := hbb3.size
  have HB0' := hid (HB0.out.bel hbb3)
  clear hb3 hbb3 hownB hbB q0 q1 q2 q3 HB0
  have HB1 := hid hB1
  clear hB1
  go_wp2_with fail
  refine (HM3.out _).mono ?_
  rintro e w4 ⟨rfl, hb4⟩
  obtain ⟨hB2, hbb4⟩ := stored3 hb4
  have hownD := owns_below hownC hbb4
  have hbD := bs hbC hbb4
  have hs4 := hbb4.size
  have HB1' := hid (HB1.out.bel hbb4)
  have HC0 := hid (HB0'.out.bel hbb4)
  have HB2 := hid hB2
  clear hb4 hbb4 hownC hbC hB2 HB0' HB1
  obtain ⟨q0, q1, q2, q3⟩ := HC0.out
  go_wp2_with fail
  refine (HN0.out _).mono ?_
  rintro e w5 ⟨rfl, hb5⟩
  obtain ⟨hB3, hbb5⟩ := stored3 hb5
  have hownE := owns_below hownD hbb5
  have hbE := bs hbD hbb5
  have hs5 := hbb5.size
  have HD1 := hid (HB1'.out.bel hbb5)
  have HD2 := hid (HB2.out.bel hbb5)
  have HD3 := hid hB3
  have hx1 := HD1.out.2.2.2
  have hx2 := HD2.out.2.2.2
  have hx3 := HD3.out.2.2.2
  clear hb5 hbb5 hownD hbD hB3 HB1' HB2 HC0 q0 q1 q2 q3
  go_wp2_with fail
  refine (HA1.out w.heap.size _ _ _ hownE hbE.size).mono ?_
  rintro e w6 ⟨g6, c6, rfl, hown6, hgr6, hor6⟩
  have hb6 : Below w.heap.size w w6 := hbE.grown hgr6 hbE.size (by rintro k ⟨⟩; exact Nat.le_refl _)
  have HE1 := hid (HD1.out.grown hgr6 (by omega))
  have HE2 := hid (HD2.out.grown hgr6 (by omega))
  have HE3 := hid (HD3.out.grown hgr6 (by omega))
  have hs6 := hgr6.size
  clear hownE hbE hgr6 HD1 HD2 HD3
  obtain ⟨q0, q1, q2, q3⟩ := HE1.out
  go_wp2_with fail
  refine (HN1.out _).mono ?_
  rintro e w7 ⟨rfl, hb7⟩
  have hownF := owns_below hown6 hb7
  have hbF := bs hb6 hb7
  have hs7 := hb7.size
  have HF2 := hid (HE2.out.bel hb7)
  have HF3 := hid (HE3.out.bel hb7)
  clear hb7 hb6 hown6 HE1 HE2 HE3 q0 q1 q2 q3
  go_wp2_with fail
  refine (HA2.out w.heap.size _ _ _ hownF hbF.size).mono ?_
  rintro e w8 ⟨g8, c8, rfl, hown8, hgr8, hor8⟩
  have hlF := (hownF.lt g6 rfl).1
  have hb8 : Below w.heap.size w w8 := hbF.grown hgr8 hbF.size (by rintro k ⟨⟩; exact hlF)
  have HG2 := hid (HF2.out.grown hgr8 (by omega))
  have HG3 := hid (HF3.out.grown hgr8 (by omega))
  have hs8 := hgr8.size
  clear hownF hbF hgr8 HF2 HF3
  obtain ⟨q0, q1, q2, q3⟩ := HG2.out
  go_wp2_with fail
  refine (HN2.out _).mono ?_
  rintro e w9 ⟨rfl, hb9⟩
  have hownG := owns_below hown8 hb9
  have hbG := bs hb8 hb9
  have hs9 := hb9.size
  have HH3 := hid (HG3.out.bel hb9)
  clear hb9 hb8 hown8 HG2 HG3 q0 q1 q2 q3
  go_wp2_with fail
  refine (HA3.out w.heap.size _ _ _ hownG hbG.size).mono ?_
  rintro e w10 ⟨g10, c10, rfl, hown10, hgr10, hor10⟩
  have hlG := (hownG.lt g8 rfl).1
  have hb10 : Below w.heap.size w w10 := hbG.grown hgr10 hbG.size (by rintro k ⟨⟩; exact hlG)
  have HI3 := hid (HH3.out.grown hgr10 (by omega))
  clear hownG hbG hgr10 HH3
  obtain ⟨q0, q1, q2, q3⟩ := HI3.out
  go_wp2_with fail
  refine (HN3.out _).mono ?_
  rintro e w11 ⟨rfl, hb11⟩
  have hownH := owns_below hown10 hb11
  have hbH := bs hb10 hb11
  clear hb11 hb10 hown10 HI3 q0 q1 q2 q3
  go_wp2_with fail
  refine (HA4.out w.heap.size _ _ _ hownH hbH.size).mono ?_
  rintro e w12 ⟨g12, c12, rfl, hown12, hgr12, hor12⟩
  have hlH := (hownH.lt g10 rfl).1
  have hb12 : Below w.heap.size w w12 := hbH.grown hgr12 hbH.size (by rintro k ⟨⟩; exact hlH)
  go_wp2
  go_ret
  exact ⟨g12, c12, rfl, hown12, hb12⟩
set_option maxHeartbeats 4000000 in
set_option maxRecDepth 100000 in
theorem impl_RuleClass_yes (n : Nat) (hn : n < 256) (w : World) :
    Calls Try.prog 15 #[.int .i64 n] w (ClassPost n w) := by
  obtain ⟨h0, h1, h2, h3, hnum⟩ := codes_ok hn
  unfold ClassPost classOf distinctI
  have HRC := hid (fun w => show Calls Try.prog 6 #[.int .i64 n] w fun e w' => e = .returned (.tuple #[.agg #[.int .i64 2, .int .i64 3, .string (o0 n)], .bool true]) ∧ Below w.heap.size w w' from impl_RuleCode_c n hn w)
  have HX := hid (fun w => show Calls Try.prog 37 #[.agg #[.int .i64 2, .int .i64 3, .string (o0 n)]] w fun e w' => e = .returned (.agg #[.int .i64 2, .int .i64 3, .string (o2 n)]) ∧ Below w.heap.size w w' from impl_exchanged_c 3 (o0 n) w (by omega) (by omega) (by omega) (code8 h0).1 (code8 h0).2)
  have HM := hid (fun (p : P8) w => show Calls Try.prog 32 #[.agg #[.int .i64 2, .int .i64 3, .string p.1]] w fun e w' => e = .returned (.agg #[.int .i64 2, .int .i64 3, .string (mirP p).1]) ∧ Below w.heap.size w w' from impl_mirrored_c 2 3 p.1 w (Or.inl rfl) (by omega) (by omega) (by omega) p.2.1)
  have HN := hid (fun (p : P8) w => show Calls Try.prog 39 #[.agg #[.int .i64 2, .int .i64 3, .string p.1]] w fun e w' => e = .returned (.int .i64 (numP p)) ∧ Below w.heap.size w w' from impl_ruleNumber_c p.1 w p.2.1 p.2.2)
  obtain ⟨p0, hp0⟩ : ∃ p : P8, p = ⟨o0 n, code8 h0⟩ := ⟨_, rfl⟩
  obtain ⟨p2, hp2⟩ : ∃ p : P8, p = ⟨o2 n, code8 h2⟩ := ⟨_, rfl⟩
  have HNU := hid (show intVals (nums n) = [.int .i64 (n : Int), .int .i64 (numP (mirP p0)), .int .i64 (numP p2), .int .i64 (numP (mirP p2))] by rw [hp0, hp2]; rfl)
  rw [show o0 n = p0.1 by rw [hp0]] at HRC HX
  rw [show o2 n = p2.1 by rw [hp2]] at HX
  obtain ⟨m, hm⟩ : ∃ m, m = mirP := ⟨_, rfl⟩
  obtain ⟨u, hu⟩ : ∃ u, u = numP := ⟨_, rfl⟩
  rw [← hm] at HM HNU
  rw [← hu] at HN HNU
  have hnl : (nums n).length = 4 := rfl
  have HSRT := hid (fun (B g cap : Nat) (wr : World) h1 => sortI_c B g cap 4 (nums n) wr hnl h1 (by omega))
  obtain ⟨ts, hts⟩ : ∃ ts, ts = (nums n).mergeSort fun x y => decide (x ≤ y) := ⟨_, rfl⟩
  have htsl : ts.length = 4 := by rw [hts]; simpa using hnl
  rw [HNU.out, ← hts] at HSRT
  rw [← hts]
  have HCMP := hid (fun (B g cap : Nat) (wr : World) h1 => compactI_c B g cap 4 ts wr htsl h1 (by omega))
  obtain ⟨us, hus⟩ : ∃ us, us = Lib.compact ts := ⟨_, rfl⟩
  rw [← hus] at HCMP
  rw [← hus]
  obtain ⟨ul, hul⟩ : ∃ ul, ul = us.length := ⟨_, rfl⟩
  rw [← hul] at HCMP
  rw [← hul]
  clear hts htsl hus hul hnl h0 h1 h2 h3 hnum hp0 hp2 hm hu HNU
  go_enter Try.func15, Try.ntmps15
  go_wp2_with fail
  refine (HRC.out _).mono ?_
  rintro e w1 ⟨rfl, hb1⟩
  go_wp2_with fail
  refine (HX.out _).mono ?_
  rintro e w2 ⟨rfl, hb2⟩
  obtain ⟨hB0, hbb2⟩ := stored3 hb2
  have hbA := bs hb1 hbb2
  have HB0 := hid hB0
  obtain ⟨W0, hW0⟩ : ∃ W0, W0 = w2.alloc (.cells #[.int .i64 2, .int .i64 3, .string p2.1] 26) := ⟨_, rfl⟩
  have HK := hid (fun (V : World) (hV : Below W0.heap.size W0 V) => show V.cell? ⟨w1.heap.size, 0, none⟩ = some (.int .i64 2) ∧ V.cell? ⟨w1.heap.size, 1, none⟩ = some (.int .i64 3) ∧ V.cell? ⟨w1.heap.size, 2, none⟩ = some (.string p0.1) ∧ V.cell? ⟨w2.heap.size, 0, none⟩ = some (.int .i64 2) ∧ V.cell? ⟨w2.heap.size, 1, none⟩ = some (.int .i64 3) ∧ V.cell? ⟨w2.heap.size, 2, none⟩ = some (.string p2.1) ∧ Below W0.heap.size W0 V from by
    have hV2 := hV
    rw [hW0] at hV2
    obtain ⟨q0, q1⟩ := stored3 hV2
    have h := HB0.out.bel q1
    exact ⟨h.1, h.2.1, h.2.2.1, q0.1, q0.2.1, q0.2.2.1, hV⟩)
  have hbW0 : Below w.heap.size w W0 := by rw [hW0]; exact hbA.alloc hbA.size _
  have hbZ : Below W0.heap.size W0 W0.drew := (Below.refl _ _).drew
  clear hb1 hb2 hbb2 hB0 hbA
  go_wp2
  rw [← hW0]
  clear hW0
  go_region_held3 (fun V => V.cell? ⟨w1.heap.size, 0, none⟩ = some (.int .i64 2) ∧ V.cell? ⟨w1.heap.size, 1, none⟩ = some (.int .i64 3) ∧ V.cell? ⟨w1.heap.size, 2, none⟩ = some (.string p0.1) ∧ V.cell? ⟨w2.heap.size, 0, none⟩ = some (.int .i64 2) ∧ V.cell? ⟨w2.heap.size, 1, none⟩ = some (.int .i64 3) ∧ V.cell? ⟨w2.heap.size, 2, none⟩ = some (.string p2.1) ∧ Below W0.heap.size W0 V)
    (first | with_reducible exact HK.out _ hbZ | with_reducible exact HK.out _ (hbZ.alloc hbZ.size _))
    (first | (go_at_call 32; refine (HM.out _ _).mono ?_; rintro e v1 ⟨rfl, hv1⟩; have hbZ := hbZ.trans (hv1.mono hbZ.size)) | (go_at_call 39; refine (HN.out _ _).mono ?_; rintro e v2 ⟨rfl, hv2⟩; have hbZ := hbZ.trans (hv2.mono hbZ.size)))
  have hbv : Below w.heap.size w v2 := hbW0.trans (hbZ.mono hbW0.size)
  have hown : (v2.alloc (.cells #[.int .i64 (n : Int), .int .i64 (u (m p0)), .int .i64 (u p2), .int .i64 (u (m p2))] 3)).ownsRow w.heap.size 3 1 (.slice (some ⟨v2.heap.size, 0, none⟩) 4 4) 4 [.int .i64 (n : Int), .int .i64 (u (m p0)), .int .i64 (u p2), .int .i64 (u (m p2))] := owns_lit3 #[.int .i64 (n : Int), .int .i64 (u (m p0)), .int .i64 (u p2), .int .i64 (u (m p2))] _ rfl hbv.size (by unfold maxLen; simp)
  have hbv2 := hbv.alloc hbv.size (.cells #[.int .i64 (n : Int), .int .i64 (u (m p0)), .int .i64 (u p2), .int .i64 (u (m p2))] 3)
  have hsv := hbv.size
  clear hbZ hbW0 HK
  go_wp2_with fail
  refine (HSRT.out w.heap.size _ _ _ hown).mono ?_
  rintro e w7 ⟨rfl, ho7, hgr7⟩
  have hb7 : Below w.heap.size w w7 := hbv2.grown hgr7 hbv2.size (by rintro k ⟨⟩; exact hsv)
  go_wp2_with fail
  refine (HCMP.out w.heap.size _ _ _ ho7).mono ?_
  rintro e w8 ⟨rfl, ho8, hgr8⟩
  have hb8 : Below w.heap.size w w8 := hb7.grown hgr8 hb7.size (by rintro k ⟨⟩; exact hsv)
  go_wp2
  go_ret
  exact ⟨_, _, rfl, ho8, hb8⟩
def NoClass (w : World) (e : Ending) (w' : World) : Prop := ∃ v, e = .returned v ∧ w'.ownsRow w.heap.size 3 1 v 0 [] ∧ Below w.heap.size w w'
set_option maxHeartbeats 1000000 in
theorem spec_RuleClass_no (n : Int) (hn : n < 0 ∨ 255 < n) (w : World) : Calls Try.prog 19 #[.int .i64 n] w (NoClass w) := by
  have HR := hid (fun w => spec_RuleCode_no n hn w)
  have hown0 := owns_nil w 3
  have hbe : Below w.heap.size w (w.alloc (.cells #[] 3)) := (Below.refl _ _).alloc (Nat.le_refl _) _
  unfold NoClass
  clear hn
  go_enter Try.func19, Try.ntmps19
  go_wp2_with fail
  refine (HR.out _).mono ?_
  rintro e w1 ⟨rfl, hb1⟩
  have ho1 := owns_below hown0 hb1
  have hb2 := bs hbe hb1
  go_wp2
  go_ret
  exact ⟨_, rfl, ho1.alloc _, hb2.alloc hb2.size _⟩
set_option maxHeartbeats 1000000 in
theorem impl_RuleClass_no (n : Int) (hn : n < 0 ∨ 255 < n) (w : World) : Calls Try.prog 15 #[.int .i64 n] w (NoClass w) := by
  have HR := hid (fun w => impl_RuleCode_no n hn w)
  unfold NoClass
  clear hn
  go_enter Try.func15, Try.ntmps15
  go_wp2_with fail
  refine (HR.out _).mono ?_
  rintro e w1 ⟨rfl, hb1⟩
  go_wp2
  go_ret
  exact ⟨_, rfl, ⟨rfl, Or.inl ⟨rfl, rfl⟩⟩, hb1.alloc hb1.size _⟩
end Go.Proofs.Ytcmmlldincflkaa
