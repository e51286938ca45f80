/- Labelled graphs: whether two states are alike, both sides. Conditions: a valid labelled graph, its arcs and the classes in memory. -/
import Derived.Test.YtpfeflhcbcgbfaaDoorLabZ
import Derived.Test.YtpfeflhcbcgbfaaDoorLabW
namespace Go.Proofs.YtpfeflhcbcgbfaaDoor
open Go.RowKit

def optI : Option Nat → Int | none => -1 | some t => (t : Int)
theorem tgt_hit {G : List (Nat × Nat × Nat)} {p x k : Nat} {y : Nat × Nat × Nat} (h : tgtN (G.take k) p x = none) (hy : G[k]? = some y) (hm : y.1 = p ∧ y.2.2 = x) : tgtN G p x = some y.2.1 := by
  unfold tgtN at h ⊢
  rw [Option.map_eq_none_iff] at h
  have hk := (List.getElem?_eq_some_iff.1 hy)
  obtain ⟨hk, e⟩ := hk
  have hs : G = G.take k ++ y :: G.drop (k + 1) := by
    conv => lhs; rw [← List.take_append_drop k G]
    rw [List.drop_eq_getElem_cons hk, e]
  rw [hs, List.find?_append, h]
  simp [hm]
theorem tgt_miss {G : List (Nat × Nat × Nat)} {p x k : Nat} {y : Nat × Nat × Nat} (h : tgtN (G.take k) p x = none) (hy : G[k]? = some y) (hm : ¬ (y.1 = p ∧ y.2.2 = x)) : tgtN (G.take (k + 1)) p x = none := by
  unfold tgtN at h ⊢
  rw [Option.map_eq_none_iff] at h ⊢
  rw [List.take_add_one, List.find?_append, h, hy]
  simpa using hm
set_option maxHeartbeats 4000000 in
set_option maxRecDepth 100000 in
theorem l15To_c (L S : Int) (a : Option Addr) (n c : Nat) (G : List (Nat × Nat × Nat)) (p x : Nat) (w : World) (hr : RowAt w a (n * 3) (arcVals (arcN G))) (hn : n ≤ 1048576) :
    Calls Tryd.prog 81 #[.agg #[.int .i64 L, .int .i64 S, .slice a n c], .int .i64 p, .int .i64 x] w fun e w' => e = .returned (.int .i64 (optI (tgtN G p x))) ∧ Below w.heap.size w w' := by
  have HBX := hid (fun (V : World) (hV : Below (w.heap.size + 1) (w.alloc (.cells #[.int .i64 L, .int .i64 S, .slice a n c] 29)) V) => lab_box hV)
  obtain ⟨W2, hW2⟩ : ∃ W2, W2 = w.alloc (.cells #[.int .i64 L, .int .i64 S, .slice a n c] 29) := ⟨_, rfl⟩
  have hB : Below w.heap.size w W2 := by rw [hW2]; exact (Below.refl _ _).alloc (Nat.le_refl _) _
  have hsz : W2.heap.size = w.heap.size + 1 := by rw [hW2]; simp
  rw [← hW2, ← hsz] at HBX
  have HAR := hid (garcs_at hr hB)
  have HB := hid hB
  have hzB : w.heap.size ≤ W2.heap.size := hB.size
  have HHIT := hid (fun (k : Nat) (y : Nat × Nat × Nat) (h : tgtN (G.take k) p x = none) (hy : G[k]? = some y) (hm : y.1 = p ∧ y.2.2 = x) => tgt_hit h hy hm)
  have HMISS := hid (fun (k : Nat) (y : Nat × Nat × Nat) (h : tgtN (G.take k) p x = none) (hy : G[k]? = some y) (hm : ¬ (y.1 = p ∧ y.2.2 = x)) => tgt_miss h hy hm)
  have HALL := hid (show G.take n = G from List.take_of_length_le (by rw [HAR.out.1]; omega))
  have HZ0 := hid (show tgtN (G.take 0) p x = none from by simp [tgtN])
  clear hr hB
  go_enter Tryd.func81, Tryd.ntmps81
  go_wp2
  rw [← hW2]
  clear hW2
  go_loopw [7] (fun i wr => ∃ k : Nat, k ≤ n ∧ i = .int .i64 k ∧ Hid (tgtN (G.take k) p x = none) ∧ Below W2.heap.size W2 wr) (fun i _ => n - (intOf i).toNat)
  case atStart => exact ⟨0, by omega, rfl, HZ0, Below.refl _ _⟩
  case round =>
    obtain ⟨k, hk, rfl, HK, hbel⟩ := hrel
    obtain ⟨⟨p0, p1, p2⟩, hz, hbw⟩ := HBX.out wr hbel
    by_cases hlt : k < n
    · obtain ⟨y, hy⟩ := get_some (l := G) (n := k) (by rw [HAR.out.1]; exact hlt)
      obtain ⟨b1, off1, rfl, hb1, hc1⟩ := HAR.out.2 k y hy
      have HY := hid (HHIT.out k y HK.out hy)
      have HN := hid (HMISS.out k y HK.out hy)
      obtain ⟨f, t, l⟩ := y
      obtain ⟨g0, g1, g2⟩ := hc1 wr hbel
      have hki : (k : Int) < (n : Int) := by omega
      have hb1r : b1 < wr.heap.size := Nat.lt_of_lt_of_le hb1 hbel.size
      clear hy hc1
      simp only [] at g0 g1 g2 HY HN
      by_cases hf : f = p
      · have gf : ((f : Int) == (p : Int)) = true := by simp [hf]
        by_cases hx : l = x
        · have gx : ((l : Int) == (x : Int)) = true := by simp [hx]
          have HE := hid (HY.out ⟨hf, hx⟩)
          clear HY HN hf hx
          go_wp2
          go_ret
          exact ⟨ret_int (by rw [HE.out]; rfl), hbw⟩
        · have gx : ((l : Int) == (x : Int)) = false := by simp; omega
          have HE := hid (HN.out (fun h => hx h.2))
          clear HY HN hf hx
          go_wp2
          go_roundw
          case rel => exact ⟨k + 1, by omega, by go_num, HE, hbel⟩
          case measure => simp [intOf] <;> omega
      · have gf : ((f : Int) == (p : Int)) = false := by simp; omega
        have HE := hid (HN.out (fun h => hf h.1))
        clear HY HN hf
        go_wp2
        go_roundw
        case rel => exact ⟨k + 1, by omega, by go_num, HE, hbel⟩
        case measure => simp [intOf] <;> omega
    · obtain rfl : k = n := by omega
      go_wp2
      go_ret
      exact ⟨ret_int (by rw [← HALL.out, HK.out]; rfl), HB.out.trans (hbel.mono hzB)⟩
set_option maxHeartbeats 4000000 in
set_option maxRecDepth 100000 in
theorem impl_target_c (L S : Int) (a : Option Addr) (n c : Nat) (G : List (Nat × Nat × Nat)) (p x : Nat) (w : World) (hr : RowAt w a (n * 3) (arcVals (arcN G))) (hn : n ≤ 1048576) :
    Calls Tryd.prog 55 #[.agg #[.int .i64 L, .int .i64 S, .slice a n c], .int .i64 p, .int .i64 x] w fun e w' => e = .returned (.int .i64 (optI (tgtN G p x))) ∧ Below w.heap.size w w' := by
  have HBX := hid (fun (V : World) (hV : Below (w.heap.size + 1) (w.alloc (.cells #[.int .i64 L, .int .i64 S, .slice a n c] 29)) V) => lab_box hV)
  obtain ⟨W2, hW2⟩ : ∃ W2, W2 = w.alloc (.cells #[.int .i64 L, .int .i64 S, .slice a n c] 29) := ⟨_, rfl⟩
  have hB : Below w.heap.size w W2 := by rw [hW2]; exact (Below.refl _ _).alloc (Nat.le_refl _) _
  have hsz : W2.heap.size = w.heap.size + 1 := by rw [hW2]; simp
  rw [← hW2, ← hsz] at HBX
  have HAR := hid (garcs_at hr hB)
  have HB := hid hB
  have hzB : w.heap.size ≤ W2.heap.size := hB.size
  have HHIT := hid (fun (k : Nat) (y : Nat × Nat × Nat) (h : tgtN (G.take k) p x = none) (hy : G[k]? = some y) (hm : y.1 = p ∧ y.2.2 = x) => tgt_hit h hy hm)
  have HMISS := hid (fun (k : Nat) (y : Nat × Nat × Nat) (h : tgtN (G.take k) p x = none) (hy : G[k]? = some y) (hm : ¬ (y.1 = p ∧ y.2.2 = x)) => tgt_miss h hy hm)
  have HALL := hid (show G.take n = G from List.take_of_length_le (by rw [HAR.out.1]; omega))
  have HZ0 := hid (show tgtN (G.take 0) p x = none from by simp [tgtN])
  clear hr hB
  go_enter Tryd.func55, Tryd.ntmps55
  go_wp2
  rw [← hW2]
  clear hW2
  go_loopw [12] (fun i wr => ∃ k : Nat, k ≤ n ∧ i = .int .i64 k ∧ Hid (tgtN (G.take k) p x = none) ∧ Below W2.heap.size W2 wr) (fun i _ => n - (intOf i).toNat)
  case atStart => exact ⟨0, by omega, rfl, HZ0, Below.refl _ _⟩
  case round =>
    obtain ⟨k, hk, rfl, HK, hbel⟩ := hrel
    obtain ⟨⟨p0, p1, p2⟩, hz, hbw⟩ := HBX.out wr hbel
    by_cases hlt : k < n
    · obtain ⟨y, hy⟩ := get_some (l := G) (n := k) (by rw [HAR.out.1]; exact hlt)
      obtain ⟨b1, off1, rfl, hb1, hc1⟩ := HAR.out.2 k y hy
      have HY := hid (HHIT.out k y HK.out hy)
      have HN := hid (HMISS.out k y HK.out hy)
      obtain ⟨f, t, l⟩ := y
      obtain ⟨g0, g1, g2⟩ := hc1 wr hbel
      have hki : (k : Int) < (n : Int) := by omega
      have hb1r : b1 < wr.heap.size := Nat.lt_of_lt_of_le hb1 hbel.size
      clear hy hc1
      simp only [] at g0 g1 g2 HY HN
      by_cases hf : f = p
      · have gf : ((f : Int) == (p : Int)) = true := by simp [hf]
        by_cases hx : l = x
        · have gx : ((l : Int) == (x : Int)) = true := by simp [hx]
          have HE := hid (HY.out ⟨hf, hx⟩)
          clear HY HN hf hx
          go_wp2
          go_ret
          exact ⟨ret_int (by rw [HE.out]; rfl), (hbw.alloc hbw.size _)⟩
        · have gx : ((l : Int) == (x : Int)) = false := by simp; omega
          have HE := hid (HN.out (fun h => hx h.2))
          clear HY HN hf hx
          go_wp2
          go_roundw
          case rel => exact ⟨k + 1, by omega, by go_num, HE, (hbel.alloc hbel.size _)⟩
          case measure => simp [intOf] <;> omega
      · have gf : ((f : Int) == (p : Int)) = false := by simp; omega
        have HE := hid (HN.out (fun h => hf h.1))
        clear HY HN hf
        go_wp2
        go_roundw
        case rel => exact ⟨k + 1, by omega, by go_num, HE, (hbel.alloc hbel.size _)⟩
        case measure => simp [intOf] <;> omega
    · obtain rfl : k = n := by omega
      go_wp2
      go_ret
      exact ⟨ret_int (by rw [← HALL.out, HK.out]; rfl), HB.out.trans (hbel.mono hzB)⟩
end Go.Proofs.YtpfeflhcbcgbfaaDoor
namespace Go.Proofs.YtpfeflhcbcgbfaaDoor
open Go.RowKit

def clR (cls : List Int) (a b : Nat) : Bool := decide (cls.getD a 0 = cls.getD b 0)
def alTo (cls : List Int) (G : List (Nat × Nat × Nat)) (p q : Nat) : Nat → Bool | 0 => true | x + 1 => alTo cls G p q x && alikeB (clR cls) (tgtN G p x) (tgtN G q x)
theorem alTo_stop {cls : List Int} {G : List (Nat × Nat × Nat)} {p q x : Nat} (h : alikeB (clR cls) (tgtN G p x) (tgtN G q x) = false) : ∀ j, alTo cls G p q (x + 1 + j) = false
  | 0 => by show (alTo cls G p q x && _) = false; rw [h]; simp
  | j + 1 => by show (alTo cls G p q (x + 1 + j) && _) = false; rw [alTo_stop h j]; rfl
theorem tgtN_lt {L S : Nat} {G : List (Nat × Nat × Nat)} {p x t : Nat} (hG : LabG L S G) (h : tgtN G p x = some t) : t < S := by
  unfold tgtN at h
  rw [Option.map_eq_some_iff] at h
  obtain ⟨a, ha, rfl⟩ := h
  exact (hG.arc a (List.mem_of_find?_eq_some ha)).2.1
theorem clR_t {cls : List Int} {a b : Nat} (h : cls.getD a 0 = cls.getD b 0) : clR cls a b = true := decide_eq_true h
theorem clR_f {cls : List Int} {a b : Nat} (h : ¬ cls.getD a 0 = cls.getD b 0) : clR cls a b = false := decide_eq_false h
set_option maxHeartbeats 1000000 in
set_option maxRecDepth 100000 in
theorem l15Alike_c (L S : Nat) (a : Option Addr) (n c : Nat) (G : List (Nat × Nat × Nat)) (cl : Option Addr) (cc : Nat) (cls : List Int) (p q : Nat) (w : World) (hr : RowAt w a (n * 3) (arcVals (arcN G))) (hG : LabG L S G) (hn : n ≤ 1048576) (hcl : RowAt w cl S (intVals cls)) (hcs : cls.length = S) (hp : p < S) (hq : q < S) :
    Calls Tryd.prog 64 #[.agg #[.int .i64 L, .int .i64 S, .slice a n c], .slice cl S cc, .int .i64 p, .int .i64 q] w fun e w' => e = .returned (.bool (alTo cls G p q L)) ∧ Below w.heap.size w w' := by
  have HBX := hid (fun (V : World) (hV : Below (w.heap.size + 1) (w.alloc (.cells #[.int .i64 L, .int .i64 S, .slice a n c] 29)) V) => lab_box hV)
  obtain ⟨W2, hW2⟩ : ∃ W2, W2 = w.alloc (.cells #[.int .i64 L, .int .i64 S, .slice a n c] 29) := ⟨_, rfl⟩
  have hB : Below w.heap.size w W2 := by rw [hW2]; exact (Below.refl _ _).alloc (Nat.le_refl _) _
  have hsz : W2.heap.size = w.heap.size + 1 := by rw [hW2]; simp
  rw [← hW2, ← hsz] at HBX
  have HB := hid hB
  have hzB : w.heap.size ≤ W2.heap.size := hB.size
  have HTG := hid (fun (W : World) (r x : Nat) (hW : Below w.heap.size w W) => l15To_c L S a n c G r x W (hr.below hW (Nat.le_refl _)) hn)
  have hS1 := hG.s1
  obtain ⟨cb, co, rfl, hcb, hcc⟩ := hcl.at_ (by omega)
  have HCL := hid (fun (V : World) (hV : Below w.heap.size w V) (t : Nat) (ht : t < S) => show V.cell? ⟨cb, co + t, none⟩ = some (.int .i64 (cls.getD t 0)) from by
    obtain ⟨z, hz⟩ := get_some (l := cls) (n := t) (by omega)
    rw [List.getD_eq_getElem?_getD, hz]
    exact (hV.cell (p := ⟨cb, co + t, none⟩) hcb).trans (hcc t _ (intVals_get hz)))
  have HTL := hid (fun (r x t : Nat) (h : tgtN G r x = some t) => tgtN_lt hG h)
  have HSTOP := hid (fun (k : Nat) (hk : k < L) (h : alikeB (clR cls) (tgtN G p k) (tgtN G q k) = false) => show alTo cls G p q L = false from by
    have := alTo_stop h (L - (k + 1))
    rw [show k + 1 + (L - (k + 1)) = L by omega] at this
    exact this)
  have HSU := hid (fun (k : Nat) => show alTo cls G p q (k + 1) = (alTo cls G p q k && alikeB (clR cls) (tgtN G p k) (tgtN G q k)) from rfl)
  obtain ⟨Z, hZ⟩ : ∃ Z : Nat → Bool, Z = alTo cls G p q := ⟨_, rfl⟩
  rw [← hZ] at HSTOP HSU
  have HZ0 := hid (show Z 0 = true by rw [hZ]; rfl)
  have hL3 := hG.k3
  have hS12 := hG.s12
  rw [← hZ]
  clear hr hB hZ hG hcl
  go_enter Tryd.func64, Tryd.ntmps64
  go_wp2
  rw [← hW2]
  clear hW2
  go_loopw [9] (fun i wr => ∃ k : Nat, k ≤ L ∧ i = .int .i64 k ∧ Hid (Z k = true) ∧ Below W2.heap.size W2 wr) (fun i _ => L - (intOf i).toNat)
  case atStart => exact ⟨0, by omega, rfl, HZ0, Below.refl _ _⟩
  case round =>
    obtain ⟨k, hk, rfl, HZK, hbel⟩ := hrel
    obtain ⟨⟨p0, p1, p2⟩, hz, hbw⟩ := HBX.out wr hbel
    by_cases hlt : k < L
    · have hki : (k : Int) < (L : Int) := by omega
      have HSK := hid (HSU.out k)
      have HSP := hid (HSTOP.out k hlt)
      have HT1 := hid (HTG.out wr p k hbw)
      have HT2 := hid (fun V hV => HTG.out V q k hV)
      have HL1 := hid (HTL.out p k)
      have HL2 := hid (HTL.out q k)
      obtain ⟨A, hA⟩ : ∃ A, A = tgtN G p k := ⟨_, rfl⟩
      obtain ⟨B, hB⟩ : ∃ B, B = tgtN G q k := ⟨_, rfl⟩
      rw [← hA] at HSK HSP HT1 HL1
      rw [← hB] at HSK HSP HT2 HL2
      clear hA hB
      go_wp2_with fail
      refine HT1.out.mono ?_
      rintro e w3 ⟨rfl, hb3⟩
      have hbel3 := hbel.trans (hb3.mono hbel.size)
      clear p0 p1 p2
      obtain ⟨⟨p0, p1, p2⟩, _, hbw3⟩ := HBX.out w3 hbel3
      go_wp2_with fail
      refine (HT2.out w3 hbw3).mono ?_
      rintro e w4 ⟨rfl, hb4⟩
      have hbel4 := hbel3.trans (hb4.mono hbel3.size)
      clear p0 p1 p2
      obtain ⟨⟨p0, p1, p2⟩, _, hbw4⟩ := HBX.out w4 hbel4
      clear hb3 hb4 hbel3 hbw3
      cases A with
      | none =>
        cases B with
        | none =>
          have HN := hid (show Z (k + 1) = true by rw [HSK.out, HZK.out]; rfl)
          simp only [optI]
          go_wp2
          go_quiet (fail)
          go_wp2
          go_roundw
          case rel => exact ⟨k + 1, by omega, by go_num, HN, below_drewN hbel4 _⟩
          case measure => simp [intOf] <;> omega
        | some u =>
          have HR := hid (HSP.out rfl)
          have hu0 : decide ((u : Int) < 0) = false := decide_eq_false (by omega)
          simp only [optI]
          go_wp2
          go_quiet (fail)
          go_wp2
          go_ret
          exact ⟨ret_bool HR.out.symm, below_drewN hbw4 _⟩
      | some t =>
        cases B with
        | none =>
          have HR := hid (HSP.out rfl)
          have ht0 : decide ((t : Int) < 0) = false := decide_eq_false (by omega)
          simp only [optI]
          go_wp2
          go_quiet (fail)
          go_wp2
          go_ret
          exact ⟨ret_bool HR.out.symm, below_drewN hbw4 _⟩
        | some u =>
          have ht0 : decide ((t : Int) < 0) = false := decide_eq_false (by omega)
          have hu0 : decide ((u : Int) < 0) = false := decide_eq_false (by omega)
          have ht1 : decide ((0 : Int) ≤ (t : Int)) = true := decide_eq_true (by omega)
          have htS := HL1.out t rfl
          have huS := HL2.out u rfl
          have htc := HCL.out w4 hbw4 t htS
          have huc := HCL.out w4 hbw4 u huS
          simp only [optI]
          have HEQ := hid (fun (h : cls.getD t 0 = cls.getD u 0) => show Z (k + 1) = true from by rw [HSK.out, HZK.out]; exact clR_t h)
          have HNE := hid (fun (h : ¬ cls.getD t 0 = cls.getD u 0) => HSP.out (clR_f h))
          obtain ⟨y, hy⟩ : ∃ y, y = cls.getD t 0 := ⟨_, rfl⟩
          obtain ⟨z, hz⟩ : ∃ z, z = cls.getD u 0 := ⟨_, rfl⟩
          rw [← hy] at htc HEQ HNE
          rw [← hz] at huc HEQ HNE
          clear hy hz
          by_cases e : y = z
          · have HN := hid (HEQ.out e)
            subst e
            go_wp2
            go_quiet (fail)
            go_wp2
            go_roundw
            case rel => exact ⟨k + 1, by omega, by go_num, HN, below_drewN hbel4 _⟩
            case measure => simp [intOf] <;> omega
          · have HR := hid (HNE.out e)
            have hyz : (y == z) = false := by simpa using e
            have hyz2 : decide (y = z) = false := decide_eq_false e
            go_wp2
            go_quiet (fail)
            go_wp2
            go_ret
            exact ⟨ret_bool HR.out.symm, below_drewN hbw4 _⟩
    · obtain rfl : k = L := by omega
      go_wp2
      go_ret
      exact ⟨ret_bool HZK.out.symm, hbw⟩
end Go.Proofs.YtpfeflhcbcgbfaaDoor
