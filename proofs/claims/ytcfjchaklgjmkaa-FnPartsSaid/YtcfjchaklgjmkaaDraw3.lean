/- Substitutions drawn. Conditions: the bytes lie in memory. -/
import Derived.Test.YtcfjchaklgjmkaaDraw2
import Derived.Test.YtcfjchaklgjmkaaCounts
import Derived.Test.YtcfjchaklgjmkaaAppN
namespace Go.Proofs.Ytcfjchaklgjmkaa
open Go.RowKit

theorem Drew.app {W w wr w1 : World} {g : Nat} {a : Option Addr} {n c : Nat} {bs : List UInt8} (h : Drew W w wr g a n c bs) (hb : Below w.heap.size wr w1) (hg : g < w.heap.size) (hW : W.heap.size ≤ w.heap.size) : Drew W w w1 g a n c bs := by
  obtain ⟨⟨i, k, x⟩, hgr⟩ := h
  refine ⟨⟨i, k, x.row, x.bel.trans (hb.mono hW), x.lo, Nat.lt_of_lt_of_le x.hi hb.size, (hb.frozen (p := ⟨g, 1, none⟩) hg).trans x.f1, (hb.frozen (p := ⟨g, 2, none⟩) hg).trans x.f2, (hb.cell (p := ⟨g, 0, none⟩) hg).trans x.c0, x.il, (hb.cell (p := ⟨g, 1, none⟩) hg).trans x.c1, (hb.cell (p := ⟨g, 2, none⟩) hg).trans x.c2⟩, ?_⟩
  exact ⟨hb.os.trans hgr.os, hb.tape.trans hgr.tape, hb.output.trans hgr.output, Nat.le_trans hgr.size hb.size, fun k hk hr => (hb.block k hk).trans (hgr.block k hk hr)⟩
theorem own_drew {w w' : World} {B e m g : Nat} {v : Value} {xs : List Value} (h : w.ownsRow B e 1 v m xs) (hg : w.grownBy w' (some g)) (hlt : g < B) : w'.ownsRow B e 1 v m xs :=
  h.kept hg (by
    cases hv : v.ownBlock with
    | none => exact .inl rfl
    | some q =>
      refine .inr fun e => ?_
      injection e with e
      have := (h.lt q hv).1
      omega)
theorem own_form5 {w : World} {base e n : Nat} {v : Value} {xs : List Value} (h : w.ownsRow base e 1 v n xs) (hn : 0 < n) : ∃ g cap, v = .slice (some ⟨g, 0, none⟩) n cap ∧ base ≤ g ∧ g < w.heap.size := by
  rcases h.2 with ⟨rfl, h0⟩ | ⟨g, cap, cur, rfl, hb, hg, _⟩
  · omega
  · exact ⟨g, cap, rfl, hb, (Array.getElem?_eq_some_iff.1 hg).1⟩
theorem infoStrD : (Try.prog.info? 9).map (fun i => (i.zero, i.size, i.bytes)) = some (some (.string ByteArray.empty), 1, 16) := by kernel_rfl
theorem owns_nil2 {w : World} {B : Nat} (hB : B ≤ w.heap.size) : (w.alloc (.cells #[] 9)).ownsRow B 9 1 (.slice (some ⟨w.heap.size, 0, none⟩) 0 0) 0 (strVals []) := owns_lit2 #[] _ rfl hB (by unfold maxLen; simp)
/-- What the drawing of a substitution leaves. -/
def SubDraw (W w : World) (g : Nat) (a : Option Addr) (n c : Nat) (bs : List UInt8) (e : Ending) (w' : World) : Prop :=
  ∃ v ss, e = .returned v ∧ w'.ownsRow w.heap.size 9 1 v ss.length (strVals ss) ∧ ss.length ≤ 5 ∧ (∀ s ∈ ss, s.size ≤ 5) ∧ Drew W w w' g a n c bs
set_option maxHeartbeats 2000000 in
theorem l30Draw_c (W w : World) (g : Nat) (a : Option Addr) (n c : Nat) (bs : List UInt8) (h : Cur W w g a n c bs) :
    Calls Try.prog 50 #[.pointer (some ⟨g, 0, none⟩)] w (SubDraw W w g a n c bs) := by
  have HB := hid (l1Below_c W w g a n c bs 8 h (by omega) (by omega))
  have hgw : g < w.heap.size ∧ W.heap.size ≤ w.heap.size := by obtain ⟨i, k, x⟩ := h; exact ⟨x.hi, x.bel.size⟩
  unfold SubDraw
  clear h
  go_enter Try.func50, Try.ntmps50
  go_wp2_with fail
  refine HB.out.mono ?_
  rintro e w1 ⟨x, rfl, hx, hd⟩
  have HD := hid hd
  clear hd HB
  by_cases hx5 : x < 5
  · have hB1 : w.heap.size ≤ w1.heap.size := HD.out.2.size
    rcases (by omega : x = 0 ∨ x = 1 ∨ x = 2 ∨ x = 3 ∨ x = 4) with rfl | rfl | rfl | rfl | rfl
    · go_wp2
      go_ret
      exact ⟨_, [⟨#[97, 98]⟩, ⟨#[98, 97]⟩], rfl, owns_lit2 #[.string ⟨#[97, 98]⟩, .string ⟨#[98, 97]⟩] _ rfl hB1 (by unfold maxLen; simp), by decide, by decide, HD.out.alloc _⟩
    · go_wp2
      go_ret
      exact ⟨_, [⟨#[97, 98]⟩, ⟨#[97]⟩], rfl, owns_lit2 #[.string ⟨#[97, 98]⟩, .string ⟨#[97]⟩] _ rfl hB1 (by unfold maxLen; simp), by decide, by decide, HD.out.alloc _⟩
    · go_wp2
      go_ret
      exact ⟨_, [⟨#[97, 98]⟩, ⟨#[97, 99]⟩, ⟨#[97]⟩], rfl, owns_lit2 #[.string ⟨#[97, 98]⟩, .string ⟨#[97, 99]⟩, .string ⟨#[97]⟩] _ rfl hB1 (by unfold maxLen; simp), by decide, by decide, HD.out.alloc _⟩
    · go_wp2
      go_ret
      exact ⟨_, [⟨#[97, 98, 99]⟩, ⟨#[97, 99]⟩, ⟨#[98]⟩], rfl, owns_lit2 #[.string ⟨#[97, 98, 99]⟩, .string ⟨#[97, 99]⟩, .string ⟨#[98]⟩] _ rfl hB1 (by unfold maxLen; simp), by decide, by decide, HD.out.alloc _⟩
    · go_wp2
      go_ret
      exact ⟨_, [⟨#[97, 98]⟩, ⟨#[97, 97]⟩], rfl, owns_lit2 #[.string ⟨#[97, 98]⟩, .string ⟨#[97, 97]⟩] _ rfl hB1 (by unfold maxLen; simp), by decide, by decide, HD.out.alloc _⟩
  · have e0 : ((x : Int) == 0) = false := by simp; omega
    have e1 : ((x : Int) == 1) = false := by simp; omega
    have e2 : ((x : Int) == 2) = false := by simp; omega
    have e3 : ((x : Int) == 3) = false := by simp; omega
    have e4 : ((x : Int) == 4) = false := by simp; omega
    clear hx hx5
    have HO := hid (owns_nil2 (w := w1) (B := w.heap.size) HD.out.2.size)
    have HD1 := hid (HD.out.alloc (.cells #[] 9))
    have HB2 := hid (l1Below_c W (w1.alloc (.cells #[] 9)) g a n c bs 2 HD1.out.1 (by omega) (by omega))
    clear HD
    go_wp2_with fail
    refine HB2.out.mono ?_
    rintro e w2 ⟨y, rfl, hy, hd⟩
    have HD2 := hid (HD1.out.trans hd)
    have HO2 := hid (own_drew HO.out hd.2 hgw.1)
    have hg1 := hgw.1
    have hg2 := hgw.2
    obtain ⟨N, hN⟩ : ∃ N, N = 2 + y := ⟨_, rfl⟩
    have hN2 : 2 ≤ N ∧ N ≤ 3 := by omega
    have hyN : (2 : Int) + (y : Int) = (N : Int) := by omega
    have hG := hid hgw
    clear hd HO HD1 HB2 hgw hN hy
    go_wp2
    clear hyN
    go_loopw [3, 5] (fun v i wr => ∃ (j : Nat) (ss : List ByteArray) (q cp : Nat), j ≤ N ∧ i = .int .i64 j ∧ v = .slice (some ⟨q, 0, none⟩) j cp ∧ ss.length = j ∧ (∀ s ∈ ss, s.size ≤ 4) ∧ wr.ownsRow w.heap.size 9 1 (.slice (some ⟨q, 0, none⟩) j cp) j (strVals ss) ∧ Drew W w wr g a n c bs) (fun _ i _ => N - (intOf i).toNat)
    case atStart => exact ⟨0, [], w1.heap.size, 0, by omega, rfl, rfl, rfl, by simp, HO2.out, HD2.out⟩
    case round =>
      obtain ⟨j, ss, q, cp, hj, rfl, rfl, hsl, hss, hown, hd⟩ := hrel
      have HSL := hid hsl
      have HSS := hid hss
      clear hsl hss
      by_cases hlt : j < N
      · have HD3 := hid (hd.alloc (.cells #[.string ⟨#[97]⟩, .string ⟨#[98]⟩, .string ⟨#[99]⟩] 9))
        have HO3 := hid (hown.alloc (.cells #[.string ⟨#[97]⟩, .string ⟨#[98]⟩, .string ⟨#[99]⟩] 9))
        have HP := hid (l1Pick_c W (wr.alloc (.cells #[.string ⟨#[97]⟩, .string ⟨#[98]⟩, .string ⟨#[99]⟩] 9)) g a n c bs (some ⟨wr.heap.size, 0, none⟩) N 3 (abc.take N) HD3.out.1 (by omega) (by omega) (lit_row _ _ _ (by simp [abc]; omega) (fun j v hj => by
          unfold strVals at hj
          rw [List.map_take] at hj
          rw [List.getElem?_take] at hj
          split at hj
          · simpa [abc] using hj
          · cases hj) (by omega)) (fun q off e => by
          obtain ⟨i, h, hc⟩ := hd.1
          have := hc.hi
          injection e with e
          injection e with e1
          omega))
        have hws : w.heap.size ≤ wr.heap.size := hd.2.size
        clear hd hown
        have hk3' : (N : Int) ≤ 3 := by omega
        go_wp2_with fail
        refine HP.out.mono ?_
        rintro e w3 ⟨s, rfl, hs, hd2⟩
        have hs1 := abc_size hs
        have HD4 := hid (HD3.out.trans hd2)
        have HO4 := hid (own_drew HO3.out hd2.2 hg1)
        have HL := hid (l2Draw_c W w3 g a n c bs N 3 hd2.1 (by omega) (by omega) (by omega))
        clear hd2 hs HP
        go_wp2_with fail
        refine HL.out.mono ?_
        rintro e w4 ⟨t, rfl, ht, hd3⟩
        have HD5 := hid (HD4.out.trans hd3)
        have HO5 := hid (own_drew HO4.out hd3.2 hg1)
        have hst : s.size + t.size ≤ 4 := by omega
        have hws4 : w.heap.size ≤ w4.heap.size := HD5.out.2.size
        clear hd3 HL HD3 HD4 HO3 HO4
        go_wp2_with (first
          | (at_builtin
             go_must (refine wpList_app1 (w0 := w4) rfl _ _ 24 rfl w.heap.size 9 (.string ByteArray.empty) 16 Try.underlying24 infoStrD rfl _ j (strVals ss) (.string (s ++ t)) HO5.out rfl rfl rfl (by omega) (by unfold maxLen; omega) (Below.refl _ _) hws4 ?_)
             intro v' w5 hown5 hbel5
             obtain ⟨q5, cp5, rfl, _, _⟩ := own_form5 hown5 (by omega)))
        go_roundw
        case rel => exact ⟨j + 1, ss ++ [s ++ t], q5, cp5, by omega, by go_num, rfl, by simp [HSL.out], by
          intro x hx
          rcases List.mem_append.1 hx with hx | hx
          · exact HSS.out x hx
          · simp at hx; subst hx; rw [ByteArray.size_append]; exact hst, by simpa [strVals] using hown5, HD5.out.app hbel5 hg1 hg2⟩
        case measure => simp [intOf] <;> omega
      · obtain rfl : j = N := by omega
        have hd12 := hid (l1Below_c W wr g a n c bs 12 hd.1 (by omega) (by omega))
        have HD3 := hid hd
        have HO3 := hid hown
        have hqb : w.heap.size ≤ q := (hown.lt q rfl).1
        have hqh : q < wr.heap.size := (hown.lt q rfl).2
        clear hd hown
        go_wp2_with fail
        refine hd12.out.mono ?_
        rintro e w3 ⟨z, rfl, hz, hd⟩
        have HD4 := hid (HD3.out.trans hd)
        have HO4 := hid (own_drew HO3.out hd.2 hg1)
        have hqh4 : q < w3.heap.size := Nat.lt_of_lt_of_le hqh hd.2.size
        have hws3 : w.heap.size ≤ w3.heap.size := by omega
        clear hd hd12 HD3 HO3
        by_cases hz0 : z = 0
        · subst hz0
          have HD5 := hid (HD4.out.alloc (.cells #[.string ⟨#[]⟩, .string ⟨#[97, 98, 99, 97, 98]⟩, .string ⟨#[100]⟩] 9))
          have HO5 := hid (HO4.out.alloc (.cells #[.string ⟨#[]⟩, .string ⟨#[97, 98, 99, 97, 98]⟩, .string ⟨#[100]⟩] 9))
          have HP := hid (l1Pick_c W (w3.alloc (.cells #[.string ⟨#[]⟩, .string ⟨#[97, 98, 99, 97, 98]⟩, .string ⟨#[100]⟩] 9)) g a n c bs (some ⟨w3.heap.size, 0, none⟩) 3 3 [⟨#[]⟩, ⟨#[97, 98, 99, 97, 98]⟩, ⟨#[100]⟩] HD5.out.1 (by omega) (by omega) (lit_row _ _ _ rfl (fun j v hj => by simpa [strVals] using hj) (by omega)) (fun q off e => by
            injection e with e
            injection e with e1
            omega))
          go_wp2_with fail
          refine HP.out.mono ?_
          rintro e w4 ⟨s, rfl, hs, hd2⟩
          have hs5 : s.size ≤ 5 := by
            simp at hs
            rcases hs with rfl | rfl | rfl <;> decide
          have HD6 := hid (HD5.out.trans hd2)
          have hO6 := own_drew HO5.out hd2.2 hg1
          obtain ⟨u, hu⟩ := get_some (l := strVals ss) (n := 0) (by simp [strVals, HSL.out]; omega)
          have hcell : w4.cell? ⟨q, 0, none⟩ = some u := (hO6.cellAt 0 (by omega)).trans hu
          have hfr := hO6.frozenAt 0
          have hst := hid (hO6.stored 0 (.string s))
          have hjp : 0 < j := by omega
          clear hd2 hs HP hO6 hu HD5 HO5
          go_wp2
          go_ret
          refine ⟨_, ss.set 0 s, rfl, ?_, by simp [HSL.out]; omega, fun x hx => ?_, HD6.out.app ((Below.refl _ _).setCell hqb _) hg1 hg2⟩
          · have e1 : (strVals ss).set 0 (.string s) = strVals (ss.set 0 s) := by simp [strVals, List.map_set]
            rw [List.length_set, HSL.out, ← e1]
            exact hst.out.1
          · rcases List.mem_or_eq_of_mem_set hx with hx | rfl
            · exact Nat.le_trans (HSS.out x hx) (by omega)
            · exact hs5
        · have hz0' : ((z : Int) == 0) = false := by simp; omega
          by_cases hz1 : z = 1
          · subst hz1
            have HO5 := hid (HO4.out.alloc (.cells #[.string ⟨#[97]⟩, .string ⟨#[97]⟩] 9))
            go_wp2_with (first
              | (at_builtin
                 go_must (refine wpList_appN rfl _ _ 24 rfl w.heap.size 9 (.string ByteArray.empty) 16 Try.underlying24 infoStrD rfl q cp j (strVals ss) HO5.out rfl w3.heap.size 0 2 2 [.string ⟨#[97]⟩, .string ⟨#[97]⟩] rfl rfl (by intro j u hj; rw [World.cell?_alloc_at _ _ _ _ rfl]; simpa using hj) (by intro u hu; simp at hu; subst hu; rfl) (by omega) (by unfold maxLen; omega) (by simp; omega) ?_)
                 intro q5 c5 w5 hown5 hgr5 hq5 hlt5))
            go_ret
            refine ⟨_, ss ++ [⟨#[97]⟩, ⟨#[97]⟩], rfl, ?_, by simp [HSL.out]; omega, fun x hx => ?_, HD4.out.app (((Below.refl _ _).alloc hws3 _).grown hgr5 (by simp; omega) (by rintro k ⟨⟩; exact hqb)) hg1 hg2⟩
            · rw [List.length_append, HSL.out]
              simpa [strVals] using hown5
            · rcases List.mem_append.1 hx with hx | hx
              · exact Nat.le_trans (HSS.out x hx) (by omega)
              · simp at hx; subst hx; decide
          · have hz1' : ((z : Int) == 1) = false := by simp; omega
            go_wp2
            go_ret
            exact ⟨_, ss, rfl, by rw [HSL.out]; exact HO4.out, by rw [HSL.out]; omega, fun x hx => Nat.le_trans (HSS.out x hx) (by omega), HD4.out⟩
end Go.Proofs.Ytcfjchaklgjmkaa
