/- slices.DeleteFunc where what is struck are the 1s, the program's group. Conditions: short lists of the call's own. -/
import Derived.Lib.SliceRun
import Derived.Test.YtpfeflhcbcgbfaaGreatDoorMnrI
import Derived.Test.YtpfeflhcbcgbfaaGreatDoorGrpS
namespace Go.Proofs.YtpfeflhcbcgbfaaGreatDoor
open Go.RowKit
set_option maxHeartbeats 4000000 in
set_option maxRecDepth 100000 in
theorem impl_diagonal_c (a : Option Addr) (n c : Nat) (t : List (List Int)) (w : World) (h : TabAt w a n t) (hR : Rect t n n) (hn : 1 ≤ n ∧ n ≤ 4) (hb : Bd 100 t) :
    Calls Tryz.prog 143 #[.slice a n c] w fun e w' => ∃ g cg, e = .returned (.slice (some ⟨g, 0, none⟩) n cg) ∧ n ≤ cg ∧ Hid (w'.ownsRow w.heap.size 3 1 (.slice (some ⟨g, 0, none⟩) n cg) n (intVals (dgL t n n))) ∧ Below w.heap.size w w' := by
  have HMN := hid (fun (k : Nat) (hk : k ≤ n) (V : World) (hV : Below w.heap.size w V) => impl_minors_c a n c k t V (h.below hV (Nat.le_refl _)) hR hn hb hk)
  have HMB := hid (fun (k : Nat) (hk : k ≤ n) => mnrV_sml hn.2 hk hR hb)
  have HBB := hid (fun (k : Nat) (hk : k ≤ n) => dgB_sml hn.2 hR hb k hk)
  have HBP := hid (fun (k : Nat) => dgB_pos t n k)
  have HZ := hid (fun (k : Nat) (h : mnrV t n (k + 1) = 0) => dg_zero h)
  have HS := hid (fun (k : Nat) (h : ¬ mnrV t n (k + 1) = 0) => dg_some h)
  have HSUC := hid (fun K => dgL_succ t n K)
  have HB0 := hid (show dgB t n 0 = 1 from rfl)
  obtain ⟨F, hF⟩ : ∃ F, F = mnrV t n := ⟨_, rfl⟩
  rw [← hF] at HMN HMB HZ HS
  obtain ⟨B, hB⟩ : ∃ B, B = dgB t n := ⟨_, rfl⟩
  rw [← hB] at HBB HBP HZ HS HB0
  obtain ⟨V0, hV0⟩ : ∃ V0, V0 = dgV t n := ⟨_, rfl⟩
  rw [← hV0] at HZ HS HSUC
  have HRI := hid (show (w.alloc (.cells #[] 3)).ownsRow w.heap.size 3 1 (.slice (some ⟨w.heap.size, 0, none⟩) 0 0) 0 (intVals (dgL t n 0)) from owns_lit3 (w := w) (base := w.heap.size) (e := 3) #[] [] rfl (Nat.le_refl _) (by unfold maxLen; simp))
  have HBA := hid (show Below w.heap.size w (w.alloc (.cells #[] 3)) from (Below.refl _ _).alloc (Nat.le_refl _) _)
  clear h hR hb hF hB hV0
  go_enter Tryz.func143, Tryz.ntmps143
  go_wp2
  go_loopw [3, 4, 5] (fun v b i wr => ∃ (k gj cj : Nat) (e : Int), k ≤ n ∧ Hid (e = (k : Int) + 1) ∧ i = .int .i64 e ∧ b = .int .i64 (B k : Nat) ∧ v = .slice (some ⟨gj, 0, none⟩) k cj ∧ Hid (wr.ownsRow w.heap.size 3 1 (.slice (some ⟨gj, 0, none⟩) k cj) k (intVals (dgL t n k))) ∧ Hid (Below w.heap.size w wr)) (fun _ _ i _ => n + 1 - (intOf i).toNat)
  case atStart => exact ⟨0, w.heap.size, 0, 1, by omega, hid rfl, rfl, by rw [HB0.out]; rfl, rfl, HRI, HBA⟩
  case round =>
    clear HRI HBA
    obtain ⟨k, gj, cj, e, hk, HE, rfl, rfl, rfl, HRI, HBL⟩ := hrel
    by_cases hlt : k < n
    · obtain ⟨q, hq⟩ : ∃ q, q = k + 1 := ⟨_, rfl⟩
      have heq : e = (q : Int) := by rw [HE.out]; omega
      have hqn : q ≤ n := by omega
      have HQE := hid (show (q : Int) + 1 = ((k + 1 : Nat) : Int) + 1 by omega)
      subst heq
      have hqi : (q : Int) ≤ (n : Int) := by omega
      have hwq : IntKind.i64.wrap ((q : Int) + 1) = (q : Int) + 1 := IntWalk.i64_in _ (by omega)
      have HMQ := hid (HMN.out q hqn wr HBL.out)
      have hmb := HMB.out q hqn
      have hbb := HBB.out k hk
      have hbp := HBP.out k
      have HZk := hid (fun h => HZ.out k h)
      have HSk := hid (fun h => HS.out k h)
      have HSK := hid (HSUC.out k)
      rw [← hq] at HZk HSk HSK
      have HKQ := hid hq
      have hgl := (HRI.out.lt gj rfl).1
      have hsz := HBL.out.size
      obtain ⟨d, hd⟩ : ∃ d, d = F q := ⟨_, rfl⟩
      rw [← hd] at HMQ hmb HZk HSk
      obtain ⟨b0, hb0⟩ : ∃ b0, b0 = B k := ⟨_, rfl⟩
      rw [← hb0] at hbb hbp HZk HSk
      rw [← hb0]
      clear hd hb0 hq
      by_cases hd0 : d = 0
      · obtain ⟨hz1, hz2⟩ := HZk.out hd0
        have HZ1 := hid hz1
        rw [hz2] at HSK
        subst hd0
        clear hz1 hz2 HZk HSk
        go_wp2_with (first | (go_at_call 168; refine HMQ.out.mono ?_; rintro e w3 ⟨rfl, hb3⟩; have ho3 := owns_below HRI.out hb3; have hs3 := hb3.size) | (at_builtin; go_must (refine wpList_appN rfl _ _ 39 rfl w.heap.size 3 (.int .i64 0) 8 Tryz.underlying39 infoIntZ rfl gj cj k (intVals (dgL t n k)) (ho3.alloc _) rfl w3.heap.size 0 1 1 [.int .i64 0] rfl rfl (lit_cellsP rfl) (by intro u hu; simp at hu; subst hu; rfl) (by omega) (by unfold maxLen; omega) (by simp; omega) ?_); intro g3 c3 w4 hown3 hgr3 hor3 hlt3))
        have HO3 := hid hown3
        have HB3 := hid (((HBL.out.trans (hb3.mono hsz)).alloc (by omega) (.cells #[.int .i64 0] 3)).grown hgr3 (by simp; omega) (by rintro k ⟨⟩; exact hgl))
        clear hown3 hgr3 ho3 hb3
        go_roundw
        case rel => exact ⟨k + 1, g3, c3, (q : Int) + 1, by omega, HQE, by go_num, by rw [← HKQ.out, HZ1.out], rfl, hid (by rw [← HKQ.out, HSK.out, HKQ.out]; exact HO3.out), HB3⟩
        case measure => simp [intOf]; omega
      · obtain ⟨hz1, hz2⟩ := HSk.out hd0
        have HZ1 := hid hz1
        rw [hz2] at HSK
        have hdb := Nat.div_le_self d b0
        obtain ⟨r, hr⟩ : ∃ r, r = d / b0 := ⟨_, rfl⟩
        have htd : Int.tdiv (d : Int) (b0 : Int) = (r : Int) := by rw [hr]; rfl
        rw [← hr] at HSK hdb
        have hwr : IntKind.i64.wrap (r : Int) = (r : Int) := IntWalk.i64_in _ (by omega)
        have hdi : ((d : Int) == 0) = false := by simp; omega
        have hbi1 : ((b0 : Int) == 0) = false := by simp; omega
        have hbi2 : ((b0 : Int) != 0) = true := by simp; omega
        have hbi3 : ¬ ((b0 : Int) = 0) := by omega
        have hbi4 : ¬ (b0 = 0) := by omega
        have hbm : ¬ ((b0 : Int) = -1) := by omega
        clear hz1 hz2 HZk HSk hr
        go_wp2_with (first | (go_at_call 168; refine HMQ.out.mono ?_; rintro e w3 ⟨rfl, hb3⟩; have ho3 := owns_below HRI.out hb3; have hs3 := hb3.size) | (at_builtin; go_must (refine wpList_appN rfl _ _ 39 rfl w.heap.size 3 (.int .i64 0) 8 Tryz.underlying39 infoIntZ rfl gj cj k (intVals (dgL t n k)) (ho3.alloc _) rfl w3.heap.size 0 1 1 [.int .i64 (r : Int)] rfl rfl (lit_cellsP rfl) (by intro u hu; simp at hu; subst hu; rfl) (by omega) (by unfold maxLen; omega) (by simp; omega) ?_); intro g3 c3 w4 hown3 hgr3 hor3 hlt3))
        have HO3 := hid hown3
        have HB3 := hid (((HBL.out.trans (hb3.mono hsz)).alloc (by omega) (.cells #[.int .i64 (r : Int)] 3)).grown hgr3 (by simp; omega) (by rintro k ⟨⟩; exact hgl))
        clear hown3 hgr3 ho3 hb3
        go_roundw
        case rel => exact ⟨k + 1, g3, c3, (q : Int) + 1, by omega, HQE, by go_num, by rw [← HKQ.out, HZ1.out], rfl, hid (by rw [← HKQ.out, HSK.out, HKQ.out]; exact HO3.out), HB3⟩
        case measure => simp [intOf]; omega
    · have heK : (n : Int) < e := by rw [HE.out]; omega
      have hen : ¬ (e ≤ (n : Int)) := by omega
      obtain rfl : k = n := by omega
      obtain ⟨ar, cr, hev, hcap, hrow⟩ := owns_cap HRI.out (by omega)
      simp only [Value.slice.injEq] at hev
      obtain ⟨-, -, rfl⟩ := hev
      go_wp2
      go_ret
      exact ⟨gj, cj, rfl, hcap, HRI, HBL.out⟩
end Go.Proofs.YtpfeflhcbcgbfaaGreatDoor
namespace Go.Proofs.YtpfeflhcbcgbfaaGreatDoor
open Go.RowKit
/-- The row while the 1s are struck. -/
structure DelInv (xs : List Int) (n j : Nat) (ys : List Int) : Prop where
  len : ys.length = n
  pre : ys.take (no1 xs j).length = no1 xs j
  post : ∀ q, j ≤ q → ys[q]? = xs[q]?
  lt : (no1 xs j).length < j
theorem DelInv.start {xs : List Int} {n k : Nat} (hn : xs.length = n) (hk : k < n) (hx : xs[k]? = some 1) (h : no1 xs k = xs.take k) : DelInv xs n (k + 1) xs := by
  have e := no1_no hx
  refine ⟨hn, ?_, fun _ _ => rfl, ?_⟩
  · rw [e, h, List.length_take, Nat.min_eq_left (by omega)]
  · rw [e, h, List.length_take]; omega
theorem DelInv.skip {xs ys : List Int} {n j : Nat} (h : DelInv xs n j ys) (hx : xs[j]? = some 1) : DelInv xs n (j + 1) ys := by
  have e := no1_no hx
  exact ⟨h.len, by rw [e]; exact h.pre, fun q hq => h.post q (by omega), by rw [e]; have := h.lt; omega⟩
theorem DelInv.keep {xs ys : List Int} {n j : Nat} {x : Int} (h : DelInv xs n j ys) (hj : j < n) (hx : xs[j]? = some x) (h1 : ¬ x = 1) : DelInv xs n (j + 1) (ys.set (no1 xs j).length x) := by
  have e := no1_yes hx h1
  have hlt := h.lt
  have hlen := h.len
  refine ⟨by rw [List.length_set]; exact h.len, ?_, fun q hq => ?_, by rw [e, List.length_append]; simp; omega⟩
  · rw [e, List.length_append]
    show (ys.set (no1 xs j).length x).take ((no1 xs j).length + 1) = no1 xs j ++ [x]
    rw [List.take_add_one, List.getElem?_set, if_pos rfl, if_pos (by omega)]
    have : (ys.set (no1 xs j).length x).take (no1 xs j).length = no1 xs j := by
      rw [List.take_set_of_le (Nat.le_refl _)]
      exact h.pre
    rw [this]
    rfl
  · rw [List.getElem?_set, if_neg (by omega)]
    exact h.post q (by omega)
theorem setCells_own {B g c n : Nat} : ∀ (L : List Value) (i : Nat) (w : World) (vs : List Value), w.ownsRow B 3 1 (.slice (some ⟨g, 0, none⟩) n c) n vs → (∀ v ∈ L, ∃ x : Int, v = .int .i64 x) →
    ∃ us, (w.setCells g i L).ownsRow B 3 1 (.slice (some ⟨g, 0, none⟩) n c) n us ∧ (∀ q, q < i → us[q]? = vs[q]?) ∧ w.grownBy (w.setCells g i L) (some g)
  | [], i, w, vs, h, _ => ⟨vs, h, fun _ _ => rfl, World.grownBy.refl w _⟩
  | v :: L, i, w, vs, h, hL => by
    obtain ⟨h1, h2⟩ := h.stored i v
    obtain ⟨us, h3, h4, h5⟩ := setCells_own L (i + 1) _ _ h1 (fun u hu => hL u (List.mem_cons_of_mem _ hu))
    refine ⟨us, h3, fun q hq => ?_, grown_own h2 h5 (Or.inl rfl)⟩
    rw [h4 q (by omega), List.getElem?_set, if_neg (by omega)]
set_option maxHeartbeats 1000000 in
theorem grp1_c (x : Int) (w : World) : Calls Tryz.prog 145 #[.int .i64 x] w fun e w' => e = .returned (.bool (x == 1)) ∧ w = w' := by
  go_enter Tryz.func145, Tryz.ntmps145
  go_wp2
  go_ret
  exact ⟨rfl, rfl⟩
set_option maxHeartbeats 4000000 in
set_option maxRecDepth 100000 in
theorem indexFunc1_c (a : Option Addr) (n c : Nat) (xs : List Int) (w : World) (h : RowAt w a n (intVals xs)) (hn : n ≤ 9) :
    Calls Tryz.prog 167 #[.slice a n c, .func (.func 145) #[] #[]] w fun e w' => w = w' ∧ ((e = .returned (.int .i64 (-1)) ∧ no1 xs n = xs) ∨ ∃ k : Nat, e = .returned (.int .i64 k) ∧ k < n ∧ xs[k]? = some 1 ∧ no1 xs k = xs.take k) := by
  have hxl : xs.length = n := by have := h.len; rw [show (intVals xs).length = xs.length by simp [intVals]] at this; exact this
  have HG := hid (fun x w => grp1_c x w)
  have HR := hid h
  clear h
  go_enter Tryz.func167, Tryz.ntmps167
  go_wp2
  go_loop [8] (fun i => ∃ j : Nat, j ≤ n ∧ i = .int .i64 j ∧ Hid (no1 xs j = xs.take j)) (fun i => n - (intOf i).toNat)
  case atStart => exact ⟨0, by omega, rfl, hid (by simp [no1])⟩
  case round =>
    obtain ⟨j, hj, rfl, HK⟩ := hrel
    by_cases hlt : j < n
    · have hji : (j : Int) < (n : Int) := by omega
      obtain ⟨x, hx⟩ := get_some (l := xs) (n := j) (by omega)
      obtain ⟨b, off, rfl, hb, hc⟩ := HR.out.at_ (by omega)
      have hcell := hc j _ (intVals_get hx)
      have HX := hid hx
      clear hx hc
      by_cases hx1 : x = 1
      · subst hx1
        go_wp2_with (go_at_call 145; refine (HG.out _ _).mono ?_; rintro e w' ⟨rfl, rfl⟩)
        go_ret
        exact ⟨rfl, Or.inr ⟨j, rfl, hlt, HX.out, HK.out⟩⟩
      · have hxb : (x == 1) = false := by simp [hx1]
        have HN := hid (show no1 xs (j + 1) = xs.take (j + 1) from by rw [no1_yes HX.out hx1, HK.out, List.take_add_one, HX.out]; rfl)
        go_wp2_with (go_at_call 145; refine (HG.out _ _).mono ?_; rintro e w' ⟨rfl, rfl⟩)
        go_round
        case rel => exact ⟨j + 1, by omega, by go_num, HN⟩
        case measure => simp [intOf]; omega
    · obtain rfl : j = n := by omega
      go_wp2
      go_ret
      exact ⟨rfl, Or.inl ⟨rfl, by rw [HK.out, List.take_of_length_le (by omega)]⟩⟩
theorem zeroIntD (w : World) : (zeroValue 3).run Tryz.prog w = .ok (.int .i64 0) w := by kernel_rfl
set_option maxHeartbeats 4000000 in
set_option maxRecDepth 100000 in
theorem deleteFunc1_c (B g n c : Nat) (xs : List Int) (w : World) (h : w.ownsRow B 3 1 (.slice (some ⟨g, 0, none⟩) n c) n (intVals xs)) (hn : n ≤ 9) (hnc : n ≤ c) :
    Calls Tryz.prog 142 #[.slice (some ⟨g, 0, none⟩) n c, .func (.func 145) #[] #[]] w fun e w' => ∃ c', e = .returned (.slice (some ⟨g, 0, none⟩) (no1 xs n).length c') ∧ RowAt w' (some ⟨g, 0, none⟩) (no1 xs n).length (intVals (no1 xs n)) ∧ Below B w w' := by
  have HROW := hid (show RowAt w (some ⟨g, 0, none⟩) n (intVals xs) from by
    obtain ⟨ar, cr, hev, hrow⟩ := owns_rowAt h (by omega)
    simp only [Value.slice.injEq] at hev
    obtain ⟨rfl, -, -⟩ := hev
    exact hrow)
  have hxl : xs.length = n := by have := HROW.out.len; rw [show (intVals xs).length = xs.length by simp [intVals]] at this; exact this
  have HG := hid (fun x w => grp1_c x w)
  have HIX := hid (indexFunc1_c (some ⟨g, 0, none⟩) n c xs w HROW.out hn)
  have HO := hid h
  have hBg : B ≤ g := (h.lt g rfl).1
  have HLE := hid (fun j => no1_le xs j)
  have HST := hid (fun (k : Nat) (hk : k < n) (hx : xs[k]? = some 1) (hh : no1 xs k = xs.take k) => (DelInv.start hxl hk hx hh))
  have HFIN := hid (fun (i : Nat) (ys : List Int) (wr : World) (hi : Hid (DelInv xs n n ys)) (hw : wr.ownsRow B 3 1 (.slice (some ⟨g, 0, none⟩) n c) n (intVals ys)) (hil : i = (no1 xs n).length) => show RowAt (wr.setCells g i (List.replicate (n - i) (.int .i64 0))) (some ⟨g, 0, none⟩) i (intVals (no1 xs n)) ∧ wr.grownBy (wr.setCells g i (List.replicate (n - i) (.int .i64 0))) (some g) from by
    obtain ⟨us, h1, h2, h3⟩ := setCells_own (List.replicate (n - i) (.int .i64 0)) i wr _ hw (fun v hv => ⟨0, List.eq_of_mem_replicate hv⟩)
    refine ⟨?_, h3⟩
    have hlt := hi.out.lt
    have hpre := hi.out.pre
    obtain ⟨ar, cr, hev, hrow⟩ := owns_rowAt h1 (by omega)
    simp only [Value.slice.injEq] at hev
    obtain ⟨rfl, -, -⟩ := hev
    refine ⟨by simp [intVals]; omega, by omega, fun h0 => ?_⟩
    obtain ⟨b, off, hbe, hbw, hcc⟩ := hrow.at_ (by omega)
    refine ⟨b, off, hbe, hbw, fun k v hv => hcc k v ?_⟩
    have hk : k < i := by
      have := (List.getElem?_eq_some_iff.1 hv).1
      simp [intVals] at this
      omega
    rw [h2 k hk, ← hv, ← hpre, intVals_take, List.getElem?_take, if_pos (by omega)])
  have HCLR := hid (fun (i : Nat) (ys : List Int) (wr : World) (hin : i < n) (hw : wr.ownsRow B 3 1 (.slice (some ⟨g, 0, none⟩) n c) n (intVals ys)) (ty : TypeId) => show (Builtin.clear_ #[39] ty #[.slice (some ⟨g, i, none⟩) (n - i) (c - i)]).run Tryz.prog wr = .ok (.tuple #[]) (wr.setCells g i (List.replicate (n - i) (.int .i64 0))) from
    Lib.run_clear_slice wr 39 3 ty (.int .i64 0) Tryz.underlying39 zeroIntD rfl rfl g i (n - i) (c - i) (by omega) (fun j hj => by
      have hl := hw.1
      rw [hw.cellAt (i + j) (by omega), List.getElem?_eq_getElem (by omega)]; rfl) (fun j hj => hw.frozenAt (i + j)))
  clear h
  go_enter Tryz.func142, Tryz.ntmps142
  go_wp2_with fail
  refine HIX.out.mono ?_
  rintro e w' ⟨rfl, ⟨rfl, hall⟩ | ⟨k, rfl, hk, hx, hno⟩⟩
  · have HALL := hid hall
    clear hall
    go_wp2
    go_ret
    rw [HALL.out, hxl]
    exact ⟨c, rfl, HROW.out, Below.refl _ _⟩
  · have HIN := hid (HST.out k hk hx hno)
    have hkm : ((k : Int) == -1) = false := by simp
    have hik := hno
    have hil : (no1 xs (k + 1)).length = k := by rw [no1_no hx, hno, List.length_take]; omega
    have HIL := hid hil
    clear hx hno hik hil HST
    go_wp2
    go_loopw [5, 6] (fun a b wr => ∃ (i j : Nat) (ys : List Int), j ≤ n ∧ a = .int .i64 i ∧ b = .int .i64 j ∧ Hid (i = (no1 xs j).length) ∧ Hid (DelInv xs n j ys) ∧ Hid (wr.ownsRow B 3 1 (.slice (some ⟨g, 0, none⟩) n c) n (intVals ys)) ∧ Hid (Below B w wr)) (fun _ b _ => n - (intOf b).toNat)
    case atStart => exact ⟨k, k + 1, xs, by omega, rfl, by go_num, hid HIL.out.symm, HIN, HO, hid (Below.refl _ _)⟩
    case round =>
      clear HIN HIL HO
      obtain ⟨i, j, ys, hj, rfl, rfl, HIL, HIN, HO, HBL⟩ := hrel
      have hlt := HIN.out.lt
      rw [← HIL.out] at hlt
      by_cases hjn : j < n
      · have hji : (j : Int) < (n : Int) := by omega
        obtain ⟨x, hx⟩ := get_some (l := xs) (n := j) (by omega)
        have hcell := (HO.out.cellAt j (by omega)).trans (intVals_get ((HIN.out.post j (Nat.le_refl _)).trans hx))
        have HX := hid hx
        clear hx
        by_cases hx1 : x = 1
        · subst hx1
          have HN := hid (HIN.out.skip HX.out)
          have HL2 := hid (show i = (no1 xs (j + 1)).length by rw [no1_no HX.out]; exact HIL.out)
          go_wp2_with (go_at_call 145; refine (HG.out _ _).mono ?_; rintro e w' ⟨rfl, rfl⟩)
          go_roundw
          case rel => exact ⟨i, j + 1, ys, by omega, rfl, by go_num, HL2, HN, HO, HBL⟩
          case measure => simp [intOf]; omega
        · have hxb : (x == 1) = false := by simp [hx1]
          have HN := hid (HIN.out.keep hjn HX.out hx1)
          rw [← HIL.out] at HN
          have HL2 := hid (show i + 1 = (no1 xs (j + 1)).length by rw [no1_yes HX.out hx1, List.length_append, ← HIL.out]; rfl)
          have hci := HO.out.cellAt i (by omega)
          obtain ⟨y, hy⟩ := get_some (l := ys) (n := i) (by rw [HIN.out.len]; omega)
          have hci2 := hci.trans (intVals_get hy)
          have hfr := HO.out.frozenAt i
          have hst := HO.out.stored i (.int .i64 x)
          rw [intVals_put] at hst
          have HS := hid hst
          have hii : (i : Int) < (n : Int) := by omega
          clear hci hy hst
          go_wp2_with (go_at_call 145; refine (HG.out _ _).mono ?_; rintro e w' ⟨rfl, rfl⟩)
          go_roundw
          case rel => exact ⟨i + 1, j + 1, _, by omega, by go_num, by go_num, HL2, HN, hid HS.out.1, hid (HBL.out.setCell hBg _)⟩
          case measure => simp [intOf]; omega
      · have hjN : j = n := by omega
        have hiN : i < n := by omega
        have hcl := HCLR.out i ys wr hiN HO.out
        have HF := hid (HFIN.out i ys wr (by have h := HIN.out; rw [hjN] at h; exact hid h) HO.out (by have h := HIL.out; rw [hjN] at h; exact h))
        have HIE := hid (show (no1 xs n).length = i from by rw [← hjN]; exact HIL.out.symm)
        have hBw : B ≤ wr.heap.size := by have := (HO.out.lt g rfl).2; omega
        have hni : (n : Int) ≤ (j : Int) := by omega
        clear HIX HG HFIN HCLR hjN
        go_wp2
        go_ret
        rw [HIE.out]
        exact ⟨_, rfl, HF.out.1, HBL.out.grown HF.out.2 hBw (by rintro k ⟨⟩; exact hBg)⟩
end Go.Proofs.YtpfeflhcbcgbfaaGreatDoor
