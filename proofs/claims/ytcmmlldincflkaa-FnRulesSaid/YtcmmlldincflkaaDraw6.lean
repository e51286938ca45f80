/- Codes drawn. Conditions: the bytes lie in memory. -/
import Derived.OrdersHeld
import Derived.Deep.RegionHeld3
import Derived.Test.YtcmmlldincflkaaDraw
import Derived.Test.YtcmmlldincflkaaAppN
import Derived.Test.YtcmmlldincflkaaParseM
import Derived.Test.YtcmmlldincflkaaRule
import Derived.Test.YtcmmlldincflkaaNumber
import Derived.Test.YtcmmlldincflkaaTail
namespace Go.Proofs.Ytcmmlldincflkaa
open Go.RowKit

theorem newCur {w : World} {a : Option Addr} {n c : Nat} {bs : List UInt8} (hr : RowAt w a n (byteVals bs)) (T : TypeId) (h : Int) : CurX w (w.alloc (.cells #[.slice a n c, .int .i64 0, .int .i64 h] T)) w.heap.size a n c bs 0 h where
  row := hr
  bel := (Below.refl _ _).alloc (Nat.le_refl _) _
  lo := Nat.le_refl _
  hi := by simp
  f1 := World.frozen?_alloc_at _ _ _ _ rfl
  f2 := World.frozen?_alloc_at _ _ _ _ rfl
  c0 := World.cell?_alloc_at _ _ _ _ rfl
  il := Nat.zero_le _
  c1 := World.cell?_alloc_at _ _ _ _ rfl
  c2 := World.cell?_alloc_at _ _ _ _ rfl
set_option maxHeartbeats 2000000 in
set_option maxRecDepth 100000 in
theorem l1New_c (a : Option Addr) (n c : Nat) (bs : List UInt8) (w : World) (hr : RowAt w a n (byteVals bs)) :
    Calls Try.prog 48 #[.slice a n c] w fun e w' => ∃ g, e = .returned (.pointer (some ⟨g, 0, none⟩)) ∧ Cur w w' g a n c bs ∧ Below w.heap.size w w' := by
  have HR := hid hr
  have hlim := hr.lim
  have hlen := hid (show bs.length = n by have := hr.len; simpa [byteVals] using this)
  have HAT := hid hr.at_
  clear hr
  go_enter Try.func48, Try.ntmps48
  go_wp2
  go_loop [3, 4] (fun h i => ∃ j k : Nat, j ≤ n ∧ i = .int .i64 j ∧ h = .int .i64 k ∧ k ≤ 140737488400000) (fun _ i => n - (intOf i).toNat)
  case atStart => exact ⟨0, 26583 + n, by omega, rfl, by go_num, by omega⟩
  case round =>
    obtain ⟨j, k, hj, rfl, rfl, hk⟩ := hrel
    by_cases hlt : j < n
    · by_cases h4 : j < 4000
      · have h4' : (j : Int) < 4000 := by omega
        obtain ⟨b, off, rfl, hb, hc⟩ := HAT.out (by omega)
        obtain ⟨u, hu⟩ := get_some (l := bs) (n := j) (by rw [hlen.out]; exact hlt)
        have hcell := hc j (.int .u8 (u.toNat : Int)) (by simp [byteVals, hu])
        have hub := u.toNat_lt
        obtain ⟨y, hy, hy2⟩ := mask_nat ((k : Int) * 131 + (u.toNat : Int) + 7) 1073741823 (by omega)
        have hy : bits BinOp.and IntKind.i64 ((k : Int) * 131 + (u.toNat : Int) + 7) 1073741823 = (y : Int) := hy
        clear hc hu HAT
        go_wp2
        go_round
        case rel => exact ⟨j + 1, y, by omega, by go_num, by first | rw [hy] | go_num, by omega⟩
        case measure => simp [intOf] <;> omega
      · have h4' : ¬ ((j : Int) < 4000) := by omega
        go_wp2
        go_ret
        exact ⟨w.heap.size, rfl, ⟨0, _, newCur HR.out _ _⟩, (Below.refl _ _).alloc (Nat.le_refl _) _⟩
    · go_wp2
      go_ret
      exact ⟨w.heap.size, rfl, ⟨0, _, newCur HR.out _ _⟩, (Below.refl _ _).alloc (Nat.le_refl _) _⟩
def abc : List ByteArray := [⟨#[97]⟩, ⟨#[98]⟩, ⟨#[99]⟩]
theorem abc_size {k : Nat} {s : ByteArray} (h : s ∈ abc.take k) : s.size = 1 := by
  have := List.mem_of_mem_take h
  simp [abc] at this
  rcases this with rfl | rfl | rfl <;> rfl
theorem lit_row {w : World} {e : TypeId} (cs : Array Value) (zs : List ByteArray) (k : Nat) (hz : zs.length = k) (hcs : ∀ (j : Nat) (v : Value), (strVals zs)[j]? = some v → cs[j]? = some v) (hk : k ≤ 1000) :
    RowAt (w.alloc (.cells cs e)) (some ⟨w.heap.size, 0, none⟩) k (strVals zs) :=
  ⟨by simp [strVals, hz], by omega, fun _ => ⟨w.heap.size, 0, rfl, by simp, fun j v hj => by
    rw [World.cell?_alloc_at _ _ _ _ rfl, Nat.zero_add]; exact hcs j v hj⟩⟩
theorem Drew.trans {W w w1 w2 : World} {g : Nat} {a : Option Addr} {n c : Nat} {bs : List UInt8} (h : Drew W w w1 g a n c bs) (k : Drew W w1 w2 g a n c bs) : Drew W w w2 g a n c bs := ⟨k.1, grown_trans h.2 k.2⟩
theorem Drew.alloc {W w w1 : World} {g : Nat} {a : Option Addr} {n c : Nat} {bs : List UInt8} (h : Drew W w w1 g a n c bs) (o : Obj) : Drew W w (w1.alloc o) g a n c bs :=
  ⟨h.1.below ((Below.refl _ _).alloc (Nat.le_refl _) _), grown_trans h.2 (World.grownBy_alloc _ _ _)⟩
end Go.Proofs.Ytcmmlldincflkaa
namespace Go.Proofs.Ytcmmlldincflkaa
open Go.RowKit

theorem Drew.app {W w wr w1 : World} {g : Nat} {a : Option Addr} {n c : Nat} {bs : List UInt8} (h : Drew W w wr g a n c bs) (hb : Below w.heap.size wr w1) (hg : g < w.heap.size) (hW : W.heap.size ≤ w.heap.size) : Drew W w w1 g a n c bs := by
  obtain ⟨⟨i, k, x⟩, hgr⟩ := h
  refine ⟨⟨i, k, x.row, x.bel.trans (hb.mono hW), x.lo, Nat.lt_of_lt_of_le x.hi hb.size, (hb.frozen (p := ⟨g, 1, none⟩) hg).trans x.f1, (hb.frozen (p := ⟨g, 2, none⟩) hg).trans x.f2, (hb.cell (p := ⟨g, 0, none⟩) hg).trans x.c0, x.il, (hb.cell (p := ⟨g, 1, none⟩) hg).trans x.c1, (hb.cell (p := ⟨g, 2, none⟩) hg).trans x.c2⟩, ?_⟩
  exact ⟨hb.os.trans hgr.os, hb.tape.trans hgr.tape, hb.output.trans hgr.output, Nat.le_trans hgr.size hb.size, fun k hk hr => (hb.block k hk).trans (hgr.block k hk hr)⟩
theorem Drew.dr {W w w1 : World} {g : Nat} {a : Option Addr} {n c : Nat} {bs : List UInt8} (h : Drew W w w1 g a n c bs) : Drew W w w1.drew g a n c bs :=
  ⟨h.1.below (Below.refl _ _).drew, grown_trans h.2 ⟨rfl, rfl, rfl, Nat.le_refl _, fun _ _ _ => rfl⟩⟩
theorem turn_size (s x : ByteArray) (t : Nat) (ht : t ≤ s.size) : (s.extract 0 t ++ x ++ s.extract t s.size).size ≤ s.size + x.size := by
  simp [ByteArray.size_append, ByteArray.size_extract]
  omega
end Go.Proofs.Ytcmmlldincflkaa
namespace Go.Proofs.Ytcmmlldincflkaa
open Go.RowKit

/-- A box of the call's own, with its cells. -/
structure BoxC (w : World) (b : Nat) (A : Array Value) : Prop where
  lt : b < w.heap.size
  cell : ∀ k, w.cell? ⟨b, k, none⟩ = A[k]?
  froz : ∀ k, w.frozen? ⟨b, k, none⟩ = false
theorem BoxC.new (w : World) (A : Array Value) (T : TypeId) : BoxC (w.alloc (.cells A T)) w.heap.size A :=
  ⟨by simp, fun k => World.cell?_alloc_at _ _ _ _ rfl, fun k => World.frozen?_alloc_at _ _ _ _ rfl⟩
theorem BoxC.below {w w' : World} {b : Nat} {A : Array Value} (h : BoxC w b A) (hb : Below w.heap.size w w') : BoxC w' b A :=
  ⟨Nat.lt_of_lt_of_le h.lt hb.size, fun k => (hb.cell (p := ⟨b, k, none⟩) h.lt).trans (h.cell k), fun k => (hb.frozen (p := ⟨b, k, none⟩) h.lt).trans (h.froz k)⟩
theorem BoxC.grown {w w' : World} {b g : Nat} {A : Array Value} (h : BoxC w b A) (hg : w.grownBy w' (some g)) (hne : b ≠ g) : BoxC w' b A :=
  ⟨Nat.lt_of_lt_of_le h.lt hg.size, fun k => (World.cell?_of_block (a := ⟨b, k, none⟩) (hg.block b h.lt (by simpa using hne))).trans (h.cell k), fun k => (World.frozen?_of_block (a := ⟨b, k, none⟩) (hg.block b h.lt (by simpa using hne))).trans (h.froz k)⟩
theorem BoxC.other {w : World} {b q i : Nat} {A : Array Value} (h : BoxC w b A) (hne : q ≠ b) (v : Value) : BoxC (w.setCell ⟨q, i, none⟩ v) b A :=
  ⟨by simpa using h.lt, fun k => (World.cell?_setCell_other _ _ _ _ (fun e => hne (by injection e))).trans (h.cell k), fun k => (World.frozen?_setCell _ _ _ _).trans (h.froz k)⟩
theorem BoxC.alloc {w : World} {b : Nat} {A : Array Value} (h : BoxC w b A) (o : Obj) : BoxC (w.alloc o) b A := h.below ((Below.refl _ _).alloc (Nat.le_refl _) _)
theorem BoxC.c3 {w : World} {b : Nat} {x y z : Value} (h : BoxC w b #[x, y, z]) : (w.cell? ⟨b, 0, none⟩ = some x ∧ w.cell? ⟨b, 1, none⟩ = some y ∧ w.cell? ⟨b, 2, none⟩ = some z) ∧ (w.frozen? ⟨b, 0, none⟩ = false ∧ w.frozen? ⟨b, 1, none⟩ = false ∧ w.frozen? ⟨b, 2, none⟩ = false) :=
  ⟨⟨h.cell 0, h.cell 1, h.cell 2⟩, h.froz 0, h.froz 1, h.froz 2⟩
theorem BoxC.set {w : World} {b i : Nat} {A A' : Array Value} (h : BoxC w b A) (v : Value) (hi : i < A.size) (hA : ∀ k, A'[k]? = if k = i then some v else A[k]?) : BoxC (w.setCell ⟨b, i, none⟩ v) b A' := by
  refine ⟨by simpa using h.lt, fun k => ?_, fun k => (World.frozen?_setCell _ _ _ _).trans (h.froz k)⟩
  rw [hA k]
  by_cases hk : k = i
  · subst hk
    rw [if_pos rfl]
    exact World.cell?_setCell_same _ _ _ ((h.cell k).trans (Array.getElem?_eq_getElem hi))
  · rw [if_neg hk]
    exact (World.cell?_setCell_other _ _ _ _ (fun e => hk (by injection e with _ e2; exact e2.symm))).trans (h.cell k)
theorem boxD {w wr : World} {A : Array Value} {T : TypeId} (h : Below (w.alloc (.cells A T)).heap.size (w.alloc (.cells A T)) wr) :
    (∀ k, wr.cell? ⟨w.heap.size, k, none⟩ = A[k]?) ∧ (∀ k, wr.frozen? ⟨w.heap.size, k, none⟩ = false) ∧ w.heap.size < wr.heap.size ∧ Below w.heap.size w wr :=
  let h1 := (BoxC.new w A T).below h
  ⟨h1.cell, h1.froz, h1.lt, ((Below.refl _ _).alloc (Nat.le_refl _) _).trans (h.mono (by simp))⟩
/-- What the drawing of a code leaves. -/
def CodeDraw (W w : World) (g : Nat) (a : Option Addr) (n c : Nat) (bs : List UInt8) (e : Ending) (w' : World) : Prop :=
  ∃ (k m : Int) (o : ByteArray), e = .returned (.agg #[.int .i64 k, .int .i64 m, .string o]) ∧ o.size ≤ 100 ∧ Drew W w w' g a n c bs
def CodeAny (w : World) (e : Ending) (w' : World) : Prop :=
  ∃ (k m : Int) (o : ByteArray) (b : Bool), e = .returned (.tuple #[.agg #[.int .i64 k, .int .i64 m, .string o], .bool b]) ∧ o.size ≤ 100 ∧ Below w.heap.size w w'
set_option maxHeartbeats 2000000 in
theorem spec_ParseCode_any (s : ByteArray) (w : World) (hs : s.size ≤ 100) : Calls Try.prog 79 #[.string s] w (CodeAny w) := by
  have HC := hid (spec_SplitByte_c s 32 (w.alloc (.cells #[.int .i64 0, .int .i64 0, .string ⟨#[]⟩] 26)) (by omega))
  have HCF := hid (cutB_facts s 32)
  unfold CutPost at HC
  obtain ⟨xs, hxs⟩ : ∃ xs, xs = cutB s 32 := ⟨_, rfl⟩
  rw [show (Value.int .u8 ((32 : UInt8).toNat : Int)) = Value.int .u8 32 from rfl] at HC
  rw [← hxs] at HC HCF
  clear hxs
  unfold CodeAny
  by_cases h3 : xs.length = 3
  · obtain ⟨x, y, z, rfl⟩ : ∃ x y z, xs = [x, y, z] := by
      match xs, h3 with
      | [x, y, z], _ => exact ⟨x, y, z, rfl⟩
    have hx := HCF.out.2.2 x (by simp)
    have hy := HCF.out.2.2 y (by simp)
    have hz := HCF.out.2.2 z (by simp)
    have HP := hid (fun w => spec_ParseInt_c x w (by omega))
    have HQ := hid (fun w => spec_ParseInt_c y w (by omega))
    obtain ⟨i, hi⟩ : ∃ i, i = (readO x 12).getD 0 := ⟨_, rfl⟩
    obtain ⟨p, hp⟩ : ∃ p, p = (readO x 12).isSome := ⟨_, rfl⟩
    obtain ⟨j, hj⟩ : ∃ j, j = (readO y 12).getD 0 := ⟨_, rfl⟩
    obtain ⟨q, hq⟩ : ∃ q, q = (readO y 12).isSome := ⟨_, rfl⟩
    rw [← hi, ← hp] at HP
    rw [← hj, ← hq] at HQ
    have HI := hid (fun w => spec_IsCode_c i j z w (by unfold maxLen; omega))
    obtain ⟨r, hr⟩ : ∃ r, r = isCode i j z := ⟨_, rfl⟩
    rw [← hr] at HI
    clear hi hp hj hq hr HCF h3
    go_enter Try.func79, Try.ntmps79
    go_wp2_with fail
    refine HC.out.mono ?_
    rintro e w1 ⟨v1, rfl, ho1, hb1⟩
    obtain ⟨gp, cp, rfl, hgp0, hgp1⟩ := own_form ho1 (by simp)
    have x0 : w1.cell? ⟨gp, 0, none⟩ = some (.string x) := (ho1.cellAt 0 (by simp)).trans rfl
    have HX1 := hid (show w1.cell? ⟨gp, 1, none⟩ = some (.string y) from (ho1.cellAt 1 (by simp)).trans rfl)
    have HX2 := hid (show w1.cell? ⟨gp, 2, none⟩ = some (.string z) from (ho1.cellAt 2 (by simp)).trans rfl)
    have HB1 := hid hb1
    clear ho1 hb1 HC
    go_wp2_with fail
    refine (HP.out _).mono ?_
    rintro e w2 ⟨rfl, hb2⟩
    have x1 := (hb2.cell (p := ⟨gp, 1, none⟩) hgp1).trans HX1.out
    have x2 := hid ((hb2.cell (p := ⟨gp, 2, none⟩) hgp1).trans HX2.out)
    have hg2 := Nat.lt_of_lt_of_le hgp1 hb2.size
    have HB2 := hid (bs HB1.out hb2)
    clear hb2 HX1 HX2
    go_wp2_with fail
    refine (HQ.out _).mono ?_
    rintro e w3 ⟨rfl, hb3⟩
    have x3 := (hb3.cell (p := ⟨gp, 2, none⟩) hg2).trans x2.out
    have HB3 := hid (bs HB2.out hb3)
    clear hb3
    obtain ⟨hcR, hfR, hzR, hBR⟩ := boxD HB3.out
    have q0 := (hcR 0).trans (show _ = some (Value.int .i64 0) from rfl)
    have q1 := (hcR 1).trans (show _ = some (Value.int .i64 0) from rfl)
    have q2 := (hcR 2).trans (show _ = some (Value.string ⟨#[]⟩) from rfl)
    have f0 := hfR 0
    have f1 := hfR 1
    have f2 := hfR 2
    have HBR := hid hBR
    clear hcR hfR hBR
    cases p
    · go_wp2
      refine bodyPost_ret (v := .tuple #[.agg #[.int .i64 0, .int .i64 0, .string ⟨#[]⟩], .bool false]) (by simp [results, Try.results79, go_sem, q0, q1, q2, hzR]) rfl ⟨_, _, _, _, rfl, by show 0 ≤ 100; omega, ?_⟩
      exact (((HBR.out.setCell (Nat.le_refl _) _).setCell (Nat.le_refl _) _).setCell (Nat.le_refl _) _).alloc (by simpa using HBR.out.size) _
    · cases q
      · go_wp2
        refine bodyPost_ret (v := .tuple #[.agg #[.int .i64 0, .int .i64 0, .string ⟨#[]⟩], .bool false]) (by simp [results, Try.results79, go_sem, q0, q1, q2, hzR]) rfl ⟨_, _, _, _, rfl, by show 0 ≤ 100; omega, ?_⟩
        exact (((HBR.out.setCell (Nat.le_refl _) _).setCell (Nat.le_refl _) _).setCell (Nat.le_refl _) _).alloc (by simpa using HBR.out.size) _
      · go_wp2_with fail
        refine (HI.out _).mono ?_
        rintro e w4 ⟨rfl, hb4⟩
        obtain ⟨hcS, hfS, hzS, hB34⟩ := boxD hb4
        have p0 := (hcS 0).trans (show _ = some (Value.int .i64 i) from rfl)
        have p1 := (hcS 1).trans (show _ = some (Value.int .i64 j) from rfl)
        have p2 := (hcS 2).trans (show _ = some (Value.string z) from rfl)
        obtain ⟨hcR, hfR, hzR, hBR⟩ := boxD (bs HB3.out hB34)
        have q0 := (hcR 0).trans (show _ = some (Value.int .i64 0) from rfl)
        have q1 := (hcR 1).trans (show _ = some (Value.int .i64 0) from rfl)
        have q2 := (hcR 2).trans (show _ = some (Value.string ⟨#[]⟩) from rfl)
        have f0 := hfR 0
        have f1 := hfR 1
        have f2 := hfR 2
        have HBR := hid hBR
        clear hcS hfS hB34 hcR hfR hBR hb4
        cases r
        · go_wp2
          refine bodyPost_ret (v := .tuple #[.agg #[.int .i64 0, .int .i64 0, .string ⟨#[]⟩], .bool false]) (by simp [results, Try.results79, go_sem, q0, q1, q2, hzR]) rfl ⟨_, _, _, _, rfl, by show 0 ≤ 100; omega, ?_⟩
          exact ((HBR.out.setCell (by simp) _).setCell (by simp) _).setCell (by simp) _
        · go_wp2
          refine bodyPost_ret (v := .tuple #[.agg #[.int .i64 i, .int .i64 j, .string z], .bool true]) (by simp [results, Try.results79, go_sem, q0, q1, q2, hzR]) rfl ⟨_, _, _, _, rfl, by omega, ?_⟩
          exact ((HBR.out.setCell (by simp) _).setCell (by simp) _).setCell (by simp) _
  · obtain ⟨N, hN⟩ : ∃ N, N = xs.length := ⟨_, rfl⟩
    have hN3 : ((N : Int) != 3) = true := by simp; omega
    rw [← hN] at HC
    have hNl := HCF.out.2.1
    rw [← hN] at hNl
    clear hN h3 HCF
    go_enter Try.func79, Try.ntmps79
    go_wp2_with fail
    refine HC.out.mono ?_
    rintro e w1 ⟨v1, rfl, ho1, hb1⟩
    obtain ⟨a1, c1, rfl, _⟩ := owns_rowAt ho1 (by omega)
    obtain ⟨hcR, hfR, hzR, hBR⟩ := boxD hb1
    have q0 := (hcR 0).trans (show _ = some (Value.int .i64 0) from rfl)
    have q1 := (hcR 1).trans (show _ = some (Value.int .i64 0) from rfl)
    have q2 := (hcR 2).trans (show _ = some (Value.string ⟨#[]⟩) from rfl)
    have f0 := hfR 0
    have f1 := hfR 1
    have f2 := hfR 2
    have HBR := hid hBR
    clear hcR hfR hBR ho1 hb1
    go_wp2
    refine bodyPost_ret (v := .tuple #[.agg #[.int .i64 0, .int .i64 0, .string ⟨#[]⟩], .bool false]) (by simp [results, Try.results79, go_sem, q0, q1, q2, hzR]) rfl ⟨_, _, _, _, rfl, by show 0 ≤ 100; omega, ?_⟩
    exact ((HBR.out.setCell (by simp) _).setCell (by simp) _).setCell (by simp) _
end Go.Proofs.Ytcmmlldincflkaa
