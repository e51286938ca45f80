/- Mirrored codes: both exported functions. Conditions: sizes within the reach. -/
import Derived.Test.YtabjbmickngohaaMade
import Derived.Test.YtabjbmickngohaaBox
namespace Go.Proofs.Ytabjbmickngohaa
open Go.RowKit

/-- A code and whether there is one. -/
def codeR (b : Bool) (k n : Int) (o : ByteArray) : Value := .tuple #[.agg #[.int .i64 (if b then k else 0), .int .i64 (if b then n else 0), .string (if b then o else ⟨#[]⟩)], .bool b]
def mirC (k n : Int) (o : ByteArray) : Value := codeR (isCode k n o) k n (mirOut o k.toNat n.toNat)
set_option maxHeartbeats 2000000 in
set_option maxRecDepth 100000 in
theorem impl_MirrorCode_c (k n : Int) (o : ByteArray) (w : World) (ho : o.size ≤ maxLen) :
    Calls Try.prog 17 #[.agg #[.int .i64 k, .int .i64 n, .string o]] w fun e w' => e = .returned (mirC k n o) ∧ Below w.heap.size w w' := by
  cases hc : isCode k n o
  · have HX := hid (show mirC k n o = .tuple #[.agg #[.int .i64 0, .int .i64 0, .string ⟨#[]⟩], .bool false] by unfold mirC; rw [hc]; rfl)
    have HI := hid (fun w : World => impl_IsCode_c k n o w ho)
    rw [hc] at HI
    clear hc
    go_enter Try.func17, Try.ntmps17
    go_wp2_with fail
    refine (HI.out _).mono ?_
    rintro e w1 ⟨rfl, hb1⟩
    obtain ⟨⟨hA, hFA⟩, ⟨hB, hFB⟩, hz, hbw⟩ := box2 hb1
    obtain ⟨hb0, hb1', hb2'⟩ := three hB
    have hf0 := hFB 0
    have hf1 := hFB 1
    have hf2 := hFB 2
    clear hA hFA hB hFB
    go_wp2
    refine bodyPost_ret (v := .tuple #[.agg #[.int .i64 0, .int .i64 0, .string ⟨#[]⟩], .bool false]) (by simp [results, Try.results17, go_sem, hb0, hb1', hb2']) rfl ⟨by rw [HX.out], ?_⟩
    first | exact hbw | exact ((hbw.setCell (by simp) _).setCell (by simp) _).setCell (by simp) _
  · obtain ⟨kk, nn, rfl, rfl, hk, ⟨hn1, hn4⟩, hp, hos, hl⟩ := code_facts hc
    have HX := hid (show mirC kk nn o = .tuple #[.agg #[.int .i64 kk, .int .i64 nn, .string (mirOut o kk nn)], .bool true] by unfold mirC; rw [hc]; rfl)
    have HI := hid (fun w : World => impl_IsCode_c kk nn o w ho)
    rw [hc] at HI
    have HM := hid (fun w : World => impl_mirrored_c kk nn o w hk hn1 hn4 hp hos)
    clear hc hk hn1 hn4 hp hos hl
    go_enter Try.func17, Try.ntmps17
    go_wp2_with fail
    refine (HI.out _).mono ?_
    rintro e w1 ⟨rfl, hb1⟩
    obtain ⟨⟨hA, hFA⟩, ⟨hB, hFB⟩, hz, hbw⟩ := box2 hb1
    obtain ⟨ha0, ha1, ha2⟩ := three hA
    have HB := hid hB
    have HFB := hid hFB
    clear hA hFA hB hFB
    go_wp2_with fail
    refine (HM.out _).mono ?_
    rintro e w2 ⟨rfl, hb2⟩
    obtain ⟨hb0, hb1', hb2'⟩ := three (cells_below HB.out hb2 hz)
    have hf := frozen_below HFB.out hb2 hz
    have hf0 := hf 0
    have hf1 := hf 1
    have hf2 := hf 2
    have hz2 := Nat.lt_of_lt_of_le hz hb2.size
    have hbw2 := bs hbw hb2
    clear hf ha0 ha1 ha2
    go_wp2
    refine bodyPost_ret (v := .tuple #[.agg #[.int .i64 kk, .int .i64 nn, .string (mirOut o kk nn)], .bool true]) (by simp [results, Try.results17, go_sem, hb0, hb1', hb2']) rfl ⟨by rw [HX.out], ?_⟩
    exact ((hbw2.setCell (by simp) _).setCell (by simp) _).setCell (by simp) _
end Go.Proofs.Ytabjbmickngohaa
