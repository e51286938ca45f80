/- Words with spaces between them: both functions. Conditions: the texts fit. -/
import Derived.Test.YtabjbmickngohaaJoin
namespace Go.Proofs.Ytabjbmickngohaa
open Go.RowKit

def dotB (x : ByteArray) : ByteArray := if x.size = 0 then ⟨#[46]⟩ else x
theorem dotB_size (x : ByteArray) : (dotB x).size ≤ x.size + 1 := by
  unfold dotB
  split
  · show 1 ≤ _; omega
  · omega
def wtxt (xs : List ByteArray) : ByteArray := if xs.length = 0 then ⟨#[45]⟩ else joinV (xs.map dotB) ⟨#[32]⟩
theorem dots_len (xs : List ByteArray) : Lib.lens ((xs.map dotB).map dlj) ≤ xs.length + sizes xs := by
  induction xs with
  | nil => simp [Lib.lens]
  | cons x xs ih =>
    have h := dotB_size x
    simp only [Lib.lens, List.map_cons, List.sum_cons, List.length_cons, sizes, dlj] at ih ⊢
    rw [size_list]
    omega
theorem join_len (L : List (List UInt8)) (sep : List UInt8) : (Lib.join L sep).length ≤ sep.length * L.length + Lib.lens L := by
  match L with
  | [] => simp [Lib.join_nil]
  | x :: r =>
    rw [Lib.join_cons, List.length_append, Lib.joinTail_length]
    have : sep.length * (r.length + 1) = sep.length * r.length + sep.length := Nat.mul_succ _ _
    simp only [Lib.lens, List.map_cons, List.sum_cons, List.length_cons]
    omega
theorem words_len (xs : List ByteArray) : (Lib.join ((xs.map dotB).map dlj) [32]).length ≤ 2 * xs.length + sizes xs := by
  have h1 := join_len ((xs.map dotB).map dlj) [32]
  have h2 := dots_len xs
  simp at h1
  simp at h2
  simp
  omega
def dots (xs : List ByteArray) (j : Nat) : List ByteArray := (xs.take j).map dotB
theorem dots_succ {xs : List ByteArray} {j : Nat} {x : ByteArray} (h : xs[j]? = some x) : strVals (dots xs (j + 1)) = strVals (dots xs j) ++ [.string (dotB x)] := by
  simp [dots, strVals, List.take_add_one, h]
set_option maxHeartbeats 400000 in
theorem l35Dot_c (x : ByteArray) (w : World) :
    Calls Try.prog 50 #[.string x, .string ⟨#[46]⟩] w fun e w' => e = .returned (.string (dotB x)) ∧ w = w' := by
  by_cases hx : x.size = 0
  · obtain rfl : x = ⟨#[]⟩ := ByteArray.size_eq_zero_iff.1 hx
    go_enter Try.func50, Try.ntmps50
    go_wp2
    go_ret
    exact ⟨rfl, rfl⟩
  · have hd : dotB x = x := if_neg hx
    have hne : x.toList.isEmpty = false := by
      rw [Lib.toList_data]
      cases hl : x.data.toList with
      | nil =>
        have := congrArg List.length hl
        rw [size_list] at this
        exact absurd (by simpa using this) hx
      | cons a l => rfl
    rw [hd]
    clear hd
    go_enter Try.func50, Try.ntmps50
    go_wp2
    go_ret
    exact ⟨rfl, rfl⟩
set_option maxHeartbeats 400000 in
theorem shown_c (x : ByteArray) (w : World) :
    Calls Try.prog 52 #[.string x] w fun e w' => e = .returned (.string (dotB x)) ∧ w = w' := by
  by_cases hx : x.size = 0
  · obtain rfl : x = ⟨#[]⟩ := ByteArray.size_eq_zero_iff.1 hx
    go_enter Try.func52, Try.ntmps52
    go_wp2
    go_ret
    exact ⟨rfl, rfl⟩
  · have hd : dotB x = x := if_neg hx
    have hne : x.toList.isEmpty = false := by
      rw [Lib.toList_data]
      cases hl : x.data.toList with
      | nil =>
        have := congrArg List.length hl
        rw [size_list] at this
        exact absurd (by simpa using this) hx
      | cons a l => rfl
    rw [hd]
    clear hd
    go_enter Try.func52, Try.ntmps52
    go_wp2
    go_ret
    exact ⟨rfl, rfl⟩
set_option maxHeartbeats 2000000 in
set_option maxRecDepth 100000 in
theorem spec_WordsText_c (a : Option Addr) (n c : Nat) (xs : List ByteArray) (w : World) (hr : RowAt w a n (strVals xs)) (hsz : xs.length + sizes xs ≤ 1048576) :
    Calls Try.prog 28 #[.slice a n c] w fun e w' => e = .returned (.string (wtxt xs)) ∧ Below w.heap.size w w' := by
  have hl := hr.len
  have HLEN := hid (show xs.length = n by simpa [strVals] using hl)
  have HAT := hid hr.at_
  have HJ := hid (fun (a : Option Addr) (c : Nat) (w : World) (h : RowAt w a n (strVals (xs.map dotB))) => spec_Join_c a n c (xs.map dotB) ⟨#[32]⟩ w h (Nat.le_trans (words_len xs) (by omega)))
  have HD := hid (show dots xs n = xs.map dotB by unfold dots; rw [List.take_of_length_le (by rw [HLEN.out]; exact Nat.le_refl _)])
  have HS := hid (fun j x h => dots_succ (xs := xs) (j := j) (x := x) h)
  have hn : n ≤ 1048576 := by have := HLEN.out; omega
  unfold wtxt
  rw [HLEN.out]
  obtain ⟨jv, hjv⟩ : ∃ jv, jv = joinV (xs.map dotB) ⟨#[32]⟩ := ⟨_, rfl⟩
  rw [← hjv] at HJ
  rw [← hjv]
  clear hl hr hsz hjv
  go_enter Try.func28, Try.ntmps28
  go_wp2
  go_loopw [3, 4] (fun v i wr => ∃ j g c : Nat, j ≤ n ∧ i = .int .i64 j ∧ v = .slice (some ⟨g, 0, none⟩) j c ∧ wr.ownsRow w.heap.size 9 1 (.slice (some ⟨g, 0, none⟩) j c) j (strVals (dots xs j)) ∧ Below w.heap.size w wr) (fun _ i _ => n - (intOf i).toNat)
  case atStart => exact ⟨0, w.heap.size, 0, by omega, rfl, rfl, owns_nilJ w _, (Below.refl _ _).alloc (Nat.le_refl _) _⟩
  case round =>
    obtain ⟨j, g, c2, hj, rfl, rfl, hown, hbel⟩ := hrel
    have HG := hid (hown.lt g rfl)
    by_cases hlt : j < n
    · obtain ⟨b, off, rfl, hb, hc⟩ := HAT.out (by omega)
      obtain ⟨y, hy⟩ := get_some (l := xs) (n := j) (by rw [HLEN.out]; exact hlt)
      have hcell := (hbel.cell (p := ⟨b, off + j, none⟩) hb).trans (hc j _ (strVals_get hy))
      have HSJ := hid (HS.out j y hy)
      have hU := hown.alloc (.cells #[.string (dotB y)] 9)
      have HDY := hid (fun w => l35Dot_c y w)
      obtain ⟨d, hd⟩ : ∃ d, d = dotB y := ⟨_, rfl⟩
      rw [← hd] at HSJ hU HDY
      clear hc hy hown hd
      go_wp2_with (first | (go_at_call 50; refine (HDY.out _).mono ?_; rintro e w' ⟨rfl, rfl⟩) | (at_builtin; go_must (refine wpList_appN rfl _ _ 22 rfl w.heap.size 9 (.string ByteArray.empty) 16 Try.underlying22 infoStr rfl g c2 j (strVals (dots xs j)) hU rfl wr.heap.size 0 1 1 [.string d] rfl rfl (by intro q u hq; match q, hq with | 0, hq => simp at hq; subst hq; simp) (by intro u hu; simp at hu; subst hu; rfl) (by omega) (by unfold maxLen; omega) (by have := hbel.size; simp; omega) ?_); intro g2 c3 w2 hown2 hgr2 hb2 hlt2'))
      have hb3 : Below w.heap.size w w2 := (hbel.alloc hbel.size _).grown hgr2 (by have := hbel.size; simp; omega) (by rintro k ⟨⟩; exact HG.out.1)
      go_roundw
      case rel => exact ⟨j + 1, g2, c3, by omega, by go_num, rfl, by rw [HSJ.out]; exact hown2, hb3⟩
      case measure => simp [intOf]; omega
    · obtain rfl : j = n := by omega
      by_cases hn0 : j = 0
      · subst hn0
        go_wp2
        go_ret
        exact ⟨rfl, hbel⟩
      · have hj0 : ((j : Int) == 0) = false := by rw [beq_eq_false_iff_ne]; omega
        rw [HD.out] at hown
        obtain ⟨ar, cr, he, hrr⟩ := owns_rowAt hown (by omega)
        simp only [Value.slice.injEq, true_and] at he
        obtain ⟨rfl, rfl⟩ := he
        have HR := hid hrr
        clear hown hrr
        go_wp2_with fail
        refine (HJ.out _ _ _ HR.out).mono ?_
        rintro e w3 ⟨rfl, hb3⟩
        have hb4 := bs hbel hb3
        go_wp2
        go_ret
        exact ⟨rfl, hb4⟩
set_option maxHeartbeats 2000000 in
set_option maxRecDepth 100000 in
theorem impl_WordsText_c (a : Option Addr) (n c : Nat) (xs : List ByteArray) (w : World) (hr : RowAt w a n (strVals xs)) (hsz : xs.length + sizes xs ≤ 1048576) :
    Calls Try.prog 29 #[.slice a n c] w fun e w' => e = .returned (.string (wtxt xs)) ∧ Below w.heap.size w w' := by
  have hl := hr.len
  have HLEN := hid (show xs.length = n by simpa [strVals] using hl)
  have HAT := hid hr.at_
  have hn : n ≤ 1048576 := by have := HLEN.out; omega
  have HJ := hid (fun (B g c : Nat) (w : World) h => implJoin_c B g c n (xs.map dotB) ⟨#[32]⟩ w (by rw [List.length_map, HLEN.out]) h (by omega) (Nat.le_trans (words_len xs) (by omega)))
  have HD := hid (show dots xs n = xs.map dotB by unfold dots; rw [List.take_of_length_le (by rw [HLEN.out]; exact Nat.le_refl _)])
  have HS := hid (fun j x h => dots_succ (xs := xs) (j := j) (x := x) h)
  unfold wtxt
  rw [HLEN.out]
  obtain ⟨jv, hjv⟩ : ∃ jv, jv = joinV (xs.map dotB) ⟨#[32]⟩ := ⟨_, rfl⟩
  rw [← hjv] at HJ
  rw [← hjv]
  clear hl hr hsz hjv
  by_cases hn0 : n = 0
  · rw [if_pos hn0]
    subst hn0
    go_enter Try.func29, Try.ntmps29
    go_wp2
    go_ret
    exact ⟨rfl, Below.refl _ _⟩
  · rw [if_neg hn0]
    have hnn : ((n : Int) == 0) = false := by rw [beq_eq_false_iff_ne]; omega
    go_enter Try.func29, Try.ntmps29
    go_wp2
    go_loopw [3, 12] (fun v i wr => ∃ j g c : Nat, j ≤ n ∧ i = .int .i64 j ∧ v = .slice (some ⟨g, 0, none⟩) j c ∧ wr.ownsRow w.heap.size 9 1 (.slice (some ⟨g, 0, none⟩) j c) j (strVals (dots xs j)) ∧ Below w.heap.size w wr) (fun _ i _ => n - (intOf i).toNat)
    case atStart => exact ⟨0, w.heap.size, 0, by omega, rfl, rfl, owns_nilJ w _, (Below.refl _ _).alloc (Nat.le_refl _) _⟩
    case round =>
      obtain ⟨j, g, c2, hj, rfl, rfl, hown, hbel⟩ := hrel
      have HG := hid (hown.lt g rfl)
      by_cases hlt : j < n
      · obtain ⟨b, off, rfl, hb, hc⟩ := HAT.out (by omega)
        obtain ⟨y, hy⟩ := get_some (l := xs) (n := j) (by rw [HLEN.out]; exact hlt)
        have hcell := (hbel.cell (p := ⟨b, off + j, none⟩) hb).trans (hc j _ (strVals_get hy))
        have HSJ := hid (HS.out j y hy)
        have hU := hown.alloc (.cells #[.string (dotB y)] 9)
        have HDY := hid (fun w => shown_c y w)
        obtain ⟨d, hd⟩ : ∃ d, d = dotB y := ⟨_, rfl⟩
        rw [← hd] at HSJ hU HDY
        clear hc hy hown hd
        go_wp2_with (first | (go_at_call 52; refine (HDY.out _).mono ?_; rintro e w' ⟨rfl, rfl⟩) | (at_builtin; go_must (refine wpList_appN rfl _ _ 22 rfl w.heap.size 9 (.string ByteArray.empty) 16 Try.underlying22 infoStr rfl g c2 j (strVals (dots xs j)) hU rfl wr.heap.size 0 1 1 [.string d] rfl rfl (by intro q u hq; match q, hq with | 0, hq => simp at hq; subst hq; simp) (by intro u hu; simp at hu; subst hu; rfl) (by omega) (by unfold maxLen; omega) (by have := hbel.size; simp; omega) ?_); intro g2 c3 w2 hown2 hgr2 hb2 hlt2'))
        have hb3 : Below w.heap.size w w2 := (hbel.alloc hbel.size _).grown hgr2 (by have := hbel.size; simp; omega) (by rintro k ⟨⟩; exact HG.out.1)
        go_roundw
        case rel => exact ⟨j + 1, g2, c3, by omega, by go_num, rfl, by rw [HSJ.out]; exact hown2, hb3⟩
        case measure => simp [intOf]; omega
      · obtain rfl : j = n := by omega
        rw [HD.out] at hown
        have HO := hid hown
        clear hown
        go_wp2_with fail
        refine (HJ.out _ _ _ _ HO.out).mono ?_
        rintro e w3 ⟨rfl, hb3⟩
        have hb4 := bs hbel hb3
        go_wp2
        go_ret
        exact ⟨rfl, hb4⟩
end Go.Proofs.Ytabjbmickngohaa
