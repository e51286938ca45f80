/- Labelled graphs, plain laws: the text of a report, and what it is made of. -/
import Derived.Test.YtpfeflhcbcgbfaaDoorNums
import Derived.Test.YtpfeflhcbcgbfaaDoorIntsIn
import Derived.Test.YtpfeflhcbcgbfaaDoorZero
import Derived.Test.YtpfeflhcbcgbfaaDoorJoin
import Derived.Test.YtpfeflhcbcgbfaaDoorSmlI
import Derived.Test.YtpfeflhcbcgbfaaDoorSynS
import Derived.Test.YtpfeflhcbcgbfaaDoorRdW
import Derived.Test.YtpfeflhcbcgbfaaDoorLabT
namespace Go.Proofs.YtpfeflhcbcgbfaaDoor
open Go.RowKit

theorem ba_ext {a b : ByteArray} (h : a.data.toList = b.data.toList) : a = b := ByteArray.ext (Array.toList_inj.1 h)
theorem ba_app (a b : ByteArray) : (a ++ b).data.toList = a.data.toList ++ b.data.toList := by rw [ByteArray.data_append, Array.toList_append]
theorem line_c (B g c n : Nat) (xs : List ByteArray) (w : World) (hn : xs.length = n) (hown : w.ownsRow B 9 1 (.slice (some ⟨g, 0, none⟩) n c) n (strVals xs)) (hlim : n ≤ 1000000000) (hlen : (Lib.join (xs.map dlj) [32]).length ≤ 1000000000) :
    Calls Tryd.prog 30 #[.slice (some ⟨g, 0, none⟩) n c] w fun e w' => e = .returned (.string (joinV xs ⟨#[32]⟩)) ∧ Below w.heap.size w w' := by
  go_enter Tryd.func30, Tryd.ntmps30
  go_wp2_with fail
  refine (implJoin_c B g c n xs ⟨#[32]⟩ _ hn hown hlim hlen).mono ?_
  rintro e w1 ⟨rfl, hb⟩
  go_wp2
  go_ret
  exact ⟨rfl, hb⟩
def cntL (f : Nat → Int) (lo j : Nat) : List Int := (List.range' lo j).map f
theorem cntL_len (f : Nat → Int) (lo j : Nat) : (cntL f lo j).length = j := by simp [cntL]
theorem cntL_succ (f : Nat → Int) (lo j : Nat) : intVals (cntL f lo (j + 1)) = intVals (cntL f lo j) ++ [.int .i64 (f (lo + j))] := by
  unfold cntL
  rw [List.range'_1_concat, List.map_append]
  simp [intVals]
theorem cntL_mem {f : Nat → Int} {lo j : Nat} {x : Int} (h : x ∈ cntL f lo j) : ∃ i, lo ≤ i ∧ i < lo + j ∧ x = f i := by
  unfold cntL at h
  obtain ⟨i, hi, rfl⟩ := List.mem_map.1 h
  rw [List.mem_range'_1] at hi
  exact ⟨i, hi.1, hi.2, rfl⟩
set_option maxHeartbeats 2000000 in
set_option maxRecDepth 100000 in
theorem counted_c (lo hi m : Nat) (F : FuncId) (cap : Value) (f : Nat → Int) (w : World) (hm : hi + 1 = lo + m) (hh : hi ≤ 1000)
    (hF : ∀ (i : Nat) (V : World), lo ≤ i → i < lo + m → Below w.heap.size w V → Calls Tryd.prog F #[.int .i64 i, cap] V fun e w' => e = .returned (.int .i64 (f i)) ∧ Below V.heap.size V w')
    (hE : ∀ x w, (callFunc F #[x, cap]).run Tryd.prog w = .ok (.enter F #[x, cap]) w) (hf : ∀ i, lo ≤ i → i < lo + m → I64 (f i)) (ht : TabW w) :
    Calls Tryd.prog 27 #[.int .i64 lo, .int .i64 hi, .func (.func F) #[] #[cap]] w fun e w' => e = .returned (.string (joinV ((cntL f lo m).map fmtB) ⟨#[44]⟩)) ∧ Below w.heap.size w w' := by
  have HF := hid hF
  have HNB := hid (fun (a : Option Addr) (c : Nat) (V : World) (hV : Below w.heap.size w V) (hr : RowAt V a m (intVals (cntL f lo m))) => impl_numbers_c a m c (cntL f lo m) ⟨#[44]⟩ V hr (fun x hx => by obtain ⟨i, h1, h2, rfl⟩ := cntL_mem hx; exact hf i h1 h2) rfl (by omega) (tab_below ht hV (Nat.le_refl _)))
  obtain ⟨jv, hjv⟩ : ∃ jv, jv = joinV ((cntL f lo m).map fmtB) ⟨#[44]⟩ := ⟨_, rfl⟩
  rw [← hjv] at HNB
  rw [← hjv]
  have HS := hid (fun j => cntL_succ f lo j)
  have hb0 : Below w.heap.size w (w.alloc (.cells #[] 3)) := (Below.refl _ _).alloc (Nat.le_refl _) _
  have HO0 := hid (owns_lit3 (w := w) (base := w.heap.size) (e := 3) #[] [] rfl (Nat.le_refl _) (by unfold maxLen; simp))
  clear hF hf ht hjv
  go_enter Tryd.func27, Tryd.ntmps27
  go_wp2
  go_loopw [7, 8] (fun v i wr => ∃ j g c : Nat, j ≤ m ∧ i = .int .i64 ((lo + j : Nat) : Int) ∧ v = .slice (some ⟨g, 0, none⟩) j c ∧ wr.ownsRow w.heap.size 3 1 (.slice (some ⟨g, 0, none⟩) j c) j (intVals (cntL f lo j)) ∧ Below w.heap.size w wr) (fun _ i _ => lo + m - (intOf i).toNat)
  case atStart => exact ⟨0, w.heap.size, 0, by omega, rfl, rfl, HO0.out, hb0⟩
  case round =>
    clear HO0 hb0
    obtain ⟨j, g, c, hj, rfl, rfl, hown, hbel⟩ := hrel
    have HG := hid (hown.lt g rfl)
    obtain ⟨q, hq⟩ : ∃ q, q = lo + j := ⟨_, rfl⟩
    by_cases hlt : j < m
    · have hqi : (q : Int) ≤ (hi : Int) := by omega
      have HFJ := hid (HF.out (lo + j) wr (by omega) (by omega) hbel)
      have HSJ := hid (HS.out j)
      have HO := hid hown
      rw [← hq] at HFJ HSJ
      rw [← hq]
      obtain ⟨y, hy⟩ : ∃ y, y = f q := ⟨_, rfl⟩
      rw [← hy] at HFJ HSJ
      have HQ := hid hq
      clear hown hy hq
      go_wp2_with fail
      refine HFJ.out.mono ?_
      rintro e w1 ⟨rfl, hb1⟩
      have hU := (owns_below HO.out hb1).alloc (.cells #[.int .i64 y] 3)
      have hbel1 := hbel.trans (hb1.mono hbel.size)
      go_wp2_with (first | (at_builtin; go_must (refine wpList_appN rfl _ _ 41 rfl w.heap.size 3 (.int .i64 0) 8 Tryd.underlying41 infoIntZ rfl g c j (intVals (cntL f lo j)) hU rfl w1.heap.size 0 1 1 [.int .i64 y] rfl rfl (by intro q u hq; match q, hq with | 0, hq => simp at hq; subst hq; simp) (by intro u hu; simp at hu; subst hu; rfl) (by omega) (by unfold maxLen; omega) (by have := hbel1.size; simp; omega) ?_); intro g2 c3 w2 hown2 hgr2 hb2 hlt2'))
      have hb3 : Below w.heap.size w w2 := (hbel1.alloc hbel1.size _).grown hgr2 (by have := hbel1.size; simp; omega) (by rintro k ⟨⟩; exact HG.out.1)
      go_roundw
      case rel => exact ⟨j + 1, g2, c3, by omega, by have := HQ.out; go_num, rfl, by rw [HSJ.out]; exact hown2, hb3⟩
      case measure => have := HQ.out; simp [intOf]; omega
    · obtain rfl : j = m := by omega
      have hqi : ¬ ((q : Int) ≤ (hi : Int)) := by omega
      rw [← hq]
      obtain ⟨ar, cr, he, hrr⟩ := owns_rowAt hown (by omega)
      simp only [Value.slice.injEq, true_and] at he
      obtain ⟨rfl, rfl⟩ := he
      have HR := hid hrr
      clear hown hrr hq
      go_wp2_with fail
      refine (HNB.out _ _ _ hbel HR.out).mono ?_
      rintro e w3 ⟨rfl, hb3⟩
      have hb4 := hbel.trans (hb3.mono hbel.size)
      go_wp2
      go_ret
      exact ⟨rfl, hb4⟩
end Go.Proofs.YtpfeflhcbcgbfaaDoor
namespace Go.Proofs.YtpfeflhcbcgbfaaDoor
open Go.RowKit

def dotB (x : ByteArray) : ByteArray := if x.size = 0 then ⟨#[46]⟩ else x
theorem dotB_size (x : ByteArray) : (dotB x).size ≤ x.size + 1 := by
  unfold dotB
  split
  · show 1 ≤ _; omega
  · omega
def wtxt (xs : List ByteArray) : ByteArray := if xs.length = 0 then ⟨#[45]⟩ else joinV (xs.map dotB) ⟨#[32]⟩
theorem dots_len (xs : List ByteArray) : Lib.lens ((xs.map dotB).map dlj) ≤ xs.length + sizes xs := by
  induction xs with
  | nil => simp [Lib.lens]
  | cons x xs ih =>
    have h := dotB_size x
    simp only [Lib.lens, List.map_cons, List.sum_cons, List.length_cons, sizes, dlj] at ih ⊢
    rw [size_list]
    omega
theorem join_len (L : List (List UInt8)) (sep : List UInt8) : (Lib.join L sep).length ≤ sep.length * L.length + Lib.lens L := by
  match L with
  | [] => simp [Lib.join_nil]
  | x :: r =>
    rw [Lib.join_cons, List.length_append, Lib.joinTail_length]
    have : sep.length * (r.length + 1) = sep.length * r.length + sep.length := Nat.mul_succ _ _
    simp only [Lib.lens, List.map_cons, List.sum_cons, List.length_cons]
    omega
theorem words_len (xs : List ByteArray) : (Lib.join ((xs.map dotB).map dlj) [32]).length ≤ 2 * xs.length + sizes xs := by
  have h1 := join_len ((xs.map dotB).map dlj) [32]
  have h2 := dots_len xs
  simp at h1
  simp at h2
  simp
  omega
def dots (xs : List ByteArray) (j : Nat) : List ByteArray := (xs.take j).map dotB
theorem dots_succ {xs : List ByteArray} {j : Nat} {x : ByteArray} (h : xs[j]? = some x) : strVals (dots xs (j + 1)) = strVals (dots xs j) ++ [.string (dotB x)] := by
  simp [dots, strVals, List.take_add_one, h]
set_option maxHeartbeats 400000 in
theorem l35Dot_c (x : ByteArray) (w : World) :
    Calls Tryd.prog 14 #[.string x, .string ⟨#[46]⟩] w fun e w' => e = .returned (.string (dotB x)) ∧ w = w' := by
  by_cases hx : x.size = 0
  · obtain rfl : x = ⟨#[]⟩ := ByteArray.size_eq_zero_iff.1 hx
    go_enter Tryd.func14, Tryd.ntmps14
    go_wp2
    go_ret
    exact ⟨rfl, rfl⟩
  · have hd : dotB x = x := if_neg hx
    have hne : x.toList.isEmpty = false := by
      rw [Lib.toList_data]
      cases hl : x.data.toList with
      | nil =>
        have := congrArg List.length hl
        rw [size_list] at this
        exact absurd (by simpa using this) hx
      | cons a l => rfl
    rw [hd]
    clear hd
    go_enter Tryd.func14, Tryd.ntmps14
    go_wp2
    go_ret
    exact ⟨rfl, rfl⟩
set_option maxHeartbeats 400000 in
theorem shown_c (x : ByteArray) (w : World) :
    Calls Tryd.prog 24 #[.string x] w fun e w' => e = .returned (.string (dotB x)) ∧ w = w' := by
  by_cases hx : x.size = 0
  · obtain rfl : x = ⟨#[]⟩ := ByteArray.size_eq_zero_iff.1 hx
    go_enter Tryd.func24, Tryd.ntmps24
    go_wp2
    go_ret
    exact ⟨rfl, rfl⟩
  · have hd : dotB x = x := if_neg hx
    have hne : x.toList.isEmpty = false := by
      rw [Lib.toList_data]
      cases hl : x.data.toList with
      | nil =>
        have := congrArg List.length hl
        rw [size_list] at this
        exact absurd (by simpa using this) hx
      | cons a l => rfl
    rw [hd]
    clear hd
    go_enter Tryd.func24, Tryd.ntmps24
    go_wp2
    go_ret
    exact ⟨rfl, rfl⟩
end Go.Proofs.YtpfeflhcbcgbfaaDoor
namespace Go.Proofs.YtpfeflhcbcgbfaaDoor
open Go.RowKit

/-! The states that live, once for all. -/
noncomputable def livK (G : List (Nat × Nat × Nat)) (S i : Nat) : Bool := @decide (LivesG G S i) (Classical.propDecidable _)
theorem livK_iff (G : List (Nat × Nat × Nat)) (S i : Nat) : livK G S i = true ↔ LivesG G S i := by
  unfold livK
  exact @decide_eq_true_iff _ (Classical.propDecidable _)
theorem resOf_liv {K : Nat → Bool} {S L : Nat} {G : List (Nat × Nat × Nat)} (hG : LabG L S G) (h : ∀ i, i < S → (K i = true ↔ LivesG G S i)) : resOf K S G L = resOf (livK G S) S G L := by
  have he : ∀ j, j < S → K j = livK G S j := fun j hj => by rw [Bool.eq_iff_iff, h j hj, livK_iff]
  unfold resOf trimO
  rw [numTo_ext he, keepG_ext hG he]
theorem sort_few {L S : Nat} {A : List (Nat × Nat × Nat)} (h : LabG L S A) (hs : SortG A) : A.length ≤ 36 := by
  have h3 := h.k3
  have h12 := h.s12
  have := nodup_le (A.map fun a => a.1 * 3 + a.2.2) (List.range 36) (by
    unfold List.Nodup
    rw [List.pairwise_map]
    have hmem : A.Pairwise fun a b => a ∈ A ∧ b ∈ A := by
      rw [List.pairwise_iff_getElem]
      intro i j hi hj _
      exact ⟨List.getElem_mem hi, List.getElem_mem hj⟩
    refine (List.Pairwise.and hs hmem).imp ?_
    rintro a b ⟨h1, ha, hb⟩
    have pa := (h.arc a ha).2.2
    have pb := (h.arc b hb).2.2
    omega) (fun x hx => by
    obtain ⟨a, ha, rfl⟩ := List.mem_map.1 hx
    have pa := h.arc a ha
    exact List.mem_range.2 (by omega))
  simpa using this
theorem resOf_lab {K : Nat → Bool} {S L s : Nat} {G A : List (Nat × Nat × Nat)} (hG : LabG L S G) (h : resOf K S G L = some (s, A)) : LabG L s A ∧ resolvB L s (arcN A) = true ∧ A.length ≤ 36 := by
  have key : LabG L s A ∧ SortG A := by
    cases ht : trimO K S G with
    | none => rw [resOf_none ht] at h; cases h
    | some p =>
      rw [resOf_some ht] at h
      unfold trimO at ht
      by_cases h0 : numTo K S = 0
      · rw [if_pos h0] at ht; cases ht
      · rw [if_neg h0] at ht
        injection ht with ht
        subst ht
        have hl := keepG_lab hG h0
        have h2 : 2 ≤ 2 ^ numTo K S := by have := Nat.pow_le_pow_right (n := 2) (by omega) hl.s1; simpa using this
        exact resO_lab (N := 2 ^ numTo K S) (full := 2 ^ numTo K S - 1) ⟨hl.k1, hl.k3⟩ (by omega) (fun set x => stp_lt hl) h
  exact ⟨key.1, sorted_resolv key.1 key.2, sort_few key.1 key.2⟩
/-- The number of states of the smallest labelled graph. -/
noncomputable def cntZ (A : List (Nat × Nat × Nat)) (L s : Nat) : Nat := @dite _ (∃ t, stabN A L s t) (Classical.propDecidable _) (fun h => cntN A L s (Classical.choose h)) (fun _ => 0)
theorem cntZ_eq {A : List (Nat × Nat × Nat)} {L s t : Nat} (hA : LabG L s A) (h : stabN A L s t) : cntN A L s t = cntZ A L s := by
  unfold cntZ
  rw [dif_pos ⟨t, h⟩]
  exact cnt_same (fun a ha => (hA.arc a ha).2.1) h (Classical.choose_spec (⟨t, h⟩ : ∃ t, stabN A L s t))
theorem cntZ_le (A : List (Nat × Nat × Nat)) (L s : Nat) : cntZ A L s ≤ s := by
  unfold cntZ
  split
  · exact cnt_le _ _ _ _
  · omega
/-! The texts. -/
def syncT (o : Option (List UInt8)) : ByteArray := match o with
  | none => ⟨#[45]⟩
  | some l => dotB ⟨l.toArray⟩
def smlT (o : Option Nat) : ByteArray := match o with
  | none => ⟨#[45]⟩
  | some n => fmtB (n : Int)
noncomputable def smlO (S L : Nat) (G : List (Nat × Nat × Nat)) : Option Nat := (resOf (livK G S) S G L).map fun p => cntZ p.2 L p.1
def synO (L S : Nat) (G : List (Nat × Nat × Nat)) : Option (List UInt8) := if resolvB L S (arcN G) = true then syO G L (2 ^ S - 1) else none
def rwI (G : List (Nat × Nat × Nat)) (L S k : Nat) : Int := (rwN G (2 ^ S - 1) L k : Int)
def rdT (L S : Nat) (G : List (Nat × Nat × Nat)) : ByteArray := joinV ((cntL (rwI G L S) 0 6).map fmtB) ⟨#[44]⟩
def w_states : ByteArray := ⟨#[115, 116, 97, 116, 101, 115]⟩
def w_arcs : ByteArray := ⟨#[97, 114, 99, 115]⟩
def w_resolving : ByteArray := ⟨#[114, 101, 115, 111, 108, 118, 105, 110, 103]⟩
def w_sync : ByteArray := ⟨#[115, 121, 110, 99]⟩
def w_smallest : ByteArray := ⟨#[115, 109, 97, 108, 108, 101, 115, 116]⟩
def w_words : ByteArray := ⟨#[119, 111, 114, 100, 115]⟩
def headL (a b : ByteArray) (r : Bool) : List ByteArray := if r then [w_states, a, w_arcs, b, w_resolving] else [w_states, a, w_arcs, b]
def labT (a b : ByteArray) (r : Bool) (x y z : ByteArray) : ByteArray := joinV (headL a b r ++ [w_sync, x, w_smallest, y, w_words, z]) ⟨#[32]⟩
def headS (a b : ByteArray) (r : Bool) : ByteArray := if r then ⟨#[115, 116, 97, 116, 101, 115, 32]⟩ ++ a ++ ⟨#[32, 97, 114, 99, 115, 32]⟩ ++ b ++ ⟨#[32, 114, 101, 115, 111, 108, 118, 105, 110, 103]⟩ else ⟨#[115, 116, 97, 116, 101, 115, 32]⟩ ++ a ++ ⟨#[32, 97, 114, 99, 115, 32]⟩ ++ b
theorem labT_eq (a b : ByteArray) (r : Bool) (x y z : ByteArray) : labT a b r x y z = headS a b r ++ ⟨#[32, 115, 121, 110, 99, 32]⟩ ++ x ++ ⟨#[32, 115, 109, 97, 108, 108, 101, 115, 116, 32]⟩ ++ y ++ ⟨#[32, 119, 111, 114, 100, 115, 32]⟩ ++ z := by
  cases r
  · apply ba_ext
    simp [labT, headL, headS, joinV, Lib.join, dlj, ba_app, w_states, w_arcs, w_sync, w_smallest, w_words]
  · apply ba_ext
    simp [labT, headL, headS, joinV, Lib.join, dlj, ba_app, w_states, w_arcs, w_resolving, w_sync, w_smallest, w_words]
theorem fmtB_le {x : Int} (h : I64 x) : (fmtB x).size ≤ 21 := by
  have := itoa_le h
  have h3 : (fmtB x).size = (Lib.itoa x).length := by simp [fmtB, ByteArray.size]
  omega
theorem synO_len {L S : Nat} {G : List (Nat × Nat × Nat)} (hG : LabG L S G) {l : List UInt8} (h : synO L S G = some l) : l.length ≤ 16 := by
  unfold synO at h
  split at h
  · unfold syO at h
    rw [Option.map_eq_some_iff] at h
    obtain ⟨p, hp, rfl⟩ := h
    have h2 : 2 ≤ 2 ^ S := by have := Nat.pow_le_pow_right (n := 2) (by omega) hG.s1; simpa using this
    exact ((syK_ok (L := L) (N := 2 ^ S) (full := 2 ^ S - 1) (by omega) (fun set x => stp_lt hG) 4096).1.pos p (List.mem_of_find?_eq_some hp)).2.2
  · cases h
theorem syncT_size {L S : Nat} {G : List (Nat × Nat × Nat)} (hG : LabG L S G) : (syncT (synO L S G)).size ≤ 17 := by
  cases h : synO L S G with
  | none => show 1 ≤ 17; omega
  | some l =>
    have h1 := synO_len hG h
    have h2 := dotB_size ⟨l.toArray⟩
    have h3 : (⟨l.toArray⟩ : ByteArray).size = l.length := by simp [ByteArray.size]
    show (dotB _).size ≤ 17
    omega
theorem smlT_size (o : Option Nat) (h : ∀ n, o = some n → n ≤ 1000) : (smlT o).size ≤ 21 := by
  cases o with
  | none => show 1 ≤ 21; omega
  | some n =>
    have := h n rfl
    exact fmtB_le ⟨by omega, by omega⟩
theorem smlO_le {S L : Nat} {G : List (Nat × Nat × Nat)} (hG : LabG L S G) : ∀ n, smlO S L G = some n → n ≤ 1000 := by
  intro n h
  unfold smlO at h
  rw [Option.map_eq_some_iff] at h
  obtain ⟨⟨s, A⟩, hp, rfl⟩ := h
  have h1 := (resOf_lab hG hp).1.s12
  have h2 := cntZ_le A L s
  show cntZ A L s ≤ 1000
  omega
theorem rw_i64 {G : List (Nat × Nat × Nat)} {L S k : Nat} (hL : L ≤ 3) (hk : k ≤ 6) : I64 (rwI G L S k) := by
  unfold rwI
  have h1 := rwN_le G (2 ^ S - 1) L k
  have h2 := pow_small hL (show k ≤ 8 by omega)
  exact ⟨by omega, by omega⟩
theorem joinV_size (xs : List ByteArray) (sep : ByteArray) : (joinV xs sep).size = (Lib.join (xs.map dlj) sep.data.toList).length := by simp [joinV, ByteArray.size]
theorem rdT_size {L S : Nat} (hL : L ≤ 3) (G : List (Nat × Nat × Nat)) : (rdT L S G).size ≤ 132 := by
  unfold rdT
  rw [joinV_size]
  have := nums_join (xs := cntL (rwI G L S) 0 6) (fun x hx => by obtain ⟨i, h1, h2, rfl⟩ := cntL_mem hx; exact rw_i64 hL (by omega)) (sep := ⟨#[44]⟩) rfl
  rw [cntL_len] at this
  omega
theorem numsT_cnt (f : Nat → Int) (lo m : Nat) (hm : 0 < m) : numsT (cntL f lo m) = joinV ((cntL f lo m).map fmtB) ⟨#[44]⟩ := by
  unfold numsT
  rw [cntL_len, if_neg (by omega)]
end Go.Proofs.YtpfeflhcbcgbfaaDoor
