/- Shifts: whether a word avoids the forbidden ones, both sides. Conditions: the words lie in memory, a short word; for the program's, the cell of MaxLen. -/
import Derived.Lib.IndexMore
import Derived.Test.YtpfeflhcbcgbfaaGreatDoorLabP
import Derived.Test.YtpfeflhcbcgbfaaGreatDoorKept
import Derived.Test.YtpfeflhcbcgbfaaGreatDoorIsSh
import Derived.Test.YtpfeflhcbcgbfaaGreatDoorPlaces
import Derived.Test.YtpfeflhcbcgbfaaGreatDoorShelf
namespace Go.Proofs.YtpfeflhcbcgbfaaGreatDoor
open Go.RowKit

/-- A word occurs in another one. -/
def Occ (p w : List UInt8) : Prop := ∃ a b, w = a ++ p ++ b
theorem Occ.refl (w : List UInt8) : Occ w w := ⟨[], [], by simp⟩
theorem Occ.trans {p q w : List UInt8} (h : Occ p q) (k : Occ q w) : Occ p w := by
  obtain ⟨a, b, rfl⟩ := h
  obtain ⟨c, d, rfl⟩ := k
  exact ⟨c ++ a, b ++ d, by simp⟩
theorem Occ.left (p b : List UInt8) : Occ p (p ++ b) := ⟨[], b, by simp⟩
theorem Occ.right (a p : List UInt8) : Occ p (a ++ p) := ⟨a, [], by simp⟩
theorem Occ.nil (w : List UInt8) : Occ [] w := ⟨[], w, by simp⟩
def occB (p w : List UInt8) : Bool := (List.range (w.length + 1)).any fun i => decide (i + p.length ≤ w.length) && decide ((w.drop i).take p.length = p)
theorem occB_iff {p w : List UInt8} : occB p w = true ↔ Occ p w := by
  unfold occB
  rw [List.any_eq_true]
  constructor
  · rintro ⟨i, _, h⟩
    rw [Bool.and_eq_true, decide_eq_true_iff, decide_eq_true_iff] at h
    refine ⟨w.take i, (w.drop i).drop p.length, ?_⟩
    have h1 := List.take_append_drop p.length (w.drop i)
    rw [h.2] at h1
    rw [List.append_assoc, h1, List.take_append_drop]
  · rintro ⟨a, b, rfl⟩
    refine ⟨a.length, List.mem_range.2 (by simp; omega), ?_⟩
    rw [Bool.and_eq_true, decide_eq_true_iff, decide_eq_true_iff]
    refine ⟨by simp, ?_⟩
    rw [List.append_assoc, List.drop_left, List.take_left]
/-- No word of a list occurs. -/
def avB (ss : List ByteArray) (w : List UInt8) : Bool := ss.all fun f => !occB f.data.toList w
theorem avB_iff {ss : List ByteArray} {w : List UInt8} : avB ss w = true ↔ ∀ f ∈ ss, ¬ Occ f.data.toList w := by
  unfold avB
  rw [List.all_eq_true]
  constructor
  · intro h f hf k
    have := h f hf
    rw [occB_iff.2 k] at this
    cases this
  · intro h f hf
    cases hb : occB f.data.toList w
    · rfl
    · exact absurd (occB_iff.1 hb) (h f hf)
theorem avB_part {ss : List ByteArray} {p w : List UInt8} (h : avB ss w = true) (k : Occ p w) : avB ss p = true := by
  rw [avB_iff] at h ⊢
  exact fun f hf ho => h f hf (ho.trans k)
def avTo (ss : List ByteArray) (w : List UInt8) : Nat → Bool | 0 => true | j + 1 => avTo ss w j && !occB (ss.getD j ByteArray.empty).data.toList w
theorem avTo_iff {ss : List ByteArray} {w : List UInt8} : ∀ {n}, n ≤ ss.length → (avTo ss w n = true ↔ ∀ (j : Nat) (f : ByteArray), j < n → ss[j]? = some f → occB f.data.toList w = false)
  | 0, _ => by simp [avTo]
  | n + 1, hn => by
    obtain ⟨g, hg⟩ := get_some (l := ss) (n := n) (by omega)
    have ih := avTo_iff (ss := ss) (w := w) (n := n) (by omega)
    unfold avTo
    rw [Bool.and_eq_true, ih, List.getD_eq_getElem?_getD, hg]
    constructor
    · rintro ⟨h1, h2⟩ j f hj hf
      rcases Nat.lt_or_ge j n with h | h
      · exact h1 j f h hf
      · obtain rfl : j = n := by omega
        rw [hg] at hf
        injection hf with hf
        subst hf
        simpa using h2
    · intro h
      exact ⟨fun j f hj hf => h j f (by omega) hf, by simpa using h n g (by omega) hg⟩
theorem avTo_all {ss : List ByteArray} {w : List UInt8} : avTo ss w ss.length = avB ss w := by
  rw [Bool.eq_iff_iff, avTo_iff (Nat.le_refl _), avB]
  rw [List.all_eq_true]
  constructor
  · intro h f hf
    obtain ⟨j, hj⟩ := List.mem_iff_getElem?.1 hf
    rw [h j f (List.getElem?_eq_some_iff.1 hj).1 hj]
    rfl
  · intro h j f _ hf
    have := h f (List.mem_of_getElem? hf)
    simpa using this
theorem avTo_stop {ss : List ByteArray} {w : List UInt8} {k : Nat} {f : ByteArray} (hf : ss[k]? = some f) (h : occB f.data.toList w = true) : avB ss w = false := by
  cases hb : avB ss w
  · rfl
  · exact absurd (occB_iff.1 h) (avB_iff.1 hb f (List.mem_of_getElem? hf))
theorem avTo_step {ss : List ByteArray} {w : List UInt8} {k : Nat} {f : ByteArray} (hf : ss[k]? = some f) (h : occB f.data.toList w = false) (ht : avTo ss w k = true) : avTo ss w (k + 1) = true := by
  unfold avTo
  rw [ht, List.getD_eq_getElem?_getD, hf]
  simp [h]

/-! The words of two letters. -/
def pairW (k i : Nat) : List UInt8 := wAt k 2 i
def okP (ss : List ByteArray) (k i : Nat) : Bool := avB ss (pairW k i)
def eP (ss : List ByteArray) (k i j : Nat) : Bool := decide (i % k = j / k) && avB ss (pairW k i ++ [letB (j % k)])
def livP (ss : List ByteArray) (k i : Nat) : Prop := ∃ T : Nat → Prop, T i ∧ ∀ q, T q → (q < k ^ 2 ∧ okP ss k q = true) ∧ (∃ r, eP ss k q r = true ∧ T r) ∧ ∃ r, eP ss k r q = true ∧ T r
noncomputable def livB (ss : List ByteArray) (k i : Nat) : Bool := @decide (livP ss k i) (Classical.propDecidable _)
theorem livB_iff {ss : List ByteArray} {k i : Nat} : livB ss k i = true ↔ livP ss k i := by
  unfold livB
  exact @decide_eq_true_iff _ (Classical.propDecidable _)
theorem livP_ok {ss : List ByteArray} {k i : Nat} (h : livP ss k i) : i < k ^ 2 ∧ okP ss k i = true := by
  obtain ⟨T, hi, hT⟩ := h
  exact (hT i hi).1
theorem livP_on {ss : List ByteArray} {k i : Nat} (h : livP ss k i) : (∃ r, eP ss k i r = true ∧ livP ss k r) ∧ ∃ r, eP ss k r i = true ∧ livP ss k r := by
  obtain ⟨T, hi, hT⟩ := h
  obtain ⟨_, ⟨r, hr, htr⟩, ⟨u, hu, htu⟩⟩ := hT i hi
  exact ⟨⟨r, hr, T, htr, hT⟩, ⟨u, hu, T, htu, hT⟩⟩
/-- What stays when each needs one behind and one ahead. -/
def goesP (ss : List ByteArray) (k : Nat) (K : Nat → Bool) (i : Nat) : Bool := (List.range (k ^ 2)).any (fun r => K r && eP ss k i r) && (List.range (k ^ 2)).any fun r => K r && eP ss k r i
theorem goes_liv {ss : List ByteArray} {k : Nat} {K : Nat → Bool} (h : ∀ i, i < k ^ 2 → livP ss k i → K i = true) {i : Nat} (hi : livP ss k i) : goesP ss k K i = true := by
  obtain ⟨⟨r, hr, hlr⟩, ⟨u, hu, hlu⟩⟩ := livP_on hi
  unfold goesP
  rw [Bool.and_eq_true, List.any_eq_true, List.any_eq_true]
  exact ⟨⟨r, List.mem_range.2 (livP_ok hlr).1, by rw [Bool.and_eq_true]; exact ⟨h r (livP_ok hlr).1 hlr, hr⟩⟩, ⟨u, List.mem_range.2 (livP_ok hlu).1, by rw [Bool.and_eq_true]; exact ⟨h u (livP_ok hlu).1 hlu, hu⟩⟩⟩
theorem goes_end {ss : List ByteArray} {k : Nat} {K : Nat → Bool} (hok : ∀ i, i < k ^ 2 → K i = true → okP ss k i = true) (h : ∀ i, i < k ^ 2 → K i = true → goesP ss k K i = true) {i : Nat} (hi : i < k ^ 2) (hk : K i = true) : livP ss k i := by
  refine ⟨fun q => q < k ^ 2 ∧ K q = true, ⟨hi, hk⟩, fun q hq => ?_⟩
  have hg := h q hq.1 hq.2
  unfold goesP at hg
  rw [Bool.and_eq_true, List.any_eq_true, List.any_eq_true] at hg
  obtain ⟨⟨r, hr, h1⟩, ⟨u, hu, h2⟩⟩ := hg
  rw [Bool.and_eq_true] at h1 h2
  exact ⟨⟨hq.1, hok q hq.1 hq.2⟩, ⟨r, h1.2, List.mem_range.1 hr, h1.1⟩, ⟨u, h2.2, List.mem_range.1 hu, h2.1⟩⟩
/-! The program's way: places in the list of pairs. -/
def pairL (ss : List ByteArray) (k : Nat) : List Nat := (List.range (k ^ 2)).filter (okP ss k)
def pairRows (ss : List ByteArray) (k : Nat) : List (List Int) := (pairL ss k).map fun i => ((List.range (pairL ss k).length).filter fun t => eP ss k i ((pairL ss k).getD t 0)).map fun (t : Nat) => ((t : Nat) : Int)
theorem pairL_get {ss : List ByteArray} {k t i : Nat} (h : (pairL ss k)[t]? = some i) : i < k ^ 2 ∧ okP ss k i = true := by
  have := List.mem_filter.1 (List.mem_of_getElem? h)
  exact ⟨List.mem_range.1 this.1, this.2⟩
theorem pairL_at {ss : List ByteArray} {k i : Nat} (h : i < k ^ 2) (ho : okP ss k i = true) : ∃ t : Nat, (pairL ss k)[t]? = some i := List.mem_iff_getElem?.1 (List.mem_filter.2 ⟨List.mem_range.2 h, ho⟩)
theorem pairRows_edg {ss : List ByteArray} {k s t i j : Nat} (hs : (pairL ss k)[s]? = some i) (ht : (pairL ss k)[t]? = some j) : edg (pairRows ss k) s t ↔ eP ss k i j = true := by
  unfold edg pairRows
  rw [List.getD_eq_getElem?_getD, List.getElem?_map, hs]
  simp only [Option.map_some, Option.getD_some, List.mem_map, List.mem_filter, List.mem_range]
  have htl := (List.getElem?_eq_some_iff.1 ht).1
  constructor
  · rintro ⟨u, ⟨_, h2⟩, h3⟩
    obtain rfl : u = t := by omega
    rw [List.getD_eq_getElem?_getD, ht] at h2
    exact h2
  · intro h
    exact ⟨t, ⟨htl, by rw [List.getD_eq_getElem?_getD, ht]; exact h⟩, rfl⟩
theorem pair_live {ss : List ByteArray} {k s i : Nat} (hs : (pairL ss k)[s]? = some i) : LiveG (pairRows ss k) (pairL ss k).length s ↔ livP ss k i := by
  constructor
  · rintro ⟨T, hT0, hT⟩
    refine ⟨fun q => ∃ u, (pairL ss k)[u]? = some q ∧ T u, ⟨s, hs, hT0⟩, ?_⟩
    rintro q ⟨u, hu, htu⟩
    obtain ⟨_, ⟨r, hr, htr⟩, ⟨v, hv, htv⟩⟩ := hT u htu
    obtain ⟨jr, hjr⟩ := get_some (l := pairL ss k) (n := r) (hT r htr).1
    obtain ⟨jv, hjv⟩ := get_some (l := pairL ss k) (n := v) (hT v htv).1
    exact ⟨pairL_get hu, ⟨jr, (pairRows_edg hu hjr).1 hr, r, hjr, htr⟩, ⟨jv, (pairRows_edg hjv hu).1 hv, v, hjv, htv⟩⟩
  · intro hl
    refine ⟨fun u => ∃ q, (pairL ss k)[u]? = some q ∧ livP ss k q, ⟨i, hs, hl⟩, ?_⟩
    rintro u ⟨q, hq, hlq⟩
    obtain ⟨⟨r, hr, hlr⟩, ⟨v, hv, hlv⟩⟩ := livP_on hlq
    obtain ⟨tr, htr⟩ := pairL_at (livP_ok hlr).1 (livP_ok hlr).2
    obtain ⟨tv, htv⟩ := pairL_at (livP_ok hlv).1 (livP_ok hlv).2
    exact ⟨(List.getElem?_eq_some_iff.1 hq).1, ⟨tr, (pairRows_edg hq htr).2 hr, r, htr, hlr⟩, ⟨tv, (pairRows_edg htv hq).2 hv, v, htv, hlv⟩⟩
/-- The states as numbers, and what the program keeps of its list. -/
noncomputable def stL (ss : List ByteArray) (k : Nat) : List Nat := (List.range (k ^ 2)).filter (livB ss k)
theorem stL_of {ss : List ByteArray} {k : Nat} : stL ss k = (pairL ss k).filter (livB ss k) := by
  unfold stL pairL
  rw [List.filter_filter]
  refine List.filter_congr fun i hi => ?_
  cases h : livB ss k i
  · rfl
  · rw [(livP_ok (livB_iff.1 h)).2]; rfl
end Go.Proofs.YtpfeflhcbcgbfaaGreatDoor
namespace Go.Proofs.YtpfeflhcbcgbfaaGreatDoor
open Go.RowKit

theorem contains_occ (s p : List UInt8) : Lib.contains s p = occB p s := by
  rw [Bool.eq_iff_iff, occB_iff]
  unfold Lib.contains
  rw [decide_eq_true_iff]
  constructor
  · intro h
    rcases Lib.index_spec s p with ⟨h1, _⟩ | ⟨i, h1, h2, h3, _⟩
    · omega
    · unfold Lib.occAt at h3
      obtain ⟨t, ht⟩ := List.isPrefixOf_iff_prefix.1 h3
      refine ⟨s.take i, t, ?_⟩
      rw [List.append_assoc, ht, List.take_append_drop]
  · rintro ⟨a, b, rfl⟩
    rcases Lib.index_spec (a ++ p ++ b) p with ⟨_, h2⟩ | ⟨i, h1, _⟩
    · have := h2 a.length (by simp)
      unfold Lib.occAt at this
      rw [List.append_assoc, List.drop_left] at this
      have hp : p.isPrefixOf (p ++ b) = true := List.isPrefixOf_iff_prefix.2 ⟨b, rfl⟩
      rw [hp] at this
      cases this
    · omega
theorem bytes_eqA {a b : ByteArray} (h : a.data.toList = b.data.toList) : a = b := by
  cases a; cases b; simp at h; rw [h]
theorem ext_at (s p : ByteArray) (k : Nat) : decide (s.extract k (k + p.size) = p) = decide ((s.data.toList.drop k).take p.data.toList.length = p.data.toList) := by
  have h1 : (s.extract k (k + p.size)).data.toList = (s.data.toList.drop k).take p.size := by
    simp [ByteArray.data_extract, Array.toList_extract, List.extract_eq_take_drop]
  rw [Bool.eq_iff_iff, decide_eq_true_iff, decide_eq_true_iff, size_list]
  constructor
  · intro h
    rw [← h1, h]
  · intro h
    exact bytes_eqA (by rw [h1, h])
def occTo (p w : List UInt8) (j : Nat) : Bool := (List.range j).any fun i => decide (i + p.length ≤ w.length) && decide ((w.drop i).take p.length = p)
theorem occTo_hit {p w : List UInt8} {j : Nat} (h1 : j + p.length ≤ w.length) (h2 : decide ((w.drop j).take p.length = p) = true) : occB p w = true := by
  unfold occB
  rw [List.any_eq_true]
  exact ⟨j, List.mem_range.2 (by omega), by rw [decide_eq_true h1, h2]; rfl⟩
theorem occTo_step {p w : List UInt8} {j : Nat} (h : occTo p w j = false) (h2 : decide ((w.drop j).take p.length = p) = false) : occTo p w (j + 1) = false := by
  unfold occTo at h ⊢
  rw [List.range_succ, List.any_append, h]
  simp only [List.any_cons, List.any_nil, h2, Bool.and_false, Bool.or_false]
theorem occTo_end {p w : List UInt8} {j : Nat} (h : occTo p w j = false) (hj : w.length < j + p.length) : occB p w = false := by
  cases hb : occB p w
  · rfl
  · unfold occB at hb
    rw [List.any_eq_true] at hb
    obtain ⟨i, _, hi⟩ := hb
    have hi2 := hi
    rw [Bool.and_eq_true, decide_eq_true_iff] at hi2
    have : occTo p w j = true := by
      unfold occTo
      rw [List.any_eq_true]
      exact ⟨i, List.mem_range.2 (by omega), hi⟩
    rw [h] at this
    cases this
set_option maxHeartbeats 1000000 in
theorem OccursIn_c (s p : ByteArray) (w : World) (hs : s.size ≤ 1048576) (hp : p.size ≤ 1048576) :
    Calls Tryz.prog 113 #[.string s, .string p] w fun e w' => e = .returned (.bool (occB p.data.toList s.data.toList)) ∧ w = w' := by
  have HHIT := hid (fun (j : Nat) (h1 : j + p.size ≤ s.size) (h : s.extract j (j + p.size) = p) => show occB p.data.toList s.data.toList = true from occTo_hit (j := j) (by rw [size_list, size_list]; exact h1) (by rw [← ext_at]; exact decide_eq_true h))
  have HSTEP := hid (fun (j : Nat) (h0 : occTo p.data.toList s.data.toList j = false) (h : ¬ s.extract j (j + p.size) = p) => show occTo p.data.toList s.data.toList (j + 1) = false from occTo_step h0 (by rw [← ext_at]; exact decide_eq_false h))
  have HEND := hid (fun (j : Nat) (h0 : occTo p.data.toList s.data.toList j = false) (h : s.size < j + p.size) => show occB p.data.toList s.data.toList = false from occTo_end h0 (by rw [size_list, size_list]; exact h))
  obtain ⟨Z, hZ⟩ : ∃ Z, Z = occTo p.data.toList s.data.toList := ⟨_, rfl⟩
  obtain ⟨R, hR⟩ : ∃ R, R = occB p.data.toList s.data.toList := ⟨_, rfl⟩
  have HZ0 := hid (show Z 0 = false by rw [hZ]; rfl)
  rw [← hZ] at HSTEP HEND
  rw [← hR] at HHIT HEND
  rw [← hR]
  clear hZ hR
  go_enter Tryz.func113, Tryz.ntmps113
  go_wp2
  go_loop [5] (fun v => ∃ k : Nat, k ≤ s.size + 1 ∧ v = .int .i64 k ∧ Hid (Z k = false)) (fun v => s.size + 1 - (intOf v).toNat)
  case atStart => exact ⟨0, by omega, rfl, HZ0⟩
  case round =>
    obtain ⟨k, hk, rfl, HZK⟩ := hrel
    by_cases hle : k + p.size ≤ s.size
    · have hlei : (k : Int) + (p.size : Int) ≤ (s.size : Int) := by omega
      have hext : ((s.extract k (k + p.size)).toList == p.toList) = decide (s.extract k (k + p.size) = p) := by
        by_cases hx : s.extract k (k + p.size) = p
        · rw [hx]; simp
        · rw [decide_eq_false hx]
          simp only [beq_eq_false_iff_ne, ne_eq]
          intro e
          rw [Lib.toList_data, Lib.toList_data] at e
          exact hx (bytes_eqA e)
      by_cases hx : s.extract k (k + p.size) = p
      · rw [decide_eq_true hx] at hext
        have HR := hid (HHIT.out k hle hx)
        clear hx
        go_wp2
        go_ret
        exact ⟨ret_bool HR.out.symm, rfl⟩
      · rw [decide_eq_false hx] at hext
        have HN := hid (HSTEP.out k HZK.out hx)
        clear hx
        go_wp2
        go_round
        case rel => exact ⟨k + 1, by omega, by go_num, HN⟩
        case measure => simp [intOf]; omega
    · have hlei : ¬ ((k : Int) + (p.size : Int) ≤ (s.size : Int)) := by omega
      have HR := hid (HEND.out k HZK.out (by omega))
      go_wp2
      go_ret
      exact ⟨ret_bool HR.out.symm, rfl⟩
set_option maxHeartbeats 1000000 in
theorem l3Avoids_c (a : Option Addr) (n c : Nat) (ss : List ByteArray) (wd : ByteArray) (w : World) (hr : RowAt w a n (strVals ss)) (hs : ∀ t ∈ ss, t.size ≤ 1048576) (hw : wd.size ≤ 1048576) (hn : n ≤ 1048576) :
    Calls Tryz.prog 65 #[.slice a n c, .string wd] w fun e w' => e = .returned (.bool (avB ss wd.data.toList)) ∧ w = w' := by
  have hl : ss.length = n := by simpa [strVals] using hr.len
  have HSTOP := hid (fun (k : Nat) (f : ByteArray) (hf : ss[k]? = some f) (h : occB f.data.toList wd.data.toList = true) => avTo_stop (w := wd.data.toList) hf h)
  have HSTEP := hid (fun (k : Nat) (f : ByteArray) (hf : ss[k]? = some f) (h : occB f.data.toList wd.data.toList = false) (ht : avTo ss wd.data.toList k = true) => avTo_step hf h ht)
  have HEND := hid (show avTo ss wd.data.toList n = avB ss wd.data.toList from by rw [← hl]; exact avTo_all)
  have HO := hid (fun (k : Nat) (f : ByteArray) (hf : ss[k]? = some f) (W : World) => OccursIn_c wd f W hw (hs f (List.mem_of_getElem? hf)))
  obtain ⟨Z, hZ⟩ : ∃ Z, Z = avTo ss wd.data.toList := ⟨_, rfl⟩
  have HZ0 := hid (show Z 0 = true by rw [hZ]; rfl)
  rw [← hZ] at HSTEP HEND
  obtain ⟨R, hR⟩ : ∃ R, R = avB ss wd.data.toList := ⟨_, rfl⟩
  rw [← hR] at HSTOP HEND
  rw [← hR]
  have HAT := hid hr.at_
  have HL := hid hl
  clear hr hs hZ hR hl
  go_enter Tryz.func65, Tryz.ntmps65
  go_wp2
  go_loop [5] (fun i => ∃ k : Nat, k ≤ n ∧ i = .int .i64 k ∧ Hid (Z k = true)) (fun i => n - (intOf i).toNat)
  case atStart => exact ⟨0, by omega, rfl, HZ0⟩
  case round =>
    obtain ⟨k, hk, rfl, HZK⟩ := hrel
    by_cases hlt : k < n
    · obtain ⟨f, hf⟩ := get_some (l := ss) (n := k) (by rw [HL.out]; exact hlt)
      obtain ⟨b, off, rfl, hb, hc⟩ := HAT.out (by omega)
      have hcell := hc k _ (strVals_get hf)
      have hki : (k : Int) < (n : Int) := by omega
      have HOK := hid (HO.out k f hf)
      have HS1 := hid (HSTOP.out k f hf)
      have HS2 := hid (HSTEP.out k f hf)
      obtain ⟨o, ho⟩ : ∃ o, o = occB f.data.toList wd.data.toList := ⟨_, rfl⟩
      rw [← ho] at HOK HS1 HS2
      clear hf hc ho HAT HO HSTOP HSTEP
      go_wp2_with fail
      refine (HOK.out _).mono ?_
      rintro e w3 ⟨rfl, rfl⟩
      cases o with
      | true =>
        have HR := hid (HS1.out rfl)
        go_wp2
        go_ret
        exact ⟨ret_bool HR.out.symm, rfl⟩
      | false =>
        have HN := hid (HS2.out rfl HZK.out)
        go_wp2
        go_round
        case rel => exact ⟨k + 1, by omega, by go_num, HN⟩
        case measure => simp [intOf]; omega
    · obtain rfl : k = n := by omega
      go_wp2
      go_ret
      exact ⟨ret_bool (HZK.out.symm.trans HEND.out), rfl⟩
set_option maxHeartbeats 1000000 in
theorem avoids_c (L : Int) (a : Option Addr) (n c : Nat) (ss : List ByteArray) (wd : ByteArray) (w : World) (hr : RowAt w a n (strVals ss)) (hw : wd.size ≤ 1048576) (hn : n ≤ 1048576) (hm : MaxW w) :
    Calls Tryz.prog 78 #[.agg #[.int .i64 L, .slice a n c], .string wd] w fun e w' => e = .returned (.bool (avB ss wd.data.toList)) ∧ Below w.heap.size w w' := by
  have hl : ss.length = n := by simpa [strVals] using hr.len
  have HSTOP := hid (fun (k : Nat) (f : ByteArray) (hf : ss[k]? = some f) (h : occB f.data.toList wd.data.toList = true) => avTo_stop (w := wd.data.toList) hf h)
  have HSTEP := hid (fun (k : Nat) (f : ByteArray) (hf : ss[k]? = some f) (h : occB f.data.toList wd.data.toList = false) (ht : avTo ss wd.data.toList k = true) => avTo_step hf h ht)
  have HEND := hid (show avTo ss wd.data.toList n = avB ss wd.data.toList from by rw [← hl]; exact avTo_all)
  obtain ⟨W2, hW2⟩ : ∃ W2, W2 = w.alloc (.cells #[.int .i64 L, .slice a n c] 27) := ⟨_, rfl⟩
  have hB : Below w.heap.size w W2 := by rw [hW2]; exact (Below.refl _ _).alloc (Nat.le_refl _) _
  have hm2 := max_below hm hB (Nat.le_refl _)
  obtain ⟨mx, hmx⟩ := hm2
  have HO := hid (fun (f : ByteArray) => show Calls Tryz.prog 122 #[.string wd, .string f] W2 fun e w' => e = .returned (.bool (occB f.data.toList wd.data.toList)) ∧ w' = W2 from by
    rw [← contains_occ]
    exact Tryz.strings_Contains wd f mx W2 (by omega) hmx)
  obtain ⟨Z, hZ⟩ : ∃ Z, Z = avTo ss wd.data.toList := ⟨_, rfl⟩
  have HZ0 := hid (show Z 0 = true by rw [hZ]; rfl)
  rw [← hZ] at HSTEP HEND
  obtain ⟨R, hR⟩ : ∃ R, R = avB ss wd.data.toList := ⟨_, rfl⟩
  rw [← hR] at HSTOP HEND
  rw [← hR]
  have HAT := hid (hr.below hB (Nat.le_refl _)).at_
  have HL := hid hl
  have HB := hid hB
  clear hr hZ hR hl hmx hm hB
  go_enter Tryz.func78, Tryz.ntmps78
  go_wp2
  rw [← hW2]
  clear hW2
  go_loop [10] (fun i => ∃ k : Nat, k ≤ n ∧ i = .int .i64 k ∧ Hid (Z k = true)) (fun i => n - (intOf i).toNat)
  case atStart => exact ⟨0, by omega, rfl, HZ0⟩
  case round =>
    obtain ⟨k, hk, rfl, HZK⟩ := hrel
    by_cases hlt : k < n
    · obtain ⟨f, hf⟩ := get_some (l := ss) (n := k) (by rw [HL.out]; exact hlt)
      obtain ⟨b, off, rfl, hb, hc⟩ := HAT.out (by omega)
      have hcell := hc k _ (strVals_get hf)
      have hki : (k : Int) < (n : Int) := by omega
      have HOK := hid (HO.out f)
      have HS1 := hid (HSTOP.out k f hf)
      have HS2 := hid (HSTEP.out k f hf)
      obtain ⟨o, ho⟩ : ∃ o, o = occB f.data.toList wd.data.toList := ⟨_, rfl⟩
      rw [← ho] at HOK HS1 HS2
      clear hf hc ho HAT HO HSTOP HSTEP
      go_wp2_with fail
      refine HOK.out.mono ?_
      rintro e w3 ⟨rfl, hw3⟩
      obtain rfl : w3 = W2 := hw3
      cases o with
      | true =>
        have HR := hid (HS1.out rfl)
        go_wp2
        go_ret
        exact ⟨ret_bool HR.out.symm, HB.out⟩
      | false =>
        have HN := hid (HS2.out rfl HZK.out)
        go_wp2
        go_round
        case rel => exact ⟨k + 1, by omega, by go_num, HN⟩
        case measure => simp [intOf]; omega
    · obtain rfl : k = n := by omega
      go_wp2
      go_ret
      exact ⟨ret_bool (HZK.out.symm.trans HEND.out), HB.out⟩
end Go.Proofs.YtpfeflhcbcgbfaaGreatDoor
