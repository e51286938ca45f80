/- The head of the translation, read once: three closed facts on the program alone. No condition. -/
import Derived.Test.YtcfjchaklgjmkaaProg
import GoSem.ClaimJoined
import Derived.KernelRfl
namespace Go.Proofs.Ytcfjchaklgjmkaa

def hdr1 : List Char := [104, 97, 114, 110, 101, 115, 115].map Char.ofNat
def hdr2 : List Char := [99, 54, 99, 57, 102, 49, 99, 100, 53, 48, 49, 55, 98, 98, 99, 52, 101, 98, 50, 54, 53, 50, 57, 48, 56, 101, 98, 56, 48, 50, 49, 48, 51, 50, 53, 51, 102, 101, 101, 54, 49, 101, 56, 102, 99, 50, 50, 48, 51, 100, 97, 56, 56, 48, 101, 48, 100, 54, 56, 48, 51, 99, 54, 98].map Char.ofNat
def hdr3 : List Char := [99, 117, 116].map Char.ofNat
def hdr4 : List Char := [97, 116, 32, 108, 111, 111, 112, 46, 101, 120, 97, 109, 112, 108, 101, 47, 103, 48, 51, 49, 48, 51, 47, 108, 97, 119, 115, 46, 70, 110, 83, 117, 98, 115, 116, 115, 32, 108, 111, 111, 112, 46, 101, 120, 97, 109, 112, 108, 101, 47, 103, 48, 51, 49, 48, 51, 47, 108, 97, 119, 115, 46, 70, 110, 80, 97, 114, 116, 115].map Char.ofNat
def blank : Char := Char.ofNat 32
theorem words_one (c : Char) (r w : List Char) (ws : List (List Char)) (hc : c ≠ blank) (h : wordsSigns r = w :: ws) : wordsSigns (c :: r) = (c :: w) :: ws := by
  rw [wordsSigns, h]
  exact hc
theorem words_app : ∀ (w r : List Char), w.all (fun c => !(c == blank)) = true → wordsSigns (w ++ blank :: r) = w :: wordsSigns r
  | [], r, _ => rfl
  | c :: w, r, h => by
    simp only [List.all_cons, Bool.and_eq_true, Bool.not_eq_true', beq_eq_false_iff_ne] at h
    exact words_one _ _ _ _ h.1 (words_app w r h.2)
theorem hdr : Try.prog.initOrder = String.ofList (hdr1 ++ blank :: (hdr2 ++ blank :: (hdr3 ++ blank :: hdr4))) := by kernel_rfl
theorem hdrWords : wordsSigns Try.prog.initOrder.toList = hdr1 :: hdr2 :: hdr3 :: wordsSigns hdr4 := by
  rw [hdr, String.toList_ofList, words_app _ _ (by kernel_rfl), words_app _ _ (by kernel_rfl), words_app _ _ (by kernel_rfl)]
theorem behind3 (X : List (List Char)) : behindMainWord (hdr1 :: hdr2 :: hdr3 :: X) = hdr3 :: X := by kernel_rfl
theorem hdrBehind : behindMainWord (wordsSigns Try.prog.initOrder.toList) = hdr3 :: wordsSigns hdr4 := by rw [hdrWords, behind3]

theorem lifts_gen (P : Program) (c : List Char) (X : List (List Char)) (hb : behindMainWord (wordsSigns P.initOrder.toList) = c :: X)
    (h : (if (stripLifts liftWords (c :: X)).2.head? == some "cut".toList then (stripLifts liftWords (c :: X)).1 else []) = []) : P.headLifts = [] := by
  unfold Program.headLifts
  rw [hb]
  exact h
theorem liftsFinal_gen (P : Program) (c : List Char) (X : List (List Char)) (hb : behindMainWord (wordsSigns P.initOrder.toList) = c :: X) (hl : P.headLifts = [])
    (h : ((c :: X).head? == some "carried".toList && (c :: X).take 3 != ["carried".toList, "gc".toList, "cut".toList]) = false) : P.liftsFinal = false := by
  unfold Program.liftsFinal
  rw [hb, hl]
  simp only [h, Bool.false_or]
  rfl
theorem make_gen (P : Program) (c : List Char) (X : List (List Char)) (hb : behindMainWord (wordsSigns P.initOrder.toList) = c :: X)
    (h1 : (c == "gc".toList || c == "spec".toList) = false) (h2 : (c == "cut".toList || (c == "finals".toList && X.head? == some "cut".toList)) = true) : P.make = some .cut := by
  unfold Program.make
  rw [hb]
  simp only [h1, h2, if_true, Bool.false_eq_true, if_false]
theorem mayEnter_gen (P : Program) (c : List Char) (X : List (List Char)) (hb : behindMainWord (wordsSigns P.initOrder.toList) = c :: X)
    (h : ((stripLifts liftWords (c :: X)).2.head? == some "cut".toList &&
      ((stripLifts liftWords (c :: X)).1.contains "finals" || !P.laysLater) && ((stripLifts liftWords (c :: X)).1.contains "reflectrows" || !P.bearsReflect) &&
      ((stripLifts liftWords (c :: X)).1.contains "reflectrows" || !(stripLifts liftWords (c :: X)).1.contains "leanrows") &&
      P.doorFits (stripLifts liftWords (c :: X)).1) = true) : P.mayEnter = true := by
  unfold Program.mayEnter
  rw [hb]
  simp only [h, Bool.or_true]
theorem strip3 (X : List (List Char)) : stripLifts liftWords (hdr3 :: X) = ([], hdr3 :: X) := by kernel_rfl
theorem isCut : ((hdr3 :: wordsSigns hdr4).head? == some "cut".toList) = true := by
  show ((some hdr3 : Option (List Char)) == some "cut".toList) = true
  kernel_rfl
theorem headHeadLifts : Try.prog.headLifts = [] := lifts_gen _ _ _ hdrBehind (by rw [strip3]; exact ite_self _)
theorem headLiftsFinal : Try.prog.liftsFinal = false := liftsFinal_gen _ _ _ hdrBehind headHeadLifts (by
  rw [show ((hdr3 :: wordsSigns hdr4).head? == some "carried".toList) = false from by
    show ((some hdr3 : Option (List Char)) == some "carried".toList) = false
    kernel_rfl]
  rfl)
theorem headMake : Try.prog.make = some .cut := make_gen _ _ _ hdrBehind (by kernel_rfl) (by
  rw [show (hdr3 == "cut".toList) = true from by kernel_rfl]
  rfl)
theorem noLater : Try.prog.laysLater = false := by kernel_rfl
theorem noReflect : Try.prog.bearsReflect = false := by kernel_rfl
theorem doorFits0 : Try.prog.doorFits [] = true := by kernel_rfl
theorem headMayEnter : Try.prog.mayEnter = true := mayEnter_gen _ _ _ hdrBehind (by
  rw [strip3, isCut, noLater, noReflect, doorFits0]
  rfl)
end Go.Proofs.Ytcfjchaklgjmkaa
