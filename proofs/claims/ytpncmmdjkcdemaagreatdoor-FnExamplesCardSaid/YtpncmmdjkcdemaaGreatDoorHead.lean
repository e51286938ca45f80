/- The head of the translation, read once: three closed facts on the program alone. No condition. -/
import Derived.Test.YtpncmmdjkcdemaaGreatDoorProg
import GoSem.ClaimJoined
import Derived.KernelRfl
namespace Go.Proofs.YtpncmmdjkcdemaaGreatDoor

def hdr1 : List Char := [104, 97, 114, 110, 101, 115, 115].map Char.ofNat
def hdr2 : List Char := [100, 49, 99, 99, 56, 99, 55, 52, 57, 98, 100, 97, 102, 52, 102, 102, 102, 53, 99, 53, 101, 50, 57, 99, 100, 56, 49, 51, 53, 50, 102, 98, 102, 48, 100, 57, 55, 53, 99, 55, 101, 50, 51, 100, 97, 54, 55, 97, 55, 51, 55, 51, 57, 56, 101, 55, 53, 49, 50, 48, 98, 49, 97, 56].map Char.ofNat
def hdr3 : List Char := [99, 117, 116].map Char.ofNat
def hdr4 : List Char := [97, 116, 32, 108, 111, 111, 112, 46, 101, 120, 97, 109, 112, 108, 101, 47, 103, 48, 51, 49, 48, 51, 47, 108, 97, 119, 115, 46, 70, 110, 69, 120, 97, 109, 112, 108, 101, 115].map Char.ofNat
def blank : Char := Char.ofNat 32
theorem words_one (c : Char) (r w : List Char) (ws : List (List Char)) (hc : c ≠ blank) (h : wordsSigns r = w :: ws) : wordsSigns (c :: r) = (c :: w) :: ws := by
  rw [wordsSigns, h]
  exact hc
theorem words_app : ∀ (w r : List Char), w.all (fun c => !(c == blank)) = true → wordsSigns (w ++ blank :: r) = w :: wordsSigns r
  | [], r, _ => rfl
  | c :: w, r, h => by
    simp only [List.all_cons, Bool.and_eq_true, Bool.not_eq_true', beq_eq_false_iff_ne] at h
    exact words_one _ _ _ _ h.1 (words_app w r h.2)
theorem hdr : Tryz.prog.initOrder = String.ofList (hdr1 ++ blank :: (hdr2 ++ blank :: (hdr3 ++ blank :: hdr4))) := by kernel_rfl
theorem hdrWords : wordsSigns Tryz.prog.initOrder.toList = hdr1 :: hdr2 :: hdr3 :: wordsSigns hdr4 := by
  rw [hdr, String.toList_ofList, words_app _ _ (by kernel_rfl), words_app _ _ (by kernel_rfl), words_app _ _ (by kernel_rfl)]
theorem behind3 (X : List (List Char)) : behindMainWord (hdr1 :: hdr2 :: hdr3 :: X) = hdr3 :: X := by kernel_rfl
theorem hdrBehind : behindMainWord (wordsSigns Tryz.prog.initOrder.toList) = hdr3 :: wordsSigns hdr4 := by rw [hdrWords, behind3]

theorem lifts_gen (P : Program) (c : List Char) (X : List (List Char)) (hb : behindMainWord (wordsSigns P.initOrder.toList) = c :: X)
    (h : (if (stripLifts liftWords (c :: X)).2.head? == some "cut".toList then (stripLifts liftWords (c :: X)).1 else []) = []) : P.headLifts = [] := by
  unfold Program.headLifts
  rw [hb]
  exact h
theorem liftsFinal_gen (P : Program) (c : List Char) (X : List (List Char)) (hb : behindMainWord (wordsSigns P.initOrder.toList) = c :: X) (hl : P.headLifts = [])
    (h : ((c :: X).head? == some "carried".toList && (c :: X).take 3 != ["carried".toList, "gc".toList, "cut".toList]) = false) : P.liftsFinal = false := by
  unfold Program.liftsFinal
  rw [hb, hl]
  simp only [h, Bool.false_or]
  rfl
theorem make_gen (P : Program) (c : List Char) (X : List (List Char)) (hb : behindMainWord (wordsSigns P.initOrder.toList) = c :: X)
    (h1 : (c == "gc".toList || c == "spec".toList) = false) (h2 : (c == "cut".toList || (c == "finals".toList && X.head? == some "cut".toList)) = true) : P.make = some .cut := by
  unfold Program.make
  rw [hb]
  simp only [h1, h2, if_true, Bool.false_eq_true, if_false]
theorem mayEnter_gen (P : Program) (c : List Char) (X : List (List Char)) (hb : behindMainWord (wordsSigns P.initOrder.toList) = c :: X)
    (h : ((stripLifts liftWords (c :: X)).2.head? == some "cut".toList &&
      ((stripLifts liftWords (c :: X)).1.contains "finals" || !P.laysLater) && ((stripLifts liftWords (c :: X)).1.contains "reflectrows" || !P.bearsReflect) &&
      ((stripLifts liftWords (c :: X)).1.contains "reflectrows" || !(stripLifts liftWords (c :: X)).1.contains "leanrows") &&
      P.doorFits (stripLifts liftWords (c :: X)).1) = true) : P.mayEnter = true := by
  unfold Program.mayEnter
  rw [hb]
  simp only [h, Bool.or_true]
theorem strip3 (X : List (List Char)) : stripLifts liftWords (hdr3 :: X) = ([], hdr3 :: X) := by kernel_rfl
theorem isCut : ((hdr3 :: wordsSigns hdr4).head? == some "cut".toList) = true := by
  show ((some hdr3 : Option (List Char)) == some "cut".toList) = true
  kernel_rfl
theorem headHeadLifts : Tryz.prog.headLifts = [] := lifts_gen _ _ _ hdrBehind (by rw [strip3]; exact ite_self _)
theorem headLiftsFinal : Tryz.prog.liftsFinal = false := liftsFinal_gen _ _ _ hdrBehind headHeadLifts (by
  rw [show ((hdr3 :: wordsSigns hdr4).head? == some "carried".toList) = false from by
    show ((some hdr3 : Option (List Char)) == some "carried".toList) = false
    kernel_rfl]
  rfl)
theorem headMake : Tryz.prog.make = some .cut := make_gen _ _ _ hdrBehind (by kernel_rfl) (by
  rw [show (hdr3 == "cut".toList) = true from by kernel_rfl]
  rfl)
theorem noLater : Tryz.prog.laysLater = false := by kernel_rfl
theorem noReflect : Tryz.prog.bearsReflect = false := by kernel_rfl
theorem doorFits0 : Tryz.prog.doorFits [] = true := by kernel_rfl
theorem headMayEnter : Tryz.prog.mayEnter = true := mayEnter_gen _ _ _ hdrBehind (by
  rw [strip3, isCut, noLater, noReflect, doorFits0]
  rfl)
end Go.Proofs.YtpncmmdjkcdemaaGreatDoor
