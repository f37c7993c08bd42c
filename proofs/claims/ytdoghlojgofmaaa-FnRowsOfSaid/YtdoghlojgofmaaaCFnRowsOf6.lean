/- The rows of a set tell it; no condition beyond the statement's own. -/
import Derived.Test.YtdoghlojgofmaaaRows
import Derived.ProofKit
import Derived.JoinedOf
namespace Go.Proofs.Ytdoghlojgofmaaa.Ini
set_option maxRecDepth 100000
def signs : List Nat := [104, 97, 114, 110, 101, 115, 115, 32, 97, 101, 99, 55, 100, 53, 52, 101, 52, 57, 100, 50, 57, 55, 54, 54, 48, 100, 102, 102, 55, 52, 52, 48, 49, 99, 52, 101, 98, 53, 102, 50, 97, 52, 48, 101, 50, 53, 100, 56, 49, 48, 97, 55, 50, 51, 57, 56, 48, 97, 52, 52, 53, 97, 50, 52, 102, 102, 50, 49, 48, 53, 51, 52, 32, 99, 117, 116, 32, 97, 116, 32, 108, 111, 111, 112, 46, 101, 120, 97, 109, 112, 108, 101, 47, 111, 110, 101, 108, 101, 116, 116, 101, 114, 47, 108, 97, 119, 115, 46, 70, 110, 77, 97, 99, 104, 79, 102, 32, 108, 111, 111, 112, 46, 101, 120, 97, 109, 112, 108, 101, 47, 111, 110, 101, 108, 101, 116, 116, 101, 114, 47, 108, 97, 119, 115, 46, 70, 110, 82, 111, 119, 115, 83, 101, 116, 32, 108, 111, 111, 112, 46, 101, 120, 97, 109, 112, 108, 101, 47, 111, 110, 101, 108, 101, 116, 116, 101, 114, 47, 108, 97, 119, 115, 46, 70, 110, 82, 111, 119, 115, 79, 102]
theorem line : Try.pinned.checked.prog.initOrder = String.ofList (signs.map Char.ofNat) := by kernel_rfl
theorem ini : Try.pinned.checked.prog.initOrder.toList = signs.map Char.ofNat := by rw [line]; exact String.toList_ofList
theorem make_of (P : Program) (L : List Char) (h : P.initOrder.toList = L) (c : List Char) (r : List (List Char)) (hb : behindMainWord (wordsSigns L) = c :: r) (hc : (c == "gc".toList || c == "spec".toList) = false) (hd : (c == "cut".toList) = true) : P.make = some .cut := by
  unfold Program.make
  rw [h, hb]
  simp only [hc, hd, Bool.true_or, if_true, Bool.false_eq_true, if_false]
theorem enter_of (P : Program) (L : List Char) (h : P.initOrder.toList = L) (c : List Char) (r : List (List Char)) (hb : behindMainWord (wordsSigns L) = c :: r) (h1 : (c == "gc".toList || c == "spec".toList) = false) (h2 : (c == "carried".toList) = false)
    (hs : stripLifts liftWords (c :: r) = ([], c :: r)) (hd : (some c == some "cut".toList) = true) (hl : P.laysLater = false) (hr : P.bearsReflect = false) (hf : P.doorFits [] = true) : P.mayEnter = true := by
  unfold Program.mayEnter
  rw [h, hb]
  simp only [h1, h2, hs, hl, hr, hf, List.head?_cons, hd, Bool.false_and, Bool.false_or, Bool.not_false, Bool.or_true, Bool.and_true, List.contains_nil]
theorem mk : Try.pinned.checked.prog.make = some .cut := make_of _ _ ini [Char.ofNat 99, Char.ofNat 117, Char.ofNat 116] _ rfl (by kernel_rfl) (by kernel_rfl)
theorem me : Try.pinned.checked.prog.mayEnter = true := enter_of _ _ ini [Char.ofNat 99, Char.ofNat 117, Char.ofNat 116] _ rfl (by kernel_rfl) (by kernel_rfl) (by kernel_rfl) (by kernel_rfl) (by kernel_rfl) (by kernel_rfl) (by kernel_rfl)
theorem lf : Try.pinned.checked.prog.liftsFinal = false := by
  unfold Program.liftsFinal Program.headLifts
  rw [ini]
  kernel_rfl
end Go.Proofs.Ytdoghlojgofmaaa.Ini
