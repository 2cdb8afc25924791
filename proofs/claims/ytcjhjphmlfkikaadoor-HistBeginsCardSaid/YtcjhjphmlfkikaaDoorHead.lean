/- The head of the translation, sign by sign; and the closed facts that read it. -/
import Derived.Test.YtcjhjphmlfkikaaDoorRows
import GoSem.ClaimSeven
import Derived.JoinedCond
set_option linter.unusedVariables false
set_option maxRecDepth 100000
namespace Go
theorem mainIs_of {P : Program} {l : List Char} {h s : List Char} {r : List (List Char)} (hi : P.initOrder.toList = l) (hw : wordsSigns l = h :: s :: r) (h1 : isSumSigns s = true) (h2 : (h == "harness".toList) = true) : P.mainIs = some (true, s) := by
  unfold Program.mainIs
  rw [hi, hw]
  simp only [h1, Bool.not_true, Bool.false_eq_true, if_false, h2, if_true]
theorem bw_of {P : Program} {l : List Char} {h s : List Char} {r : List (List Char)} (hi : P.initOrder.toList = l) (hw : wordsSigns l = h :: s :: r) (h1 : isSumSigns s = true) (h2 : (h == "harness".toList) = true) : behindMainWord (wordsSigns P.initOrder.toList) = r := by
  rw [hi, hw]
  simp only [behindMainWord, h1, h2, Bool.true_or, Bool.and_true, if_true]
theorem headLifts_of {P : Program} {r : List (List Char)} (hb : behindMainWord (wordsSigns P.initOrder.toList) = r) (hs : stripLifts liftWords r = ([], r)) : P.headLifts = [] := by
  unfold Program.headLifts
  rw [hb, hs]
  simp
theorem liftsFinal_of {P : Program} {r : List (List Char)} {c : List Char} (hb : behindMainWord (wordsSigns P.initOrder.toList) = r) (hl : P.headLifts = []) (hc : r.head? = some c) (hcc : (c == "carried".toList) = false) : P.liftsFinal = false := by
  unfold Program.liftsFinal
  rw [hb, hl]
  simp only [hc]
  have : (some c == some "carried".toList) = (c == "carried".toList) := rfl
  simp only [this, hcc]
  simp
theorem make_of {P : Program} {r : List (List Char)} {c : List Char} (hb : behindMainWord (wordsSigns P.initOrder.toList) = c :: r) (h1 : (c == "gc".toList || c == "spec".toList) = false) (h2 : (c == "cut".toList) = true) : P.make = some .cut := by
  unfold Program.make
  rw [hb]
  simp only [h1, h2]
  simp
theorem mayEnter_of {P : Program} {r : List (List Char)} {c : List Char} (hb : behindMainWord (wordsSigns P.initOrder.toList) = c :: r) (hs : stripLifts liftWords (c :: r) = ([], c :: r)) (h2 : (c == "cut".toList) = true) (hl : P.laysLater = false) (hr : P.bearsReflect = false) (hd : P.doorFits [] = true) : P.mayEnter = true := by
  unfold Program.mayEnter
  rw [hb]
  simp only [hs, hl, hr, hd]
  have : (some c == some "cut".toList) = (c == "cut".toList) := rfl
  simp only [List.head?_cons, this, h2]
  simp
end Go
namespace Go.Proofs.YtcjhjphmlfkikaaDoor.Head
abbrev chs_ (l : List Nat) : List Char := l.map Char.ofNat
def L : List Char := (chs_ [104, 97, 114, 110, 101, 115, 115, 32, 99, 99, 55, 49, 57, 55, 100, 101, 100, 100, 98, 48, 101, 54, 99, 48, 53, 52, 102, 100, 57, 48, 50, 57, 101, 100, 48, 52, 57, 52, 56, 97, 57, 55, 51, 56, 49, 49, 56, 51, 55, 97, 54, 102, 53, 51, 50, 53, 100, 101, 56, 57, 54, 98, 97, 99, 52, 53, 99, 97, 55, 51, 49, 48, 32, 99, 117, 116, 32, 97, 116, 32, 108, 111, 99, 107, 108, 101, 115, 115, 47, 108, 111, 99, 107, 108, 101, 115, 115, 108, 97, 119, 49, 55, 46, 72, 105, 115, 116, 65, 104, 101, 97, 100, 32, 108, 111, 99, 107, 108, 101, 115, 115, 47, 108, 111, 99, 107, 108, 101, 115, 115, 108, 97, 119, 49, 55, 46, 72, 105, 115, 116, 66, 101, 103, 105, 110, 115, 32, 108, 111, 99, 107, 108, 101, 115, 115, 47, 108, 111, 99, 107, 108, 101, 115, 115, 108, 97, 119, 49, 55, 46, 72, 105, 115, 116, 83, 112, 97, 110, 115, 32, 108, 111, 99, 107, 108, 101, 115, 115, 47, 108, 111, 99, 107, 108, 101, 115, 115, 108, 97, 119, 49, 55, 46, 72, 105, 115, 116, 80, 97, 114, 116, 115, 32, 108, 111, 99, 107, 108, 101, 115, 115, 47, 108, 111, 99, 107, 108, 101, 115, 115, 108, 97, 119, 49, 55, 46, 72, 105, 115, 116, 87, 105, 100, 101, 114, 32, 108, 111, 99, 107, 108, 101, 115, 115, 47, 108, 111, 99, 107, 108, 101, 115, 115, 108, 97, 119, 49, 55, 46, 72, 105, 115, 116, 67, 111, 109, 112, 97, 114, 101, 115, 32, 108, 111, 99, 107, 108, 101, 115, 115, 47, 108, 111, 99, 107, 108, 101, 115, 115, 108, 97, 119, 49, 55, 46, 72, 105, 115, 116, 87, 114, 105, 116, 101, 115, 32, 108, 111, 99, 107, 108, 101, 115, 115, 47, 108, 111, 99, 107, 108, 101, 115, 115, 108, 97, 119, 49, 55, 46, 72, 105, 115, 116, 82, 101, 97, 100, 115])
theorem io : Tryd.prog.initOrder = String.ofList L := by kernel_rfl
theorem ios : Tryd.prog.initOrder.toList = L := by rw [io, String.toList_ofList]
def W0 : List (List Char) := [(chs_ [104, 97, 114, 110, 101, 115, 115]), (chs_ [99, 99, 55, 49, 57, 55, 100, 101, 100, 100, 98, 48, 101, 54, 99, 48, 53, 52, 102, 100, 57, 48, 50, 57, 101, 100, 48, 52, 57, 52, 56, 97, 57, 55, 51, 56, 49, 49, 56, 51, 55, 97, 54, 102, 53, 51, 50, 53, 100, 101, 56, 57, 54, 98, 97, 99, 52, 53, 99, 97, 55, 51, 49, 48]), (chs_ [99, 117, 116]), (chs_ [97, 116]), (chs_ [108, 111, 99, 107, 108, 101, 115, 115, 47, 108, 111, 99, 107, 108, 101, 115, 115, 108, 97, 119, 49, 55, 46, 72, 105, 115, 116, 65, 104, 101, 97, 100]), (chs_ [108, 111, 99, 107, 108, 101, 115, 115, 47, 108, 111, 99, 107, 108, 101, 115, 115, 108, 97, 119, 49, 55, 46, 72, 105, 115, 116, 66, 101, 103, 105, 110, 115]), (chs_ [108, 111, 99, 107, 108, 101, 115, 115, 47, 108, 111, 99, 107, 108, 101, 115, 115, 108, 97, 119, 49, 55, 46, 72, 105, 115, 116, 83, 112, 97, 110, 115]), (chs_ [108, 111, 99, 107, 108, 101, 115, 115, 47, 108, 111, 99, 107, 108, 101, 115, 115, 108, 97, 119, 49, 55, 46, 72, 105, 115, 116, 80, 97, 114, 116, 115]), (chs_ [108, 111, 99, 107, 108, 101, 115, 115, 47, 108, 111, 99, 107, 108, 101, 115, 115, 108, 97, 119, 49, 55, 46, 72, 105, 115, 116, 87, 105, 100, 101, 114]), (chs_ [108, 111, 99, 107, 108, 101, 115, 115, 47, 108, 111, 99, 107, 108, 101, 115, 115, 108, 97, 119, 49, 55, 46, 72, 105, 115, 116, 67, 111, 109, 112, 97, 114, 101, 115]), (chs_ [108, 111, 99, 107, 108, 101, 115, 115, 47, 108, 111, 99, 107, 108, 101, 115, 115, 108, 97, 119, 49, 55, 46, 72, 105, 115, 116, 87, 114, 105, 116, 101, 115]), (chs_ [108, 111, 99, 107, 108, 101, 115, 115, 47, 108, 111, 99, 107, 108, 101, 115, 115, 108, 97, 119, 49, 55, 46, 72, 105, 115, 116, 82, 101, 97, 100, 115])]
def W : List (List Char) := [(chs_ [99, 117, 116]), (chs_ [97, 116]), (chs_ [108, 111, 99, 107, 108, 101, 115, 115, 47, 108, 111, 99, 107, 108, 101, 115, 115, 108, 97, 119, 49, 55, 46, 72, 105, 115, 116, 65, 104, 101, 97, 100]), (chs_ [108, 111, 99, 107, 108, 101, 115, 115, 47, 108, 111, 99, 107, 108, 101, 115, 115, 108, 97, 119, 49, 55, 46, 72, 105, 115, 116, 66, 101, 103, 105, 110, 115]), (chs_ [108, 111, 99, 107, 108, 101, 115, 115, 47, 108, 111, 99, 107, 108, 101, 115, 115, 108, 97, 119, 49, 55, 46, 72, 105, 115, 116, 83, 112, 97, 110, 115]), (chs_ [108, 111, 99, 107, 108, 101, 115, 115, 47, 108, 111, 99, 107, 108, 101, 115, 115, 108, 97, 119, 49, 55, 46, 72, 105, 115, 116, 80, 97, 114, 116, 115]), (chs_ [108, 111, 99, 107, 108, 101, 115, 115, 47, 108, 111, 99, 107, 108, 101, 115, 115, 108, 97, 119, 49, 55, 46, 72, 105, 115, 116, 87, 105, 100, 101, 114]), (chs_ [108, 111, 99, 107, 108, 101, 115, 115, 47, 108, 111, 99, 107, 108, 101, 115, 115, 108, 97, 119, 49, 55, 46, 72, 105, 115, 116, 67, 111, 109, 112, 97, 114, 101, 115]), (chs_ [108, 111, 99, 107, 108, 101, 115, 115, 47, 108, 111, 99, 107, 108, 101, 115, 115, 108, 97, 119, 49, 55, 46, 72, 105, 115, 116, 87, 114, 105, 116, 101, 115]), (chs_ [108, 111, 99, 107, 108, 101, 115, 115, 47, 108, 111, 99, 107, 108, 101, 115, 115, 108, 97, 119, 49, 55, 46, 72, 105, 115, 116, 82, 101, 97, 100, 115])]
theorem ws0 : wordsSigns L = W0 := by kernel_rfl
def hW : List Char := W0.getD 0 []
def sW : List Char := W0.getD 1 []
def cW : List Char := W.getD 0 []
theorem ws1 : wordsSigns L = hW :: sW :: W := ws0.trans (by kernel_rfl)
theorem h1 : isSumSigns sW = true := by kernel_rfl
theorem h2 : (hW == "harness".toList) = true := by kernel_rfl
theorem bw : behindMainWord (wordsSigns Tryd.prog.initOrder.toList) = W := bw_of ios ws1 h1 h2
theorem strip : stripLifts liftWords W = ([], W) := by kernel_rfl
theorem wc : W = cW :: W.tail := by kernel_rfl
theorem c2 : (cW == "cut".toList) = true := by kernel_rfl
theorem headLifts : Tryd.prog.headLifts = [] := headLifts_of bw strip
theorem lifts : Tryd.prog.liftsFinal = false := liftsFinal_of bw headLifts (by kernel_rfl : W.head? = some cW) (by kernel_rfl)
theorem make : Tryd.prog.make = some .cut := make_of (bw.trans wc) (by kernel_rfl) c2
theorem laysLater : Tryd.prog.laysLater = false := by kernel_rfl
theorem bears : Tryd.prog.bearsReflect = false := by kernel_rfl
theorem doors : Tryd.prog.doorFits [] = true := by kernel_rfl
theorem mayEnter : Tryd.prog.mayEnter = true := mayEnter_of (bw.trans wc) (by rw [← wc]; exact strip) c2 laysLater bears doors
theorem mainIs : Tryd.prog.mainIs = some (true, sW) := mainIs_of ios ws1 h1 h2
theorem sum_io : "cc7197deddb0e6c054fd9029ed04948a973811837a6f5325de896bac45ca7310".toList = sW := by
  rw [show "cc7197deddb0e6c054fd9029ed04948a973811837a6f5325de896bac45ca7310" = String.ofList sW from by kernel_rfl, String.toList_ofList]
end Go.Proofs.YtcjhjphmlfkikaaDoor.Head

