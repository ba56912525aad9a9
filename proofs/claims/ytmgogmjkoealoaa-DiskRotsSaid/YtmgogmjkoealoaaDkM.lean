/- The examples of the documentation on plain data: what each of them answers. -/
import Derived.Test.YtmgogmjkoealoaaDkL
import Derived.KernelRfl
namespace Go.Disk
open Go Go.Proofs.Ytmgogmjkoealoaa
def e0 : Dk := newD 2
def e1 : Dk := writeD e0 0 (fullZ 97)
def e2 : Dk := mountD e1 [3]
def e3 : Dk := writeD e2 1 (fullZ 97)
def e4 : Dk := flushD e3
def e5 : Dk := rotD e4 1 0
def e6 : Dk := wearD e5 0
def e7 : Dk := tripD e6 1
def e8 : Dk := writeD e7 0 (fullZ 98)
def e9 : Dk := flushD e8
def x5 : ByteArray := rotB (fullZ 97) 0
def b2 : ByteArray := (fullZ 97).extract 0 3 ++ zeros.extract 3 64
theorem f1 : writeE e0 0 (fullZ 97) = 0 := of_decide_eq_true (by kernel_rfl)
theorem f2 : readZ e1 0 = (fullZ 97, 0) := of_decide_eq_true (by kernel_rfl)
theorem f3 : imageZ e1 = [zeros, zeros] := of_decide_eq_true (by kernel_rfl)
theorem f4 : pendZ e1.s 0 = [0] := of_decide_eq_true (by kernel_rfl)
theorem f5 : readZ e2 0 = (b2, 0) := of_decide_eq_true (by kernel_rfl)
theorem f6 : flushE e3 = 0 := of_decide_eq_true (by kernel_rfl)
theorem f7 : rotOk e4 1 0 = true := of_decide_eq_true (by kernel_rfl)
theorem f8 : readZ e5 1 = (x5, 0) := of_decide_eq_true (by kernel_rfl)
theorem f9 : e5.isIn 0 = true := of_decide_eq_true (by kernel_rfl)
theorem f10 : writeE e7 0 (fullZ 98) = 0 := of_decide_eq_true (by kernel_rfl)
theorem f11 : flushE e8 = 25 := of_decide_eq_true (by kernel_rfl)
theorem f12 : readZ e9 0 = (ByteArray.empty, 25) := of_decide_eq_true (by kernel_rfl)
theorem f13 : wornZ e9.s 0 = [0] := of_decide_eq_true (by kernel_rfl)
theorem f14 : e9.off = true ∧ e9.s.length = 2 ∧ e1.off = false := of_decide_eq_true (by kernel_rfl)
theorem f15 : fullZ 0 = zeros := of_decide_eq_true (by kernel_rfl)
theorem f16 : x5.size = 64 ∧ nums x5 = 96 :: List.replicate 63 97 := of_decide_eq_true (by kernel_rfl)
theorem f17 : b2 = ⟨#[97, 97, 97]⟩ ++ zeros.extract 3 64 := of_decide_eq_true (by kernel_rfl)
end Go.Disk
