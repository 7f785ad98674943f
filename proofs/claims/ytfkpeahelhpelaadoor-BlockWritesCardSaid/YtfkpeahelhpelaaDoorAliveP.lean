/- The live question, plainly. -/
import Derived.Test.YtfkpeahelhpelaaDoorRead
namespace Go.Proofs.YtfkpeahelhpelaaDoor
set_option linter.all false
open Go.RowKit

def fMethod : FieldS := (⟨#[58, 109, 101, 116, 104, 111, 100]⟩, ⟨#[71, 69, 84]⟩)
def fPath : FieldS := (⟨#[58, 112, 97, 116, 104]⟩, ⟨#[97]⟩)
def fBc : FieldS := (⟨#[98]⟩, ⟨#[99]⟩)
def fXy : FieldS := (⟨#[120]⟩, ⟨#[121]⟩)
def aB1 : List UInt8 := [130, 68, 1, 97, 64, 1, 98, 1, 99]
def aB2 : List UInt8 := [190, 191]
def aB3 : List UInt8 := [32, 190]
def aB4 : List UInt8 := [32, 130, 0, 1, 120, 1, 121]
def aT1 : Tb := ⟨[fPath, fBc], 100, 100⟩
def aT3 : Tb := ⟨[], 100, 0⟩
theorem a_1 : bdec 999 aB1 ⟨[], 100, 100⟩ = (([fMethod, fPath, fBc], false, 0), aT1) := by kernel_rfl
theorem a_2 : bdec 70 aB2 aT1 = (([], true, 0), aT1) := by kernel_rfl
theorem a_3 : bdec 999 aB3 aT1 = (([], false, 3), aT3) := by kernel_rfl
theorem a_4 : benc [fMethod, fXy] true = (aB4, 0) := by kernel_rfl
end Go.Proofs.YtfkpeahelhpelaaDoor
