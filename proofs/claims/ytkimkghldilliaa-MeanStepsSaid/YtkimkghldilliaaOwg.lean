/-
  Closed facts of the program that each law's proof asks.
-/
import Derived.Test.YtkimkghldilliaaLib
namespace Go.Proofs.Ytkimkghldilliaa
theorem Try.own : ownKnob Try.prog.godebug = none := by kernel_rfl
theorem Try.laidOut : laidOutB Try.prog = true := by kernel_rfl
theorem Try.cells3 : Try.prog.cellsOf 3 = 1 := by kernel_rfl
theorem Try.bytes3 : Try.prog.bytesOf 3 = 8 := by kernel_rfl
end Go.Proofs.Ytkimkghldilliaa
