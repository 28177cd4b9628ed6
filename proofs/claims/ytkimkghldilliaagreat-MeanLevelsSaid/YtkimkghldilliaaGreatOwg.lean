/-
  Closed facts of the program that each law's proof asks.
-/
import Derived.Test.YtkimkghldilliaaGreatLib
namespace Go.Proofs.YtkimkghldilliaaGreat
theorem Tryz.own : ownKnob Tryz.prog.godebug = none := by kernel_rfl
theorem Tryz.laidOut : laidOutB Tryz.prog = true := by kernel_rfl
theorem Tryz.cells3 : Tryz.prog.cellsOf 3 = 1 := by kernel_rfl
theorem Tryz.bytes3 : Tryz.prog.bytesOf 3 = 8 := by kernel_rfl
end Go.Proofs.YtkimkghldilliaaGreat
