/-
  Far: closed facts of the program that each law's proof asks.
-/
import Derived.Test.YtfhgmnlhmfnckaaLib
namespace Go.Proofs.Ytfhgmnlhmfnckaa
theorem Try.own : ownKnob Try.prog.godebug = none := by kernel_rfl
theorem Try.laidOut : laidOutB Try.prog = true := by kernel_rfl
theorem Try.cells5 : Try.prog.cellsOf 5 = 1 := by kernel_rfl
theorem Try.bytes5 : Try.prog.bytesOf 5 = 1 := by kernel_rfl
end Go.Proofs.Ytfhgmnlhmfnckaa
