/-
  No cell of these rows narrows 'for every input' (looked for: loops, veiled, ifaces, maps, wideKeys, modest, calm, conditions, laid).
  DERIVED. THE GIVEN ROWS OF THIS SEAT. 3 by the template 'for every input the law returns true; each argument reads behind the call as it read before'; 0 by the template 'total and deterministic' (their statements: YtkimkghldilliaaTotals.lean).
  GIVEN WITH THE SEED: the statements are not yours to turn. If you find one false, say at which input.
  Laid BY PROGRAM, IN A SANDBOX (cutbox-rows.mjs): the forced cells as the released guide's own fill.sh prints them over the translation 0a946f2ed74b9ec1… (all of the seat's roots in one cut). By AI agents, Wed Nov 11 2026. No macro, syntax, notation, axiom, sorry.
-/
import Derived.Test.YtkimkghldilliaaChecked
import GoSem.Claim
import GoSem.ClaimJoined
import GoSem.ClaimMapViews
import Derived.JoinedTies
import Derived.KernelRfl
namespace Go.Proofs.Ytkimkghldilliaa
/- THE CELL 'sum', in the pinned program and in every row, IS THE sha256 OF THE DUMP (.gsa) THAT YtkimkghldilliaaProg.lean LOADS. Nothing in Lean hashes anything: it is a label: what it is worth is what the hold of that sum in a sandbox is worth. -/
noncomputable def Try.pinned : Pinned := { name := "ytkimkghldilliaa", sum := "0a946f2ed74b9ec19e7a0de54d750ffb68d8e6c769236ecdb223ac34ca6e03a8", checked := Try.checked }
namespace Rows
def none {H : Type} : Left H := { results := [], args := [] }

/-- 'seedlinglaw22.MeanLeft': WHATEVER THE INPUT: true; the input reads as it did. -/
def meanLeftSpec : ChangeSpec := { name := "meanLeft", fn := fun _ => fun
  | [d1, d2, d3, d4, d5] => { results := [.lit (.bool true)], args := [d1, d2, d3, d4, d5] }
  | _ => none }
def meanLeftRow : OpenClaim := { program := "ytkimkghldilliaa", sum := "0a946f2ed74b9ec19e7a0de54d750ffb68d8e6c769236ecdb223ac34ca6e03a8", func := "seedling/seedlinglaw22.MeanLeft", spec := "meanLeft", unfollowed := true, recurses := true, plainKeys := false, apart := false }
def MeanLeftSaid : Prop := meanLeftRow.holds Try.pinned (OpenSpec.ofChange meanLeftSpec)

/-- ITS FALSE NEIGHBOUR: 'it returns false'. Refute it at one input. -/
def meanLeftWrong : ChangeSpec := { name := "meanLeft", fn := fun _ => fun
  | [d1, d2, d3, d4, d5] => { results := [.lit (.bool false)], args := [d1, d2, d3, d4, d5] }
  | _ => none }
def MeanLeftWrongFalsely : Prop := meanLeftRow.holds Try.pinned (OpenSpec.ofChange meanLeftWrong)

/-- 'seedlinglaw22.MeanSteps': WHATEVER THE INPUT: true; the input reads as it did. -/
def meanStepsSpec : ChangeSpec := { name := "meanSteps", fn := fun _ => fun
  | [d1, d2, d3, d4] => { results := [.lit (.bool true)], args := [d1, d2, d3, d4] }
  | _ => none }
def meanStepsRow : OpenClaim := { program := "ytkimkghldilliaa", sum := "0a946f2ed74b9ec19e7a0de54d750ffb68d8e6c769236ecdb223ac34ca6e03a8", func := "seedling/seedlinglaw22.MeanSteps", spec := "meanSteps", unfollowed := true, recurses := true, plainKeys := false, apart := false }
def MeanStepsSaid : Prop := meanStepsRow.holds Try.pinned (OpenSpec.ofChange meanStepsSpec)

/-- ITS FALSE NEIGHBOUR: 'it returns false'. Refute it at one input. -/
def meanStepsWrong : ChangeSpec := { name := "meanSteps", fn := fun _ => fun
  | [d1, d2, d3, d4] => { results := [.lit (.bool false)], args := [d1, d2, d3, d4] }
  | _ => none }
def MeanStepsWrongFalsely : Prop := meanStepsRow.holds Try.pinned (OpenSpec.ofChange meanStepsWrong)

/-- 'seedlinglaw22.MeanFits': WHATEVER THE INPUT: true; the input reads as it did. -/
def meanFitsSpec : ChangeSpec := { name := "meanFits", fn := fun _ => fun
  | [d1, d2, d3] => { results := [.lit (.bool true)], args := [d1, d2, d3] }
  | _ => none }
def meanFitsRow : OpenClaim := { program := "ytkimkghldilliaa", sum := "0a946f2ed74b9ec19e7a0de54d750ffb68d8e6c769236ecdb223ac34ca6e03a8", func := "seedling/seedlinglaw22.MeanFits", spec := "meanFits", unfollowed := true, recurses := true, plainKeys := false, apart := false }
def MeanFitsSaid : Prop := meanFitsRow.holds Try.pinned (OpenSpec.ofChange meanFitsSpec)

/-- ITS FALSE NEIGHBOUR: 'it returns false'. Refute it at one input. -/
def meanFitsWrong : ChangeSpec := { name := "meanFits", fn := fun _ => fun
  | [d1, d2, d3] => { results := [.lit (.bool false)], args := [d1, d2, d3] }
  | _ => none }
def MeanFitsWrongFalsely : Prop := meanFitsRow.holds Try.pinned (OpenSpec.ofChange meanFitsWrong)

/- THE SECOND FORM. 'bulk': how many values and letters a reading holds, each counted each time it is reached (what is shared counts as often as it is met; a slice's spare places count too). A statement '..UptoSaid' is the law's where the arguments, and the package variables that the reading takes, are together of bulk at most 1048576: NARROWER than '..Said'. Prove '..Said' where nothing that the law and all that it calls make is longer than what came in: it says more and counts as full. Else prove '..UptoSaid'. A law counts once. -/
mutual
def uptoBulk {H : Type} : DataW H → Nat
  | .lit (.string bytes) => bytes.length + 1
  | .lit _ => 1
  | .nil => 1
  | .ptr d => uptoBulk d + 1
  | .slice elems spare => uptoBulkAll elems + uptoBulkAll spare + 1
  | .agg parts => uptoBulkAll parts + 1
  | .iface _ d => uptoBulk d + 1
  | .map entries => uptoBulkEntries entries + 1
  | .held _ => 1
def uptoBulkAll {H : Type} : List (DataW H) → Nat
  | [] => 0
  | d :: r => uptoBulk d + uptoBulkAll r
def uptoBulkEntries {H : Type} : List (Lit × DataW H) → Nat
  | [] => 0
  | x :: r => uptoBulkEntry x + uptoBulkEntries r
def uptoBulkEntry {H : Type} : Lit × DataW H → Nat
  | (.string bytes, d) => bytes.length + uptoBulk d + 1
  | (_, d) => uptoBulk d + 1
 end
def uptoSmall : (H : Type) → List (DataW H) → Bool := fun _ ds => decide (uptoBulkAll ds ≤ 1048576)
def OpenSpec.upto (s : _root_.Go.ChangeSpec) : _root_.Go.OpenSpec := { _root_.Go.OpenSpec.ofChange s with cond := some uptoSmall }

/-- 'seedlinglaw22.MeanLeft', WHERE WHAT IT READS IS OF BULK AT MOST 1048576: true; the input reads as it did. -/
def meanLeftUptoRow : OpenClaim := { program := "ytkimkghldilliaa", sum := "0a946f2ed74b9ec19e7a0de54d750ffb68d8e6c769236ecdb223ac34ca6e03a8", func := "seedling/seedlinglaw22.MeanLeft", spec := "meanLeft", unfollowed := true, recurses := true, plainKeys := false, apart := false, narrowed := true }
def MeanLeftUptoSaid : Prop := meanLeftUptoRow.holds Try.pinned (OpenSpec.upto meanLeftSpec)

/-- 'seedlinglaw22.MeanSteps', WHERE WHAT IT READS IS OF BULK AT MOST 1048576: true; the input reads as it did. -/
def meanStepsUptoRow : OpenClaim := { program := "ytkimkghldilliaa", sum := "0a946f2ed74b9ec19e7a0de54d750ffb68d8e6c769236ecdb223ac34ca6e03a8", func := "seedling/seedlinglaw22.MeanSteps", spec := "meanSteps", unfollowed := true, recurses := true, plainKeys := false, apart := false, narrowed := true }
def MeanStepsUptoSaid : Prop := meanStepsUptoRow.holds Try.pinned (OpenSpec.upto meanStepsSpec)

/-- 'seedlinglaw22.MeanFits', WHERE WHAT IT READS IS OF BULK AT MOST 1048576: true; the input reads as it did. -/
def meanFitsUptoRow : OpenClaim := { program := "ytkimkghldilliaa", sum := "0a946f2ed74b9ec19e7a0de54d750ffb68d8e6c769236ecdb223ac34ca6e03a8", func := "seedling/seedlinglaw22.MeanFits", spec := "meanFits", unfollowed := true, recurses := true, plainKeys := false, apart := false, narrowed := true }
def MeanFitsUptoSaid : Prop := meanFitsUptoRow.holds Try.pinned (OpenSpec.upto meanFitsSpec)

end Rows
end Go.Proofs.Ytkimkghldilliaa
