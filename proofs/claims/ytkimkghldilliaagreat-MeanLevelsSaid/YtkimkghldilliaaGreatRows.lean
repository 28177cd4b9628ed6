/-
  No cell of these rows narrows 'for every input' (looked for: loops, veiled, ifaces, maps, wideKeys, modest, calm, conditions, laid).
  DERIVED. THE GIVEN ROWS OF THIS SEAT. 3 by the template 'for every input the law returns true; each argument reads behind the call as it read before'; 0 by the template 'total and deterministic' (their statements: YtkimkghldilliaaGreatTotals.lean).
  GIVEN WITH THE SEED: the statements are not yours to turn. If you find one false, say at which input.
  Laid BY PROGRAM, IN A SANDBOX (cutbox-rows.mjs): the forced cells as the released guide's own fill.sh prints them over the translation ef613c80b070baf5… (all of the seat's roots in one cut). By AI agents, Wed Nov 11 2026. No macro, syntax, notation, axiom, sorry.
-/
import Derived.Test.YtkimkghldilliaaGreatChecked
import GoSem.Claim
import GoSem.ClaimJoined
import GoSem.ClaimMapViews
import Derived.JoinedTies
import Derived.KernelRfl
namespace Go.Proofs.YtkimkghldilliaaGreat
/- THE CELL 'sum', in the pinned program and in every row, IS THE sha256 OF THE DUMP (.gsa) THAT YtkimkghldilliaaGreatProg.lean LOADS. Nothing in Lean hashes anything: it is a label: what it is worth is what the hold of that sum in a sandbox is worth. -/
noncomputable def Tryz.pinned : Pinned := { name := "ytkimkghldilliaagreat", sum := "ef613c80b070baf54dc9d48ccfee1d3e959cc06b85234ba627603404e44679f7", checked := Tryz.checked }
namespace Rows
def none {H : Type} : Left H := { results := [], args := [] }

/-- 'seedlinglaw22.MeanTells': WHATEVER THE INPUT: true; the input reads as it did. -/
def meanTellsSpec : ChangeSpec := { name := "meanTells", fn := fun _ => fun
  | [d1, d2, d3] => { results := [.lit (.bool true)], args := [d1, d2, d3] }
  | _ => none }
def meanTellsRow : OpenClaim := { program := "ytkimkghldilliaagreat", sum := "ef613c80b070baf54dc9d48ccfee1d3e959cc06b85234ba627603404e44679f7", func := "seedling/seedlinglaw22.MeanTells", spec := "meanTells", unfollowed := true, recurses := true, plainKeys := false, apart := false }
def MeanTellsSaid : Prop := meanTellsRow.holds Tryz.pinned (OpenSpec.ofChange meanTellsSpec)

/-- ITS FALSE NEIGHBOUR: 'it returns false'. Refute it at one input. -/
def meanTellsWrong : ChangeSpec := { name := "meanTells", fn := fun _ => fun
  | [d1, d2, d3] => { results := [.lit (.bool false)], args := [d1, d2, d3] }
  | _ => none }
def MeanTellsWrongFalsely : Prop := meanTellsRow.holds Tryz.pinned (OpenSpec.ofChange meanTellsWrong)

/-- 'seedlinglaw22.MeanSmall': WHATEVER THE INPUT: true; the input reads as it did. -/
def meanSmallSpec : ChangeSpec := { name := "meanSmall", fn := fun _ => fun
  | [] => { results := [.lit (.bool true)], args := [] }
  | _ => none }
def meanSmallRow : OpenClaim := { program := "ytkimkghldilliaagreat", sum := "ef613c80b070baf54dc9d48ccfee1d3e959cc06b85234ba627603404e44679f7", func := "seedling/seedlinglaw22.MeanSmall", spec := "meanSmall", unfollowed := true, recurses := true, plainKeys := false, apart := false }
def MeanSmallSaid : Prop := meanSmallRow.holds Tryz.pinned (OpenSpec.ofChange meanSmallSpec)

/-- ITS FALSE NEIGHBOUR: 'it returns false'. Refute it at one input. -/
def meanSmallWrong : ChangeSpec := { name := "meanSmall", fn := fun _ => fun
  | [] => { results := [.lit (.bool false)], args := [] }
  | _ => none }
def MeanSmallWrongFalsely : Prop := meanSmallRow.holds Tryz.pinned (OpenSpec.ofChange meanSmallWrong)

/-- 'seedlinglaw22.MeanLevels': WHATEVER THE INPUT: true; the input reads as it did. -/
def meanLevelsSpec : ChangeSpec := { name := "meanLevels", fn := fun _ => fun
  | [d] => { results := [.lit (.bool true)], args := [d] }
  | _ => none }
def meanLevelsRow : OpenClaim := { program := "ytkimkghldilliaagreat", sum := "ef613c80b070baf54dc9d48ccfee1d3e959cc06b85234ba627603404e44679f7", func := "seedling/seedlinglaw22.MeanLevels", spec := "meanLevels", unfollowed := true, recurses := true, plainKeys := false, apart := false }
def MeanLevelsSaid : Prop := meanLevelsRow.holds Tryz.pinned (OpenSpec.ofChange meanLevelsSpec)

/-- ITS FALSE NEIGHBOUR: 'it returns false'. Refute it at one input. -/
def meanLevelsWrong : ChangeSpec := { name := "meanLevels", fn := fun _ => fun
  | [d] => { results := [.lit (.bool false)], args := [d] }
  | _ => none }
def MeanLevelsWrongFalsely : Prop := meanLevelsRow.holds Tryz.pinned (OpenSpec.ofChange meanLevelsWrong)

/- THE SECOND FORM. 'bulk': how many values and letters a reading holds, each counted each time it is reached (what is shared counts as often as it is met; a slice's spare places count too). A statement '..UptoSaid' is the law's where the arguments, and the package variables that the reading takes, are together of bulk at most 1048576: NARROWER than '..Said'. Prove '..Said' where nothing that the law and all that it calls make is longer than what came in: it says more and counts as full. Else prove '..UptoSaid'. A law counts once. -/
mutual
def uptoBulk {H : Type} : DataW H → Nat
  | .lit (.string bytes) => bytes.length + 1
  | .lit _ => 1
  | .nil => 1
  | .ptr d => uptoBulk d + 1
  | .slice elems spare => uptoBulkAll elems + uptoBulkAll spare + 1
  | .agg parts => uptoBulkAll parts + 1
  | .iface _ d => uptoBulk d + 1
  | .map entries => uptoBulkEntries entries + 1
  | .held _ => 1
def uptoBulkAll {H : Type} : List (DataW H) → Nat
  | [] => 0
  | d :: r => uptoBulk d + uptoBulkAll r
def uptoBulkEntries {H : Type} : List (Lit × DataW H) → Nat
  | [] => 0
  | x :: r => uptoBulkEntry x + uptoBulkEntries r
def uptoBulkEntry {H : Type} : Lit × DataW H → Nat
  | (.string bytes, d) => bytes.length + uptoBulk d + 1
  | (_, d) => uptoBulk d + 1
 end
def uptoSmall : (H : Type) → List (DataW H) → Bool := fun _ ds => decide (uptoBulkAll ds ≤ 1048576)
def OpenSpec.upto (s : _root_.Go.ChangeSpec) : _root_.Go.OpenSpec := { _root_.Go.OpenSpec.ofChange s with cond := some uptoSmall }

/-- 'seedlinglaw22.MeanTells', WHERE WHAT IT READS IS OF BULK AT MOST 1048576: true; the input reads as it did. -/
def meanTellsUptoRow : OpenClaim := { program := "ytkimkghldilliaagreat", sum := "ef613c80b070baf54dc9d48ccfee1d3e959cc06b85234ba627603404e44679f7", func := "seedling/seedlinglaw22.MeanTells", spec := "meanTells", unfollowed := true, recurses := true, plainKeys := false, apart := false, narrowed := true }
def MeanTellsUptoSaid : Prop := meanTellsUptoRow.holds Tryz.pinned (OpenSpec.upto meanTellsSpec)

/-- 'seedlinglaw22.MeanSmall', WHERE WHAT IT READS IS OF BULK AT MOST 1048576: true; the input reads as it did. -/
def meanSmallUptoRow : OpenClaim := { program := "ytkimkghldilliaagreat", sum := "ef613c80b070baf54dc9d48ccfee1d3e959cc06b85234ba627603404e44679f7", func := "seedling/seedlinglaw22.MeanSmall", spec := "meanSmall", unfollowed := true, recurses := true, plainKeys := false, apart := false, narrowed := true }
def MeanSmallUptoSaid : Prop := meanSmallUptoRow.holds Tryz.pinned (OpenSpec.upto meanSmallSpec)

/-- 'seedlinglaw22.MeanLevels', WHERE WHAT IT READS IS OF BULK AT MOST 1048576: true; the input reads as it did. -/
def meanLevelsUptoRow : OpenClaim := { program := "ytkimkghldilliaagreat", sum := "ef613c80b070baf54dc9d48ccfee1d3e959cc06b85234ba627603404e44679f7", func := "seedling/seedlinglaw22.MeanLevels", spec := "meanLevels", unfollowed := true, recurses := true, plainKeys := false, apart := false, narrowed := true }
def MeanLevelsUptoSaid : Prop := meanLevelsUptoRow.holds Tryz.pinned (OpenSpec.upto meanLevelsSpec)

end Rows
end Go.Proofs.YtkimkghldilliaaGreat
