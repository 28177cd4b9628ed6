/-
  No cell of these rows narrows 'for every input' (looked for: loops, veiled, ifaces, maps, wideKeys, modest, calm, conditions, laid).
  DERIVED. THE GIVEN ROWS OF THIS SEAT. 5 by the template 'for every input the law returns true; each argument reads behind the call as it read before'; 0 by the template 'total and deterministic' (their statements: YtfhgmnlhmfnckaaTotals.lean).
  GIVEN WITH THE SEED: the statements are not yours to turn. If you find one false, say at which input.
  Laid BY PROGRAM, IN A SANDBOX (cutbox-rows.mjs): the forced cells as the released guide's own fill.sh prints them over the translation 146f5e19493bde6e… (all of the seat's roots in one cut). By AI agents, Wed Nov 11 2026. No macro, syntax, notation, axiom, sorry.
-/
import Derived.Test.YtfhgmnlhmfnckaaChecked
import GoSem.Claim
import GoSem.ClaimJoined
import GoSem.ClaimMapViews
import Derived.JoinedTies
import Derived.KernelRfl
namespace Go.Proofs.Ytfhgmnlhmfnckaa
/- THE CELL 'sum', in the pinned program and in every row, IS THE sha256 OF THE DUMP (.gsa) THAT YtfhgmnlhmfnckaaProg.lean LOADS. Nothing in Lean hashes anything: it is a label: what it is worth is what the hold of that sum in a sandbox is worth. -/
noncomputable def Try.pinned : Pinned := { name := "ytfhgmnlhmfnckaa", sum := "146f5e19493bde6e57247edced7318c706a9b61379ca521224e2cdff7a76412d", checked := Try.checked }
namespace Rows
def none {H : Type} : Left H := { results := [], args := [] }

/-- 'seedlinglaw23.FarMost': WHATEVER THE INPUT: true; the input reads as it did. -/
def farMostSpec : ChangeSpec := { name := "farMost", fn := fun _ => fun
  | [d1, d2] => { results := [.lit (.bool true)], args := [d1, d2] }
  | _ => none }
def farMostRow : OpenClaim := { program := "ytfhgmnlhmfnckaa", sum := "146f5e19493bde6e57247edced7318c706a9b61379ca521224e2cdff7a76412d", func := "seedling/seedlinglaw23.FarMost", spec := "farMost", unfollowed := true, recurses := true, apart := false }
def FarMostSaid : Prop := farMostRow.holds Try.pinned (OpenSpec.ofChange farMostSpec)

/-- ITS FALSE NEIGHBOUR: 'it returns false'. Refute it at one input. -/
def farMostWrong : ChangeSpec := { name := "farMost", fn := fun _ => fun
  | [d1, d2] => { results := [.lit (.bool false)], args := [d1, d2] }
  | _ => none }
def FarMostWrongFalsely : Prop := farMostRow.holds Try.pinned (OpenSpec.ofChange farMostWrong)

/-- 'seedlinglaw23.FarParts': WHATEVER THE INPUT: true; the input reads as it did. -/
def farPartsSpec : ChangeSpec := { name := "farParts", fn := fun _ => fun
  | [d1, d2, d3, d4] => { results := [.lit (.bool true)], args := [d1, d2, d3, d4] }
  | _ => none }
def farPartsRow : OpenClaim := { program := "ytfhgmnlhmfnckaa", sum := "146f5e19493bde6e57247edced7318c706a9b61379ca521224e2cdff7a76412d", func := "seedling/seedlinglaw23.FarParts", spec := "farParts", unfollowed := true, recurses := true, apart := false }
def FarPartsSaid : Prop := farPartsRow.holds Try.pinned (OpenSpec.ofChange farPartsSpec)

/-- ITS FALSE NEIGHBOUR: 'it returns false'. Refute it at one input. -/
def farPartsWrong : ChangeSpec := { name := "farParts", fn := fun _ => fun
  | [d1, d2, d3, d4] => { results := [.lit (.bool false)], args := [d1, d2, d3, d4] }
  | _ => none }
def FarPartsWrongFalsely : Prop := farPartsRow.holds Try.pinned (OpenSpec.ofChange farPartsWrong)

/-- 'seedlinglaw23.FarText': WHATEVER THE INPUT: true; the input reads as it did. -/
def farTextSpec : ChangeSpec := { name := "farText", fn := fun _ => fun
  | [d1, d2, d3] => { results := [.lit (.bool true)], args := [d1, d2, d3] }
  | _ => none }
def farTextRow : OpenClaim := { program := "ytfhgmnlhmfnckaa", sum := "146f5e19493bde6e57247edced7318c706a9b61379ca521224e2cdff7a76412d", func := "seedling/seedlinglaw23.FarText", spec := "farText", unfollowed := true, recurses := true, apart := false }
def FarTextSaid : Prop := farTextRow.holds Try.pinned (OpenSpec.ofChange farTextSpec)

/-- ITS FALSE NEIGHBOUR: 'it returns false'. Refute it at one input. -/
def farTextWrong : ChangeSpec := { name := "farText", fn := fun _ => fun
  | [d1, d2, d3] => { results := [.lit (.bool false)], args := [d1, d2, d3] }
  | _ => none }
def FarTextWrongFalsely : Prop := farTextRow.holds Try.pinned (OpenSpec.ofChange farTextWrong)

/-- 'seedlinglaw23.FarDoes': WHATEVER THE INPUT: true; the input reads as it did. -/
def farDoesSpec : ChangeSpec := { name := "farDoes", fn := fun _ => fun
  | [d1, d2] => { results := [.lit (.bool true)], args := [d1, d2] }
  | _ => none }
def farDoesRow : OpenClaim := { program := "ytfhgmnlhmfnckaa", sum := "146f5e19493bde6e57247edced7318c706a9b61379ca521224e2cdff7a76412d", func := "seedling/seedlinglaw23.FarDoes", spec := "farDoes", unfollowed := true, recurses := true, apart := false }
def FarDoesSaid : Prop := farDoesRow.holds Try.pinned (OpenSpec.ofChange farDoesSpec)

/-- ITS FALSE NEIGHBOUR: 'it returns false'. Refute it at one input. -/
def farDoesWrong : ChangeSpec := { name := "farDoes", fn := fun _ => fun
  | [d1, d2] => { results := [.lit (.bool false)], args := [d1, d2] }
  | _ => none }
def FarDoesWrongFalsely : Prop := farDoesRow.holds Try.pinned (OpenSpec.ofChange farDoesWrong)

/-- 'seedlinglaw23.FarSmall': WHATEVER THE INPUT: true; the input reads as it did. -/
def farSmallSpec : ChangeSpec := { name := "farSmall", fn := fun _ => fun
  | [] => { results := [.lit (.bool true)], args := [] }
  | _ => none }
def farSmallRow : OpenClaim := { program := "ytfhgmnlhmfnckaa", sum := "146f5e19493bde6e57247edced7318c706a9b61379ca521224e2cdff7a76412d", func := "seedling/seedlinglaw23.FarSmall", spec := "farSmall", unfollowed := true, recurses := true, apart := false }
def FarSmallSaid : Prop := farSmallRow.holds Try.pinned (OpenSpec.ofChange farSmallSpec)

/-- ITS FALSE NEIGHBOUR: 'it returns false'. Refute it at one input. -/
def farSmallWrong : ChangeSpec := { name := "farSmall", fn := fun _ => fun
  | [] => { results := [.lit (.bool false)], args := [] }
  | _ => none }
def FarSmallWrongFalsely : Prop := farSmallRow.holds Try.pinned (OpenSpec.ofChange farSmallWrong)

/- THE SECOND FORM. 'bulk': how many values and letters a reading holds, each counted each time it is reached (what is shared counts as often as it is met; a slice's spare places count too). A statement '..UptoSaid' is the law's where the arguments, and the package variables that the reading takes, are together of bulk at most 1048576: NARROWER than '..Said'. Prove '..Said' where nothing that the law and all that it calls make is longer than what came in: it says more and counts as full. Else prove '..UptoSaid'. A law counts once. -/
mutual
def uptoBulk {H : Type} : DataW H → Nat
  | .lit (.string bytes) => bytes.length + 1
  | .lit _ => 1
  | .nil => 1
  | .ptr d => uptoBulk d + 1
  | .slice elems spare => uptoBulkAll elems + uptoBulkAll spare + 1
  | .agg parts => uptoBulkAll parts + 1
  | .iface _ d => uptoBulk d + 1
  | .map entries => uptoBulkEntries entries + 1
  | .held _ => 1
def uptoBulkAll {H : Type} : List (DataW H) → Nat
  | [] => 0
  | d :: r => uptoBulk d + uptoBulkAll r
def uptoBulkEntries {H : Type} : List (Lit × DataW H) → Nat
  | [] => 0
  | x :: r => uptoBulkEntry x + uptoBulkEntries r
def uptoBulkEntry {H : Type} : Lit × DataW H → Nat
  | (.string bytes, d) => bytes.length + uptoBulk d + 1
  | (_, d) => uptoBulk d + 1
 end
def uptoSmall : (H : Type) → List (DataW H) → Bool := fun _ ds => decide (uptoBulkAll ds ≤ 1048576)
def OpenSpec.upto (s : _root_.Go.ChangeSpec) : _root_.Go.OpenSpec := { _root_.Go.OpenSpec.ofChange s with cond := some uptoSmall }

/-- 'seedlinglaw23.FarMost', WHERE WHAT IT READS IS OF BULK AT MOST 1048576: true; the input reads as it did. -/
def farMostUptoRow : OpenClaim := { program := "ytfhgmnlhmfnckaa", sum := "146f5e19493bde6e57247edced7318c706a9b61379ca521224e2cdff7a76412d", func := "seedling/seedlinglaw23.FarMost", spec := "farMost", unfollowed := true, recurses := true, apart := false, narrowed := true }
def FarMostUptoSaid : Prop := farMostUptoRow.holds Try.pinned (OpenSpec.upto farMostSpec)

/-- 'seedlinglaw23.FarParts', WHERE WHAT IT READS IS OF BULK AT MOST 1048576: true; the input reads as it did. -/
def farPartsUptoRow : OpenClaim := { program := "ytfhgmnlhmfnckaa", sum := "146f5e19493bde6e57247edced7318c706a9b61379ca521224e2cdff7a76412d", func := "seedling/seedlinglaw23.FarParts", spec := "farParts", unfollowed := true, recurses := true, apart := false, narrowed := true }
def FarPartsUptoSaid : Prop := farPartsUptoRow.holds Try.pinned (OpenSpec.upto farPartsSpec)

/-- 'seedlinglaw23.FarText', WHERE WHAT IT READS IS OF BULK AT MOST 1048576: true; the input reads as it did. -/
def farTextUptoRow : OpenClaim := { program := "ytfhgmnlhmfnckaa", sum := "146f5e19493bde6e57247edced7318c706a9b61379ca521224e2cdff7a76412d", func := "seedling/seedlinglaw23.FarText", spec := "farText", unfollowed := true, recurses := true, apart := false, narrowed := true }
def FarTextUptoSaid : Prop := farTextUptoRow.holds Try.pinned (OpenSpec.upto farTextSpec)

/-- 'seedlinglaw23.FarDoes', WHERE WHAT IT READS IS OF BULK AT MOST 1048576: true; the input reads as it did. -/
def farDoesUptoRow : OpenClaim := { program := "ytfhgmnlhmfnckaa", sum := "146f5e19493bde6e57247edced7318c706a9b61379ca521224e2cdff7a76412d", func := "seedling/seedlinglaw23.FarDoes", spec := "farDoes", unfollowed := true, recurses := true, apart := false, narrowed := true }
def FarDoesUptoSaid : Prop := farDoesUptoRow.holds Try.pinned (OpenSpec.upto farDoesSpec)

/-- 'seedlinglaw23.FarSmall', WHERE WHAT IT READS IS OF BULK AT MOST 1048576: true; the input reads as it did. -/
def farSmallUptoRow : OpenClaim := { program := "ytfhgmnlhmfnckaa", sum := "146f5e19493bde6e57247edced7318c706a9b61379ca521224e2cdff7a76412d", func := "seedling/seedlinglaw23.FarSmall", spec := "farSmall", unfollowed := true, recurses := true, apart := false, narrowed := true }
def FarSmallUptoSaid : Prop := farSmallUptoRow.holds Try.pinned (OpenSpec.upto farSmallSpec)

end Rows
end Go.Proofs.Ytfhgmnlhmfnckaa
