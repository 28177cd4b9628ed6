/-
  No cell of these rows narrows 'for every input' (looked for: loops, veiled, ifaces, maps, wideKeys, modest, calm, conditions, laid).
  DERIVED. THE GIVEN ROWS OF THIS SEAT. 4 by the template 'for every input the law returns true; each argument reads behind the call as it read before'; 0 by the template 'total and deterministic' (their statements: YtebgleehmgmfbaaTotals.lean).
  GIVEN WITH THE SEED: the statements are not yours to turn. If you find one false, say at which input.
  Laid BY PROGRAM, IN A SANDBOX (cutbox-rows.mjs): the forced cells as the released guide's own fill.sh prints them over the translation b6dde733401de236… (all of the seat's roots in one cut). By AI agents, Wed Nov 11 2026. No macro, syntax, notation, axiom, sorry.
-/
import Derived.Test.YtebgleehmgmfbaaChecked
import GoSem.Claim
import GoSem.ClaimJoined
import GoSem.ClaimMapViews
import Derived.JoinedTies
import Derived.KernelRfl
namespace Go.Proofs.Ytebgleehmgmfbaa
/- THE CELL 'sum', in the pinned program and in every row, IS THE sha256 OF THE DUMP (.gsa) THAT YtebgleehmgmfbaaProg.lean LOADS. Nothing in Lean hashes anything: it is a label: what it is worth is what the hold of that sum in a sandbox is worth. -/
noncomputable def Try.pinned : Pinned := { name := "ytebgleehmgmfbaa", sum := "b6dde733401de23638bd071f219abd22a21d62ae8e079e47af371d451fe92468", checked := Try.checked }
namespace Rows
def none {H : Type} : Left H := { results := [], args := [] }

/-- 'seedlinglaw26.GrowDoes': WHATEVER THE INPUT: true; the input reads as it did. -/
def growDoesSpec : ChangeSpec := { name := "growDoes", fn := fun _ => fun
  | [d1, d2, d3, d4] => { results := [.lit (.bool true)], args := [d1, d2, d3, d4] }
  | _ => none }
def growDoesRow : OpenClaim := { program := "ytebgleehmgmfbaa", sum := "b6dde733401de23638bd071f219abd22a21d62ae8e079e47af371d451fe92468", func := "seedling/seedlinglaw26.GrowDoes", spec := "growDoes", unfollowed := true, recurses := true, plainKeys := false, apart := false }
def GrowDoesSaid : Prop := growDoesRow.holds Try.pinned (OpenSpec.ofChange growDoesSpec)

/-- ITS FALSE NEIGHBOUR: 'it returns false'. Refute it at one input. -/
def growDoesWrong : ChangeSpec := { name := "growDoes", fn := fun _ => fun
  | [d1, d2, d3, d4] => { results := [.lit (.bool false)], args := [d1, d2, d3, d4] }
  | _ => none }
def GrowDoesWrongFalsely : Prop := growDoesRow.holds Try.pinned (OpenSpec.ofChange growDoesWrong)

/-- 'seedlinglaw26.GrowSmall': WHATEVER THE INPUT: true; the input reads as it did. -/
def growSmallSpec : ChangeSpec := { name := "growSmall", fn := fun _ => fun
  | [] => { results := [.lit (.bool true)], args := [] }
  | _ => none }
def growSmallRow : OpenClaim := { program := "ytebgleehmgmfbaa", sum := "b6dde733401de23638bd071f219abd22a21d62ae8e079e47af371d451fe92468", func := "seedling/seedlinglaw26.GrowSmall", spec := "growSmall", unfollowed := true, recurses := true, plainKeys := false, apart := false }
def GrowSmallSaid : Prop := growSmallRow.holds Try.pinned (OpenSpec.ofChange growSmallSpec)

/-- ITS FALSE NEIGHBOUR: 'it returns false'. Refute it at one input. -/
def growSmallWrong : ChangeSpec := { name := "growSmall", fn := fun _ => fun
  | [] => { results := [.lit (.bool false)], args := [] }
  | _ => none }
def GrowSmallWrongFalsely : Prop := growSmallRow.holds Try.pinned (OpenSpec.ofChange growSmallWrong)

/-- 'seedlinglaw26.GrowRises': WHATEVER THE INPUT: true; the input reads as it did. -/
def growRisesSpec : ChangeSpec := { name := "growRises", fn := fun _ => fun
  | [d1, d2, d3, d4] => { results := [.lit (.bool true)], args := [d1, d2, d3, d4] }
  | _ => none }
def growRisesRow : OpenClaim := { program := "ytebgleehmgmfbaa", sum := "b6dde733401de23638bd071f219abd22a21d62ae8e079e47af371d451fe92468", func := "seedling/seedlinglaw26.GrowRises", spec := "growRises", unfollowed := true, recurses := true, plainKeys := false, apart := false }
def GrowRisesSaid : Prop := growRisesRow.holds Try.pinned (OpenSpec.ofChange growRisesSpec)

/-- ITS FALSE NEIGHBOUR: 'it returns false'. Refute it at one input. -/
def growRisesWrong : ChangeSpec := { name := "growRises", fn := fun _ => fun
  | [d1, d2, d3, d4] => { results := [.lit (.bool false)], args := [d1, d2, d3, d4] }
  | _ => none }
def GrowRisesWrongFalsely : Prop := growRisesRow.holds Try.pinned (OpenSpec.ofChange growRisesWrong)

/-- 'seedlinglaw26.GrowBack': WHATEVER THE INPUT: true; the input reads as it did. -/
def growBackSpec : ChangeSpec := { name := "growBack", fn := fun _ => fun
  | [d1, d2, d3, d4] => { results := [.lit (.bool true)], args := [d1, d2, d3, d4] }
  | _ => none }
def growBackRow : OpenClaim := { program := "ytebgleehmgmfbaa", sum := "b6dde733401de23638bd071f219abd22a21d62ae8e079e47af371d451fe92468", func := "seedling/seedlinglaw26.GrowBack", spec := "growBack", unfollowed := true, recurses := true, plainKeys := false, apart := false }
def GrowBackSaid : Prop := growBackRow.holds Try.pinned (OpenSpec.ofChange growBackSpec)

/-- ITS FALSE NEIGHBOUR: 'it returns false'. Refute it at one input. -/
def growBackWrong : ChangeSpec := { name := "growBack", fn := fun _ => fun
  | [d1, d2, d3, d4] => { results := [.lit (.bool false)], args := [d1, d2, d3, d4] }
  | _ => none }
def GrowBackWrongFalsely : Prop := growBackRow.holds Try.pinned (OpenSpec.ofChange growBackWrong)

/- THE SECOND FORM. 'bulk': how many values and letters a reading holds, each counted each time it is reached (what is shared counts as often as it is met; a slice's spare places count too). A statement '..UptoSaid' is the law's where the arguments, and the package variables that the reading takes, are together of bulk at most 1048576: NARROWER than '..Said'. Prove '..Said' where nothing that the law and all that it calls make is longer than what came in: it says more and counts as full. Else prove '..UptoSaid'. A law counts once. -/
mutual
def uptoBulk {H : Type} : DataW H → Nat
  | .lit (.string bytes) => bytes.length + 1
  | .lit _ => 1
  | .nil => 1
  | .ptr d => uptoBulk d + 1
  | .slice elems spare => uptoBulkAll elems + uptoBulkAll spare + 1
  | .agg parts => uptoBulkAll parts + 1
  | .iface _ d => uptoBulk d + 1
  | .map entries => uptoBulkEntries entries + 1
  | .held _ => 1
def uptoBulkAll {H : Type} : List (DataW H) → Nat
  | [] => 0
  | d :: r => uptoBulk d + uptoBulkAll r
def uptoBulkEntries {H : Type} : List (Lit × DataW H) → Nat
  | [] => 0
  | x :: r => uptoBulkEntry x + uptoBulkEntries r
def uptoBulkEntry {H : Type} : Lit × DataW H → Nat
  | (.string bytes, d) => bytes.length + uptoBulk d + 1
  | (_, d) => uptoBulk d + 1
 end
def uptoSmall : (H : Type) → List (DataW H) → Bool := fun _ ds => decide (uptoBulkAll ds ≤ 1048576)
def OpenSpec.upto (s : _root_.Go.ChangeSpec) : _root_.Go.OpenSpec := { _root_.Go.OpenSpec.ofChange s with cond := some uptoSmall }

/-- 'seedlinglaw26.GrowDoes', WHERE WHAT IT READS IS OF BULK AT MOST 1048576: true; the input reads as it did. -/
def growDoesUptoRow : OpenClaim := { program := "ytebgleehmgmfbaa", sum := "b6dde733401de23638bd071f219abd22a21d62ae8e079e47af371d451fe92468", func := "seedling/seedlinglaw26.GrowDoes", spec := "growDoes", unfollowed := true, recurses := true, plainKeys := false, apart := false, narrowed := true }
def GrowDoesUptoSaid : Prop := growDoesUptoRow.holds Try.pinned (OpenSpec.upto growDoesSpec)

/-- 'seedlinglaw26.GrowSmall', WHERE WHAT IT READS IS OF BULK AT MOST 1048576: true; the input reads as it did. -/
def growSmallUptoRow : OpenClaim := { program := "ytebgleehmgmfbaa", sum := "b6dde733401de23638bd071f219abd22a21d62ae8e079e47af371d451fe92468", func := "seedling/seedlinglaw26.GrowSmall", spec := "growSmall", unfollowed := true, recurses := true, plainKeys := false, apart := false, narrowed := true }
def GrowSmallUptoSaid : Prop := growSmallUptoRow.holds Try.pinned (OpenSpec.upto growSmallSpec)

/-- 'seedlinglaw26.GrowRises', WHERE WHAT IT READS IS OF BULK AT MOST 1048576: true; the input reads as it did. -/
def growRisesUptoRow : OpenClaim := { program := "ytebgleehmgmfbaa", sum := "b6dde733401de23638bd071f219abd22a21d62ae8e079e47af371d451fe92468", func := "seedling/seedlinglaw26.GrowRises", spec := "growRises", unfollowed := true, recurses := true, plainKeys := false, apart := false, narrowed := true }
def GrowRisesUptoSaid : Prop := growRisesUptoRow.holds Try.pinned (OpenSpec.upto growRisesSpec)

/-- 'seedlinglaw26.GrowBack', WHERE WHAT IT READS IS OF BULK AT MOST 1048576: true; the input reads as it did. -/
def growBackUptoRow : OpenClaim := { program := "ytebgleehmgmfbaa", sum := "b6dde733401de23638bd071f219abd22a21d62ae8e079e47af371d451fe92468", func := "seedling/seedlinglaw26.GrowBack", spec := "growBack", unfollowed := true, recurses := true, plainKeys := false, apart := false, narrowed := true }
def GrowBackUptoSaid : Prop := growBackUptoRow.holds Try.pinned (OpenSpec.upto growBackSpec)

end Rows
end Go.Proofs.Ytebgleehmgmfbaa
