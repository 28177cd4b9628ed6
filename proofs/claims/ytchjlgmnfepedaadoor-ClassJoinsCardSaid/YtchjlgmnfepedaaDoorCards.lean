/-
  DERIVED. GIVEN WITH THE SEED: THE CARDS: each row of YtchjlgmnfepedaaDoorRows.lean that lists a variable, with what it lists TIED to the program's text (the seventh form; the later family's looks); each row that meets fmt, with fmt's text TOLD by the authors' own Lean function (tested against real Go, not proved from fmt's source: count such statements apart). THE CARD IS WHAT COUNTS. Prove the row's statement (the work); the ties are given (YtchjlgmnfepedaaDoorTie.lean); close each card by the builder's one call (the guide's Derived/Test/ToyasCard.lean, 'card_holds'). Laid BY PROGRAM, IN A SANDBOX (cutbox-door.mjs). By AI agents, Wed Nov 11 2026. No macro, syntax, notation, axiom, sorry.
-/
import Derived.Test.YtchjlgmnfepedaaDoorRows
import GoSem.ClaimSeven
namespace Go.Proofs.YtchjlgmnfepedaaDoor
namespace Rows

/-- THE TIED CARD OF 'seedlinglaw01.ClassJoins'. -/
def classJoinsCard : Claim7 := { stood := { row := classJoinsRow, standIns := [], harness := (true, "f8674c20b00ce4d20ece53f17cd8bc1da131d4055bc25208560782fe812907d9"), looks := false }, kinds := [], alts := [], laidByText := true, laidKinds := [.data], laidTests := true, laidLooks := .later }
def ClassJoinsCardSaid : Prop := Claim7.holds Tryd.pinned (.plain (OpenSpec.ofChange classJoinsSpec)) classJoinsCard

/-- THE TIED CARD OF 'seedlinglaw01.ClassRules'. -/
def classRulesCard : Claim7 := { stood := { row := classRulesRow, standIns := [], harness := (true, "f8674c20b00ce4d20ece53f17cd8bc1da131d4055bc25208560782fe812907d9"), looks := false }, kinds := [], alts := [], laidByText := true, laidKinds := [.data], laidTests := true, laidLooks := .later }
def ClassRulesCardSaid : Prop := Claim7.holds Tryd.pinned (.plain (OpenSpec.ofChange classRulesSpec)) classRulesCard

/-- THE TIED CARD OF 'seedlinglaw01.ClassRuns'. -/
def classRunsCard : Claim7 := { stood := { row := classRunsRow, standIns := [], harness := (true, "f8674c20b00ce4d20ece53f17cd8bc1da131d4055bc25208560782fe812907d9"), looks := false }, kinds := [], alts := [], laidByText := true, laidKinds := [.data], laidTests := true, laidLooks := .later }
def ClassRunsCardSaid : Prop := Claim7.holds Tryd.pinned (.plain (OpenSpec.ofChange classRunsSpec)) classRunsCard

/-- THE SECOND FORM's CARD OF 'seedlinglaw01.ClassJoins'. -/
def classJoinsUptoCard : Claim7 := { stood := { row := classJoinsUptoRow, standIns := [], harness := (true, "f8674c20b00ce4d20ece53f17cd8bc1da131d4055bc25208560782fe812907d9"), looks := false }, kinds := [], alts := [], laidByText := true, laidKinds := [.data], laidTests := true, laidLooks := .later }
def ClassJoinsUptoCardSaid : Prop := Claim7.holds Tryd.pinned (.plain (OpenSpec.upto classJoinsSpec)) classJoinsUptoCard

/-- THE SECOND FORM's CARD OF 'seedlinglaw01.ClassRules'. -/
def classRulesUptoCard : Claim7 := { stood := { row := classRulesUptoRow, standIns := [], harness := (true, "f8674c20b00ce4d20ece53f17cd8bc1da131d4055bc25208560782fe812907d9"), looks := false }, kinds := [], alts := [], laidByText := true, laidKinds := [.data], laidTests := true, laidLooks := .later }
def ClassRulesUptoCardSaid : Prop := Claim7.holds Tryd.pinned (.plain (OpenSpec.upto classRulesSpec)) classRulesUptoCard

/-- THE SECOND FORM's CARD OF 'seedlinglaw01.ClassRuns'. -/
def classRunsUptoCard : Claim7 := { stood := { row := classRunsUptoRow, standIns := [], harness := (true, "f8674c20b00ce4d20ece53f17cd8bc1da131d4055bc25208560782fe812907d9"), looks := false }, kinds := [], alts := [], laidByText := true, laidKinds := [.data], laidTests := true, laidLooks := .later }
def ClassRunsUptoCardSaid : Prop := Claim7.holds Tryd.pinned (.plain (OpenSpec.upto classRunsSpec)) classRunsUptoCard
end Rows
end Go.Proofs.YtchjlgmnfepedaaDoor
