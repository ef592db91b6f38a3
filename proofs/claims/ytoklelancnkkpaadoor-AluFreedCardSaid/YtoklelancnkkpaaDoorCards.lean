/-
  DERIVED. GIVEN WITH THE SEED: THE CARDS: each row of YtoklelancnkkpaaDoorRows.lean that lists a variable, with what it lists TIED to the program's text (the seventh form; the later family's looks); each row that meets fmt, with fmt's text TOLD by the authors' own Lean function (tested against real Go, not proved from fmt's source: count such statements apart). THE CARD IS WHAT COUNTS. Prove the row's statement (the work); the ties are given (YtoklelancnkkpaaDoorTie.lean); close each card by the builder's one call (the guide's Derived/Test/ToyasCard.lean, 'card_holds'). Laid BY PROGRAM, IN A SANDBOX (cutbox-door.mjs). By AI agents, Wed Nov 11 2026. No macro, syntax, notation, axiom, sorry.
-/
import Derived.Test.YtoklelancnkkpaaDoorRows
import GoSem.ClaimSeven
namespace Go.Proofs.YtoklelancnkkpaaDoor
namespace Rows

/-- THE TIED CARD OF 'tandemlaw3.AluFlags'. -/
def aluFlagsCard : Claim7 := { stood := { row := aluFlagsRow, standIns := [], harness := (true, "488ff557c03fd0c18fc8d16edb71fd4c43cf5431a9f8d56c7aa6986768e57582"), looks := false }, kinds := [], alts := [], laidByText := true, laidKinds := [.data], laidTests := true, laidLooks := .later }
def AluFlagsCardSaid : Prop := Claim7.holds Tryd.pinned (.plain (OpenSpec.ofChange aluFlagsSpec)) aluFlagsCard

/-- THE TIED CARD OF 'tandemlaw3.AluFreed'. -/
def aluFreedCard : Claim7 := { stood := { row := aluFreedRow, standIns := [], harness := (true, "488ff557c03fd0c18fc8d16edb71fd4c43cf5431a9f8d56c7aa6986768e57582"), looks := false }, kinds := [], alts := [], laidByText := true, laidKinds := [.data], laidTests := true, laidLooks := .later }
def AluFreedCardSaid : Prop := Claim7.holds Tryd.pinned (.plain (OpenSpec.ofChange aluFreedSpec)) aluFreedCard

/-- THE TIED CARD OF 'tandemlaw4.IsaFlags'. -/
def isaFlagsCard : Claim7 := { stood := { row := isaFlagsRow, standIns := [], harness := (true, "488ff557c03fd0c18fc8d16edb71fd4c43cf5431a9f8d56c7aa6986768e57582"), looks := false }, kinds := [], alts := [], laidByText := true, laidKinds := [.data, .data, .data], laidTests := true, laidLooks := .later }
def IsaFlagsCardSaid : Prop := Claim7.holds Tryd.pinned (.plain (OpenSpec.ofChange isaFlagsSpec)) isaFlagsCard

/-- THE SECOND FORM's CARD OF 'tandemlaw3.AluFlags'. -/
def aluFlagsUptoCard : Claim7 := { stood := { row := aluFlagsUptoRow, standIns := [], harness := (true, "488ff557c03fd0c18fc8d16edb71fd4c43cf5431a9f8d56c7aa6986768e57582"), looks := false }, kinds := [], alts := [], laidByText := true, laidKinds := [.data], laidTests := true, laidLooks := .later }
def AluFlagsUptoCardSaid : Prop := Claim7.holds Tryd.pinned (.plain (OpenSpec.upto aluFlagsSpec)) aluFlagsUptoCard

/-- THE SECOND FORM's CARD OF 'tandemlaw3.AluFreed'. -/
def aluFreedUptoCard : Claim7 := { stood := { row := aluFreedUptoRow, standIns := [], harness := (true, "488ff557c03fd0c18fc8d16edb71fd4c43cf5431a9f8d56c7aa6986768e57582"), looks := false }, kinds := [], alts := [], laidByText := true, laidKinds := [.data], laidTests := true, laidLooks := .later }
def AluFreedUptoCardSaid : Prop := Claim7.holds Tryd.pinned (.plain (OpenSpec.upto aluFreedSpec)) aluFreedUptoCard

/-- THE SECOND FORM's CARD OF 'tandemlaw4.IsaFlags'. -/
def isaFlagsUptoCard : Claim7 := { stood := { row := isaFlagsUptoRow, standIns := [], harness := (true, "488ff557c03fd0c18fc8d16edb71fd4c43cf5431a9f8d56c7aa6986768e57582"), looks := false }, kinds := [], alts := [], laidByText := true, laidKinds := [.data, .data, .data], laidTests := true, laidLooks := .later }
def IsaFlagsUptoCardSaid : Prop := Claim7.holds Tryd.pinned (.plain (OpenSpec.upto isaFlagsSpec)) isaFlagsUptoCard
end Rows
end Go.Proofs.YtoklelancnkkpaaDoor
