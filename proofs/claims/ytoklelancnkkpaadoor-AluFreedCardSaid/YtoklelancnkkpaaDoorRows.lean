/-
  NARROWER THAN 'FOR EVERY INPUT', by the rows' own cells (each row's printed sentence says how): AluFlags: laid · AluFreed: laid · IsaFlags: laid.
  DERIVED. THE GIVEN ROWS OF THIS SEAT. 3 by the template 'for every input the law returns true; each argument reads behind the call as it read before'; 0 by the template 'total and deterministic' (their statements: YtoklelancnkkpaaDoorTotals.lean).
  GIVEN WITH THE SEED: the statements are not yours to turn. If you find one false, say at which input.
  Laid BY PROGRAM, IN A SANDBOX (cutbox-rows.mjs): the forced cells as the released guide's own fill.sh prints them over the translation 414f798870a7a9aa… (all of the seat's roots in one cut). By AI agents, Wed Nov 11 2026. No macro, syntax, notation, axiom, sorry.
-/
import Derived.Test.YtoklelancnkkpaaDoorChecked
import GoSem.Claim
import GoSem.ClaimJoined
import GoSem.ClaimMapViews
import Derived.JoinedTies
import Derived.KernelRfl
namespace Go.Proofs.YtoklelancnkkpaaDoor
/- THE CELL 'sum', in the pinned program and in every row, IS THE sha256 OF THE DUMP (.gsa) THAT YtoklelancnkkpaaDoorProg.lean LOADS. Nothing in Lean hashes anything: it is a label: what it is worth is what the hold of that sum in a sandbox is worth. -/
noncomputable def Tryd.pinned : Pinned := { name := "ytoklelancnkkpaadoor", sum := "414f798870a7a9aaa98e90ef4900a7b29d52d70b749e9b49e2f7cfe0f4d0bc04", checked := Tryd.checked }
namespace Rows
def none {H : Type} : Left H := { results := [], args := [] }

/- WHAT THE LISTED PACKAGE-LEVEL VARIABLES READ AS WHEN THE CALL BEGINS. Each datum BY PROGRAM (the guide's laid-datum.mjs) off the statement by which the dump's own 'gosem.cut.vars' lays the variable. In a bare row this is a premise. The card (YtoklelancnkkpaaDoorCards.lean) ties it to the program's text. -/
def laid_tandem_alu_flags {H : Type} : DataW H := .agg [.agg [.lit (.int .u8 9), .lit (.int .u8 195)], .agg [.lit (.int .u8 0), .lit (.int .u8 130)], .agg [.lit (.int .u8 0), .lit (.int .u8 131)], .agg [.lit (.int .u8 1), .lit (.int .u8 0)], .agg [.lit (.int .u8 1), .lit (.int .u8 0)], .agg [.lit (.int .u8 2), .lit (.int .u8 0)], .agg [.lit (.int .u8 0), .lit (.int .u8 194)], .agg [.lit (.int .u8 128), .lit (.int .u8 0)], .agg [.lit (.int .u8 2), .lit (.int .u8 0)], .agg [.lit (.int .u8 128), .lit (.int .u8 0)], .agg [.lit (.int .u8 207), .lit (.int .u8 4)], .agg [.lit (.int .u8 64), .lit (.int .u8 0)], .agg [.lit (.int .u8 64), .lit (.int .u8 0)], .agg [.lit (.int .u8 0), .lit (.int .u8 1)], .agg [.lit (.int .u8 0), .lit (.int .u8 8)], .agg [.lit (.int .u8 0), .lit (.int .u8 4)], .agg [.lit (.int .u8 0), .lit (.int .u8 64)], .agg [.lit (.int .u8 0), .lit (.int .u8 131)], .agg [.lit (.int .u8 0), .lit (.int .u8 131)], .agg [.lit (.int .u8 0), .lit (.int .u8 131)], .agg [.lit (.int .u8 0), .lit (.int .u8 130)], .agg [.lit (.int .u8 0), .lit (.int .u8 130)], .agg [.lit (.int .u8 0), .lit (.int .u8 130)], .agg [.lit (.int .u8 0), .lit (.int .u8 130)], .agg [.lit (.int .u8 0), .lit (.int .u8 130)], .agg [.lit (.int .u8 0), .lit (.int .u8 130)], .agg [.lit (.int .u8 0), .lit (.int .u8 130)], .agg [.lit (.int .u8 0), .lit (.int .u8 0)], .agg [.lit (.int .u8 0), .lit (.int .u8 0)], .agg [.lit (.int .u8 0), .lit (.int .u8 130)], .agg [.lit (.int .u8 0), .lit (.int .u8 130)], .agg [.lit (.int .u8 0), .lit (.int .u8 130)], .agg [.lit (.int .u8 0), .lit (.int .u8 131)], .agg [.lit (.int .u8 0), .lit (.int .u8 0)], .agg [.lit (.int .u8 0), .lit (.int .u8 130)], .agg [.lit (.int .u8 0), .lit (.int .u8 0)], .agg [.lit (.int .u8 207), .lit (.int .u8 0)], .agg [.lit (.int .u8 0), .lit (.int .u8 130)], .agg [.lit (.int .u8 0), .lit (.int .u8 255)], .agg [.lit (.int .u8 1), .lit (.int .u8 131)], .agg [.lit (.int .u8 1), .lit (.int .u8 131)], .agg [.lit (.int .u8 0), .lit (.int .u8 255)], .agg [.lit (.int .u8 0), .lit (.int .u8 0)], .agg [.lit (.int .u8 9), .lit (.int .u8 195)], .agg [.lit (.int .u8 0), .lit (.int .u8 1)], .agg [.lit (.int .u8 0), .lit (.int .u8 8)], .agg [.lit (.int .u8 0), .lit (.int .u8 4)], .agg [.lit (.int .u8 0), .lit (.int .u8 0)], .agg [.lit (.int .u8 0), .lit (.int .u8 0)], .agg [.lit (.int .u8 0), .lit (.int .u8 0)], .agg [.lit (.int .u8 0), .lit (.int .u8 130)], .agg [.lit (.int .u8 0), .lit (.int .u8 130)], .agg [.lit (.int .u8 0), .lit (.int .u8 130)], .agg [.lit (.int .u8 0), .lit (.int .u8 130)], .agg [.lit (.int .u8 0), .lit (.int .u8 0)], .agg [.lit (.int .u8 0), .lit (.int .u8 130)], .agg [.lit (.int .u8 0), .lit (.int .u8 131)], .agg [.lit (.int .u8 0), .lit (.int .u8 131)], .agg [.lit (.int .u8 9), .lit (.int .u8 195)], .agg [.lit (.int .u8 0), .lit (.int .u8 131)], .agg [.lit (.int .u8 9), .lit (.int .u8 195)], .agg [.lit (.int .u8 0), .lit (.int .u8 130)], .agg [.lit (.int .u8 0), .lit (.int .u8 130)], .agg [.lit (.int .u8 1), .lit (.int .u8 131)], .agg [.lit (.int .u8 9), .lit (.int .u8 195)], .agg [.lit (.int .u8 0), .lit (.int .u8 0)], .agg [.lit (.int .u8 0), .lit (.int .u8 131)], .agg [.lit (.int .u8 0), .lit (.int .u8 131)], .agg [.lit (.int .u8 0), .lit (.int .u8 131)], .agg [.lit (.int .u8 0), .lit (.int .u8 0)]]
def laid_tandem_isa_fillers {H : Type} : DataW H := .agg [.lit (.int .u8 139), .lit (.int .u8 147), .lit (.int .u8 155), .lit (.int .u8 156), .lit (.int .u8 158), .lit (.int .u8 159), .lit (.int .u8 171)]
def laid_tandem_isa_lengths {H : Type} : DataW H := .agg [.lit (.int .i64 1), .lit (.int .i64 1), .lit (.int .i64 2), .lit (.int .i64 2), .lit (.int .i64 2), .lit (.int .i64 2), .lit (.int .i64 2), .lit (.int .i64 2), .lit (.int .i64 3), .lit (.int .i64 3), .lit (.int .i64 3), .lit (.int .i64 3), .lit (.int .i64 2)]

/-- 'tandemlaw3.AluFlags': WHATEVER THE INPUT: true; the input reads as it did. -/
def aluFlagsSpec : ChangeSpec := { name := "aluFlags", fn := fun _ => fun
  | [d1, d2] => { results := [.lit (.bool true)], args := [d1, d2] }
  | _ => none }
def aluFlagsRow : OpenClaim := { program := "ytoklelancnkkpaadoor", sum := "414f798870a7a9aaa98e90ef4900a7b29d52d70b749e9b49e2f7cfe0f4d0bc04", func := "tandem/tandemlaw3.AluFlags", spec := "aluFlags", named := ["tandem/alu.flags"], apart := false, laid := [("tandem/alu.flags", laid_tandem_alu_flags)] }
def AluFlagsSaid : Prop := aluFlagsRow.holds Tryd.pinned (OpenSpec.ofChange aluFlagsSpec)

/-- ITS FALSE NEIGHBOUR: 'it returns false'. Refute it at one input. -/
def aluFlagsWrong : ChangeSpec := { name := "aluFlags", fn := fun _ => fun
  | [d1, d2] => { results := [.lit (.bool false)], args := [d1, d2] }
  | _ => none }
def AluFlagsWrongFalsely : Prop := aluFlagsRow.holds Tryd.pinned (OpenSpec.ofChange aluFlagsWrong)

/-- 'tandemlaw3.AluFreed': WHATEVER THE INPUT: true; the input reads as it did. -/
def aluFreedSpec : ChangeSpec := { name := "aluFreed", fn := fun _ => fun
  | [d1, d2, d3] => { results := [.lit (.bool true)], args := [d1, d2, d3] }
  | _ => none }
def aluFreedRow : OpenClaim := { program := "ytoklelancnkkpaadoor", sum := "414f798870a7a9aaa98e90ef4900a7b29d52d70b749e9b49e2f7cfe0f4d0bc04", func := "tandem/tandemlaw3.AluFreed", spec := "aluFreed", unfollowed := true, recurses := true, named := ["tandem/alu.flags"], apart := false, laid := [("tandem/alu.flags", laid_tandem_alu_flags)] }
def AluFreedSaid : Prop := aluFreedRow.holds Tryd.pinned (OpenSpec.ofChange aluFreedSpec)

/-- ITS FALSE NEIGHBOUR: 'it returns false'. Refute it at one input. -/
def aluFreedWrong : ChangeSpec := { name := "aluFreed", fn := fun _ => fun
  | [d1, d2, d3] => { results := [.lit (.bool false)], args := [d1, d2, d3] }
  | _ => none }
def AluFreedWrongFalsely : Prop := aluFreedRow.holds Tryd.pinned (OpenSpec.ofChange aluFreedWrong)

/-- 'tandemlaw4.IsaFlags': WHATEVER THE INPUT: true; the input reads as it did. -/
def isaFlagsSpec : ChangeSpec := { name := "isaFlags", fn := fun _ => fun
  | [d1, d2, d3] => { results := [.lit (.bool true)], args := [d1, d2, d3] }
  | _ => none }
def isaFlagsRow : OpenClaim := { program := "ytoklelancnkkpaadoor", sum := "414f798870a7a9aaa98e90ef4900a7b29d52d70b749e9b49e2f7cfe0f4d0bc04", func := "tandem/tandemlaw4.IsaFlags", spec := "isaFlags", unfollowed := true, recurses := true, named := ["tandem/isa.lengths", "tandem/isa.fillers", "tandem/alu.flags"], apart := false, laid := [("tandem/alu.flags", laid_tandem_alu_flags), ("tandem/isa.fillers", laid_tandem_isa_fillers), ("tandem/isa.lengths", laid_tandem_isa_lengths)] }
def IsaFlagsSaid : Prop := isaFlagsRow.holds Tryd.pinned (OpenSpec.ofChange isaFlagsSpec)

/-- ITS FALSE NEIGHBOUR: 'it returns false'. Refute it at one input. -/
def isaFlagsWrong : ChangeSpec := { name := "isaFlags", fn := fun _ => fun
  | [d1, d2, d3] => { results := [.lit (.bool false)], args := [d1, d2, d3] }
  | _ => none }
def IsaFlagsWrongFalsely : Prop := isaFlagsRow.holds Tryd.pinned (OpenSpec.ofChange isaFlagsWrong)

/- THE SECOND FORM. 'bulk': how many values and letters a reading holds, each counted each time it is reached (what is shared counts as often as it is met; a slice's spare places count too). A statement '..UptoSaid' is the law's where the arguments, and the package variables that the reading takes, are together of bulk at most 1048576: NARROWER than '..Said'. Prove '..Said' where nothing that the law and all that it calls make is longer than what came in: it says more and counts as full. Else prove '..UptoSaid'. A law counts once. -/
mutual
def uptoBulk {H : Type} : DataW H → Nat
  | .lit (.string bytes) => bytes.length + 1
  | .lit _ => 1
  | .nil => 1
  | .ptr d => uptoBulk d + 1
  | .slice elems spare => uptoBulkAll elems + uptoBulkAll spare + 1
  | .agg parts => uptoBulkAll parts + 1
  | .iface _ d => uptoBulk d + 1
  | .map entries => uptoBulkEntries entries + 1
  | .held _ => 1
def uptoBulkAll {H : Type} : List (DataW H) → Nat
  | [] => 0
  | d :: r => uptoBulk d + uptoBulkAll r
def uptoBulkEntries {H : Type} : List (Lit × DataW H) → Nat
  | [] => 0
  | x :: r => uptoBulkEntry x + uptoBulkEntries r
def uptoBulkEntry {H : Type} : Lit × DataW H → Nat
  | (.string bytes, d) => bytes.length + uptoBulk d + 1
  | (_, d) => uptoBulk d + 1
 end
def uptoSmall : (H : Type) → List (DataW H) → Bool := fun _ ds => decide (uptoBulkAll ds ≤ 1048576)
def OpenSpec.upto (s : _root_.Go.ChangeSpec) : _root_.Go.OpenSpec := { _root_.Go.OpenSpec.ofChange s with cond := some uptoSmall }

/-- 'tandemlaw3.AluFlags', WHERE WHAT IT READS IS OF BULK AT MOST 1048576: true; the input reads as it did. -/
def aluFlagsUptoRow : OpenClaim := { program := "ytoklelancnkkpaadoor", sum := "414f798870a7a9aaa98e90ef4900a7b29d52d70b749e9b49e2f7cfe0f4d0bc04", func := "tandem/tandemlaw3.AluFlags", spec := "aluFlags", named := ["tandem/alu.flags"], apart := false, laid := [("tandem/alu.flags", laid_tandem_alu_flags)], narrowed := true }
def AluFlagsUptoSaid : Prop := aluFlagsUptoRow.holds Tryd.pinned (OpenSpec.upto aluFlagsSpec)

/-- 'tandemlaw3.AluFreed', WHERE WHAT IT READS IS OF BULK AT MOST 1048576: true; the input reads as it did. -/
def aluFreedUptoRow : OpenClaim := { program := "ytoklelancnkkpaadoor", sum := "414f798870a7a9aaa98e90ef4900a7b29d52d70b749e9b49e2f7cfe0f4d0bc04", func := "tandem/tandemlaw3.AluFreed", spec := "aluFreed", unfollowed := true, recurses := true, named := ["tandem/alu.flags"], apart := false, laid := [("tandem/alu.flags", laid_tandem_alu_flags)], narrowed := true }
def AluFreedUptoSaid : Prop := aluFreedUptoRow.holds Tryd.pinned (OpenSpec.upto aluFreedSpec)

/-- 'tandemlaw4.IsaFlags', WHERE WHAT IT READS IS OF BULK AT MOST 1048576: true; the input reads as it did. -/
def isaFlagsUptoRow : OpenClaim := { program := "ytoklelancnkkpaadoor", sum := "414f798870a7a9aaa98e90ef4900a7b29d52d70b749e9b49e2f7cfe0f4d0bc04", func := "tandem/tandemlaw4.IsaFlags", spec := "isaFlags", unfollowed := true, recurses := true, named := ["tandem/isa.lengths", "tandem/isa.fillers", "tandem/alu.flags"], apart := false, laid := [("tandem/alu.flags", laid_tandem_alu_flags), ("tandem/isa.fillers", laid_tandem_isa_fillers), ("tandem/isa.lengths", laid_tandem_isa_lengths)], narrowed := true }
def IsaFlagsUptoSaid : Prop := isaFlagsUptoRow.holds Tryd.pinned (OpenSpec.upto isaFlagsSpec)

end Rows
end Go.Proofs.YtoklelancnkkpaaDoor
