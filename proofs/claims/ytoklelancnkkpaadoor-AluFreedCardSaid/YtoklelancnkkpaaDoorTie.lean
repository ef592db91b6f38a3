/-
  DERIVED. GIVEN WITH THE SEED: THE PROGRAM's TIES (one call each: nine closed facts by the kernel) AND EACH ROW's TIE, after the 31st guide's Derived/Test/Toyas{Tie, Card}.lean. No idea stands in it: it is a product of the set-up. Laid BY PROGRAM, IN A SANDBOX (cutbox-door.mjs). By AI agents, Wed Nov 11 2026. No macro, syntax, notation, axiom, sorry.
-/
import Derived.Test.YtoklelancnkkpaaDoorRows
import Derived.LaidByTextLater
import Derived.SevenTiedAt
import Derived.LaidSub
import Derived.LaidOnce
namespace Go.Proofs.YtoklelancnkkpaaDoor
open Go
set_option maxRecDepth 100000
theorem seatTie1 : Tryd.prog.laidByTextLater [("tandem/alu.flags", Rows.laid_tandem_alu_flags), ("tandem/isa.fillers", Rows.laid_tandem_isa_fillers), ("tandem/isa.lengths", Rows.laid_tandem_isa_lengths)] [.data, .data, .data] true :=
  Program.laidByTextLater_by_one 83 8 141 (by kernel_rfl) (by kernel_rfl) (by kernel_rfl) (by kernel_rfl) (by kernel_rfl) (by kernel_rfl) (fun _ _ => by kernel_rfl)
theorem noOwnUnsafe : Tryd.pinned.checked.prog.headLifts.contains "ownunsafe" = false := by kernel_rfl
theorem tie : Tryd.prog.laidByTextLater [("tandem/alu.flags", Rows.laid_tandem_alu_flags)] [.data] true :=
  Program.laidByTextLater.sub seatTie1 ["tandem/alu.flags"] (by kernel_rfl) (by kernel_rfl)
theorem aluFlags_row_tie : Rows.aluFlagsRow.laidByTextAt .later Tryd.pinned [.data] true :=
  OpenClaim.laidByTextAt_later rfl rfl tie noOwnUnsafe
theorem aluFreed_row_tie : Rows.aluFreedRow.laidByTextAt .later Tryd.pinned [.data] true :=
  OpenClaim.laidByTextAt_later rfl rfl tie noOwnUnsafe
theorem tie2 : Tryd.prog.laidByTextLater [("tandem/alu.flags", Rows.laid_tandem_alu_flags), ("tandem/isa.fillers", Rows.laid_tandem_isa_fillers), ("tandem/isa.lengths", Rows.laid_tandem_isa_lengths)] [.data, .data, .data] true :=
  Program.laidByTextLater.sub seatTie1 ["tandem/alu.flags", "tandem/isa.fillers", "tandem/isa.lengths"] (by kernel_rfl) (by kernel_rfl)
theorem isaFlags_row_tie : Rows.isaFlagsRow.laidByTextAt .later Tryd.pinned [.data, .data, .data] true :=
  OpenClaim.laidByTextAt_later rfl rfl tie2 noOwnUnsafe
theorem aluFlagsUpto_row_tie : Rows.aluFlagsUptoRow.laidByTextAt .later Tryd.pinned [.data] true :=
  OpenClaim.laidByTextAt_later rfl rfl tie noOwnUnsafe
theorem aluFreedUpto_row_tie : Rows.aluFreedUptoRow.laidByTextAt .later Tryd.pinned [.data] true :=
  OpenClaim.laidByTextAt_later rfl rfl tie noOwnUnsafe
theorem isaFlagsUpto_row_tie : Rows.isaFlagsUptoRow.laidByTextAt .later Tryd.pinned [.data, .data, .data] true :=
  OpenClaim.laidByTextAt_later rfl rfl tie2 noOwnUnsafe
end Go.Proofs.YtoklelancnkkpaaDoor
