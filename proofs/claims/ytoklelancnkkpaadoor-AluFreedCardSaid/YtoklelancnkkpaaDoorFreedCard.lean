/-
  The card Rows.AluFreedCardSaid is proved: for every input the law returns true and each argument reads as it read; the listed variable is tied to the text.
-/
import Derived.Test.YtoklelancnkkpaaDoorFreedRow
import Derived.Test.YtoklelancnkkpaaDoorCards
import Derived.Test.YtoklelancnkkpaaDoorTie
set_option autoImplicit false
set_option linter.unusedVariables false
set_option linter.unusedSimpArgs false
open Go
namespace Go.Proofs.YtoklelancnkkpaaDoor.aluFreed
/-- the tied card -/
theorem proved : Rows.AluFreedCardSaid :=
  Claim7.holds_tied_plain_at .later [] [.data] true (true, "488ff557c03fd0c18fc8d16edb71fd4c43cf5431a9f8d56c7aa6986768e57582") false
    over (fun _ h => by cases h) (by kernel_rfl) (fun _ h => by cases h) aluFreed_row_tie rfl ⟨rfl, rfl⟩ (by kernel_rfl) rfl
    (fun f fn hf hfn => by
      obtain rfl : f = 4 := Option.some.inj ((show Tryd.prog.funcNamed "tandem/tandemlaw3.AluFreed" = some 4 by kernel_rfl).symm.trans hf) |>.symm
      obtain rfl : fn = Tryd.f4 := (Option.some.inj (Tryd.func4.symm.trans hfn)).symm
      exact ⟨by kernel_rfl, fun j t ht => by
        rw [Tryd.params4] at ht
        have hm : t ∈ [3, 27, 5] := by simpa using Array.mem_of_getElem? ht
        have hall : ([3, 27, 5].all fun u => !Tryd.prog.wantsStandIn u) = true := by kernel_rfl
        exact (show Tryd.prog.wantsStandIn t = false by simpa using List.all_eq_true.1 hall t hm)⟩)
    (by kernel_rfl)
end Go.Proofs.YtoklelancnkkpaaDoor.aluFreed
