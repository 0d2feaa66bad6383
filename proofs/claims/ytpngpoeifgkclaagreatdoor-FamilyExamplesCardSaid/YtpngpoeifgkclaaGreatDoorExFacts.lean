/- FamilyExamples: the closed facts that the row asks of the program, each by the kernel. No condition. -/
import Derived.Test.YtpngpoeifgkclaaGreatDoorGw
import Derived.Test.YtpngpoeifgkclaaGreatDoorCards
import Derived.Test.YtpngpoeifgkclaaGreatDoorTie
import Derived.SevenTiedAt
import Derived.Stop.Joined
set_option maxRecDepth 100000
namespace Go.Proofs.YtpngpoeifgkclaaGreatDoor
open Go

set_option maxHeartbeats 8000000 in
theorem examples_closed : joinedFacts Tryz.pinned.checked.prog 4 Tryz.f4 Rows.familyExamplesSpec Rows.familyExamplesRow = true := by
  simp only [joinedFacts, Bool.and_eq_true]
  repeat' apply And.intro
  all_goals (as_aux_lemma => kernel_rfl)
theorem examples_named : Tryz.pinned.checked.prog.funcNamed Rows.familyExamplesRow.func = some 4 := by kernel_rfl
theorem examples_wrap : Tryz.f4.isWrapper Tryz.pinned.checked.prog Rows.familyExamplesRow.wrapper Rows.familyExamplesRow.mainSum := by
  unfold Func.isWrapper
  first | (rw [if_pos (by decide +kernel)]; kernel_rfl) | (rw [if_neg (by decide +kernel)]; exact ⟨rfl, rfl⟩)
theorem examples_looks : true = Tryz.pinned.checked.prog.looks [] := by kernel_rfl
theorem examples_mainIs : Tryz.pinned.checked.prog.mainIs = some (true, "8d37c4310b5c98236aa40972fb4e4e839bdd1c5ad5fdff4fa22e88a4aab5ff13".toList) := by kernel_rfl
theorem examples_byText : Rows.familyExamplesRow.wfByText (OpenSpec.ofChange Rows.familyExamplesSpec) = true := by kernel_rfl
theorem examples_inst : Tryz.f4.isInstance Tryz.pinned.checked.prog Rows.familyExamplesRow.origin Rows.familyExamplesRow.targs := of_decide_eq_true (by kernel_rfl)

end Go.Proofs.YtpngpoeifgkclaaGreatDoor
