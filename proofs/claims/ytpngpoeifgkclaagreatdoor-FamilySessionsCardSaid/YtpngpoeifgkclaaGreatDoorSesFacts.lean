/- FamilySessions: the closed facts that the row asks of the program, each by the kernel. No condition. -/
import Derived.Test.YtpngpoeifgkclaaGreatDoorGw
import Derived.Test.YtpngpoeifgkclaaGreatDoorCards
import Derived.Test.YtpngpoeifgkclaaGreatDoorTie
import Derived.SevenTiedAt
import Derived.Stop.Joined
set_option maxRecDepth 100000
namespace Go.Proofs.YtpngpoeifgkclaaGreatDoor
open Go

set_option maxHeartbeats 8000000 in
theorem sessions_closed : joinedFacts Tryz.pinned.checked.prog 6 Tryz.f6 Rows.familySessionsSpec Rows.familySessionsRow = true := by
  simp only [joinedFacts, Bool.and_eq_true]
  repeat' apply And.intro
  all_goals (as_aux_lemma => kernel_rfl)
theorem sessions_named : Tryz.pinned.checked.prog.funcNamed Rows.familySessionsRow.func = some 6 := by kernel_rfl
theorem sessions_wrap : Tryz.f6.isWrapper Tryz.pinned.checked.prog Rows.familySessionsRow.wrapper Rows.familySessionsRow.mainSum := by
  unfold Func.isWrapper
  first | (rw [if_pos (by decide +kernel)]; kernel_rfl) | (rw [if_neg (by decide +kernel)]; exact ⟨rfl, rfl⟩)
theorem sessions_looks : true = Tryz.pinned.checked.prog.looks [] := by kernel_rfl
theorem sessions_mainIs : Tryz.pinned.checked.prog.mainIs = some (true, "8d37c4310b5c98236aa40972fb4e4e839bdd1c5ad5fdff4fa22e88a4aab5ff13".toList) := by kernel_rfl
theorem sessions_byText : Rows.familySessionsRow.wfByText (OpenSpec.ofChange Rows.familySessionsSpec) = true := by kernel_rfl
theorem sessions_inst : Tryz.f6.isInstance Tryz.pinned.checked.prog Rows.familySessionsRow.origin Rows.familySessionsRow.targs := of_decide_eq_true (by kernel_rfl)

end Go.Proofs.YtpngpoeifgkclaaGreatDoor
