/- FamilyExamples: which way the row goes, by the kernel. No condition. -/
import Derived.Test.YtpngpoeifgkclaaGreatDoorGw
import Derived.Test.YtpngpoeifgkclaaGreatDoorCards
import Derived.Test.YtpngpoeifgkclaaGreatDoorTie
import Derived.SevenTiedAt
import Derived.Stop.Joined
set_option maxRecDepth 100000
namespace Go.Proofs.YtpngpoeifgkclaaGreatDoor
open Go

theorem examples_goes : false = Rows.familyExamplesRow.goesBy Tryz.pinned.checked.prog := by kernel_rfl

end Go.Proofs.YtpngpoeifgkclaaGreatDoor
