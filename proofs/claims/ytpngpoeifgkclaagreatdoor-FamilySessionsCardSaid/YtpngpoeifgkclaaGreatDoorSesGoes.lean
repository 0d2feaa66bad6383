/- FamilySessions: which way the row goes, by the kernel. No condition. -/
import Derived.Test.YtpngpoeifgkclaaGreatDoorGw
import Derived.Test.YtpngpoeifgkclaaGreatDoorCards
import Derived.Test.YtpngpoeifgkclaaGreatDoorTie
import Derived.SevenTiedAt
import Derived.Stop.Joined
set_option maxRecDepth 100000
namespace Go.Proofs.YtpngpoeifgkclaaGreatDoor
open Go

theorem sessions_goes : false = Rows.familySessionsRow.goesBy Tryz.pinned.checked.prog := by kernel_rfl

end Go.Proofs.YtpngpoeifgkclaaGreatDoor
