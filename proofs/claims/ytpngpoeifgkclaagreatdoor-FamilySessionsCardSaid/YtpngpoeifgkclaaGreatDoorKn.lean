/- The answer of 'known', found by the kernel. No condition. -/
import Derived.Test.YtpngpoeifgkclaaGreatDoorBase
set_option maxRecDepth 100000
namespace Go.Proofs.YtpngpoeifgkclaaGreatDoor
open Go Am

theorem known_run : isTrue (runK ftab 200 false .none (.mk .x0 .x0 .x9) [] h0 finK) = true := by kernel_rfl

end Go.Proofs.YtpngpoeifgkclaaGreatDoor
