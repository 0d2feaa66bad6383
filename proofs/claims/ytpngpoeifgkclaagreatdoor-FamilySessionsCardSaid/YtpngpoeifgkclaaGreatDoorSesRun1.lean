/- FamilySessions: the machine's answers, found by the kernel: a number below 4. No condition. -/
import Derived.Test.YtpngpoeifgkclaaGreatDoorRun
set_option maxRecDepth 100000
namespace Go.Proofs.YtpngpoeifgkclaaGreatDoor
open Go Am

theorem se_0 : isTrue (runK ftab2 200 false .none (.mk .x0 .x0 .x6) [.int 4 (.ofNat 0), .no] h0 finK) = true := by kernel_rfl
theorem se_1 : isTrue (runK ftab2 200 false .none (.mk .x0 .x0 .x6) [.int 4 (.ofNat 1), .no] h0 finK) = true := by kernel_rfl
theorem se_2 : isTrue (runK ftab2 200 false .none (.mk .x0 .x0 .x6) [.int 4 (.ofNat 2), .no] h0 finK) = true := by kernel_rfl
theorem se_3 : isTrue (runK ftab2 200 false .none (.mk .x0 .x0 .x6) [.int 4 (.ofNat 3), .no] h0 finK) = true := by kernel_rfl

end Go.Proofs.YtpngpoeifgkclaaGreatDoor
