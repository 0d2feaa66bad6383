/- FamilySessions: the machine's answers, found by the kernel: a number from 4 to 7. No condition. -/
import Derived.Test.YtpngpoeifgkclaaGreatDoorRun
set_option maxRecDepth 100000
namespace Go.Proofs.YtpngpoeifgkclaaGreatDoor
open Go Am

theorem se_4 : isTrue (runK ftab2 200 false .none (.mk .x0 .x0 .x6) [.int 4 (.ofNat 4), .no] h0 finK) = true := by kernel_rfl
theorem se_5 : isTrue (runK ftab2 200 false .none (.mk .x0 .x0 .x6) [.int 4 (.ofNat 5), .no] h0 finK) = true := by kernel_rfl
theorem se_6 : isTrue (runK ftab2 200 false .none (.mk .x0 .x0 .x6) [.int 4 (.ofNat 6), .no] h0 finK) = true := by kernel_rfl
theorem se_7 : isTrue (runK ftab2 200 false .none (.mk .x0 .x0 .x6) [.int 4 (.ofNat 7), .no] h0 finK) = true := by kernel_rfl

end Go.Proofs.YtpngpoeifgkclaaGreatDoor
