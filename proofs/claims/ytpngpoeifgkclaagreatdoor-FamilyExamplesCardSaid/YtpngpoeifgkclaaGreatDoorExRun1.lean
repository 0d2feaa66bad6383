/- FamilyExamples: the machine's answers, found by the kernel: a number below 8. No condition. -/
import Derived.Test.YtpngpoeifgkclaaGreatDoorRun
set_option maxRecDepth 100000
namespace Go.Proofs.YtpngpoeifgkclaaGreatDoor
open Go Am

theorem ex_0 : isTrue (runK ftab2 200 false .none (.mk .x0 .x0 .x4) [.int 4 (.ofNat 0), .no] h0 finK) = true := by kernel_rfl
theorem ex_1 : isTrue (runK ftab2 200 false .none (.mk .x0 .x0 .x4) [.int 4 (.ofNat 1), .no] h0 finK) = true := by kernel_rfl
theorem ex_2 : isTrue (runK ftab2 200 false .none (.mk .x0 .x0 .x4) [.int 4 (.ofNat 2), .no] h0 finK) = true := by kernel_rfl
theorem ex_3 : isTrue (runK ftab2 200 false .none (.mk .x0 .x0 .x4) [.int 4 (.ofNat 3), .no] h0 finK) = true := by kernel_rfl
theorem ex_4 : isTrue (runK ftab2 200 false .none (.mk .x0 .x0 .x4) [.int 4 (.ofNat 4), .no] h0 finK) = true := by kernel_rfl
theorem ex_5 : isTrue (runK ftab2 200 false .none (.mk .x0 .x0 .x4) [.int 4 (.ofNat 5), .no] h0 finK) = true := by kernel_rfl
theorem ex_6 : isTrue (runK ftab2 200 false .none (.mk .x0 .x0 .x4) [.int 4 (.ofNat 6), .no] h0 finK) = true := by kernel_rfl
theorem ex_7 : isTrue (runK ftab2 200 false .none (.mk .x0 .x0 .x4) [.int 4 (.ofNat 7), .no] h0 finK) = true := by kernel_rfl

end Go.Proofs.YtpngpoeifgkclaaGreatDoor
