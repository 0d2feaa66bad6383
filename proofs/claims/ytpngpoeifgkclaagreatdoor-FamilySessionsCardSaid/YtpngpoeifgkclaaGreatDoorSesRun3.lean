/- FamilySessions: the machine's answers, found by the kernel: a greater number and one of four families' names. No condition. -/
import Derived.Test.YtpngpoeifgkclaaGreatDoorRun
set_option maxRecDepth 100000
namespace Go.Proofs.YtpngpoeifgkclaaGreatDoor
open Go Am

theorem se_name0 : isTrue (runK ftab2 200 false .none (.mk .x0 .x0 .x6) [.sym 4, .str 5 495622906222] h0 finK) = true := by kernel_rfl
theorem se_name1 : isTrue (runK ftab2 200 false .none (.mk .x0 .x0 .x6) [.sym 4, .str 5 435727459692] h0 finK) = true := by kernel_rfl
theorem se_name2 : isTrue (runK ftab2 200 false .none (.mk .x0 .x0 .x6) [.sym 4, .str 5 495622842726] h0 finK) = true := by kernel_rfl
theorem se_name3 : isTrue (runK ftab2 200 false .none (.mk .x0 .x0 .x6) [.sym 4, .str 6 126870807932788] h0 finK) = true := by kernel_rfl

end Go.Proofs.YtpngpoeifgkclaaGreatDoor
