/- FamilySessions: the machine's answers, found by the kernel: a greater number and one of the other families' names, or another text, short or long. No condition. -/
import Derived.Test.YtpngpoeifgkclaaGreatDoorRun
set_option maxRecDepth 100000
namespace Go.Proofs.YtpngpoeifgkclaaGreatDoor
open Go Am

theorem se_name4 : isTrue (runK ftab2 200 false .none (.mk .x0 .x0 .x6) [.sym 4, .str 7 32480064979559794] h0 finK) = true := by kernel_rfl
theorem se_name5 : isTrue (runK ftab2 200 false .none (.mk .x0 .x0 .x6) [.sym 4, .str 7 32495402123093352] h0 finK) = true := by kernel_rfl
theorem se_name6 : isTrue (runK ftab2 200 false .none (.mk .x0 .x0 .x6) [.sym 4, .str 7 32497592573780591] h0 finK) = true := by kernel_rfl
theorem se_name7 : isTrue (runK ftab2 200 false .none (.mk .x0 .x0 .x6) [.sym 4, .str 9 2129618691208608441714] h0 finK) = true := by kernel_rfl
theorem se_short : isTrue (runK ftab2 200 false .none (.mk .x0 .x0 .x6) [.sym 4, .sym 0] h0 finK) = true := by kernel_rfl
theorem se_long : isTrue (runK ftab2 200 false .none (.mk .x0 .x0 .x6) [.sym 4, .sym 1] h0 finK) = true := by kernel_rfl

end Go.Proofs.YtpngpoeifgkclaaGreatDoor
