/- FamilyExamples: the machine's answers, found by the kernel: a greater number, the text a family's name or another text, short or long. No condition. -/
import Derived.Test.YtpngpoeifgkclaaGreatDoorRun
set_option maxRecDepth 100000
namespace Go.Proofs.YtpngpoeifgkclaaGreatDoor
open Go Am

theorem ex_name0 : isTrue (runK ftab2 200 false .none (.mk .x0 .x0 .x4) [.sym 4, .str 5 495622906222] h0 finK) = true := by kernel_rfl
theorem ex_name1 : isTrue (runK ftab2 200 false .none (.mk .x0 .x0 .x4) [.sym 4, .str 5 435727459692] h0 finK) = true := by kernel_rfl
theorem ex_name2 : isTrue (runK ftab2 200 false .none (.mk .x0 .x0 .x4) [.sym 4, .str 5 495622842726] h0 finK) = true := by kernel_rfl
theorem ex_name3 : isTrue (runK ftab2 200 false .none (.mk .x0 .x0 .x4) [.sym 4, .str 6 126870807932788] h0 finK) = true := by kernel_rfl
theorem ex_name4 : isTrue (runK ftab2 200 false .none (.mk .x0 .x0 .x4) [.sym 4, .str 7 32480064979559794] h0 finK) = true := by kernel_rfl
theorem ex_name5 : isTrue (runK ftab2 200 false .none (.mk .x0 .x0 .x4) [.sym 4, .str 7 32495402123093352] h0 finK) = true := by kernel_rfl
theorem ex_name6 : isTrue (runK ftab2 200 false .none (.mk .x0 .x0 .x4) [.sym 4, .str 7 32497592573780591] h0 finK) = true := by kernel_rfl
theorem ex_name7 : isTrue (runK ftab2 200 false .none (.mk .x0 .x0 .x4) [.sym 4, .str 9 2129618691208608441714] h0 finK) = true := by kernel_rfl
theorem ex_short : isTrue (runK ftab2 200 false .none (.mk .x0 .x0 .x4) [.sym 4, .sym 0] h0 finK) = true := by kernel_rfl
theorem ex_long : isTrue (runK ftab2 200 false .none (.mk .x0 .x0 .x4) [.sym 4, .sym 1] h0 finK) = true := by kernel_rfl

end Go.Proofs.YtpngpoeifgkclaaGreatDoor
