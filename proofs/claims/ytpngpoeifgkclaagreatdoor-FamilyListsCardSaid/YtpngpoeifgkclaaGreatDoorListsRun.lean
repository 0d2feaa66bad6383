/- FamilyLists: the machine's answers, found by the kernel: a number below nought, 0 to 8, from 9 on. No condition. -/
import Derived.Test.YtpngpoeifgkclaaGreatDoorRun
set_option maxRecDepth 100000
namespace Go.Proofs.YtpngpoeifgkclaaGreatDoor
open Go Am

theorem lists_neg (j : Nat) : isTrue (runK ftab2 200 false .none (.mk .x0 .x0 .x3) [.int 3 (.negSucc j)] h0 finK) = true := by kernel_rfl
theorem lists_0 : isTrue (runK ftab2 200 false .none (.mk .x0 .x0 .x3) [.int 3 (.ofNat 0)] h0 finK) = true := by kernel_rfl
theorem lists_1 : isTrue (runK ftab2 200 false .none (.mk .x0 .x0 .x3) [.int 3 (.ofNat 1)] h0 finK) = true := by kernel_rfl
theorem lists_2 : isTrue (runK ftab2 200 false .none (.mk .x0 .x0 .x3) [.int 3 (.ofNat 2)] h0 finK) = true := by kernel_rfl
theorem lists_3 : isTrue (runK ftab2 200 false .none (.mk .x0 .x0 .x3) [.int 3 (.ofNat 3)] h0 finK) = true := by kernel_rfl
theorem lists_4 : isTrue (runK ftab2 200 false .none (.mk .x0 .x0 .x3) [.int 3 (.ofNat 4)] h0 finK) = true := by kernel_rfl
theorem lists_5 : isTrue (runK ftab2 200 false .none (.mk .x0 .x0 .x3) [.int 3 (.ofNat 5)] h0 finK) = true := by kernel_rfl
theorem lists_6 : isTrue (runK ftab2 200 false .none (.mk .x0 .x0 .x3) [.int 3 (.ofNat 6)] h0 finK) = true := by kernel_rfl
theorem lists_7 : isTrue (runK ftab2 200 false .none (.mk .x0 .x0 .x3) [.int 3 (.ofNat 7)] h0 finK) = true := by kernel_rfl
theorem lists_8 : isTrue (runK ftab2 200 false .none (.mk .x0 .x0 .x3) [.int 3 (.ofNat 8)] h0 finK) = true := by kernel_rfl
theorem lists_pos (j : Nat) : isTrue (runK ftab2 200 false .none (.mk .x0 .x0 .x3) [.int 3 (.ofNat (j + 9))] h0 finK) = true := by kernel_rfl

theorem lists_run (z : Int) : isTrue (runK ftab2 200 false .none (.mk .x0 .x0 .x3) [.int 3 z] h0 finK) = true := by
  match z with
  | .negSucc j => exact lists_neg j
  | .ofNat 0 => exact lists_0
  | .ofNat 1 => exact lists_1
  | .ofNat 2 => exact lists_2
  | .ofNat 3 => exact lists_3
  | .ofNat 4 => exact lists_4
  | .ofNat 5 => exact lists_5
  | .ofNat 6 => exact lists_6
  | .ofNat 7 => exact lists_7
  | .ofNat 8 => exact lists_8
  | .ofNat (j + 9) => exact lists_pos j

end Go.Proofs.YtpngpoeifgkclaaGreatDoor
