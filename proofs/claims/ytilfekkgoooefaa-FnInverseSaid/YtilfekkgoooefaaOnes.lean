/-
  OnesCount of a number below 8. No condition but that.
-/
import Derived.Test.YtilfekkgoooefaaInts
import Derived.Test.YtilfekkgoooefaaSumLaw
namespace Go.Proofs.Ytilfekkgoooefaa
open Go.ChangeShapes Go.WideShapes Go.ChangeAt Go.RowKit
set_option linter.unusedVariables false
set_option maxRecDepth 100000 in
set_option maxHeartbeats 4000000 in
theorem ones (b : Nat) (hb : b < 8) (w : World) :
    Calls Try.prog 46 #[.int .u64 (b : Int)] w fun e w' => e = .returned (.int .i64 (pop3 b)) ∧ w = w' := by
  rcases (show b = 0 ∨ b = 1 ∨ b = 2 ∨ b = 3 ∨ b = 4 ∨ b = 5 ∨ b = 6 ∨ b = 7 by omega) with rfl | rfl | rfl | rfl | rfl | rfl | rfl | rfl
  · rw [show ((0 : Nat) : Int) = 0 from rfl]; go_enter Try.func46, Try.ntmps46; go_wp2; go_ret; exact ⟨ret_int (by decide +kernel), rfl⟩
  · rw [show ((1 : Nat) : Int) = 1 from rfl]; go_enter Try.func46, Try.ntmps46; go_wp2; go_ret; exact ⟨ret_int (by decide +kernel), rfl⟩
  · rw [show ((2 : Nat) : Int) = 2 from rfl]; go_enter Try.func46, Try.ntmps46; go_wp2; go_ret; exact ⟨ret_int (by decide +kernel), rfl⟩
  · rw [show ((3 : Nat) : Int) = 3 from rfl]; go_enter Try.func46, Try.ntmps46; go_wp2; go_ret; exact ⟨ret_int (by decide +kernel), rfl⟩
  · rw [show ((4 : Nat) : Int) = 4 from rfl]; go_enter Try.func46, Try.ntmps46; go_wp2; go_ret; exact ⟨ret_int (by decide +kernel), rfl⟩
  · rw [show ((5 : Nat) : Int) = 5 from rfl]; go_enter Try.func46, Try.ntmps46; go_wp2; go_ret; exact ⟨ret_int (by decide +kernel), rfl⟩
  · rw [show ((6 : Nat) : Int) = 6 from rfl]; go_enter Try.func46, Try.ntmps46; go_wp2; go_ret; exact ⟨ret_int (by decide +kernel), rfl⟩
  · rw [show ((7 : Nat) : Int) = 7 from rfl]; go_enter Try.func46, Try.ntmps46; go_wp2; go_ret; exact ⟨ret_int (by decide +kernel), rfl⟩
end Go.Proofs.Ytilfekkgoooefaa
