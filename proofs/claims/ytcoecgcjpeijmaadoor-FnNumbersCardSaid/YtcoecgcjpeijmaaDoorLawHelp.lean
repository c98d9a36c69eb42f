/-
  The laws' helpers big, sameInts, has. No condition.
-/
import Derived.Test.YtcoecgcjpeijmaaDoorInts
namespace Go.Proofs.YtcoecgcjpeijmaaDoor
open Go.ChangeShapes Go.WideShapes Go.ChangeAt Go.RowKit
set_option linter.unusedVariables false
theorem big_no (A : Option Addr) (n c : Nat) (w : World) (hn : n ≤ 1048576) :
    Calls Tryd.prog 8 #[.slice A n c] w fun e w' => e = .returned (.bool false) ∧ w = w' := by
  have h : ¬ (1048576 : Int) < (n : Int) := by omega
  have h2 : decide ((1048576 : Int) < (n : Int)) = false := by simpa using h
  clear h
  go_enter Tryd.func8, Tryd.ntmps8
  go_wp2
  go_ret
  exact ⟨ret_bool (by simp), rfl⟩
theorem big_yes (A : Option Addr) (n c : Nat) (w : World) (hn : ¬ n ≤ 1048576) :
    Calls Tryd.prog 8 #[.slice A n c] w fun e w' => e = .returned (.bool true) ∧ w = w' := by
  have h : (1048576 : Int) < (n : Int) := by omega
  have h2 : decide ((1048576 : Int) < (n : Int)) = true := by simpa using h
  clear h
  go_enter Tryd.func8, Tryd.ntmps8
  go_wp2
  go_ret
  exact ⟨ret_bool (by simp), rfl⟩
end Go.Proofs.YtcoecgcjpeijmaaDoor
