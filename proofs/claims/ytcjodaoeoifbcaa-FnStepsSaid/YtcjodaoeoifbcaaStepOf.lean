/-
  StepOf, the reference's and the program's: both return 'stepOf q'. No condition.
-/
import Derived.Test.YtcjodaoeoifbcaaIn
namespace Go.Proofs.Ytcjodaoeoifbcaa
open Go.ChangeShapes Go.WideShapes Go.ChangeAt Go.RowKit
set_option linter.unusedVariables false

def stepBase (r : Int) : Int := [8, 9, 10, 11, 13, 14].getD r.toNat 0
theorem stepBase_at (r : Int) (h0 : 0 ≤ r) (h1 : r < 6) : [Value.int .i64 8, .int .i64 9, .int .i64 10, .int .i64 11, .int .i64 13, .int .i64 14][r.toNat]? = some (.int .i64 (stepBase r)) := by
  obtain ⟨n, rfl⟩ := Int.eq_ofNat_of_zero_le h0
  match n, h1 with
  | 0, _ => rfl
  | 1, _ => rfl
  | 2, _ => rfl
  | 3, _ => rfl
  | 4, _ => rfl
  | 5, _ => rfl
  | n + 6, h => omega
def stepOf (q : Int) : Int := if 0 ≤ q ∧ q ≤ 51 then stepBase (q % 6) * 2 ^ (q / 6).toNat / 8 else 0
theorem stepOf_small : ∀ n : Fin 52, wrap64 ((wrap64 (stepBase ((n.val : Int) % 6) * 2 ^ ((n.val : Int) / 6).toNat)).tdiv 8) = stepOf n.val := by decide +kernel
theorem stepOf_eq (q : Int) (h0 : 0 ≤ q) (h1 : q ≤ 51) : wrap64 ((wrap64 (stepBase (q % 6) * 2 ^ (q / 6).toNat)).tdiv 8) = stepOf q := by
  obtain ⟨n, rfl⟩ := Int.eq_ofNat_of_zero_le h0
  exact stepOf_small ⟨n, by omega⟩
theorem stepOf_out (q : Int) (h : q < 0 ∨ 51 < q) : stepOf q = 0 := by unfold stepOf; rw [if_neg (by omega)]
theorem stepOf_bd : ∀ n : Fin 52, 1 ≤ stepOf n.val ∧ stepOf n.val ≤ 352 := by decide +kernel
theorem stepOf_range (q : Int) : 0 ≤ stepOf q ∧ stepOf q ≤ 352 := by
  by_cases h : 0 ≤ q ∧ q ≤ 51
  · obtain ⟨n, rfl⟩ := Int.eq_ofNat_of_zero_le h.1
    have := stepOf_bd ⟨n, by omega⟩
    simp only at this
    omega
  · rw [stepOf_out q (by omega)]; omega
theorem stepOf_pos (q : Int) (h0 : 0 ≤ q) (h1 : q ≤ 51) : 1 ≤ stepOf q := by
  obtain ⟨n, rfl⟩ := Int.eq_ofNat_of_zero_le h0
  exact (stepOf_bd ⟨n, by omega⟩).1

theorem sStepOf_in (q : Int) (h0 : 0 ≤ q) (h1 : q ≤ 51) (w : World) :
    Calls Try.prog 52 #[.int .i64 q] w fun e w' => e = .returned (.int .i64 (stepOf q)) ∧ Below w.heap.size w w' := by
  have ht := stepBase_at (q % 6) (by omega) (by omega)
  go_enter Try.func52, Try.ntmps52
  go_wp2
  go_ret
  exact ⟨ret_int (stepOf_eq q h0 h1), (Below.refl _ _).alloc (Nat.le_refl _) _⟩
theorem iStepOf_in (q : Int) (h0 : 0 ≤ q) (h1 : q ≤ 51) (w : World) :
    Calls Try.prog 51 #[.int .i64 q] w fun e w' => e = .returned (.int .i64 (stepOf q)) ∧ Below w.heap.size w w' := by
  have ht := stepBase_at (q % 6) (by omega) (by omega)
  go_enter Try.func51, Try.ntmps51
  go_wp2
  go_ret
  exact ⟨ret_int (stepOf_eq q h0 h1), (Below.refl _ _).alloc (Nat.le_refl _) _⟩
theorem sStepOf_out (q : Int) (h : q < 0 ∨ 51 < q) (w : World) :
    Calls Try.prog 52 #[.int .i64 q] w fun e w' => e = .returned (.int .i64 0) ∧ Below w.heap.size w w' := by
  go_enter Try.func52, Try.ntmps52
  go_wp2_with (go_at_call 55; refine (sIn_no _ _ _ _ h).mono ?_; rintro e w' ⟨rfl, rfl⟩)
  go_ret
  exact ⟨rfl, Below.refl _ _⟩
theorem iStepOf_out (q : Int) (h : q < 0 ∨ 51 < q) (w : World) :
    Calls Try.prog 51 #[.int .i64 q] w fun e w' => e = .returned (.int .i64 0) ∧ Below w.heap.size w w' := by
  go_enter Try.func51, Try.ntmps51
  go_wp2_with (go_at_call 57; refine (iIn_no _ _ _ _ h).mono ?_; rintro e w' ⟨rfl, rfl⟩)
  go_ret
  exact ⟨rfl, Below.refl _ _⟩
theorem sStepOf (q : Int) (w : World) :
    Calls Try.prog 52 #[.int .i64 q] w fun e w' => e = .returned (.int .i64 (stepOf q)) ∧ Below w.heap.size w w' := by
  by_cases h : 0 ≤ q ∧ q ≤ 51
  · exact sStepOf_in q h.1 h.2 w
  · rw [stepOf_out q (by omega)]; exact sStepOf_out q (by omega) w
theorem iStepOf (q : Int) (w : World) :
    Calls Try.prog 51 #[.int .i64 q] w fun e w' => e = .returned (.int .i64 (stepOf q)) ∧ Below w.heap.size w w' := by
  by_cases h : 0 ≤ q ∧ q ≤ 51
  · exact iStepOf_in q h.1 h.2 w
  · rw [stepOf_out q (by omega)]; exact iStepOf_out q (by omega) w
end Go.Proofs.Ytcjodaoeoifbcaa
