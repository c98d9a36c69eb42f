/-
  NormAt, the reference's and the program's: both return 'normAt n i'. No condition.
-/
import Derived.Test.YtilfekkgoooefaaIn
namespace Go.Proofs.Ytilfekkgoooefaa
open Go.ChangeShapes Go.WideShapes Go.ChangeAt Go.RowKit
set_option linter.unusedVariables false

def norm4 (k : Int) : Int := if k = 0 then 100 else if k = 1 then 40 else 16
def normAt (n i : Int) : Int := if n = 8 ∧ 0 ≤ i ∧ i ≤ 63 then 1 else if n = 4 ∧ 0 ≤ i ∧ i ≤ 15 then norm4 (i / 4 % 2 + i % 2) else 0
theorem norm4_at (k : Int) (h0 : 0 ≤ k) (h1 : k ≤ 2) : [Value.int .i64 100, .int .i64 40, .int .i64 16][k.toNat]? = some (.int .i64 (norm4 k)) := by
  obtain ⟨n, rfl⟩ := Int.eq_ofNat_of_zero_le h0
  match n, h1 with
  | 0, _ => rfl
  | 1, _ => rfl
  | 2, _ => rfl
  | n + 3, h => omega
theorem sNormAt_4 (i : Int) (h0 : 0 ≤ i) (h1 : i ≤ 15) (w : World) :
    Calls Try.prog 21 #[.int .i64 4, .int .i64 i] w fun e w' => e = .returned (.int .i64 (normAt 4 i)) ∧ Below w.heap.size w w' := by
  have ht := norm4_at (i / 4 % 2 + i % 2) (by omega) (by omega)
  go_enter Try.func21, Try.ntmps21
  go_wp2
  go_ret
  exact ⟨ret_int (by unfold normAt; rw [if_neg (by omega), if_pos ⟨rfl, h0, h1⟩]), by go_grown⟩
theorem sNormAt_8 (i : Int) (h0 : 0 ≤ i) (h1 : i ≤ 63) (w : World) :
    Calls Try.prog 21 #[.int .i64 8, .int .i64 i] w fun e w' => e = .returned (.int .i64 (normAt 8 i)) ∧ Below w.heap.size w w' := by
  go_enter Try.func21, Try.ntmps21
  go_wp2
  go_ret
  exact ⟨ret_int (by unfold normAt; rw [if_pos ⟨rfl, h0, h1⟩]), by go_grown⟩
theorem sNormAt_out (n i : Int) (h : n = 4 ∧ (i < 0 ∨ 15 < i) ∨ n = 8 ∧ (i < 0 ∨ 63 < i)) (w : World) :
    Calls Try.prog 21 #[.int .i64 n, .int .i64 i] w fun e w' => e = .returned (.int .i64 0) ∧ Below w.heap.size w w' := by
  rcases h with ⟨rfl, h⟩ | ⟨rfl, h⟩
  all_goals
    go_enter Try.func21, Try.ntmps21
    go_wp2_with (first
      | (go_at_call 28; refine (sIn_no _ _ _ _ h).mono ?_; rintro e w' ⟨rfl, rfl⟩)
      | go_in)
    go_ret
    exact ⟨rfl, by go_grown⟩
theorem sNormAt_bad (n i : Int) (h4 : ¬ n = 4) (h8 : ¬ n = 8) (w : World) :
    Calls Try.prog 21 #[.int .i64 n, .int .i64 i] w fun e w' => e = .returned (.int .i64 0) ∧ Below w.heap.size w w' := by
  go_enter Try.func21, Try.ntmps21
  go_wp2
  go_ret
  exact ⟨rfl, by go_grown⟩
theorem normAt_out (n i : Int) (h : n = 4 ∧ (i < 0 ∨ 15 < i) ∨ n = 8 ∧ (i < 0 ∨ 63 < i)) : normAt n i = 0 := by
  unfold normAt; rw [if_neg (by omega), if_neg (by omega)]
theorem normAt_bad (n i : Int) (h4 : ¬ n = 4) (h8 : ¬ n = 8) : normAt n i = 0 := by
  unfold normAt; rw [if_neg (by omega), if_neg (by omega)]
theorem sNormAt (n i : Int) (w : World) :
    Calls Try.prog 21 #[.int .i64 n, .int .i64 i] w fun e w' => e = .returned (.int .i64 (normAt n i)) ∧ Below w.heap.size w w' := by
  by_cases h4 : n = 4
  · by_cases h : 0 ≤ i ∧ i ≤ 15
    · rw [h4]; exact sNormAt_4 i h.1 h.2 w
    · rw [normAt_out n i (by omega)]; exact sNormAt_out n i (by omega) w
  · by_cases h8 : n = 8
    · by_cases h : 0 ≤ i ∧ i ≤ 63
      · rw [h8]; exact sNormAt_8 i h.1 h.2 w
      · rw [normAt_out n i (by omega)]; exact sNormAt_out n i (by omega) w
    · rw [normAt_bad n i h4 h8]; exact sNormAt_bad n i h4 h8 w
end Go.Proofs.Ytilfekkgoooefaa
