/-
  FnExactBitAt: the program's BitAt returns what the reference's returns, for all arguments. No condition.
-/
import Derived.Test.YteojnjcoamcigaaBase
namespace Go.Proofs.Yteojnjcoamcigaa
open Go.ChangeShapes Go.WideShapes Go.ChangeAt Go.RowKit
set_option linter.unusedVariables false

/-- Bit i of a text, the highest of each byte first; -1 where there is none. -/
def bitAt (s : ByteArray) (i : Int) : Int :=
  if h : 0 ≤ i ∧ i < 8 * (s.size : Int) then ((s[(i / 8).toNat]'(by omega)).toNat : Int) / 2 ^ (7 - i % 8).toNat % 2 else -1

theorem pow_pos' (n : Nat) : (0 : Int) < 2 ^ n := Int.pow_pos (by decide)
theorem div_le_byte (b : UInt8) (n : Nat) : 0 ≤ (b.toNat : Int) / 2 ^ n ∧ (b.toNat : Int) / 2 ^ n ≤ 255 := by
  have hb := byte_lt b
  have hp := pow_pos' n
  refine ⟨Int.ediv_nonneg (by omega) (by omega), ?_⟩
  have := Int.ediv_le_self (2 ^ n) (show (0 : Int) ≤ (b.toNat : Int) by omega)
  omega

theorem sBitAt_in (s : ByteArray) (i : Int) (hs : s.size ≤ 1048576) (h0 : 0 ≤ i) (h1 : i < 8 * s.size) (w : World) :
    Calls Try.prog 52 #[.string s, .int .i64 i] w fun e w' => e = .returned (.int .i64 (bitAt s i)) ∧ w' = w := by
  go_enter Try.func52, Try.ntmps52
  go_wp2
  go_ret
  refine ⟨ret_int ?_, rfl⟩
  have := div_le_byte (s[(i / 8).toNat]'(by omega)) (7 - i % 8).toNat
  rw [byte_wrap, i64_and_one _ (by omega) (by omega), bitAt, dif_pos ⟨h0, h1⟩]
theorem iBitAt_in (s : ByteArray) (i : Int) (hs : s.size ≤ 1048576) (h0 : 0 ≤ i) (h1 : i < 8 * s.size) (w : World) :
    Calls Try.prog 45 #[.string s, .int .i64 i] w fun e w' => e = .returned (.int .i64 (bitAt s i)) ∧ w' = w := by
  go_enter Try.func45, Try.ntmps45
  go_wp2
  go_ret
  refine ⟨ret_int ?_, rfl⟩
  have := div_le_byte (s[(i / 8).toNat]'(by omega)) (7 - i % 8).toNat
  rw [IntWalk.wrap64_in _ (by omega), i64_and_one _ (by omega) (by omega), bitAt, dif_pos ⟨h0, h1⟩]
theorem sBitAt_out (s : ByteArray) (i : Int) (hs : s.size ≤ 1048576) (h : i < 0 ∨ 8 * s.size ≤ i) (w : World) :
    Calls Try.prog 52 #[.string s, .int .i64 i] w fun e w' => e = .returned (.int .i64 (-1)) ∧ w' = w := by
  rcases h with h | h
  all_goals
    go_enter Try.func52, Try.ntmps52
    go_wp2
    go_ret
    exact ⟨rfl, rfl⟩
theorem iBitAt_out (s : ByteArray) (i : Int) (hs : s.size ≤ 1048576) (h : i < 0 ∨ 8 * s.size ≤ i) (w : World) :
    Calls Try.prog 45 #[.string s, .int .i64 i] w fun e w' => e = .returned (.int .i64 (-1)) ∧ w' = w := by
  rcases h with h | h
  all_goals
    go_enter Try.func45, Try.ntmps45
    go_wp2
    go_ret
    exact ⟨rfl, rfl⟩
theorem bitAt_out (s : ByteArray) (i : Int) (h : i < 0 ∨ 8 * s.size ≤ i) : bitAt s i = -1 := by unfold bitAt; rw [dif_neg (by omega)]
theorem sBitAt (s : ByteArray) (i : Int) (hs : s.size ≤ 1048576) (w : World) :
    Calls Try.prog 52 #[.string s, .int .i64 i] w fun e w' => e = .returned (.int .i64 (bitAt s i)) ∧ w' = w := by
  by_cases h : 0 ≤ i ∧ i < 8 * (s.size : Int)
  · exact sBitAt_in s i hs h.1 h.2 w
  · rw [bitAt_out s i (by omega)]; exact sBitAt_out s i hs (by omega) w
theorem iBitAt (s : ByteArray) (i : Int) (hs : s.size ≤ 1048576) (w : World) :
    Calls Try.prog 45 #[.string s, .int .i64 i] w fun e w' => e = .returned (.int .i64 (bitAt s i)) ∧ w' = w := by
  by_cases h : 0 ≤ i ∧ i < 8 * (s.size : Int)
  · exact iBitAt_in s i hs h.1 h.2 w
  · rw [bitAt_out s i (by omega)]; exact iBitAt_out s i hs (by omega) w
theorem bitAt_range (s : ByteArray) (i : Int) : -1 ≤ bitAt s i ∧ bitAt s i ≤ 1 := by unfold bitAt; split <;> omega
theorem bitAt_range_in (s : ByteArray) (i : Int) (h0 : 0 ≤ i) (h1 : i < 8 * s.size) : 0 ≤ bitAt s i ∧ bitAt s i ≤ 1 := by unfold bitAt; rw [dif_pos ⟨h0, h1⟩]; omega
end Go.Proofs.Yteojnjcoamcigaa
