/-
  UeSize, the reference's and the program's: both return 'ueSize n'. No condition.
-/
import Derived.Test.YteojnjcoamcigaaIn
import Derived.Test.YteojnjcoamcigaaShelf
import Derived.Lib.ItoaNum
namespace Go.Proofs.Yteojnjcoamcigaa
open Go.ChangeShapes Go.WideShapes Go.ChangeAt Go.RowKit
set_option linter.unusedVariables false
/-- How many zeros stand ahead of n's code. -/
def ueZ (n : Nat) : Nat := Lib.bitLen (n + 1) - 1
theorem ueZ_spec (n : Nat) (h : n ≤ 65534) : 2 ^ ueZ n ≤ n + 1 ∧ n + 1 < 2 ^ (ueZ n + 1) ∧ ueZ n ≤ 15 ∧ Lib.bitLen (n + 1) = ueZ n + 1 := by
  have h1 := Lib.bitLenAux_bounds 64 (n + 1) (by omega) (by omega)
  have h2 := Lib.bitLen_le (n + 1) 16 (by omega) (by omega)
  have e : Lib.bitLen (n + 1) = Lib.bitLenAux 64 (n + 1) := rfl
  unfold ueZ
  rw [e] at h2 ⊢
  refine ⟨h1.2.1, ?_, by omega, by omega⟩
  rw [show Lib.bitLenAux 64 (n + 1) - 1 + 1 = Lib.bitLenAux 64 (n + 1) from by omega]
  exact h1.2.2
theorem zero_ahead (n z : Nat) (h : n ≤ 65534) (hz : z < ueZ n) : (((n : Int) + 1) / 2 ^ (z + 1) != 0) = true := by
  have h1 := (ueZ_spec n h).1
  have h2 : 2 ^ (z + 1) ≤ 2 ^ ueZ n := Nat.pow_le_pow_right (by decide) (by omega)
  have h3 : 0 < (n + 1) / 2 ^ (z + 1) := Nat.div_pos (by omega) (Nat.pow_pos (by decide))
  have e : ((n : Int) + 1) / 2 ^ (z + 1) = (((n + 1) / 2 ^ (z + 1) : Nat) : Int) := by
    rw [Int.natCast_ediv, Int.natCast_pow]; rfl
  rw [e]
  simp
  omega
theorem zero_end (n : Nat) (h : n ≤ 65534) : (((n : Int) + 1) / 2 ^ (ueZ n + 1) != 0) = false := by
  have h1 := (ueZ_spec n h).2.1
  have h3 : (n + 1) / 2 ^ (ueZ n + 1) = 0 := Nat.div_eq_of_lt h1
  have e : ((n : Int) + 1) / 2 ^ (ueZ n + 1) = (((n + 1) / 2 ^ (ueZ n + 1) : Nat) : Int) := by
    rw [Int.natCast_ediv, Int.natCast_pow]; rfl
  rw [e, h3]
  rfl
set_option maxRecDepth 100000 in
theorem sZeros (n : Nat) (h : n ≤ 65534) (w : World) :
    Calls Try.prog 55 #[.int .i64 (n : Int)] w fun e w' => e = .returned (.int .i64 (ueZ n : Int)) ∧ w = w' := by
  have hb := (ueZ_spec n h).2.2.1
  go_enter Try.func55, Try.ntmps55
  go_wp2
  go_loop [3] (fun z => ∃ k : Nat, k ≤ ueZ n ∧ z = .int .i64 k) (fun z => ueZ n - (intOf z).toNat)
  case atStart => exact ⟨0, Nat.zero_le _, rfl⟩
  case round =>
    obtain ⟨k, hk, rfl⟩ := hrel
    by_cases hlt : k < ueZ n
    · have ht := zero_ahead n k h hlt
      go_wp2
      go_round
      case rel => exact ⟨k + 1, by omega, by go_num⟩
      case measure => simp [intOf]; omega
    · have hke : k = ueZ n := by omega
      subst hke
      have ht := zero_end n h
      go_wp2
      go_ret
      exact ⟨rfl, rfl⟩
/-- What UeSize gives. -/
def ueSize (n : Int) : Int := if 0 ≤ n ∧ n ≤ 65534 then 2 * (ueZ n.toNat : Int) + 1 else 0
theorem iUeSize_in (n : Nat) (h : n ≤ 65534) (w : World) :
    Calls Try.prog 56 #[.int .i64 (n : Int)] w fun e w' => e = .returned (.int .i64 (2 * (ueZ n : Int) + 1)) ∧ w = w' := by
  have hb := (ueZ_spec n h).2.2.1
  have hl := (ueZ_spec n h).2.2.2
  have hr : (0 : Int) ≤ (n : Int) ∧ (n : Int) ≤ 65534 := by omega
  have hN : ((n : Int) + 1).toNat = n + 1 := by omega
  have HC : ∀ w : World, Calls Try.prog 63 #[.int .u64 ((n : Int) + 1)] w fun e w' => e = .returned (.int .i64 (ueZ n + 1 : Int)) ∧ w' = w := by
    intro w
    have := Try.bits_Len ((n : Int) + 1) w (by omega) (by omega)
    rw [hN, hl] at this
    exact this
  have HC' := Lib.hid HC
  clear HC hl
  go_enter Try.func56, Try.ntmps56
  go_wp2_with (first
    | (go_at_call 49; refine (iIn_yes _ _ _ _ hr).mono ?_; rintro e w' ⟨rfl, rfl⟩)
    | (go_at_call 63; refine (HC'.out _).mono ?_; rintro e w' ⟨rfl, rfl⟩))
  go_ret
  exact ⟨ret_int (by omega), rfl⟩
theorem iUeSize_out (n : Int) (h : n < 0 ∨ 65534 < n) (w : World) :
    Calls Try.prog 56 #[.int .i64 n] w fun e w' => e = .returned (.int .i64 0) ∧ w = w' := by
  go_enter Try.func56, Try.ntmps56
  go_wp2_with (first
    | (go_at_call 49; refine (iIn_no _ _ _ _ h).mono ?_; rintro e w' ⟨rfl, rfl⟩))
  go_ret
  exact ⟨rfl, rfl⟩
theorem iUeSize (n : Int) (w : World) :
    Calls Try.prog 56 #[.int .i64 n] w fun e w' => e = .returned (.int .i64 (ueSize n)) ∧ w = w' := by
  unfold ueSize
  by_cases h : 0 ≤ n ∧ n ≤ 65534
  · rw [if_pos h]
    obtain ⟨k, rfl⟩ := Int.eq_ofNat_of_zero_le h.1
    exact iUeSize_in k (by omega) w
  · rw [if_neg h]; exact iUeSize_out n (by omega) w
end Go.Proofs.Yteojnjcoamcigaa
