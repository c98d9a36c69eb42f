/-
  The laws' helpers big, sameInts, has. No condition.
-/
import Derived.Test.YtcjodaoeoifbcaaInts
namespace Go.Proofs.Ytcjodaoeoifbcaa
open Go.ChangeShapes Go.WideShapes Go.ChangeAt Go.RowKit
set_option linter.unusedVariables false
theorem big_no (A : Option Addr) (n c : Nat) (w : World) (hn : n ≤ 1048576) :
    Calls Try.prog 42 #[.slice A n c] w fun e w' => e = .returned (.bool false) ∧ w = w' := by
  have h : ¬ (1048576 : Int) < (n : Int) := by omega
  have h2 : decide ((1048576 : Int) < (n : Int)) = false := by simpa using h
  clear h
  go_enter Try.func42, Try.ntmps42
  go_wp2
  go_ret
  exact ⟨ret_bool (by simp), rfl⟩
theorem big_yes (A : Option Addr) (n c : Nat) (w : World) (hn : ¬ n ≤ 1048576) :
    Calls Try.prog 42 #[.slice A n c] w fun e w' => e = .returned (.bool true) ∧ w = w' := by
  have h : (1048576 : Int) < (n : Int) := by omega
  have h2 : decide ((1048576 : Int) < (n : Int)) = true := by simpa using h
  clear h
  go_enter Try.func42, Try.ntmps42
  go_wp2
  go_ret
  exact ⟨ret_bool (by simp), rfl⟩
set_option maxRecDepth 100000 in
theorem sameInts_yes (A A' : Option Addr) (n c c' : Nat) (zs : List Int) (w : World) (h : RI w A n zs) (h' : RI w A' n zs) (hn : n ≤ 1000000000) :
    Calls Try.prog 45 #[.slice A n c, .slice A' n c'] w fun e w' => e = .returned (.bool true) ∧ Below w.heap.size w w' := by
  go_enter Try.func45, Try.ntmps45
  go_wp2
  go_loopw [5] (fun i wr => ∃ k m : Nat, k ≤ n ∧ i = .int .i64 k ∧ wr = w.drewN m) (fun i _ => n - (intOf i).toNat)
  case atStart => exact ⟨0, 0, Nat.zero_le _, rfl, rfl⟩
  case round =>
    obtain ⟨k, m, hk, rfl, rfl⟩ := hrel
    by_cases hlt : k < n
    · obtain ⟨b, off, rfl, hbl, hc⟩ := h.at_ hlt
      obtain ⟨b', off', rfl, hbl', hc'⟩ := h'.at_ hlt
      have h1 := hc k hlt
      have h2 := hc' k hlt
      obtain ⟨x, hx⟩ : ∃ x, x = zs.getD k 0 := ⟨_, rfl⟩
      rw [← hx] at h1 h2
      have hlt0 : (0 : Int) ≤ (k : Int) := by omega
      have hlt1 : (k : Int) < (n : Int) := by omega
      clear hx hc hc' h h'
      go_wp2
      go_quiet (fail)
      go_wp2
      go_roundw
      case rel => exact ⟨k + 1, _, by omega, by go_num, rfl⟩
      case measure => simp [intOf]; omega
    · have hke : k = n := by omega
      subst hke
      go_wp2
      go_ret
      exact ⟨rfl, below_drewN (Below.refl _ _) m⟩
set_option maxRecDepth 100000 in
theorem has_yes (A : Option Addr) (n c : Nat) (zs : List Int) (x : Int) (j : Nat) (w : World) (h : RI w A n zs) (hj : j < n) (hx : zs.getD j 0 = x) (hn : n ≤ 1000000) :
    Calls Try.prog 46 #[.slice A n c, .int .i64 x] w fun e w' => e = .returned (.bool true) ∧ w = w' := by
  obtain ⟨b, off, rfl, hbl, hc⟩ := h.at_ hj
  have HX := Lib.hid hx
  clear hx h
  go_enter Try.func46, Try.ntmps46
  go_wp2
  go_loop [5] (fun i => ∃ k : Nat, k ≤ j ∧ i = .int .i64 k) (fun i => n - (intOf i).toNat)
  case atStart => exact ⟨0, Nat.zero_le _, rfl⟩
  case round =>
    obtain ⟨k, hk, rfl⟩ := hrel
    have hkn : (k : Int) < (n : Int) := by omega
    by_cases he : zs.getD k 0 = x
    · have h1 := hc k (by omega)
      rw [he] at h1
      clear he hc
      go_wp2
      go_ret
      exact ⟨rfl, rfl⟩
    · have hkj : k < j := by
        rcases Nat.lt_or_ge k j with h | h
        · exact h
        · exact absurd (show zs.getD k 0 = x by rw [show k = j by omega]; exact HX.out) he
      have h1 := hc k (by omega)
      obtain ⟨y, hy⟩ : ∃ y, y = zs.getD k 0 := ⟨_, rfl⟩
      rw [← hy] at h1 he
      have he' : (y == x) = false := by rw [beq_eq_false_iff_ne]; exact he
      clear he hy hc
      go_wp2
      go_round
      case rel => exact ⟨k + 1, by omega, by go_num⟩
      case measure => simp [intOf]; omega
end Go.Proofs.Ytcjodaoeoifbcaa
