/-
  slices.Clone at []int, whatever the slice: the shelf's three contracts as one. No condition but at most 2^20 numbers.
-/
import Derived.Test.YteojnjcoamcigaaInts
import Derived.Test.YteojnjcoamcigaaShelf
namespace Go.Proofs.Yteojnjcoamcigaa
open Go.ChangeShapes Go.WideShapes Go.ChangeAt Go.RowKit
set_option linter.unusedVariables false
theorem iClone (A : Option Addr) (n c : Nat) (zs : List Int) (w : World) (h : RI w A n zs) (hn : n ≤ 1048576) :
    Calls Try.prog 54 #[.slice A n c] w fun e w' => ∃ A' c', e = .returned (.slice A' n c') ∧ OB w' w.heap.size w'.heap.size A' n c' zs ∧ Below w.heap.size w w' := by
  by_cases h0 : n = 0
  · subst h0
    have hz : zs = [] := List.eq_nil_of_length_eq_zero h.len
    subst hz
    cases A with
    | none =>
      refine (Try.slices_Clone_int_nil 0 c w).mono ?_
      rintro e w' ⟨rfl, rfl⟩
      exact ⟨none, 0, rfl, ⟨World.ownsRow_nil _ _ _ _, fun k hk => by simp [Value.ownBlock] at hk⟩, Below.refl _ _⟩
    | some a =>
      refine (Try.slices_Clone_int_zero a c w).mono ?_
      rintro e w' ⟨v', rfl, ho, _, hb⟩
      obtain ⟨A', c', rfl⟩ := owns_shape ho
      exact ⟨A', c', rfl, OB.new ho, hb⟩
  · obtain ⟨b, off, rfl, _, hc⟩ := h.2 (by omega)
    refine (Try.slices_Clone_int b off n c zs w (by rw [h.len]; exact Nat.le_refl _) (by omega) (fun j hj => hc j (by rw [← h.len]; exact hj))).mono ?_
    rintro e w' ⟨v', rfl, ho, _, hb⟩
    obtain ⟨A', c', rfl⟩ := owns_shape ho
    rw [List.take_of_length_le (by rw [h.len]; exact Nat.le_refl _)] at ho
    exact ⟨A', c', rfl, OB.new ho, hb⟩
end Go.Proofs.Yteojnjcoamcigaa
