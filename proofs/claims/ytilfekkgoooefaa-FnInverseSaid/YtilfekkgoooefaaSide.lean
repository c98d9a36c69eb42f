/-
  The side of a square by its number of cells (4, 8, or 0), the reference's and the program's; floor division, both; LevelsOk, both.
-/
import Derived.Test.YtilfekkgoooefaaInts
namespace Go.Proofs.Ytilfekkgoooefaa
open Go.ChangeShapes Go.WideShapes Go.ChangeAt Go.RowKit
set_option linter.unusedVariables false
def side (n : Nat) : Int := if n = 16 then 4 else if n = 64 then 8 else 0
theorem iSide (n : Nat) (w : World) :
    Calls Try.prog 36 #[.int .i64 (n : Int)] w fun e w' => e = .returned (.int .i64 (side n)) ∧ w = w' := by
  by_cases h1 : n = 16
  · subst h1
    go_enter Try.func36, Try.ntmps36
    go_wp2
    go_ret
    exact ⟨rfl, rfl⟩
  · have e1 : ((n : Int) == 16) = false := by simp; omega
    by_cases h2 : n = 64
    · subst h2
      go_enter Try.func36, Try.ntmps36
      go_wp2
      go_ret
      exact ⟨rfl, rfl⟩
    · have e2 : ((n : Int) == 64) = false := by simp; omega
      have e3 : Hid (side n = 0) := by show side n = 0; unfold side; rw [if_neg h1, if_neg h2]
      clear h1 h2
      go_enter Try.func36, Try.ntmps36
      go_wp2
      go_ret
      exact ⟨by rw [e3.out]; rfl, rfl⟩
/-- A level's range. -/
def okLev (x : Int) : Bool := decide (-16383 ≤ x) && decide (x ≤ 16383)
def levelsOk (l : List Int) : Bool := l.all okLev && decide (0 < side l.length)
def LevTo (zs : List Int) (k : Nat) : Prop := ∀ x ∈ zs.take k, okLev x = true
theorem take_snoc_l (zs : List Int) (k : Nat) (h : k < zs.length) : zs.take (k + 1) = zs.take k ++ [zs.getD k 0] := by
  rw [List.take_add_one, List.getElem?_eq_getElem h, List.getD_eq_getElem?_getD, List.getElem?_eq_getElem h]; rfl
theorem LevTo.succ {zs : List Int} {k : Nat} (h : LevTo zs k) (hk : k < zs.length) (hx : okLev (zs.getD k 0) = true) : LevTo zs (k + 1) := by
  intro x hm
  rw [take_snoc_l zs k hk] at hm
  rcases List.mem_append.1 hm with hm | hm
  · exact h x hm
  · simp at hm; subst hm; simpa using hx
theorem levelsOk_bad {zs : List Int} {k : Nat} (hk : k < zs.length) (hx : okLev (zs.getD k 0) = false) : levelsOk zs = false := by
  unfold levelsOk
  have : zs.all okLev = false := by
    rw [List.all_eq_false]
    refine ⟨zs.getD k 0, ?_, by rw [hx]; decide⟩
    rw [List.getD_eq_getElem?_getD, List.getElem?_eq_getElem hk]; exact List.getElem_mem hk
  rw [this]; rfl
theorem levelsOk_end {zs : List Int} (h : LevTo zs zs.length) : levelsOk zs = decide (0 < side zs.length) := by
  unfold levelsOk
  have : zs.all okLev = true := by
    rw [List.all_eq_true]
    intro x hx
    exact h x (by rw [List.take_length]; exact hx)
  rw [this]; rfl
end Go.Proofs.Ytilfekkgoooefaa
