/-
  The side of a square by its number of cells (4, 8, or 0), the reference's and the program's; floor division, both; LevelsOk, both.
-/
import Derived.Test.YtcjodaoeoifbcaaInts
namespace Go.Proofs.Ytcjodaoeoifbcaa
open Go.ChangeShapes Go.WideShapes Go.ChangeAt Go.RowKit
set_option linter.unusedVariables false
def side (n : Nat) : Int := if n = 16 then 4 else if n = 64 then 8 else 0
theorem sSide (A : Option Addr) (n c : Nat) (w : World) :
    Calls Try.prog 56 #[.slice A n c] w fun e w' => e = .returned (.int .i64 (side n)) ∧ w = w' := by
  by_cases h1 : n = 16
  · subst h1
    go_enter Try.func56, Try.ntmps56
    go_wp2
    go_ret
    exact ⟨rfl, rfl⟩
  · have e1 : ((n : Int) == 16) = false := by simp; omega
    by_cases h2 : n = 64
    · subst h2
      go_enter Try.func56, Try.ntmps56
      go_wp2
      go_ret
      exact ⟨rfl, rfl⟩
    · have e2 : ((n : Int) == 64) = false := by simp; omega
      have e3 : Hid (side n = 0) := by show side n = 0; unfold side; rw [if_neg h1, if_neg h2]
      clear h1 h2
      go_enter Try.func56, Try.ntmps56
      go_wp2
      go_ret
      exact ⟨by rw [e3.out]; rfl, rfl⟩
theorem iSide (n : Nat) (w : World) :
    Calls Try.prog 58 #[.int .i64 (n : Int)] w fun e w' => e = .returned (.int .i64 (side n)) ∧ w = w' := by
  by_cases h1 : n = 16
  · subst h1
    go_enter Try.func58, Try.ntmps58
    go_wp2
    go_ret
    exact ⟨rfl, rfl⟩
  · have e1 : ((n : Int) == 16) = false := by simp; omega
    by_cases h2 : n = 64
    · subst h2
      go_enter Try.func58, Try.ntmps58
      go_wp2
      go_ret
      exact ⟨rfl, rfl⟩
    · have e2 : ((n : Int) == 64) = false := by simp; omega
      have e3 : Hid (side n = 0) := by show side n = 0; unfold side; rw [if_neg h1, if_neg h2]
      clear h1 h2
      go_enter Try.func58, Try.ntmps58
      go_wp2
      go_ret
      exact ⟨by rw [e3.out]; rfl, rfl⟩
/-- A level's range. -/
def okLev (x : Int) : Bool := decide (-16383 ≤ x) && decide (x ≤ 16383)
def levelsOk (l : List Int) : Bool := l.all okLev && decide (0 < side l.length)
def LevTo (zs : List Int) (k : Nat) : Prop := ∀ x ∈ zs.take k, okLev x = true
theorem take_snoc_l (zs : List Int) (k : Nat) (h : k < zs.length) : zs.take (k + 1) = zs.take k ++ [zs.getD k 0] := by
  rw [List.take_add_one, List.getElem?_eq_getElem h, List.getD_eq_getElem?_getD, List.getElem?_eq_getElem h]; rfl
theorem LevTo.succ {zs : List Int} {k : Nat} (h : LevTo zs k) (hk : k < zs.length) (hx : okLev (zs.getD k 0) = true) : LevTo zs (k + 1) := by
  intro x hm
  rw [take_snoc_l zs k hk] at hm
  rcases List.mem_append.1 hm with hm | hm
  · exact h x hm
  · simp at hm; subst hm; simpa using hx
theorem levelsOk_bad {zs : List Int} {k : Nat} (hk : k < zs.length) (hx : okLev (zs.getD k 0) = false) : levelsOk zs = false := by
  unfold levelsOk
  have : zs.all okLev = false := by
    rw [List.all_eq_false]
    refine ⟨zs.getD k 0, ?_, by rw [hx]; decide⟩
    rw [List.getD_eq_getElem?_getD, List.getElem?_eq_getElem hk]; exact List.getElem_mem hk
  rw [this]; rfl
theorem levelsOk_end {zs : List Int} (h : LevTo zs zs.length) : levelsOk zs = decide (0 < side zs.length) := by
  unfold levelsOk
  have : zs.all okLev = true := by
    rw [List.all_eq_true]
    intro x hx
    exact h x (by rw [List.take_length]; exact hx)
  rw [this]; rfl
set_option maxRecDepth 100000 in
theorem sLevelsOk (A : Option Addr) (n c : Nat) (zs : List Int) (w : World) (h : RI w A n zs) (hn : n ≤ 1048576) :
    Calls Try.prog 15 #[.slice A n c] w fun e w' => e = .returned (.bool (levelsOk zs)) ∧ Below w.heap.size w w' := by
  go_enter Try.func15, Try.ntmps15
  go_wp2
  go_loop [3] (fun i => ∃ k : Nat, k ≤ n ∧ i = .int .i64 k ∧ LevTo zs k) (fun i => n - (intOf i).toNat)
  case atStart => exact ⟨0, Nat.zero_le _, rfl, fun x hx => by simp at hx⟩
  case round =>
    obtain ⟨k, hk, rfl, hok⟩ := hrel
    have hlen := h.len
    by_cases hlt : k < n
    · obtain ⟨b, off, rfl, hbl, hc⟩ := h.at_ hlt
      have h1 := hc k hlt
      obtain ⟨x, hx⟩ : ∃ x, x = zs.getD k 0 := ⟨_, rfl⟩
      have hbad := fun hb => levelsOk_bad (zs := zs) (k := k) (by omega) hb
      have hgood := fun hb => LevTo.succ hok (by omega) hb
      rw [← hx] at h1 hbad hgood
      clear hx hc h
      by_cases hr : -16383 ≤ x ∧ x ≤ 16383
      · have hG := Lib.hid (hgood (by simp [okLev, hr.1, hr.2]))
        clear hbad hgood hok hlen
        go_wp2_with (first
          | (go_at_call 55; refine (sIn_yes _ _ _ _ hr).mono ?_; rintro e w' ⟨rfl, rfl⟩))
        go_round
        case rel => exact ⟨k + 1, by omega, by go_num, hG.out⟩
        case measure => simp [intOf]; omega
      · have hB := Lib.hid (hbad (by simp [okLev]; omega))
        have hr' : x < -16383 ∨ 16383 < x := by omega
        clear hbad hgood hok hr hlen
        go_wp2_with (first
          | (go_at_call 55; refine (sIn_no _ _ _ _ hr').mono ?_; rintro e w' ⟨rfl, rfl⟩))
        go_ret
        exact ⟨by rw [hB.out]; rfl, Below.refl _ _⟩
    · have hke : k = n := by omega
      subst hke
      have hE := Lib.hid (levelsOk_end (zs := zs) (by rw [hlen]; exact hok))
      clear hok
      go_wp2_with (first
        | (go_at_call 56; refine (sSide _ _ _ _).mono ?_; rintro e w' ⟨rfl, rfl⟩))
      go_ret
      exact ⟨by rw [hE.out, hlen]; rfl, Below.refl _ _⟩
set_option maxRecDepth 100000 in
theorem iLevelsOk (A : Option Addr) (n c : Nat) (zs : List Int) (w : World) (h : RI w A n zs) (hn : n ≤ 1048576) :
    Calls Try.prog 17 #[.slice A n c] w fun e w' => e = .returned (.bool (levelsOk zs)) ∧ Below w.heap.size w w' := by
  go_enter Try.func17, Try.ntmps17
  go_wp2
  go_loop [7] (fun i => ∃ k : Nat, k ≤ n ∧ i = .int .i64 k ∧ LevTo zs k) (fun i => n - (intOf i).toNat)
  case atStart => exact ⟨0, Nat.zero_le _, rfl, fun x hx => by simp at hx⟩
  case round =>
    obtain ⟨k, hk, rfl, hok⟩ := hrel
    have hlen := h.len
    by_cases hlt : k < n
    · obtain ⟨b, off, rfl, hbl, hc⟩ := h.at_ hlt
      have h1 := hc k hlt
      obtain ⟨x, hx⟩ : ∃ x, x = zs.getD k 0 := ⟨_, rfl⟩
      have hbad := fun hb => levelsOk_bad (zs := zs) (k := k) (by omega) hb
      have hgood := fun hb => LevTo.succ hok (by omega) hb
      rw [← hx] at h1 hbad hgood
      clear hx hc h
      by_cases hr : -16383 ≤ x ∧ x ≤ 16383
      · have hG := Lib.hid (hgood (by simp [okLev, hr.1, hr.2]))
        clear hbad hgood hok hlen
        go_wp2_with (first
          | (go_at_call 57; refine (iIn_yes _ _ _ _ hr).mono ?_; rintro e w' ⟨rfl, rfl⟩))
        go_round
        case rel => exact ⟨k + 1, by omega, by go_num, hG.out⟩
        case measure => simp [intOf]; omega
      · have hB := Lib.hid (hbad (by simp [okLev]; omega))
        have hr' : x < -16383 ∨ 16383 < x := by omega
        clear hbad hgood hok hr hlen
        go_wp2_with (first
          | (go_at_call 57; refine (iIn_no _ _ _ _ hr').mono ?_; rintro e w' ⟨rfl, rfl⟩))
        go_ret
        exact ⟨by rw [hB.out]; rfl, Below.refl _ _⟩
    · have hke : k = n := by omega
      subst hke
      have hE := Lib.hid (levelsOk_end (zs := zs) (by rw [hlen]; exact hok))
      clear hok
      go_wp2_with (first
        | (go_at_call 58; refine (iSide _ _).mono ?_; rintro e w' ⟨rfl, rfl⟩))
      go_ret
      exact ⟨by rw [hE.out, hlen]; rfl, Below.refl _ _⟩
end Go.Proofs.Ytcjodaoeoifbcaa
