/-
  ZerosAhead, the reference's and the program's: both return the one number of 'IsZ'. No condition beyond a text of at most 2^20 bytes.
-/
import Derived.Test.YteojnjcoamcigaaIn
import Derived.Test.YteojnjcoamcigaaBitAt
namespace Go.Proofs.Yteojnjcoamcigaa
open Go.ChangeShapes Go.WideShapes Go.ChangeAt Go.RowKit
set_option linter.unusedVariables false
/-- z is the number of zero bits ahead of the place n. -/
def IsZ (s : ByteArray) (n z : Int) : Prop := if 0 ≤ n ∧ n ≤ 8 * (s.size : Int) then 0 ≤ z ∧ n + z ≤ 8 * (s.size : Int) ∧ (∀ j, 0 ≤ j → j < z → bitAt s (n + j) = 0) ∧ (n + z = 8 * (s.size : Int) ∨ bitAt s (n + z) ≠ 0) else z = 0
theorem IsZ.one {s : ByteArray} {n z z' : Int} (h : IsZ s n z) (h' : IsZ s n z') : z = z' := by
  unfold IsZ at h h'
  split at h
  · rename_i hr
    rw [if_pos hr] at h'
    obtain ⟨a, b, c, d⟩ := h
    obtain ⟨a', b', c', d'⟩ := h'
    rcases Int.lt_trichotomy z z' with hl | hl | hl
    · have := c' z a hl
      omega
    · exact hl
    · have := c z' a' hl
      omega
  · rename_i hr
    rw [if_neg hr] at h'
    omega
theorem sLeft_yes (s : ByteArray) (n : Int) (w : World) (hs : s.size ≤ 1048576) (hr : 0 ≤ n ∧ n ≤ 8 * (s.size : Int)) :
    Calls Try.prog 51 #[.agg #[.string s, .int .i64 n]] w fun e w' => e = .returned (.int .i64 (8 * (s.size : Int) - n)) ∧ Below w.heap.size w w' := by
  go_enter Try.func51, Try.ntmps51
  go_wp2_with (first
    | (go_at_call 48; refine (sIn_yes _ _ _ _ hr).mono ?_; rintro e w' ⟨rfl, rfl⟩)
    | go_in)
  go_ret
  exact ⟨rfl, by go_grown⟩
theorem sLeft_no (s : ByteArray) (n : Int) (w : World) (hs : s.size ≤ 1048576) (hr : n < 0 ∨ 8 * (s.size : Int) < n) :
    Calls Try.prog 51 #[.agg #[.string s, .int .i64 n]] w fun e w' => e = .returned (.int .i64 0) ∧ Below w.heap.size w w' := by
  go_enter Try.func51, Try.ntmps51
  go_wp2_with (first
    | (go_at_call 48; refine (sIn_no _ _ _ _ hr).mono ?_; rintro e w' ⟨rfl, rfl⟩)
    | go_in)
  go_ret
  exact ⟨rfl, by go_grown⟩
set_option maxRecDepth 100000 in
theorem sZerosAhead_no (s : ByteArray) (n : Int) (w : World) (hs : s.size ≤ 1048576) (hn : (Lit.int .i64 n).wf = true) (hr : n < 0 ∨ 8 * (s.size : Int) < n) :
    Calls Try.prog 26 #[.agg #[.string s, .int .i64 n]] w fun e w' => e = .returned (.int .i64 0) ∧ Below w.heap.size w w' := by
  go_enter Try.func26, Try.ntmps26
  go_wp2
  go_loopw [3] (fun i wr => i = .int .i64 0 ∧ wr = w.alloc (.cells #[.string s, .int .i64 n] 35)) (fun i _ => 0)
  case atStart => exact ⟨rfl, rfl⟩
  case round =>
    obtain ⟨rfl, rfl⟩ := hrel
    go_wp2_with (first
      | (go_at_call 51; refine (sLeft_no s n _ hs hr).mono ?_; rintro e w2 ⟨rfl, b2⟩))
    go_ret
    exact ⟨rfl, ((Below.refl _ _).alloc (Nat.le_refl _) _).trans (b2.mono (by simp))⟩
set_option maxRecDepth 100000 in
theorem sZerosAhead_yes (s : ByteArray) (n : Int) (w : World) (hs : s.size ≤ 1048576) (hr : 0 ≤ n ∧ n ≤ 8 * (s.size : Int)) :
    Calls Try.prog 26 #[.agg #[.string s, .int .i64 n]] w fun e w' => ∃ z, e = .returned (.int .i64 z) ∧ IsZ s n z ∧ Below w.heap.size w w' := by
  go_enter Try.func26, Try.ntmps26
  go_wp2
  go_loopw [3] (fun i wr => ∃ k : Int, i = .int .i64 k ∧ 0 ≤ k ∧ n + k ≤ 8 * (s.size : Int) ∧ (∀ j, 0 ≤ j → j < k → bitAt s (n + j) = 0) ∧ Below (w.heap.size + 1) (w.alloc (.cells #[.string s, .int .i64 n] 35)) wr) (fun i _ => (8 * (s.size : Int) - n - intOf i).toNat)
  case atStart => exact ⟨0, rfl, by omega, by omega, fun j h0 h1 => absurd h1 (by omega), by go_grown⟩
  case round =>
    obtain ⟨k, rfl, h0, h1, hz, hb⟩ := hrel
    have c0 : wr.cell? ⟨w.heap.size, 0, none⟩ = some (.string s) := (hb.cell (p := ⟨w.heap.size, 0, none⟩) (Nat.lt_succ_self _)).trans (by simp [go_sem])
    have c1 : wr.cell? ⟨w.heap.size, 1, none⟩ = some (.int .i64 n) := (hb.cell (p := ⟨w.heap.size, 1, none⟩) (Nat.lt_succ_self _)).trans (by simp [go_sem])
    have hbw : Below w.heap.size w wr := ((Below.refl _ _).alloc (Nat.le_refl _) _).trans (hb.mono (Nat.le_succ _))
    have hsz := hb.size
    have hin : w.heap.size < wr.heap.size := Nat.lt_of_lt_of_le (Nat.lt_succ_self _) (by simpa using hsz)
    by_cases hlt : n + k < 8 * (s.size : Int)
    · have hlt' : k < 8 * (s.size : Int) - n := by omega
      cases hbt : (bitAt s (n + k) == 0) with
      | true =>
        have hz' : Hid (bitAt s (n + k) = 0) := Lib.hid (by simpa using hbt)
        go_wp2_with (first
          | (go_at_call 51; refine (sLeft_yes s n _ hs hr).mono ?_; rintro e w2 ⟨rfl, b2⟩; have d0 := (b2.cell (p := ⟨w.heap.size, 0, none⟩) hin).trans c0; have d1 := (b2.cell (p := ⟨w.heap.size, 1, none⟩) hin).trans c1)
          | (go_at_call 52; refine (sBitAt s (n + k) hs _).mono ?_; rintro e w3 ⟨rfl, rfl⟩))
        go_roundw
        case rel =>
          refine ⟨k + 1, by go_num, by omega, by omega, ?_, hb.trans (b2.mono hin)⟩
          intro j j0 j1
          by_cases hj : j = k
          · subst hj; exact hz'.out
          · exact hz j j0 (by omega)
        case measure => simp [intOf]; omega
      | false =>
        have hz' : Hid (bitAt s (n + k) ≠ 0) := Lib.hid (by simpa using hbt)
        go_wp2_with (first
          | (go_at_call 51; refine (sLeft_yes s n _ hs hr).mono ?_; rintro e w2 ⟨rfl, b2⟩; have d0 := (b2.cell (p := ⟨w.heap.size, 0, none⟩) hin).trans c0; have d1 := (b2.cell (p := ⟨w.heap.size, 1, none⟩) hin).trans c1)
          | (go_at_call 52; refine (sBitAt s (n + k) hs _).mono ?_; rintro e w3 ⟨rfl, rfl⟩))
        go_ret
        exact ⟨k, rfl, by unfold IsZ; rw [if_pos hr]; exact ⟨h0, h1, hz, Or.inr hz'.out⟩, hbw.trans (b2.mono hbw.size)⟩
    · have hlt' : 8 * (s.size : Int) - n ≤ k := by omega
      go_wp2_with (first
        | (go_at_call 51; refine (sLeft_yes s n _ hs hr).mono ?_; rintro e w2 ⟨rfl, b2⟩; have d0 := (b2.cell (p := ⟨w.heap.size, 0, none⟩) hin).trans c0; have d1 := (b2.cell (p := ⟨w.heap.size, 1, none⟩) hin).trans c1))
      go_ret
      exact ⟨k, rfl, by unfold IsZ; rw [if_pos hr]; exact ⟨h0, h1, hz, Or.inl (by omega)⟩, hbw.trans (b2.mono hbw.size)⟩
theorem sZerosAhead (s : ByteArray) (n : Int) (w : World) (hs : s.size ≤ 1048576) (hn : (Lit.int .i64 n).wf = true) :
    Calls Try.prog 26 #[.agg #[.string s, .int .i64 n]] w fun e w' => ∃ z, e = .returned (.int .i64 z) ∧ IsZ s n z ∧ Below w.heap.size w w' := by
  by_cases hr : 0 ≤ n ∧ n ≤ 8 * (s.size : Int)
  · exact sZerosAhead_yes s n w hs hr
  · refine (sZerosAhead_no s n w hs hn (by omega)).mono ?_
    rintro e w' ⟨rfl, b⟩
    exact ⟨0, rfl, by unfold IsZ; rw [if_neg hr], b⟩
theorem iReaderOk_yes (s : ByteArray) (n : Int) (w : World) (hs : s.size ≤ 1048576) (hr : 0 ≤ n ∧ n ≤ 8 * (s.size : Int)) :
    Calls Try.prog 53 #[.agg #[.string s, .int .i64 n]] w fun e w' => e = .returned (.bool true) ∧ Below w.heap.size w w' := by
  go_enter Try.func53, Try.ntmps53
  go_wp2_with (first
    | (go_at_call 49; refine (iIn_yes _ _ _ _ hr).mono ?_; rintro e w' ⟨rfl, rfl⟩))
  go_ret
  exact ⟨rfl, by go_grown⟩
theorem iReaderOk_no (s : ByteArray) (n : Int) (w : World) (hs : s.size ≤ 1048576) (hr : n < 0 ∨ 8 * (s.size : Int) < n) :
    Calls Try.prog 53 #[.agg #[.string s, .int .i64 n]] w fun e w' => e = .returned (.bool false) ∧ Below w.heap.size w w' := by
  go_enter Try.func53, Try.ntmps53
  go_wp2_with (first
    | (go_at_call 49; refine (iIn_no _ _ _ _ hr).mono ?_; rintro e w' ⟨rfl, rfl⟩))
  go_ret
  exact ⟨rfl, by go_grown⟩
set_option maxRecDepth 100000 in
theorem iZerosAhead_no (s : ByteArray) (n : Int) (w : World) (hs : s.size ≤ 1048576) (hr : n < 0 ∨ 8 * (s.size : Int) < n) :
    Calls Try.prog 28 #[.agg #[.string s, .int .i64 n]] w fun e w' => e = .returned (.int .i64 0) ∧ Below w.heap.size w w' := by
  go_enter Try.func28, Try.ntmps28
  go_wp2_with (first
    | (go_at_call 53; refine (iReaderOk_no s n _ hs hr).mono ?_; rintro e w2 ⟨rfl, b2⟩))
  go_ret
  exact ⟨rfl, ((Below.refl _ _).alloc (Nat.le_refl _) _).trans (b2.mono (by simp))⟩
set_option maxRecDepth 100000 in
theorem iZerosAhead_yes (s : ByteArray) (n : Int) (w : World) (hs : s.size ≤ 1048576) (hr : 0 ≤ n ∧ n ≤ 8 * (s.size : Int)) :
    Calls Try.prog 28 #[.agg #[.string s, .int .i64 n]] w fun e w' => ∃ z, e = .returned (.int .i64 z) ∧ IsZ s n z ∧ Below w.heap.size w w' := by
  go_enter Try.func28, Try.ntmps28
  go_wp2_with (first
    | (go_at_call 53; refine (iReaderOk_yes s n _ hs hr).mono ?_; rintro e w2 ⟨rfl, b2⟩))
  have hbw : Below w.heap.size w w2 := ((Below.refl _ _).alloc (Nat.le_refl _) _).trans (b2.mono (by simp))
  have c0 : w2.cell? ⟨w.heap.size, 0, none⟩ = some (.string s) := (b2.cell (p := ⟨w.heap.size, 0, none⟩) (by simp)).trans (by simp [go_sem])
  have c1 : w2.cell? ⟨w.heap.size, 1, none⟩ = some (.int .i64 n) := (b2.cell (p := ⟨w.heap.size, 1, none⟩) (by simp)).trans (by simp [go_sem])
  clear b2
  go_loop [3] (fun i => ∃ k : Int, i = .int .i64 k ∧ 0 ≤ k ∧ n + k ≤ 8 * (s.size : Int) ∧ (∀ j, 0 ≤ j → j < k → bitAt s (n + j) = 0)) (fun i => (8 * (s.size : Int) - n - intOf i).toNat)
  case atStart => exact ⟨0, rfl, by omega, by omega, fun j h0 h1 => absurd h1 (by omega)⟩
  case round =>
    obtain ⟨k, rfl, h0, h1, hz⟩ := hrel
    cases hbt : (bitAt s (n + k) == 0) with
    | true =>
      have hz' : Hid (bitAt s (n + k) = 0) := Lib.hid (by simpa using hbt)
      have hlt : Hid (n + k < 8 * (s.size : Int)) := by
        refine Lib.hid ?_
        by_cases hh : n + k < 8 * (s.size : Int)
        · exact hh
        · have := bitAt_out s (n + k) (by omega)
          have := hz'.out
          omega
      go_wp2_with (first
        | (go_at_call 45; refine (iBitAt s (n + k) hs _).mono ?_; rintro e w3 ⟨rfl, rfl⟩))
      have hlt := hlt.out
      go_round
      case rel =>
        refine ⟨k + 1, by go_num, by omega, by omega, ?_⟩
        intro j j0 j1
        by_cases hj : j = k
        · subst hj; exact hz'.out
        · exact hz j j0 (by omega)
      case measure => simp [intOf]; omega
    | false =>
      have hz' : Hid (bitAt s (n + k) ≠ 0) := Lib.hid (by simpa using hbt)
      go_wp2_with (first
        | (go_at_call 45; refine (iBitAt s (n + k) hs _).mono ?_; rintro e w3 ⟨rfl, rfl⟩))
      go_ret
      exact ⟨k, rfl, by unfold IsZ; rw [if_pos hr]; exact ⟨h0, h1, hz, Or.inr hz'.out⟩, hbw⟩
theorem iZerosAhead (s : ByteArray) (n : Int) (w : World) (hs : s.size ≤ 1048576) (hn : (Lit.int .i64 n).wf = true) :
    Calls Try.prog 28 #[.agg #[.string s, .int .i64 n]] w fun e w' => ∃ z, e = .returned (.int .i64 z) ∧ IsZ s n z ∧ Below w.heap.size w w' := by
  by_cases hr : 0 ≤ n ∧ n ≤ 8 * (s.size : Int)
  · exact iZerosAhead_yes s n w hs hr
  · refine (iZerosAhead_no s n w hs (by omega)).mono ?_
    rintro e w' ⟨rfl, b⟩
    exact ⟨0, rfl, by unfold IsZ; rw [if_neg hr], b⟩
end Go.Proofs.Yteojnjcoamcigaa
