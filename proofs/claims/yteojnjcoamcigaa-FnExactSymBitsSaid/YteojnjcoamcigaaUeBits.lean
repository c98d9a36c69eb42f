/-
  UeBits, the reference's and the program's: both return 'ueBits n'. No condition.
-/
import Derived.Test.YteojnjcoamcigaaBitsIn
import Derived.Test.YteojnjcoamcigaaUeSize
import Derived.Test.YteojnjcoamcigaaAppMany
namespace Go.Proofs.Yteojnjcoamcigaa
open Go.ChangeShapes Go.WideShapes Go.ChangeAt Go.RowKit
set_option linter.unusedVariables false
/-- What UeBits gives: n + 1 in 2 * z + 1 bits. -/
def ueBits (n : Int) : List Int := if 0 ≤ n ∧ n ≤ 65534 then bitsIn (n + 1) (2 * (ueZ n.toNat : Int) + 1) else []
theorem ueBits_len (n : Int) : (ueBits n).length ≤ 1000000000 := by
  unfold ueBits
  split
  · exact bitsIn_len _ _
  · simp
theorem i64_wf (n : Int) (h : -9223372036854775808 ≤ n ∧ n ≤ 9223372036854775807) : (Lit.int .i64 n).wf = true := by
  exact WalkArith.wf_i64 (by omega)
theorem iUeBits_in (n : Nat) (h : n ≤ 65534) (w : World) :
    Calls Try.prog 40 #[.int .i64 (n : Int)] w fun e w' => ∃ A' n' c', e = .returned (.slice A' n' c') ∧ OB w' w.heap.size w'.heap.size A' n' c' (bitsIn ((n : Int) + 1) (2 * (ueZ n : Int) + 1)) ∧ Below w.heap.size w w' := by
  have hr : (0 : Int) ≤ (n : Int) ∧ (n : Int) ≤ 65534 := by omega
  have hb := (ueZ_spec n h).2.2.1
  have w1 := i64_wf ((n : Int) + 1) (by omega)
  have w2 := i64_wf (2 * (ueZ n : Int) + 1) (by omega)
  go_enter Try.func40, Try.ntmps40
  go_wp2_with (first
    | (go_at_call 49; refine (iIn_yes _ _ _ _ hr).mono ?_; rintro e w' ⟨rfl, rfl⟩)
    | (go_at_call 56; refine (iUeSize_in _ h _).mono ?_; rintro e w' ⟨rfl, rfl⟩)
    | (go_at_call 22; refine (iBitsIn _ _ _ w1 w2).mono ?_; rintro e w1 ⟨A1, n1, c1, rfl, o1, b1⟩))
  go_ret
  exact ⟨A1, n1, c1, rfl, o1, b1⟩
theorem bitsIn_len48 (n d : Int) : (bitsIn n d).length ≤ 48 := by
  unfold bitsIn
  split
  · rename_i h; rw [bitsK_length]; omega
  · simp
theorem app_small {zs : List Int} {n1 z : Nat} (h : zs.length = n1) (hz : zs.length ≤ 1000) (hz2 : z ≤ 100) : Small (z + n1) := small_of (by omega)
theorem pow_lt_div (m : Int) (b t : Nat) (h0 : 0 ≤ m) (h1 : m < 2 ^ b) (h : b ≤ t) : m / 2 ^ t = 0 := by
  apply Int.ediv_eq_zero_of_lt h0
  have h2 : (2 : Nat) ^ b ≤ 2 ^ t := Nat.pow_le_pow_right (by decide) h
  have h3 : ((2 ^ b : Nat) : Int) = 2 ^ b := by rw [Int.natCast_pow]; rfl
  have h4 : ((2 ^ t : Nat) : Int) = 2 ^ t := by rw [Int.natCast_pow]; rfl
  omega
theorem bitsK_pad (m : Int) (a b : Nat) (h0 : 0 ≤ m) (h1 : m < 2 ^ b) : bitsK m (a + b) (a + b) = List.replicate a 0 ++ bitsK m b b := by
  apply List.ext_getElem
  · simp [bitsK]
  · intro j hj1 hj2
    by_cases hja : j < a
    · rw [List.getElem_append_left (by simpa using hja)]
      simp only [bitsK, List.getElem_map, List.getElem_range, List.getElem_replicate]
      rw [pow_lt_div m b (a + b - 1 - j) h0 h1 (by omega)]
      rfl
    · rw [List.getElem_append_right (by simp; omega)]
      simp only [bitsK, List.getElem_map, List.getElem_range, List.length_replicate]
      rw [show a + b - 1 - j = b - 1 - (j - a) from by omega]
theorem ueBits_pad (n : Nat) (h : n ≤ 65534) : bitsIn ((n : Int) + 1) (2 * (ueZ n : Int) + 1) = List.replicate (ueZ n) 0 ++ bitsIn ((n : Int) + 1) ((ueZ n : Int) + 1) := by
  obtain ⟨h1, h2, h3, _⟩ := ueZ_spec n h
  have h4 : ((2 ^ (ueZ n + 1) : Nat) : Int) = 2 ^ (ueZ n + 1) := by rw [Int.natCast_pow]; rfl
  have hlt : (n : Int) + 1 < 2 ^ (ueZ n + 1) := by omega
  have q1 : ((n : Int) + 1) / 2 ^ (2 * (ueZ n : Int) + 1).toNat = 0 := pow_lt_div _ (ueZ n + 1) _ (by omega) hlt (by omega)
  have q2 : ((n : Int) + 1) / 2 ^ ((ueZ n : Int) + 1).toNat = 0 := pow_lt_div _ (ueZ n + 1) _ (by omega) hlt (by omega)
  unfold bitsIn
  rw [if_pos ⟨by omega, by omega, by omega, q1⟩, if_pos ⟨by omega, by omega, by omega, q2⟩]
  rw [show (2 * (ueZ n : Int) + 1).toNat = ueZ n + (ueZ n + 1) from by omega, show ((ueZ n : Int) + 1).toNat = ueZ n + 1 from by omega]
  exact bitsK_pad _ _ _ (by omega) hlt
theorem run_make_ints (z : Nat) (hz : z ≤ 100000000) (u : World) : (Instr.makeSlice 22 (.int .i64 (z : Int)) (.int .i64 (z : Int))).run Try.prog u = .ok (.slice (some ⟨u.heap.size, 0, none⟩) z z) (u.alloc (.cells (madeCells #[.int .i64 0] z) 3)) := by
  obtain ⟨i0, hi, hz0, hz1, hz2⟩ := info_parts info_i64
  have h := run_make (P := Try.prog) u 22 3 i0 (.int .i64 0) Try.underlying22 hi hz0 .i64 .i64 (z : Int) (z : Int) (by omega) (Int.le_refl _) (by rw [hz2]; omega) (by omega)
  simpa [hz1, Value.cells] using h
theorem made_ints (u : World) (z base : Nat) (hz : z ≤ 100000000) (hb : base ≤ u.heap.size) : (u.alloc (.cells (madeCells #[.int .i64 0] z) 3)).ownsRow base 3 1 (.slice (some ⟨u.heap.size, 0, none⟩) z z) z ((List.replicate z (0 : Int)).map (Value.int .i64)) := by
  have h := World.ownsRow_lit (base := base) (e := 3) (size := 1) u (madeCells #[.int .i64 0] z) z hb (by unfold maxLen; omega) (by rw [size_madeCells]; omega)
  rw [toList_madeCells_one] at h
  rw [List.map_replicate]
  exact h
set_option maxRecDepth 100000 in
theorem sUeBits_in (n : Nat) (h : n ≤ 65534) (w : World) :
    Calls Try.prog 39 #[.int .i64 (n : Int)] w fun e w' => ∃ A' n' c', e = .returned (.slice A' n' c') ∧ OB w' w.heap.size w'.heap.size A' n' c' (bitsIn ((n : Int) + 1) (2 * (ueZ n : Int) + 1)) ∧ Below w.heap.size w w' := by
  have hr : (0 : Int) ≤ (n : Int) ∧ (n : Int) ≤ 65534 := by omega
  have hz := (ueZ_spec n h).2.2.1
  have x1 := i64_wf ((n : Int) + 1) (by omega)
  have x2 := i64_wf ((ueZ n : Int) + 1) (by omega)
  have hmk := run_make_ints (ueZ n) (by omega)
  have e1 : IntKind.i64.wrap ((n : Int) + 1) = (n : Int) + 1 := IntWalk.i64_in _ (by omega)
  have e2 : IntKind.i64.wrap ((ueZ n : Int) + 1) = (ueZ n : Int) + 1 := IntWalk.i64_in _ (by omega)
  have hpad := Lib.hid (ueBits_pad n h)
  have hm1 := fun u b hb => made_ints u (ueZ n) b (by omega) hb
  have hz100 : ueZ n ≤ 100 := by omega
  go_enter Try.func39, Try.ntmps39
  go_wp2_with (first
    | (go_at_call 48; refine (sIn_yes _ _ _ _ hr).mono ?_; rintro e w' ⟨rfl, rfl⟩)
    | (go_at_call 55; refine (sZeros _ h _).mono ?_; rintro e w' ⟨rfl, rfl⟩))
  go_region_held3 (fun _ => True) (trivial) (first
    | (go_at_call 21; refine (sBitsIn _ _ _ x1 x2).mono ?_; rintro e w1 ⟨A1, n1, c1, rfl, o1, b1⟩; have hsm := app_small (z := ueZ n) o1.len (Nat.le_trans (bitsIn_len48 _ _) (by omega)) hz100)
    | (refine step_appmany (wr := w1) (w0 := w) rfl (.tmp 11) (.tmp 16) rfl rfl _ (ueZ n) (List.replicate (ueZ n) 0) rfl (owns_below ((hm1 w _ (Nat.le_refl _)).drew) b1) ((((Below.refl _ _).alloc (Nat.le_refl _) _).drew).trans (b1.mono (by simp))) A1 n1 c1 _ rfl o1.read hsm ?_; intro A2 c2 w2 hown2 hb2 _)
    | (refine step_appmany (wr := w1.alloc _) (w0 := w) rfl (.tmp 11) (.tmp 16) rfl rfl _ (ueZ n) (List.replicate (ueZ n) 0) rfl (hm1 w1 _ b1.size) ((((Below.refl _ _).drew).trans b1).alloc b1.size _) A1 n1 c1 _ rfl (o1.below ((Below.refl _ _).alloc (Nat.le_refl _) _)).read hsm ?_; intro A2 c2 w2 hown2 hb2 _))
  all_goals
    go_wp2
    go_ret
    exact ⟨A2, _, c2, rfl, by rw [hpad.out]; exact OB.new hown2, hb2⟩
theorem sUeBits_out (n : Int) (h : n < 0 ∨ 65534 < n) (w : World) :
    Calls Try.prog 39 #[.int .i64 n] w fun e w' => ∃ A' n' c', e = .returned (.slice A' n' c') ∧ OB w' w.heap.size w'.heap.size A' n' c' [] ∧ Below w.heap.size w w' := by
  go_enter Try.func39, Try.ntmps39
  go_wp2_with (first
    | (go_at_call 48; refine (sIn_no _ _ _ _ h).mono ?_; rintro e w' ⟨rfl, rfl⟩))
  go_ret
  exact ⟨_, _, _, rfl, OB.made 0, by go_grown⟩
theorem iUeBits_out (n : Int) (h : n < 0 ∨ 65534 < n) (w : World) :
    Calls Try.prog 40 #[.int .i64 n] w fun e w' => ∃ A' n' c', e = .returned (.slice A' n' c') ∧ OB w' w.heap.size w'.heap.size A' n' c' [] ∧ Below w.heap.size w w' := by
  go_enter Try.func40, Try.ntmps40
  go_wp2_with (first
    | (go_at_call 49; refine (iIn_no _ _ _ _ h).mono ?_; rintro e w' ⟨rfl, rfl⟩))
  go_ret
  exact ⟨_, _, _, rfl, OB.nil_ _ _ _, by go_grown⟩
theorem sUeBits (n : Int) (w : World) (hn : (Lit.int .i64 n).wf = true) :
    Calls Try.prog 39 #[.int .i64 n] w fun e w' => ∃ A' n' c', e = .returned (.slice A' n' c') ∧ OB w' w.heap.size w'.heap.size A' n' c' (ueBits n) ∧ Below w.heap.size w w' := by
  unfold ueBits
  by_cases h : 0 ≤ n ∧ n ≤ 65534
  · rw [if_pos h]
    obtain ⟨k, rfl⟩ := Int.eq_ofNat_of_zero_le h.1
    exact sUeBits_in k (by omega) w
  · rw [if_neg h]; exact sUeBits_out n (by omega) w
theorem iUeBits (n : Int) (w : World) (hn : (Lit.int .i64 n).wf = true) :
    Calls Try.prog 40 #[.int .i64 n] w fun e w' => ∃ A' n' c', e = .returned (.slice A' n' c') ∧ OB w' w.heap.size w'.heap.size A' n' c' (ueBits n) ∧ Below w.heap.size w w' := by
  unfold ueBits
  by_cases h : 0 ≤ n ∧ n ≤ 65534
  · rw [if_pos h]
    obtain ⟨k, rfl⟩ := Int.eq_ofNat_of_zero_le h.1
    exact iUeBits_in k (by omega) w
  · rw [if_neg h]; exact iUeBits_out n (by omega) w
end Go.Proofs.Yteojnjcoamcigaa
