/-
  BitsIn, the reference's and the program's: both return the numbers 'bitsIn n d'. No condition.
-/
import Derived.Test.YteojnjcoamcigaaInts
namespace Go.Proofs.Yteojnjcoamcigaa
open Go.ChangeShapes Go.WideShapes Go.ChangeAt Go.RowKit
set_option linter.unusedVariables false
/-- The first k of the d bits of n, the highest first. -/
def bitsK (n : Int) (d k : Nat) : List Int := (List.range k).map (fun t => n / 2 ^ (d - 1 - t) % 2)
theorem bitsK_length (n : Int) (d k : Nat) : (bitsK n d k).length = k := by simp [bitsK]
theorem bitsK_succ (n : Int) (d k : Nat) : bitsK n d (k + 1) = bitsK n d k ++ [n / 2 ^ (d - 1 - k) % 2] := by simp [bitsK, List.range_succ]
/-- What BitsIn gives. -/
def bitsIn (n d : Int) : List Int := if 0 ≤ d ∧ d ≤ 48 ∧ 0 ≤ n ∧ n / 2 ^ d.toNat = 0 then bitsK n d.toNat d.toNat else []
theorem bitsIn_len (n d : Int) : (bitsIn n d).length ≤ 1000000000 := by
  unfold bitsIn
  split
  · rw [bitsK_length]; omega
  · simp
theorem bit_bound (n : Int) (j : Nat) (h0 : 0 ≤ n) (h1 : n ≤ 9223372036854775807) : bits .and .i64 (n / 2 ^ j) 1 = n / 2 ^ j % 2 := by
  have hp : (0 : Int) < 2 ^ j := Int.pow_pos (by decide)
  have h2 := Int.ediv_le_self (2 ^ j) h0
  exact i64_and_one _ (Int.ediv_nonneg h0 (by omega)) (by omega)
theorem OB.made {w : World} (c : Nat) : OB (w.alloc (.cells #[] 3)) w.heap.size (w.alloc (.cells #[] 3)).heap.size (some ⟨w.heap.size, 0, none⟩) 0 0 [] :=
  OB.new (World.ownsRow_made w #[] 0 (Nat.le_refl _) (by decide) rfl)
theorem OB.nil_ (w : World) (lo hi : Nat) : OB w lo hi none 0 0 [] := ⟨World.ownsRow_nil _ _ _ _, fun k hk => by simp [Value.ownBlock] at hk⟩

set_option maxRecDepth 100000 in
theorem sBitsIn_in (n : Int) (d : Nat) (h0 : 0 ≤ n) (h1 : n ≤ 9223372036854775807) (hd : d ≤ 48) (hz : n / 2 ^ d = 0) (w : World) :
    Calls Try.prog 21 #[.int .i64 n, .int .i64 (d : Int)] w fun e w' => ∃ A' n' c', e = .returned (.slice A' n' c') ∧ OB w' w.heap.size w'.heap.size A' n' c' (bitsK n d d) ∧ Below w.heap.size w w' := by
  have hr : (0 : Int) ≤ (d : Int) ∧ (d : Int) ≤ 48 := by omega
  go_enter Try.func21, Try.ntmps21
  go_wp2_with (first
    | (go_at_call 48; refine (sIn_yes _ _ _ _ hr).mono ?_; rintro e w' ⟨rfl, rfl⟩))
  go_loopw [5, 6] (fun v i wr => ∃ k : Nat, k ≤ d ∧ i = .int .i64 ((d : Int) - 1 - (k : Int)) ∧ wr.ownsRow w.heap.size 3 1 v k ((bitsK n d k).map (Value.int .i64)) ∧ Below w.heap.size w wr) (fun _ i _ => (intOf i + 1).toNat)
  case atStart => exact ⟨0, Nat.zero_le _, by simp, World.ownsRow_made _ #[] 0 (Nat.le_refl _) (by decide) rfl, (Below.refl _ _).alloc (Nat.le_refl _) _⟩
  case round =>
    obtain ⟨k, hk, rfl, hown, hb⟩ := hrel
    by_cases hlt : k < d
    · have e1 := bit_bound n (d - 1 - k) h0 h1
      have e2 := Lib.hid (bitsK_succ n d k)
      have hl2 : Small k := small_of (by omega)
      go_wp2_with (first
        | (at_builtin; refine wpList_app_i64 rfl (.tmp 28) (.tmp 33) rfl _ k (bitsK n d k) rfl hown hb rfl hl2 ?_; intro g cap w1 hown1 hb1 _))
      go_roundw
      case rel => exact ⟨k + 1, by omega, by congr 1; omega, by rw [e2.out]; exact hown1, hb1⟩
      case measure => simp [intOf]; omega
    · have hke : k = d := by omega
      subst hke
      obtain ⟨a, c, hv⟩ := owns_shape hown
      subst hv
      go_wp2
      go_ret
      exact ⟨a, k, c, rfl, OB.new hown, hb⟩
set_option maxRecDepth 100000 in
theorem iBitsIn_in (n : Int) (d : Nat) (h0 : 0 ≤ n) (h1 : n ≤ 9223372036854775807) (hd : d ≤ 48) (hz : n / 2 ^ d = 0) (w : World) :
    Calls Try.prog 22 #[.int .i64 n, .int .i64 (d : Int)] w fun e w' => ∃ A' n' c', e = .returned (.slice A' n' c') ∧ OB w' w.heap.size w'.heap.size A' n' c' (bitsK n d d) ∧ Below w.heap.size w w' := by
  have hr : (0 : Int) ≤ (d : Int) ∧ (d : Int) ≤ 48 := by omega
  go_enter Try.func22, Try.ntmps22
  go_wp2_with (first
    | (go_at_call 49; refine (iIn_yes _ _ _ _ hr).mono ?_; rintro e w' ⟨rfl, rfl⟩))
  go_loopw [5, 6] (fun v i wr => ∃ k : Nat, k ≤ d ∧ i = .int .i64 ((d : Int) - 1 - (k : Int)) ∧ wr.ownsRow w.heap.size 3 1 v k ((bitsK n d k).map (Value.int .i64)) ∧ Below w.heap.size w wr) (fun _ i _ => (intOf i + 1).toNat)
  case atStart => exact ⟨0, Nat.zero_le _, by simp, World.ownsRow_made _ #[] 0 (Nat.le_refl _) (by decide) rfl, (Below.refl _ _).alloc (Nat.le_refl _) _⟩
  case round =>
    obtain ⟨k, hk, rfl, hown, hb⟩ := hrel
    by_cases hlt : k < d
    · have e1 := bit_bound n (d - 1 - k) h0 h1
      have e2 := Lib.hid (bitsK_succ n d k)
      have hl2 : Small k := small_of (by omega)
      go_wp2_with (first
        | (at_builtin; refine wpList_app_i64 rfl (.tmp 27) (.tmp 32) rfl _ k (bitsK n d k) rfl hown hb rfl hl2 ?_; intro g cap w1 hown1 hb1 _))
      go_roundw
      case rel => exact ⟨k + 1, by omega, by congr 1; omega, by rw [e2.out]; exact hown1, hb1⟩
      case measure => simp [intOf]; omega
    · have hke : k = d := by omega
      subst hke
      obtain ⟨a, c, hv⟩ := owns_shape hown
      subst hv
      go_wp2
      go_ret
      exact ⟨a, k, c, rfl, OB.new hown, hb⟩
theorem sBitsIn_bad (n d : Int) (h : d < 0 ∨ 48 < d) (w : World) :
    Calls Try.prog 21 #[.int .i64 n, .int .i64 d] w fun e w' => ∃ A' n' c', e = .returned (.slice A' n' c') ∧ OB w' w.heap.size w'.heap.size A' n' c' [] ∧ Below w.heap.size w w' := by
  go_enter Try.func21, Try.ntmps21
  go_wp2_with (first
    | (go_at_call 48; refine (sIn_no _ _ _ _ h).mono ?_; rintro e w' ⟨rfl, rfl⟩))
  go_ret
  exact ⟨_, _, _, rfl, OB.made 0, by go_grown⟩
theorem iBitsIn_bad (n d : Int) (h : d < 0 ∨ 48 < d) (w : World) :
    Calls Try.prog 22 #[.int .i64 n, .int .i64 d] w fun e w' => ∃ A' n' c', e = .returned (.slice A' n' c') ∧ OB w' w.heap.size w'.heap.size A' n' c' [] ∧ Below w.heap.size w w' := by
  go_enter Try.func22, Try.ntmps22
  go_wp2_with (first
    | (go_at_call 49; refine (iIn_no _ _ _ _ h).mono ?_; rintro e w' ⟨rfl, rfl⟩))
  go_ret
  exact ⟨_, _, _, rfl, OB.nil_ _ _ _, by go_grown⟩
theorem sBitsIn_neg (n : Int) (d : Nat) (hd : d ≤ 48) (h : n < 0) (w : World) :
    Calls Try.prog 21 #[.int .i64 n, .int .i64 (d : Int)] w fun e w' => ∃ A' n' c', e = .returned (.slice A' n' c') ∧ OB w' w.heap.size w'.heap.size A' n' c' [] ∧ Below w.heap.size w w' := by
  have hr : (0 : Int) ≤ (d : Int) ∧ (d : Int) ≤ 48 := by omega
  go_enter Try.func21, Try.ntmps21
  go_wp2_with (first
    | (go_at_call 48; refine (sIn_yes _ _ _ _ hr).mono ?_; rintro e w' ⟨rfl, rfl⟩))
  go_ret
  exact ⟨_, _, _, rfl, OB.made 0, by go_grown⟩
theorem iBitsIn_neg (n : Int) (d : Nat) (hd : d ≤ 48) (h : n < 0) (w : World) :
    Calls Try.prog 22 #[.int .i64 n, .int .i64 (d : Int)] w fun e w' => ∃ A' n' c', e = .returned (.slice A' n' c') ∧ OB w' w.heap.size w'.heap.size A' n' c' [] ∧ Below w.heap.size w w' := by
  have hr : (0 : Int) ≤ (d : Int) ∧ (d : Int) ≤ 48 := by omega
  go_enter Try.func22, Try.ntmps22
  go_wp2_with (first
    | (go_at_call 49; refine (iIn_yes _ _ _ _ hr).mono ?_; rintro e w' ⟨rfl, rfl⟩))
  go_ret
  exact ⟨_, _, _, rfl, OB.nil_ _ _ _, by go_grown⟩
theorem sBitsIn_big (n : Int) (d : Nat) (h0 : 0 ≤ n) (hd : d ≤ 48) (hz : (n / 2 ^ d != 0) = true) (w : World) :
    Calls Try.prog 21 #[.int .i64 n, .int .i64 (d : Int)] w fun e w' => ∃ A' n' c', e = .returned (.slice A' n' c') ∧ OB w' w.heap.size w'.heap.size A' n' c' [] ∧ Below w.heap.size w w' := by
  have hr : (0 : Int) ≤ (d : Int) ∧ (d : Int) ≤ 48 := by omega
  go_enter Try.func21, Try.ntmps21
  go_wp2_with (first
    | (go_at_call 48; refine (sIn_yes _ _ _ _ hr).mono ?_; rintro e w' ⟨rfl, rfl⟩))
  go_ret
  exact ⟨_, _, _, rfl, OB.made 0, by go_grown⟩
theorem iBitsIn_big (n : Int) (d : Nat) (h0 : 0 ≤ n) (hd : d ≤ 48) (hz : (n / 2 ^ d != 0) = true) (w : World) :
    Calls Try.prog 22 #[.int .i64 n, .int .i64 (d : Int)] w fun e w' => ∃ A' n' c', e = .returned (.slice A' n' c') ∧ OB w' w.heap.size w'.heap.size A' n' c' [] ∧ Below w.heap.size w w' := by
  have hr : (0 : Int) ≤ (d : Int) ∧ (d : Int) ≤ 48 := by omega
  go_enter Try.func22, Try.ntmps22
  go_wp2_with (first
    | (go_at_call 49; refine (iIn_yes _ _ _ _ hr).mono ?_; rintro e w' ⟨rfl, rfl⟩))
  go_ret
  exact ⟨_, _, _, rfl, OB.nil_ _ _ _, by go_grown⟩
theorem i64_top {n : Int} (hn : (Lit.int .i64 n).wf = true) : -9223372036854775808 ≤ n ∧ n ≤ 9223372036854775807 := by simpa [Lit.wf, IntKind.min, IntKind.max, IntKind.signed, IntKind.bits] using hn
theorem sBitsIn (n d : Int) (w : World) (hn : (Lit.int .i64 n).wf = true) (hd : (Lit.int .i64 d).wf = true) :
    Calls Try.prog 21 #[.int .i64 n, .int .i64 d] w fun e w' => ∃ A' n' c', e = .returned (.slice A' n' c') ∧ OB w' w.heap.size w'.heap.size A' n' c' (bitsIn n d) ∧ Below w.heap.size w w' := by
  unfold bitsIn
  by_cases h : 0 ≤ d ∧ d ≤ 48
  · obtain ⟨k, rfl⟩ := Int.eq_ofNat_of_zero_le h.1
    by_cases h0 : 0 ≤ n
    · by_cases hz : n / 2 ^ k = 0
      · rw [if_pos ⟨h.1, h.2, h0, by simpa using hz⟩]; exact sBitsIn_in n k h0 (i64_top hn).2 (by omega) hz w
      · rw [if_neg (fun hh => hz (by simpa using hh.2.2.2))]; exact sBitsIn_big n k h0 (by omega) (by simpa using hz) w
    · rw [if_neg (by omega)]; exact sBitsIn_neg n k (by omega) (by omega) w
  · rw [if_neg (by omega)]; exact sBitsIn_bad n d (by omega) w
theorem iBitsIn (n d : Int) (w : World) (hn : (Lit.int .i64 n).wf = true) (hd : (Lit.int .i64 d).wf = true) :
    Calls Try.prog 22 #[.int .i64 n, .int .i64 d] w fun e w' => ∃ A' n' c', e = .returned (.slice A' n' c') ∧ OB w' w.heap.size w'.heap.size A' n' c' (bitsIn n d) ∧ Below w.heap.size w w' := by
  unfold bitsIn
  by_cases h : 0 ≤ d ∧ d ≤ 48
  · obtain ⟨k, rfl⟩ := Int.eq_ofNat_of_zero_le h.1
    by_cases h0 : 0 ≤ n
    · by_cases hz : n / 2 ^ k = 0
      · rw [if_pos ⟨h.1, h.2, h0, by simpa using hz⟩]; exact iBitsIn_in n k h0 (i64_top hn).2 (by omega) hz w
      · rw [if_neg (fun hh => hz (by simpa using hh.2.2.2))]; exact iBitsIn_big n k h0 (by omega) (by simpa using hz) w
    · rw [if_neg (by omega)]; exact iBitsIn_neg n k (by omega) (by omega) w
  · rw [if_neg (by omega)]; exact iBitsIn_bad n d (by omega) w
end Go.Proofs.Yteojnjcoamcigaa
