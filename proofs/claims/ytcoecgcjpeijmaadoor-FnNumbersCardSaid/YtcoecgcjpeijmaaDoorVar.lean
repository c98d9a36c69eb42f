/-
  Var, the reference's and the program's: both return the bytes 'varL n' where n lies in its range, else the empty text. No condition.
-/
import Derived.Test.YtcoecgcjpeijmaaDoorIn
import Derived.Test.YtcoecgcjpeijmaaDoorApp
namespace Go.Proofs.YtcoecgcjpeijmaaDoor
open Go.ChangeShapes Go.WideShapes Go.ChangeAt Go.RowKit
set_option linter.unusedVariables false

/-- The varint of a number: seven bits a byte, the lowest first, with 128 added to every byte but the last. -/
def varL (n : Nat) : List Int := if h : n < 128 then [(n : Int)] else (128 + (n : Int) % 128) :: varL (n / 128)
  termination_by n
  decreasing_by omega
theorem varL_low (n : Nat) (h : n < 128) : varL n = [(n : Int)] := by rw [varL, dif_pos h]
theorem varL_high (n : Nat) (h : ¬ n < 128) : varL n = (128 + (n : Int) % 128) :: varL (n / 128) := by rw [varL, dif_neg h]
theorem varL_len : ∀ (k n : Nat), n < 128 ^ (k + 1) → (varL n).length ≤ k + 1
  | 0, n, h => by rw [varL_low n (by simpa using h)]; simp
  | k + 1, n, h => by
    by_cases hn : n < 128
    · rw [varL_low n hn]; simp
    · rw [varL_high n hn, List.length_cons]
      have := varL_len k (n / 128) (by rw [Nat.div_lt_iff_lt_mul (by decide)]; rw [Nat.pow_succ] at h; exact h)
      omega
theorem varL_len7 (n : Nat) (h : n ≤ 562949953421311) : (varL n).length ≤ 7 := varL_len 6 n (by omega)

/-- What is still to come of n's varint is k's. -/
def VarRest (n k : Nat) (acc : List Int) : Prop := acc ++ varL k = varL n
theorem and127 (n : Nat) (h : n < 9223372036854775808) : bits .and .i64 (n : Int) 127 = (n : Int) % 128 := by
  have := i64_and_nat n 127 h (by omega)
  rw [show (127 : Nat) = 2 ^ 7 - 1 from rfl, Nat.and_two_pow_sub_one_eq_mod] at this
  simpa using this
theorem or128 (n : Nat) : bits .or .i64 ((n : Int) % 128) 128 = 128 + (n : Int) % 128 := by
  have := i64_or_nat (n % 128) 128 (by omega) (by omega)
  have e : n % 128 ||| 128 = 128 + n % 128 := by
    have h := Nat.shiftLeft_add_eq_or_of_lt (b := n % 128) (i := 7) (by omega) 1
    rw [Nat.or_comm]; exact h.symm
  rw [e] at this
  simpa using this

set_option maxRecDepth 100000 in
theorem sVar_in (n : Nat) (h : n ≤ 562949953421311) (w : World) :
    Calls Tryd.prog 27 #[.int .i64 (n : Int)] w fun e w' => e = .returned (.string (bs (varL n))) ∧ Below w.heap.size w w' := by
  have hr : (0 : Int) ≤ (n : Int) ∧ (n : Int) ≤ 562949953421311 := by omega
  go_enter Tryd.func27, Tryd.ntmps27
  go_wp2_with (first
    | (go_at_call 36; refine (sIn_yes _ _ _ _ hr).mono ?_; rintro e w' ⟨rfl, rfl⟩))
  go_loopw [0, 3] (fun m v wr => ∃ (k : Nat) (acc : List Int), k ≤ n ∧ m = .int .i64 k ∧ VarRest n k acc ∧ wr.ownsRow w.heap.size 5 1 v acc.length (acc.map (Value.int .u8)) ∧ Below w.heap.size w wr) (fun m _ _ => (intOf m).toNat)
  case atStart => exact ⟨n, [], Nat.le_refl _, rfl, rfl, World.ownsRow_made _ #[] 0 (Nat.le_refl _) (by decide) rfl, (Below.refl _ _).alloc (Nat.le_refl _) _⟩
  case round =>
    obtain ⟨k, acc, hk, rfl, hacc, hown, hb⟩ := hrel
    have hl : acc.length ≤ 7 := by
      have h1 := congrArg List.length (show acc ++ varL k = varL n from hacc)
      rw [List.length_append] at h1
      have := varL_len7 n h
      omega
    have hl2 : Small acc.length := small_of (by omega)
    have hz : (k : Int) ≤ 562949953421311 := by omega
    by_cases hlt : k < 128
    · have HE : Hid (acc ++ [(k : Int)] = varL n) := by have h2 : acc ++ varL k = varL n := hacc; rw [varL_low k hlt] at h2; exact h2
      have hlt' : (k : Int) < 128 := by omega
      have hm : (k : Int) % 256 = (k : Int) := by omega
      clear hr hl h hk hacc
      go_wp2_with (first
        | (at_builtin; refine wpList_app_u8 rfl (.tmp 19) (.tmp 22) rfl _ acc.length acc rfl hown hb rfl hl2 ?_; intro g cap w1 hown1 hb1 _; have hcv := conv_owned Tryd.underlying25 Tryd.underlying9 hown1))
      go_ret
      exact ⟨by rw [← HE.out]; rfl, hb1⟩
    · have HR : Hid (VarRest n (k / 128) (acc ++ [128 + (k : Int) % 128])) := by
        show acc ++ [_] ++ varL (k / 128) = varL n
        have h2 : acc ++ varL k = varL n := hacc
        rw [varL_high k hlt] at h2
        rw [List.append_assoc]
        exact h2
      have hlt' : (128 : Int) ≤ (k : Int) := by omega
      have hm : (128 + (k : Int) % 128) % 256 = 128 + (k : Int) % 128 := by omega
      have HK : Hid (k / 128 ≤ n) := by show k / 128 ≤ n; omega
      clear hr hl h hk hacc
      go_wp2_with (first
        | (at_builtin; refine wpList_app_u8 rfl (.tmp 10) (.tmp 15) rfl _ acc.length acc rfl hown hb rfl hl2 ?_; intro g cap w1 hown1 hb1 _))
      go_roundw
      case rel => exact ⟨k / 128, acc ++ [128 + (k : Int) % 128], HK.out, by go_num, HR.out, by rw [List.length_append]; exact hown1, hb1⟩
      case measure => simp [intOf]; omega
set_option maxRecDepth 100000 in
theorem iVar_in (n : Nat) (h : n ≤ 562949953421311) (w : World) :
    Calls Tryd.prog 11 #[.int .i64 (n : Int)] w fun e w' => e = .returned (.string (bs (varL n))) ∧ Below w.heap.size w w' := by
  have hr : (0 : Int) ≤ (n : Int) ∧ (n : Int) ≤ 562949953421311 := by omega
  go_enter Tryd.func11, Tryd.ntmps11
  go_wp2_with (first
    | (go_at_call 21; refine (iIn_yes _ _ _ _ hr).mono ?_; rintro e w' ⟨rfl, rfl⟩))
  go_loopw [0, 3] (fun m v wr => ∃ (k : Nat) (acc : List Int), k ≤ n ∧ m = .int .i64 k ∧ VarRest n k acc ∧ wr.ownsRow w.heap.size 5 1 v acc.length (acc.map (Value.int .u8)) ∧ Below w.heap.size w wr) (fun m _ _ => (intOf m).toNat)
  case atStart => exact ⟨n, [], Nat.le_refl _, rfl, rfl, World.ownsRow_made _ #[] 0 (Nat.le_refl _) (by decide) rfl, (Below.refl _ _).alloc (Nat.le_refl _) _⟩
  case round =>
    obtain ⟨k, acc, hk, rfl, hacc, hown, hb⟩ := hrel
    have hl : acc.length ≤ 7 := by
      have h1 := congrArg List.length (show acc ++ varL k = varL n from hacc)
      rw [List.length_append] at h1
      have := varL_len7 n h
      omega
    have hl2 : Small acc.length := small_of (by omega)
    have hz : (k : Int) ≤ 562949953421311 := by omega
    by_cases hlt : k < 128
    · have HE : Hid (acc ++ [(k : Int)] = varL n) := by have h2 : acc ++ varL k = varL n := hacc; rw [varL_low k hlt] at h2; exact h2
      have hlt' : (k : Int) < 128 := by omega
      have hm : (k : Int) % 256 = (k : Int) := by omega
      clear hr hl h hk hacc
      go_wp2_with (first
        | (at_builtin; refine wpList_app_u8 rfl (.tmp 19) (.tmp 22) rfl _ acc.length acc rfl hown hb rfl hl2 ?_; intro g cap w1 hown1 hb1 _; have hcv := conv_owned Tryd.underlying25 Tryd.underlying9 hown1))
      go_ret
      exact ⟨by rw [← HE.out]; rfl, hb1⟩
    · have HR : Hid (VarRest n (k / 128) (acc ++ [128 + (k : Int) % 128])) := by
        show acc ++ [_] ++ varL (k / 128) = varL n
        have h2 : acc ++ varL k = varL n := hacc
        rw [varL_high k hlt] at h2
        rw [List.append_assoc]
        exact h2
      have hlt' : (128 : Int) ≤ (k : Int) := by omega
      have hm : (128 + (k : Int) % 128) % 256 = 128 + (k : Int) % 128 := by omega
      have e1 := and127 k (by omega)
      have e2 := or128 k
      have HK : Hid (k / 128 ≤ n) := by show k / 128 ≤ n; omega
      clear hr hl h hk hacc
      go_wp2_with (first
        | (at_builtin; refine wpList_app_u8 rfl (.tmp 12) (.tmp 17) rfl _ acc.length acc rfl hown hb rfl hl2 ?_; intro g cap w1 hown1 hb1 _))
      go_roundw
      case rel => exact ⟨k / 128, acc ++ [128 + (k : Int) % 128], HK.out, by go_num, HR.out, by rw [List.length_append]; exact hown1, hb1⟩
      case measure => simp [intOf]; omega
theorem sVar_out (n : Int) (h : n < 0 ∨ 562949953421311 < n) (w : World) :
    Calls Tryd.prog 27 #[.int .i64 n] w fun e w' => e = .returned (.string (bs [])) ∧ Below w.heap.size w w' := by
  go_enter Tryd.func27, Tryd.ntmps27
  go_wp2_with (first
    | (go_at_call 36; refine (sIn_no _ _ _ _ h).mono ?_; rintro e w' ⟨rfl, rfl⟩))
  go_ret
  exact ⟨rfl, Below.refl _ _⟩
theorem iVar_out (n : Int) (h : n < 0 ∨ 562949953421311 < n) (w : World) :
    Calls Tryd.prog 11 #[.int .i64 n] w fun e w' => e = .returned (.string (bs [])) ∧ Below w.heap.size w w' := by
  go_enter Tryd.func11, Tryd.ntmps11
  go_wp2_with (first
    | (go_at_call 21; refine (iIn_no _ _ _ _ h).mono ?_; rintro e w' ⟨rfl, rfl⟩))
  go_ret
  exact ⟨rfl, Below.refl _ _⟩
/-- What Var gives. -/
def varOf (n : Int) : List Int := if 0 ≤ n ∧ n ≤ 562949953421311 then varL n.toNat else []
theorem sVar (n : Int) (w : World) :
    Calls Tryd.prog 27 #[.int .i64 n] w fun e w' => e = .returned (.string (bs (varOf n))) ∧ Below w.heap.size w w' := by
  unfold varOf
  by_cases h : 0 ≤ n ∧ n ≤ 562949953421311
  · rw [if_pos h]
    obtain ⟨k, rfl⟩ := Int.eq_ofNat_of_zero_le h.1
    exact sVar_in k (by omega) w
  · rw [if_neg h]; exact sVar_out n (by omega) w
theorem iVar (n : Int) (w : World) :
    Calls Tryd.prog 11 #[.int .i64 n] w fun e w' => e = .returned (.string (bs (varOf n))) ∧ Below w.heap.size w w' := by
  unfold varOf
  by_cases h : 0 ≤ n ∧ n ≤ 562949953421311
  · rw [if_pos h]
    obtain ⟨k, rfl⟩ := Int.eq_ofNat_of_zero_le h.1
    exact iVar_in k (by omega) w
  · rw [if_neg h]; exact iVar_out n (by omega) w
end Go.Proofs.YtcoecgcjpeijmaaDoor
