/-
  BitsOf, the reference's and the program's: both return the bits 'bitsOf s' of a text of at most 2^20 bytes.
-/
import Derived.Test.YteojnjcoamcigaaInts
import Derived.Test.YteojnjcoamcigaaBitAt
namespace Go.Proofs.Yteojnjcoamcigaa
open Go.ChangeShapes Go.WideShapes Go.ChangeAt Go.RowKit
set_option linter.unusedVariables false
/-- The first k bits of a text. -/
def bitsTo (s : ByteArray) (k : Nat) : List Int := (List.range k).map (fun i : Nat => bitAt s (i : Int))
theorem bitsTo_succ (s : ByteArray) (k : Nat) : bitsTo s (k + 1) = bitsTo s k ++ [bitAt s (k : Int)] := by simp [bitsTo, List.range_succ]
theorem bitsTo_length (s : ByteArray) (k : Nat) : (bitsTo s k).length = k := by simp [bitsTo]
def bitsOf (s : ByteArray) : List Int := bitsTo s (8 * s.size)
theorem bitsOf_len (s : ByteArray) (h : s.size ≤ 1048576) : (bitsOf s).length ≤ 1000000000 := by unfold bitsOf; rw [bitsTo_length]; omega

set_option maxRecDepth 100000 in
theorem sBitsOf (s : ByteArray) (w : World) (hs : s.size ≤ 1048576) :
    Calls Try.prog 29 #[.string s] w fun e w' => ∃ A' n' c', e = .returned (.slice A' n' c') ∧ OB w' w.heap.size w'.heap.size A' n' c' (bitsOf s) ∧ Below w.heap.size w w' := by
  go_enter Try.func29, Try.ntmps29
  go_wp2_with fail
  go_loopw [3, 4] (fun v i wr => ∃ k : Nat, k ≤ 8 * s.size ∧ i = .int .i64 k ∧ wr.ownsRow w.heap.size 3 1 v k ((bitsTo s k).map (Value.int .i64)) ∧ Below w.heap.size w wr) (fun _ i _ => 8 * s.size - (intOf i).toNat)
  case atStart => exact ⟨0, Nat.zero_le _, rfl, World.ownsRow_made _ #[] 0 (Nat.le_refl _) (by decide) rfl, (Below.refl _ _).alloc (Nat.le_refl _) _⟩
  case round =>
    obtain ⟨k, hk, rfl, hown, hb⟩ := hrel
    by_cases hlt : k < 8 * s.size
    · have hlt' : (k : Int) < 8 * (s.size : Int) := by omega
      have e2 := Lib.hid (bitsTo_succ s k)
      have hl2 : Small k := small_of (by omega)
      go_wp2_with (first
        | (go_at_call 52; refine (sBitAt _ _ hs _).mono ?_; rintro e w' ⟨rfl, rfl⟩)
        | (at_builtin; refine wpList_app_i64 rfl (.tmp 13) (.tmp 17) rfl _ k (bitsTo s k) rfl hown hb rfl hl2 ?_; intro g cap w1 hown1 hb1 _))
      go_roundw
      case rel => exact ⟨k + 1, by omega, by go_num, by rw [e2.out]; exact hown1, hb1⟩
      case measure => simp [intOf]; omega
    · have hke : k = 8 * s.size := by omega
      have hlt' : ¬ (k : Int) < 8 * (s.size : Int) := by omega
      obtain ⟨a, c, hv⟩ := owns_shape hown
      subst hv
      rw [hke] at hown
      have hk2 : Hid (k = 8 * s.size) := hke
      clear hke
      go_wp2_with fail
      go_ret
      exact ⟨a, k, c, rfl, OB.new (by have := hk2.out; rw [this]; exact hown), hb⟩

set_option maxRecDepth 100000 in
theorem iBitsOf (s : ByteArray) (w : World) (hs : s.size ≤ 1048576) :
    Calls Try.prog 30 #[.string s] w fun e w' => ∃ A' n' c', e = .returned (.slice A' n' c') ∧ OB w' w.heap.size w'.heap.size A' n' c' (bitsOf s) ∧ Below w.heap.size w w' := by
  go_enter Try.func30, Try.ntmps30
  go_wp2_with fail
  go_loopw [3, 9] (fun v i wr => ∃ k : Nat, k ≤ 8 * s.size ∧ i = .int .i64 k ∧ wr.ownsRow w.heap.size 3 1 v k ((bitsTo s k).map (Value.int .i64)) ∧ Below w.heap.size w wr) (fun _ i _ => 8 * s.size - (intOf i).toNat)
  case atStart => exact ⟨0, Nat.zero_le _, rfl, World.ownsRow_made _ #[] 0 (Nat.le_refl _) (by decide) rfl, (Below.refl _ _).alloc (Nat.le_refl _) _⟩
  case round =>
    obtain ⟨k, hk, rfl, hown, hb⟩ := hrel
    by_cases hlt : k < 8 * s.size
    · have hlt' : (k : Int) < 8 * (s.size : Int) := by omega
      have e2 := Lib.hid (bitsTo_succ s k)
      have hl2 : Small k := small_of (by omega)
      go_wp2_with (first
        | (go_at_call 45; refine (iBitAt _ _ hs _).mono ?_; rintro e w' ⟨rfl, rfl⟩)
        | (at_builtin; refine wpList_app_i64 rfl (.tmp 12) (.tmp 16) rfl _ k (bitsTo s k) rfl hown hb rfl hl2 ?_; intro g cap w1 hown1 hb1 _))
      go_roundw
      case rel => exact ⟨k + 1, by omega, by go_num, by rw [e2.out]; exact hown1, hb1⟩
      case measure => simp [intOf]; omega
    · have hke : k = 8 * s.size := by omega
      have hlt' : ¬ (k : Int) < 8 * (s.size : Int) := by omega
      obtain ⟨a, c, hv⟩ := owns_shape hown
      subst hv
      rw [hke] at hown
      have hk2 : Hid (k = 8 * s.size) := hke
      clear hke
      go_wp2_with fail
      go_ret
      exact ⟨a, k, c, rfl, OB.new (by have := hk2.out; rw [this]; exact hown), hb⟩
end Go.Proofs.Yteojnjcoamcigaa
