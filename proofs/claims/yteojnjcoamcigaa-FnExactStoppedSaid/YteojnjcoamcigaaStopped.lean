/-
  Stopped, the reference's and the program's: both return the bytes of the bits, a 1 and as many 0 as fill a byte. No condition but at most 2^20 bits.
-/
import Derived.Test.YteojnjcoamcigaaBytesOf
import Derived.Test.YteojnjcoamcigaaAppMany
import Derived.Test.YteojnjcoamcigaaClone
namespace Go.Proofs.Yteojnjcoamcigaa
open Go.ChangeShapes Go.WideShapes Go.ChangeAt Go.RowKit
set_option linter.unusedVariables false
def padOf (n : Nat) : Nat := (8 - (n + 1) % 8) % 8
theorem padOf_end (n k : Nat) (h : k ≤ padOf n) (h8 : (n + 1 + k) % 8 = 0) : k = padOf n := by unfold padOf at *; omega
theorem padOf_more (n k : Nat) (h : k ≤ padOf n) (h8 : ¬ (n + 1 + k) % 8 = 0) : k < padOf n := by unfold padOf at *; omega
theorem padOf_le (n : Nat) : padOf n ≤ 7 := by unfold padOf; omega
def stopL (zs : List Int) (k : Nat) : List Int := zs ++ [1] ++ List.replicate k 0
theorem stopL_succ (zs : List Int) (k : Nat) : stopL zs (k + 1) = stopL zs k ++ [0] := by
  unfold stopL; rw [List.replicate_succ', ← List.append_assoc]
def stopped (zs : List Int) : List Int := (bytesOf (stopL zs (padOf zs.length))).1
def lenVal : Value → Nat
  | .slice _ n _ => n
  | _ => 0
theorem own_cap {w : World} {base e n c : Nat} {A : Option Addr} {xs : List Value} (h : w.ownsRow base e 1 (.slice A n c) n xs) : n ≤ c ∧ c ≤ maxLen := by
  rcases h.2 with ⟨hv, hn⟩ | ⟨g, cap, cur, hv, _, _, h1, h2, _⟩
  · simp only [Value.slice.injEq] at hv
    exact ⟨by omega, by rw [hv.2.2]; exact Nat.zero_le _⟩
  · simp only [Value.slice.injEq] at hv
    obtain ⟨_, _, rfl⟩ := hv
    exact ⟨h1, h2⟩
theorem own_read {w : World} {base n c : Nat} {A : Option Addr} {zs : List Int} (h : w.ownsRow base 3 1 (.slice A n c) n (zs.map (Value.int .i64))) : RI w A n zs := (OB.new h).read

set_option maxRecDepth 100000 in
theorem sStopped (A : Option Addr) (n c : Nat) (zs : List Int) (w : World) (h : RI w A n zs) (hn : n ≤ 1048576) :
    Calls Try.prog 35 #[.slice A n c] w fun e w' => e = .returned (.string (bs (stopped zs))) ∧ Below w.heap.size w w' := by
  have hsn : Small (0 + n) := small_of (by omega)
  have hsn1 : Small n := small_of (by omega)
  have hlen := h.len
  have hpl := padOf_le n
  go_enter Try.func35, Try.ntmps35
  go_wp2_with (first
    | (at_builtin; refine wpList_appmany (w0 := w) rfl (.tmp 6) (.tmp 7) rfl rfl _ 0 [] rfl (World.ownsRow_made w #[] 0 (Nat.le_refl _) (by decide) rfl) ((Below.refl _ _).alloc (Nat.le_refl _) _) A n c zs rfl (h.below ((Below.refl _ _).alloc (Nat.le_refl _) _)) hsn ?_; intro A1 c1 w1 hown1 hb1 _; rw [Nat.zero_add, List.nil_append] at hown1)
    | (at_builtin; refine wpList_app_i64 (w0 := w) rfl (.tmp 8) (.tmp 9) rfl _ n zs rfl hown1 hb1 rfl hsn1 ?_; intro g2 c2 w2 hown2 hb2 _))
  go_loopw [3] (fun v wr => ∃ (k : Nat) (Ak : Option Addr) (ck : Nat), k ≤ padOf n ∧ v = .slice Ak (n + 1 + k) ck ∧ wr.ownsRow w.heap.size 3 1 (.slice Ak (n + 1 + k) ck) (n + 1 + k) ((stopL zs k).map (Value.int .i64)) ∧ Below w.heap.size w wr) (fun v _ => n + 1 + padOf n - lenVal v)
  case atStart => exact ⟨0, _, _, Nat.zero_le _, rfl, by unfold stopL; rw [List.replicate_zero, List.append_nil]; exact hown2, hb2⟩
  case round =>
    clear hown1 hb1 hown2 hb2
    obtain ⟨k, Ak, ck, hk, rfl, hown, hb⟩ := hrel
    by_cases h8 : (n + 1 + k) % 8 = 0
    · have hke := padOf_end n k hk h8
      have h8' : (((n + 1 + k : Nat) : Int) % 8 != 0) = false := by simp; omega
      have hcap := own_cap hown
      have hB : Hid (∀ W, RI W Ak (n + 1 + k) (stopL zs k) → Calls Try.prog 31 #[.slice Ak (n + 1 + k) ck] W fun e w' => e = .returned (.tuple #[.string (bs (bytesOf (stopL zs k)).1), .bool (bytesOf (stopL zs k)).2]) ∧ Below W.heap.size W w') :=
        fun W hW => sBytesOf_any _ _ _ _ W hW (by omega) hcap.1 hcap.2
      have hE : Hid (stopped zs = (bytesOf (stopL zs k)).1) := by
        show stopped zs = _
        unfold stopped; rw [hlen, hke]
      have hN : Hid ((bytesOf (stopL zs k)).2 = false → stopped zs = []) := by
        intro h2
        rw [hE.out]
        unfold bytesOf at h2 ⊢
        split
        · rename_i h3; rw [if_pos h3] at h2; cases h2
        · rfl
      have hr := own_read hown
      clear hcap hke hown
      cases hok : (bytesOf (stopL zs k)).2 with
      | true =>
        rw [hok] at hB
        go_wp2_with (first
          | (go_at_call 31; refine (hB.out _ hr).mono ?_; rintro e w1 ⟨rfl, b1⟩))
        go_ret
        exact ⟨by rw [hE.out]; rfl, hb.trans (b1.mono hb.size)⟩
      | false =>
        rw [hok] at hB
        go_wp2_with (first
          | (go_at_call 31; refine (hB.out _ hr).mono ?_; rintro e w1 ⟨rfl, b1⟩))
        go_ret
        exact ⟨by rw [hN.out hok]; rfl, hb.trans (b1.mono hb.size)⟩
    · have hkm := padOf_more n k hk h8
      have h8' : (((n + 1 + k : Nat) : Int) % 8 != 0) = true := by simp; omega
      have hS := Lib.hid (stopL_succ zs k)
      have hsm : Small (n + 1 + k) := small_of (by omega)
      go_wp2_with (first
        | (at_builtin; refine wpList_app_i64 (w0 := w) rfl (.tmp 15) (.tmp 16) rfl _ (n + 1 + k) (stopL zs k) rfl hown hb rfl hsm ?_; intro g2 c2 w2 hown2 hb2 _))
      go_roundw
      case rel => exact ⟨k + 1, _, _, by omega, rfl, by rw [hS.out]; exact hown2, hb2⟩
      case measure => simp [lenVal]; omega
set_option maxRecDepth 100000 in
theorem iStopped (A : Option Addr) (n c : Nat) (zs : List Int) (w : World) (h : RI w A n zs) (hn : n ≤ 1048576) :
    Calls Try.prog 36 #[.slice A n c] w fun e w' => e = .returned (.string (bs (stopped zs))) ∧ Below w.heap.size w w' := by
  have hsn1 : Small n := small_of (by omega)
  have hlen := h.len
  have hpl := padOf_le n
  go_enter Try.func36, Try.ntmps36
  go_wp2_with (first
    | (go_at_call 54; refine (iClone _ _ _ _ _ h hn).mono ?_; rintro e w1 ⟨A1, c1, rfl, o1, hb1⟩)
    | (at_builtin; refine wpList_app_i64 (w0 := w) rfl (.tmp 7) (.tmp 8) rfl _ n zs rfl o1.1 hb1 rfl hsn1 ?_; intro g2 c2 w2 hown2 hb2 _))
  go_loopw [3] (fun v wr => ∃ (k : Nat) (Ak : Option Addr) (ck : Nat), k ≤ padOf n ∧ v = .slice Ak (n + 1 + k) ck ∧ wr.ownsRow w.heap.size 3 1 (.slice Ak (n + 1 + k) ck) (n + 1 + k) ((stopL zs k).map (Value.int .i64)) ∧ Below w.heap.size w wr) (fun v _ => n + 1 + padOf n - lenVal v)
  case atStart => exact ⟨0, _, _, Nat.zero_le _, rfl, by unfold stopL; rw [List.replicate_zero, List.append_nil]; exact hown2, hb2⟩
  case round =>
    clear o1 hb1 hown2 hb2
    obtain ⟨k, Ak, ck, hk, rfl, hown, hb⟩ := hrel
    by_cases h8 : (n + 1 + k) % 8 = 0
    · have hke := padOf_end n k hk h8
      have h8' : (((n + 1 + k : Nat) : Int) % 8 != 0) = false := by simp; omega
      have hB : Hid (∀ W, RI W Ak (n + 1 + k) (stopL zs k) → Calls Try.prog 32 #[.slice Ak (n + 1 + k) ck] W fun e w' => e = .returned (.tuple #[.string (bs (bytesOf (stopL zs k)).1), .bool (bytesOf (stopL zs k)).2]) ∧ Below W.heap.size W w') :=
        fun W hW => iBytesOf_any _ _ _ _ W hW (by omega)
      have hE : Hid (stopped zs = (bytesOf (stopL zs k)).1) := by
        show stopped zs = _
        unfold stopped; rw [hlen, hke]
      have hr := own_read hown
      clear hke hown
      go_wp2_with (first
        | (go_at_call 32; refine (hB.out _ hr).mono ?_; rintro e w1 ⟨rfl, b1⟩))
      go_ret
      exact ⟨by rw [hE.out]; rfl, hb.trans (b1.mono hb.size)⟩
    · have hkm := padOf_more n k hk h8
      have h8' : (((n + 1 + k : Nat) : Int) % 8 != 0) = true := by simp; omega
      have hS := Lib.hid (stopL_succ zs k)
      have hsm : Small (n + 1 + k) := small_of (by omega)
      go_wp2_with (first
        | (at_builtin; refine wpList_app_i64 (w0 := w) rfl (.tmp 14) (.tmp 15) rfl _ (n + 1 + k) (stopL zs k) rfl hown hb rfl hsm ?_; intro g2 c2 w2 hown2 hb2 _))
      go_roundw
      case rel => exact ⟨k + 1, _, _, by omega, rfl, by rw [hS.out]; exact hown2, hb2⟩
      case measure => simp [lenVal]; omega
end Go.Proofs.Yteojnjcoamcigaa
