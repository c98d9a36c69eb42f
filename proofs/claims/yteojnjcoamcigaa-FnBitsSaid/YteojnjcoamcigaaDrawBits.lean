/-
  The draws of texts to take the bits of, and of numbers to spell in bits. No condition.
-/
import Derived.Test.YteojnjcoamcigaaText
namespace Go.Proofs.Yteojnjcoamcigaa
open Go.ChangeShapes Go.WideShapes Go.ChangeAt Go.RowKit
set_option linter.unusedVariables false
set_option maxRecDepth 100000 in
theorem xDrawBitsOf (A : Option Addr) (n c : Nat) (zs : List Int) (w : World) (h : RU w A n zs) (hn : n ≤ 1048576) :
    Calls Try.prog 44 #[.slice A n c] w fun e w' => ∃ acc : List Int, e = .returned (.string (bs acc)) ∧ acc.length ≤ 6 ∧ ByL acc ∧ Below w.heap.size w w' := by
  go_enter Try.func44, Try.ntmps44
  go_wp2_with fail
  refine (sNew A n c zs w h hn).mono ?_
  rintro e w1 ⟨g, rfl, hg, hgl, k, b1⟩
  have kx := cx_new (w := w) k
  clear k
  go_wp2_with fail
  refine (xText g 6 (by omega) _ kx).mono ?_
  rintro e w2 ⟨acc, rfl, hl, hb, k2, o2⟩
  have HL := Lib.hid hl
  have HB := Lib.hid hb
  clear hl hb
  go_wp2
  go_ret
  exact ⟨acc, rfl, HL.out, HB.out, below_onl b1 hg o2⟩
theorem shl_bd : ∀ q : Fin 16, 1 ≤ wrap64 (2 ^ q.val) ∧ wrap64 (2 ^ q.val) ≤ 32768 := by decide +kernel
set_option maxRecDepth 100000 in
theorem xDrawBitsIn (A : Option Addr) (n c : Nat) (zs : List Int) (w : World) (h : RU w A n zs) (hn : n ≤ 1048576) :
    Calls Try.prog 46 #[.slice A n c] w fun e w' => ∃ x d : Int, e = .returned (.tuple #[.int .i64 x, .int .i64 d]) ∧ ((Lit.int .i64 x).wf = true ∧ (Lit.int .i64 d).wf = true) ∧ Below w.heap.size w w' := by
  go_enter Try.func46, Try.ntmps46
  go_wp2_with fail
  refine (sNew A n c zs w h hn).mono ?_
  rintro e w1 ⟨g, rfl, hg, hgl, k, b1⟩
  have kx := cx_new (w := w) k
  clear k
  go_wp2_with fail
  refine (xBelow g 16 (by omega) _ kx).mono ?_
  rintro e w2 ⟨q, hq, rfl, k2, o2⟩
  obtain ⟨q, rfl⟩ := Int.eq_ofNat_of_zero_le hq.1
  have hq16 : q < 16 := by omega
  clear hq
  obtain ⟨M, hM⟩ : ∃ M : Int, wrap64 (2 ^ q) = M := ⟨_, rfl⟩
  have hMb : 1 ≤ M ∧ M ≤ 32768 := by rw [← hM]; exact shl_bd ⟨q, hq16⟩
  have HB := Lib.hid (fun W hW => xBelow g M (by omega) W hW)
  go_wp2_with fail
  refine (HB.out _ k2).mono ?_
  rintro e w3 ⟨x, hx, rfl, k3, o3⟩
  have x3 := o2.trans o3
  clear kx k2 o2 o3
  go_wp2_with fail
  refine (xOnce g 4 _ k3).mono ?_
  rintro e w4 ⟨b, rfl, k4, o4⟩
  have x4 := x3.trans o4
  clear k3 x3 o4
  cases b
  · have HX : Hid ((Lit.int .i64 x).wf = true) := Lib.hid (WalkArith.wf_i64 (n := x) (by omega))
    have HQ : Hid ((Lit.int .i64 (q : Int)).wf = true) := Lib.hid (WalkArith.wf_i64 (n := (q : Int)) (by omega))
    clear hx hMb hM
    go_wp2
    go_ret2
    exact ⟨x, q, rfl, ⟨HX.out, HQ.out⟩, below_onl b1 hg x4⟩
  · go_wp2_with fail
    refine (xPickInt g _ _ _ _ _ [-1, M, 281474976710655, 0] _ (k4.alloc _) (OB.lit w4 [-1, M, 281474976710655, 0] 4 rfl (by unfold maxLen; omega)) k4.lt (by omega)).mono ?_
    rintro e w5 ⟨y, hy, rfl, k5, o5⟩
    have hy2 : -1 ≤ y ∧ y ≤ 281474976710655 := by simp at hy; omega
    have x5 := (x4.alloc (.cells #[.int .i64 (-1), .int .i64 M, .int .i64 281474976710655, .int .i64 0] 3)).trans o5
    have HY : Hid ((Lit.int .i64 y).wf = true) := Lib.hid (WalkArith.wf_i64 (n := y) (by omega))
    clear hy hy2 k4 x4 o5
    go_wp2_with fail
    refine (xPickInt g _ _ _ _ _ [(q : Int), 48, 49, -1] _ (k5.alloc _) (OB.lit w5 [(q : Int), 48, 49, -1] 4 rfl (by unfold maxLen; omega)) k5.lt (by omega)).mono ?_
    rintro e w6 ⟨z, hz, rfl, k6, o6⟩
    have hz2 : -1 ≤ z ∧ z ≤ 49 := by simp at hz; omega
    have x6 := (x5.alloc (.cells #[.int .i64 (q : Int), .int .i64 48, .int .i64 49, .int .i64 (-1)] 3)).trans o6
    have HZ : Hid ((Lit.int .i64 z).wf = true) := Lib.hid (WalkArith.wf_i64 (n := z) (by omega))
    clear hz hz2 k5 x5 o6
    go_wp2
    go_ret2
    exact ⟨y, z, rfl, ⟨HY.out, HZ.out⟩, below_onl b1 hg x6⟩
end Go.Proofs.Yteojnjcoamcigaa
