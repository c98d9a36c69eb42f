/-
  The draws of the scan's laws. No condition.
-/
import Derived.Test.YtcjodaoeoifbcaaDraw2
namespace Go.Proofs.Ytcjodaoeoifbcaa
open Go.ChangeShapes Go.WideShapes Go.ChangeAt Go.RowKit
set_option linter.unusedVariables false
theorem cx_new {w w1 : World} {g n c : Nat} {A : Option Addr} {zs : List Int} {i h : Int} (k : Cur w1 g A n c zs i h) : CX w1 g := ⟨_, _, _, _, _, _, k⟩
theorem below_onl {w w1 w2 : World} {g : Nat} (b : Below w.heap.size w w1) (hg : w.heap.size ≤ g) (o : Only g (g + 1) w1 w2) : Below w.heap.size w w2 := below_only b o hg b.size
set_option maxRecDepth 100000 in
theorem xDrawScanOrder (A : Option Addr) (n c : Nat) (zs : List Int) (w : World) (h : RU w A n zs) (hn : n ≤ 1048576) :
    Calls Try.prog 43 #[.slice A n c] w fun e w' => ∃ x : Int, (x = 4 ∨ x = 8 ∨ x = 0 ∨ x = 5 ∨ x = -1) ∧ e = .returned (.int .i64 x) ∧ Below w.heap.size w w' := by
  go_enter Try.func43, Try.ntmps43
  go_wp2_with fail
  refine (sNew A n c zs w h hn).mono ?_
  rintro e w1 ⟨g, rfl, hg, hgl, k, b1⟩
  have kx := cx_new (w := w) k
  clear k
  go_wp2_with fail
  refine (xPickInt g _ _ _ _ _ [4, 8, 0, 5, -1] _ (kx.alloc _) (OB.lit w1 [4, 8, 0, 5, -1] 5 rfl (by unfold maxLen; omega)) kx.lt (by omega)).mono ?_
  rintro e w2 ⟨x, hx, rfl, k2, o2⟩
  have hx2 : x = 4 ∨ x = 8 ∨ x = 0 ∨ x = 5 ∨ x = -1 := by simpa using hx
  have HX := Lib.hid hx2
  clear hx hx2
  go_wp2
  go_ret
  exact ⟨x, HX.out, rfl, below_onl (b1.alloc b1.size _) hg o2⟩
set_option maxRecDepth 100000 in
theorem xDrawScanned (A : Option Addr) (n c : Nat) (zs : List Int) (w : World) (h : RU w A n zs) (hn : n ≤ 1048576) :
    Calls Try.prog 47 #[.slice A n c] w fun e w' => ∃ A' n' c' ws, e = .returned (.slice A' n' c') ∧ OB w' w.heap.size w'.heap.size A' n' c' ws ∧ SqLen n' ∧ Below w.heap.size w w' := by
  go_enter Try.func47, Try.ntmps47
  go_wp2_with fail
  refine (sNew A n c zs w h hn).mono ?_
  rintro e w1 ⟨g, rfl, hg, hgl, k, b1⟩
  have kx := cx_new (w := w) k
  clear k
  go_wp2_with fail
  refine (xSquare g 90 (by omega) _ kx).mono ?_
  rintro e w2 ⟨A', n', c', ws, rfl, ob, hs, hb, k2, o2⟩
  have HS := Lib.hid hs
  clear hs
  go_wp2
  go_ret
  exact ⟨A', n', c', ws, rfl, ob.mono b1.size (Nat.le_refl _), HS.out, below_onl b1 hg o2⟩
end Go.Proofs.Ytcjodaoeoifbcaa
