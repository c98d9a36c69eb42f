/-
  The draws of the scan's laws. No condition.
-/
import Derived.Test.YtcoecgcjpeijmaaDoorDraw2
namespace Go.Proofs.YtcoecgcjpeijmaaDoor
open Go.ChangeShapes Go.WideShapes Go.ChangeAt Go.RowKit
set_option linter.unusedVariables false
theorem cx_new {w w1 : World} {g n c : Nat} {A : Option Addr} {zs : List Int} {i h : Int} (k : Cur w1 g A n c zs i h) : CX w1 g := ⟨_, _, _, _, _, _, k⟩
theorem below_onl {w w1 w2 : World} {g : Nat} (b : Below w.heap.size w w1) (hg : w.heap.size ≤ g) (o : Only g (g + 1) w1 w2) : Below w.heap.size w w2 := below_only b o hg b.size
end Go.Proofs.YtcoecgcjpeijmaaDoor
