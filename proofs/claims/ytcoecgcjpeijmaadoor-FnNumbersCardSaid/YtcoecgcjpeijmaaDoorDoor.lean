/-
  What the rows of this seat list: the library's tables and two errors: what a walk may read of them, and one world that holds them. No condition.
-/
import Derived.Test.YtcoecgcjpeijmaaDoorCards
import Derived.Test.YtcoecgcjpeijmaaDoorTie
import Derived.Test.YtcoecgcjpeijmaaDoorBase
import Derived.WalkKit
import Derived.ProofKit
import Derived.OpenShut
import Derived.Deep.DeepHandedRow
import Derived.Lib.LaidTab
import Derived.Lib.AppendIntMem
import Derived.Stop.LaidErr
namespace Go.Proofs.YtcoecgcjpeijmaaDoor
open Go.ChangeShapes Go.WideShapes Go.ChangeAt Go.RowKit
set_option linter.unusedVariables false
theorem gPow : Tryd.prog.globalNamed "internal/strconv.uint64pow10" = some 2 := by kernel_rfl
theorem gPowType : (Tryd.prog.globals[2]?).map (·.type) = some 82 := by kernel_rfl
theorem cells82 : Tryd.prog.cellsOf 82 = 20 := by kernel_rfl
theorem cells64 : Tryd.prog.cellsOf 64 = 1 := by kernel_rfl
theorem gES : Tryd.prog.globalNamed "strconv.ErrSyntax" = some 0 := by kernel_rfl
theorem gESType : (Tryd.prog.globals[0]?).map (·.type) = some 39 := by kernel_rfl
theorem gER : Tryd.prog.globalNamed "strconv.ErrRange" = some 1 := by kernel_rfl
theorem gERType : (Tryd.prog.globals[1]?).map (·.type) = some 39 := by kernel_rfl
theorem cells79 : Tryd.prog.cellsOf 79 = 1 := by kernel_rfl
theorem cells9 : Tryd.prog.cellsOf 9 = 1 := by kernel_rfl
theorem star : "*" ++ "errors.errorString" = "*errors.errorString" := by decide
theorem row77 (u : TypeId) (h : Tryd.prog.typeName? 3 u = some "*errors.errorString") : u = 77 :=
  typeName_ptr_named (nm := "errors.errorString") (by rw [star]; kernel_rfl) (by kernel_rfl) (by decide) u (by rw [star]; exact h)
theorem pow_laid {W : World} {a b : String × DataW Unit} {r : List (String × DataW Unit)} (h : laidMet Tryd.prog (a :: b :: ("internal/strconv.uint64pow10", Rows.laid_internal_strconv_uint64pow10) :: r) W) :
    Lib.TabIs Tryd.prog W "internal/strconv.uint64pow10" .u64 Lib.pow10Tab :=
  Lib.tabIs_of_head gPow gPowType Tryd.underlying82 Tryd.underlying64 cells64 cells82 h.tail.tail
theorem errs_laid {W : World} {a b c : String × DataW Unit} {r : List (String × DataW Unit)} (h : laidMet Tryd.prog (a :: b :: c :: ("strconv.ErrRange", Rows.laid_strconv_ErrRange) :: ("strconv.ErrSyntax", Rows.laid_strconv_ErrSyntax) :: r) W) :
    ∃ p1 p2 : Value, W.var? Tryd.prog "strconv.ErrSyntax" = some #[.iface 77 p1] ∧ W.var? Tryd.prog "strconv.ErrRange" = some #[.iface 77 p2] := by
  obtain ⟨a1, s1, hv1, -, -, -⟩ := laid_sentinel h.tail.tail.tail gER gERType Tryd.underlying39 row77 Tryd.underlying77 Tryd.underlying79 rfl rfl Tryd.underlying9 cells79 cells9
  obtain ⟨a0, s0, hv0, -, -, -⟩ := laid_sentinel h.tail.tail.tail.tail gES gESType Tryd.underlying39 row77 Tryd.underlying77 Tryd.underlying79 rfl rfl Tryd.underlying9 cells79 cells9
  exact ⟨_, _, hv0, hv1⟩
/-- A variable is as it was where nothing below turned. -/
theorem var_below {P : Program} {w w' : World} {nm : String} {v : Value} (h : w.var? P nm = some #[v]) (hb : Below w.heap.size w w') : w'.var? P nm = some #[v] := by
  unfold World.var? at *
  cases hg : P.globalNamed nm with
  | none => simp [hg] at h
  | some g =>
    simp only [hg, Option.bind_some] at h ⊢
    have hlt : g < w.heap.size := by
      rcases Nat.lt_or_ge g w.heap.size with h' | h'
      · exact h'
      · rw [Array.getElem?_eq_none h'] at h; simp at h
    rw [hb.block g hlt]
    exact h
/-! ### one world that holds what is listed -/
def synS : ByteArray := { data := #[105, 110, 118, 97, 108, 105, 100, 32, 115, 121, 110, 116, 97, 120] }
def rngS : ByteArray := { data := #[118, 97, 108, 117, 101, 32, 111, 117, 116, 32, 111, 102, 32, 114, 97, 110, 103, 101] }
def dataCells : DataW Unit → Array Value
  | .agg ds => (ds.map fun | .lit (.int k z) => Value.int k z | _ => undef).toArray
  | _ => #[]
noncomputable def low : Nat := (World.holding Tryd.prog default ⟨#[], #[], []⟩).heap.size
def setCells (v : Array Value) : Obj → Obj
  | .cells _ t frozen => .cells v t frozen
  | o => o
noncomputable def laidWorld (os : Os) : World :=
  let w0 := World.holding Tryd.prog os ⟨#[.cells #[.string synS] 79, .cells #[.string rngS] 79], #[], []⟩
  { w0 with heap := ((((w0.heap.modify 0 (setCells #[.iface 77 (.pointer (some ⟨low, 0, none⟩))])).modify 1 (setCells #[.iface 77 (.pointer (some ⟨low + 1, 0, none⟩))])).modify 2 (setCells (dataCells Rows.laid_internal_strconv_uint64pow10))).modify 3 (setCells (dataCells Rows.laid_math_bits_deBruijn32tab))).modify 4 (setCells (dataCells Rows.laid_math_bits_deBruijn64tab)) }
end Go.Proofs.YtcoecgcjpeijmaaDoor
