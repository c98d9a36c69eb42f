/-
  No cell of these rows narrows 'for every input' (looked for: loops, veiled, ifaces, maps, wideKeys, modest, calm, conditions, laid).
  DERIVED. THE GIVEN ROWS OF THIS SEAT. 12 by the template 'for every input the law returns true; each argument reads behind the call as it read before'; 0 by the template 'total and deterministic' (their statements: YtcjodaoeoifbcaaTotals.lean).
  GIVEN WITH THE SEED: the statements are not yours to turn. If you find one false, say at which input.
  Laid BY PROGRAM, IN A SANDBOX (cutbox-rows.mjs): the forced cells as the released guide's own fill.sh prints them over the translation 485beb1befa4f884… (all of the seat's roots in one cut). By AI agents, Wed Nov 11 2026. No macro, syntax, notation, axiom, sorry.
-/
import Derived.Test.YtcjodaoeoifbcaaChecked
import GoSem.Claim
import GoSem.ClaimJoined
import GoSem.ClaimMapViews
import Derived.JoinedTies
import Derived.KernelRfl
namespace Go.Proofs.Ytcjodaoeoifbcaa
/- THE CELL 'sum', in the pinned program and in every row, IS THE sha256 OF THE DUMP (.gsa) THAT YtcjodaoeoifbcaaProg.lean LOADS. Nothing in Lean hashes anything: it is a label: what it is worth is what the hold of that sum in a sandbox is worth. -/
noncomputable def Try.pinned : Pinned := { name := "ytcjodaoeoifbcaa", sum := "485beb1befa4f8848bd9432bb34c4a7e318f3668af17989b33aa74c17f74ae68", checked := Try.checked }
namespace Rows
def none {H : Type} : Left H := { results := [], args := [] }

/-- 'laws.FnExactLevelsOk': WHATEVER THE INPUT: true; the input reads as it did. -/
def fnExactLevelsOkSpec : ChangeSpec := { name := "fnExactLevelsOk", fn := fun _ => fun
  | [d] => { results := [.lit (.bool true)], args := [d] }
  | _ => none }
def fnExactLevelsOkRow : OpenClaim := { program := "ytcjodaoeoifbcaa", sum := "485beb1befa4f8848bd9432bb34c4a7e318f3668af17989b33aa74c17f74ae68", func := "loop.example/g01613/laws.FnExactLevelsOk", spec := "fnExactLevelsOk", apart := false }
def FnExactLevelsOkSaid : Prop := fnExactLevelsOkRow.holds Try.pinned (OpenSpec.ofChange fnExactLevelsOkSpec)

/-- ITS FALSE NEIGHBOUR: 'it returns false'. Refute it at one input. -/
def fnExactLevelsOkWrong : ChangeSpec := { name := "fnExactLevelsOk", fn := fun _ => fun
  | [d] => { results := [.lit (.bool false)], args := [d] }
  | _ => none }
def FnExactLevelsOkWrongFalsely : Prop := fnExactLevelsOkRow.holds Try.pinned (OpenSpec.ofChange fnExactLevelsOkWrong)

/-- 'laws.FnExactScanOrder': WHATEVER THE INPUT: true; the input reads as it did. -/
def fnExactScanOrderSpec : ChangeSpec := { name := "fnExactScanOrder", fn := fun _ => fun
  | [d] => { results := [.lit (.bool true)], args := [d] }
  | _ => none }
def fnExactScanOrderRow : OpenClaim := { program := "ytcjodaoeoifbcaa", sum := "485beb1befa4f8848bd9432bb34c4a7e318f3668af17989b33aa74c17f74ae68", func := "loop.example/g01613/laws.FnExactScanOrder", spec := "fnExactScanOrder", apart := false }
def FnExactScanOrderSaid : Prop := fnExactScanOrderRow.holds Try.pinned (OpenSpec.ofChange fnExactScanOrderSpec)

/-- ITS FALSE NEIGHBOUR: 'it returns false'. Refute it at one input. -/
def fnExactScanOrderWrong : ChangeSpec := { name := "fnExactScanOrder", fn := fun _ => fun
  | [d] => { results := [.lit (.bool false)], args := [d] }
  | _ => none }
def FnExactScanOrderWrongFalsely : Prop := fnExactScanOrderRow.holds Try.pinned (OpenSpec.ofChange fnExactScanOrderWrong)

/-- 'laws.FnExactRounded': WHATEVER THE INPUT: true; the input reads as it did. -/
def fnExactRoundedSpec : ChangeSpec := { name := "fnExactRounded", fn := fun _ => fun
  | [d] => { results := [.lit (.bool true)], args := [d] }
  | _ => none }
def fnExactRoundedRow : OpenClaim := { program := "ytcjodaoeoifbcaa", sum := "485beb1befa4f8848bd9432bb34c4a7e318f3668af17989b33aa74c17f74ae68", func := "loop.example/g01613/laws.FnExactRounded", spec := "fnExactRounded", apart := false }
def FnExactRoundedSaid : Prop := fnExactRoundedRow.holds Try.pinned (OpenSpec.ofChange fnExactRoundedSpec)

/-- ITS FALSE NEIGHBOUR: 'it returns false'. Refute it at one input. -/
def fnExactRoundedWrong : ChangeSpec := { name := "fnExactRounded", fn := fun _ => fun
  | [d] => { results := [.lit (.bool false)], args := [d] }
  | _ => none }
def FnExactRoundedWrongFalsely : Prop := fnExactRoundedRow.holds Try.pinned (OpenSpec.ofChange fnExactRoundedWrong)

/-- 'laws.FnExactQuantized': WHATEVER THE INPUT: true; the input reads as it did. -/
def fnExactQuantizedSpec : ChangeSpec := { name := "fnExactQuantized", fn := fun _ => fun
  | [d1, d2] => { results := [.lit (.bool true)], args := [d1, d2] }
  | _ => none }
def fnExactQuantizedRow : OpenClaim := { program := "ytcjodaoeoifbcaa", sum := "485beb1befa4f8848bd9432bb34c4a7e318f3668af17989b33aa74c17f74ae68", func := "loop.example/g01613/laws.FnExactQuantized", spec := "fnExactQuantized", apart := false }
def FnExactQuantizedSaid : Prop := fnExactQuantizedRow.holds Try.pinned (OpenSpec.ofChange fnExactQuantizedSpec)

/-- ITS FALSE NEIGHBOUR: 'it returns false'. Refute it at one input. -/
def fnExactQuantizedWrong : ChangeSpec := { name := "fnExactQuantized", fn := fun _ => fun
  | [d1, d2] => { results := [.lit (.bool false)], args := [d1, d2] }
  | _ => none }
def FnExactQuantizedWrongFalsely : Prop := fnExactQuantizedRow.holds Try.pinned (OpenSpec.ofChange fnExactQuantizedWrong)

/-- 'laws.FnExactScanned': WHATEVER THE INPUT: true; the input reads as it did. -/
def fnExactScannedSpec : ChangeSpec := { name := "fnExactScanned", fn := fun _ => fun
  | [d] => { results := [.lit (.bool true)], args := [d] }
  | _ => none }
def fnExactScannedRow : OpenClaim := { program := "ytcjodaoeoifbcaa", sum := "485beb1befa4f8848bd9432bb34c4a7e318f3668af17989b33aa74c17f74ae68", func := "loop.example/g01613/laws.FnExactScanned", spec := "fnExactScanned", apart := false }
def FnExactScannedSaid : Prop := fnExactScannedRow.holds Try.pinned (OpenSpec.ofChange fnExactScannedSpec)

/-- ITS FALSE NEIGHBOUR: 'it returns false'. Refute it at one input. -/
def fnExactScannedWrong : ChangeSpec := { name := "fnExactScanned", fn := fun _ => fun
  | [d] => { results := [.lit (.bool false)], args := [d] }
  | _ => none }
def FnExactScannedWrongFalsely : Prop := fnExactScannedRow.holds Try.pinned (OpenSpec.ofChange fnExactScannedWrong)

/-- 'laws.FnExactPlaced': WHATEVER THE INPUT: true; the input reads as it did. -/
def fnExactPlacedSpec : ChangeSpec := { name := "fnExactPlaced", fn := fun _ => fun
  | [d] => { results := [.lit (.bool true)], args := [d] }
  | _ => none }
def fnExactPlacedRow : OpenClaim := { program := "ytcjodaoeoifbcaa", sum := "485beb1befa4f8848bd9432bb34c4a7e318f3668af17989b33aa74c17f74ae68", func := "loop.example/g01613/laws.FnExactPlaced", spec := "fnExactPlaced", apart := false }
def FnExactPlacedSaid : Prop := fnExactPlacedRow.holds Try.pinned (OpenSpec.ofChange fnExactPlacedSpec)

/-- ITS FALSE NEIGHBOUR: 'it returns false'. Refute it at one input. -/
def fnExactPlacedWrong : ChangeSpec := { name := "fnExactPlaced", fn := fun _ => fun
  | [d] => { results := [.lit (.bool false)], args := [d] }
  | _ => none }
def FnExactPlacedWrongFalsely : Prop := fnExactPlacedRow.holds Try.pinned (OpenSpec.ofChange fnExactPlacedWrong)

/-- 'laws.FnExactLevelsFrom': WHATEVER THE INPUT: true; the input reads as it did. -/
def fnExactLevelsFromSpec : ChangeSpec := { name := "fnExactLevelsFrom", fn := fun _ => fun
  | [d1, d2] => { results := [.lit (.bool true)], args := [d1, d2] }
  | _ => none }
def fnExactLevelsFromRow : OpenClaim := { program := "ytcjodaoeoifbcaa", sum := "485beb1befa4f8848bd9432bb34c4a7e318f3668af17989b33aa74c17f74ae68", func := "loop.example/g01613/laws.FnExactLevelsFrom", spec := "fnExactLevelsFrom", apart := false }
def FnExactLevelsFromSaid : Prop := fnExactLevelsFromRow.holds Try.pinned (OpenSpec.ofChange fnExactLevelsFromSpec)

/-- ITS FALSE NEIGHBOUR: 'it returns false'. Refute it at one input. -/
def fnExactLevelsFromWrong : ChangeSpec := { name := "fnExactLevelsFrom", fn := fun _ => fun
  | [d1, d2] => { results := [.lit (.bool false)], args := [d1, d2] }
  | _ => none }
def FnExactLevelsFromWrongFalsely : Prop := fnExactLevelsFromRow.holds Try.pinned (OpenSpec.ofChange fnExactLevelsFromWrong)

/-- 'laws.FnExactScaled': WHATEVER THE INPUT: true; the input reads as it did. -/
def fnExactScaledSpec : ChangeSpec := { name := "fnExactScaled", fn := fun _ => fun
  | [d1, d2] => { results := [.lit (.bool true)], args := [d1, d2] }
  | _ => none }
def fnExactScaledRow : OpenClaim := { program := "ytcjodaoeoifbcaa", sum := "485beb1befa4f8848bd9432bb34c4a7e318f3668af17989b33aa74c17f74ae68", func := "loop.example/g01613/laws.FnExactScaled", spec := "fnExactScaled", apart := false }
def FnExactScaledSaid : Prop := fnExactScaledRow.holds Try.pinned (OpenSpec.ofChange fnExactScaledSpec)

/-- ITS FALSE NEIGHBOUR: 'it returns false'. Refute it at one input. -/
def fnExactScaledWrong : ChangeSpec := { name := "fnExactScaled", fn := fun _ => fun
  | [d1, d2] => { results := [.lit (.bool false)], args := [d1, d2] }
  | _ => none }
def FnExactScaledWrongFalsely : Prop := fnExactScaledRow.holds Try.pinned (OpenSpec.ofChange fnExactScaledWrong)

/-- 'laws.FnExactPairsOf': WHATEVER THE INPUT: true; the input reads as it did. -/
def fnExactPairsOfSpec : ChangeSpec := { name := "fnExactPairsOf", fn := fun _ => fun
  | [d] => { results := [.lit (.bool true)], args := [d] }
  | _ => none }
def fnExactPairsOfRow : OpenClaim := { program := "ytcjodaoeoifbcaa", sum := "485beb1befa4f8848bd9432bb34c4a7e318f3668af17989b33aa74c17f74ae68", func := "loop.example/g01613/laws.FnExactPairsOf", spec := "fnExactPairsOf", apart := false }
def FnExactPairsOfSaid : Prop := fnExactPairsOfRow.holds Try.pinned (OpenSpec.ofChange fnExactPairsOfSpec)

/-- ITS FALSE NEIGHBOUR: 'it returns false'. Refute it at one input. -/
def fnExactPairsOfWrong : ChangeSpec := { name := "fnExactPairsOf", fn := fun _ => fun
  | [d] => { results := [.lit (.bool false)], args := [d] }
  | _ => none }
def FnExactPairsOfWrongFalsely : Prop := fnExactPairsOfRow.holds Try.pinned (OpenSpec.ofChange fnExactPairsOfWrong)

/-- 'laws.FnScans': WHATEVER THE INPUT: true; the input reads as it did. -/
def fnScansSpec : ChangeSpec := { name := "fnScans", fn := fun _ => fun
  | [d] => { results := [.lit (.bool true)], args := [d] }
  | _ => none }
def fnScansRow : OpenClaim := { program := "ytcjodaoeoifbcaa", sum := "485beb1befa4f8848bd9432bb34c4a7e318f3668af17989b33aa74c17f74ae68", func := "loop.example/g01613/laws.FnScans", spec := "fnScans", apart := false }
def FnScansSaid : Prop := fnScansRow.holds Try.pinned (OpenSpec.ofChange fnScansSpec)

/-- ITS FALSE NEIGHBOUR: 'it returns false'. Refute it at one input. -/
def fnScansWrong : ChangeSpec := { name := "fnScans", fn := fun _ => fun
  | [d] => { results := [.lit (.bool false)], args := [d] }
  | _ => none }
def FnScansWrongFalsely : Prop := fnScansRow.holds Try.pinned (OpenSpec.ofChange fnScansWrong)

/-- 'laws.FnRuns': WHATEVER THE INPUT: true; the input reads as it did. -/
def fnRunsSpec : ChangeSpec := { name := "fnRuns", fn := fun _ => fun
  | [d] => { results := [.lit (.bool true)], args := [d] }
  | _ => none }
def fnRunsRow : OpenClaim := { program := "ytcjodaoeoifbcaa", sum := "485beb1befa4f8848bd9432bb34c4a7e318f3668af17989b33aa74c17f74ae68", func := "loop.example/g01613/laws.FnRuns", spec := "fnRuns", apart := false }
def FnRunsSaid : Prop := fnRunsRow.holds Try.pinned (OpenSpec.ofChange fnRunsSpec)

/-- ITS FALSE NEIGHBOUR: 'it returns false'. Refute it at one input. -/
def fnRunsWrong : ChangeSpec := { name := "fnRuns", fn := fun _ => fun
  | [d] => { results := [.lit (.bool false)], args := [d] }
  | _ => none }
def FnRunsWrongFalsely : Prop := fnRunsRow.holds Try.pinned (OpenSpec.ofChange fnRunsWrong)

/-- 'laws.FnSteps': WHATEVER THE INPUT: true; the input reads as it did. -/
def fnStepsSpec : ChangeSpec := { name := "fnSteps", fn := fun _ => fun
  | [d] => { results := [.lit (.bool true)], args := [d] }
  | _ => none }
def fnStepsRow : OpenClaim := { program := "ytcjodaoeoifbcaa", sum := "485beb1befa4f8848bd9432bb34c4a7e318f3668af17989b33aa74c17f74ae68", func := "loop.example/g01613/laws.FnSteps", spec := "fnSteps", apart := false }
def FnStepsSaid : Prop := fnStepsRow.holds Try.pinned (OpenSpec.ofChange fnStepsSpec)

/-- ITS FALSE NEIGHBOUR: 'it returns false'. Refute it at one input. -/
def fnStepsWrong : ChangeSpec := { name := "fnSteps", fn := fun _ => fun
  | [d] => { results := [.lit (.bool false)], args := [d] }
  | _ => none }
def FnStepsWrongFalsely : Prop := fnStepsRow.holds Try.pinned (OpenSpec.ofChange fnStepsWrong)

/- THE SECOND FORM. 'bulk': how many values and letters a reading holds, each counted each time it is reached (what is shared counts as often as it is met; a slice's spare places count too). A statement '..UptoSaid' is the law's where the arguments, and the package variables that the reading takes, are together of bulk at most 1048576: NARROWER than '..Said'. Prove '..Said' where nothing that the law and all that it calls make is longer than what came in: it says more and counts as full. Else prove '..UptoSaid'. A law counts once. -/
mutual
def uptoBulk {H : Type} : DataW H → Nat
  | .lit (.string bytes) => bytes.length + 1
  | .lit _ => 1
  | .nil => 1
  | .ptr d => uptoBulk d + 1
  | .slice elems spare => uptoBulkAll elems + uptoBulkAll spare + 1
  | .agg parts => uptoBulkAll parts + 1
  | .iface _ d => uptoBulk d + 1
  | .map entries => uptoBulkEntries entries + 1
  | .held _ => 1
def uptoBulkAll {H : Type} : List (DataW H) → Nat
  | [] => 0
  | d :: r => uptoBulk d + uptoBulkAll r
def uptoBulkEntries {H : Type} : List (Lit × DataW H) → Nat
  | [] => 0
  | x :: r => uptoBulkEntry x + uptoBulkEntries r
def uptoBulkEntry {H : Type} : Lit × DataW H → Nat
  | (.string bytes, d) => bytes.length + uptoBulk d + 1
  | (_, d) => uptoBulk d + 1
 end
def uptoSmall : (H : Type) → List (DataW H) → Bool := fun _ ds => decide (uptoBulkAll ds ≤ 1048576)
def OpenSpec.upto (s : _root_.Go.ChangeSpec) : _root_.Go.OpenSpec := { _root_.Go.OpenSpec.ofChange s with cond := some uptoSmall }

/-- 'laws.FnExactLevelsOk', WHERE WHAT IT READS IS OF BULK AT MOST 1048576: true; the input reads as it did. -/
def fnExactLevelsOkUptoRow : OpenClaim := { program := "ytcjodaoeoifbcaa", sum := "485beb1befa4f8848bd9432bb34c4a7e318f3668af17989b33aa74c17f74ae68", func := "loop.example/g01613/laws.FnExactLevelsOk", spec := "fnExactLevelsOk", apart := false, narrowed := true }
def FnExactLevelsOkUptoSaid : Prop := fnExactLevelsOkUptoRow.holds Try.pinned (OpenSpec.upto fnExactLevelsOkSpec)

/-- 'laws.FnExactScanOrder', WHERE WHAT IT READS IS OF BULK AT MOST 1048576: true; the input reads as it did. -/
def fnExactScanOrderUptoRow : OpenClaim := { program := "ytcjodaoeoifbcaa", sum := "485beb1befa4f8848bd9432bb34c4a7e318f3668af17989b33aa74c17f74ae68", func := "loop.example/g01613/laws.FnExactScanOrder", spec := "fnExactScanOrder", apart := false, narrowed := true }
def FnExactScanOrderUptoSaid : Prop := fnExactScanOrderUptoRow.holds Try.pinned (OpenSpec.upto fnExactScanOrderSpec)

/-- 'laws.FnExactRounded', WHERE WHAT IT READS IS OF BULK AT MOST 1048576: true; the input reads as it did. -/
def fnExactRoundedUptoRow : OpenClaim := { program := "ytcjodaoeoifbcaa", sum := "485beb1befa4f8848bd9432bb34c4a7e318f3668af17989b33aa74c17f74ae68", func := "loop.example/g01613/laws.FnExactRounded", spec := "fnExactRounded", apart := false, narrowed := true }
def FnExactRoundedUptoSaid : Prop := fnExactRoundedUptoRow.holds Try.pinned (OpenSpec.upto fnExactRoundedSpec)

/-- 'laws.FnExactQuantized', WHERE WHAT IT READS IS OF BULK AT MOST 1048576: true; the input reads as it did. -/
def fnExactQuantizedUptoRow : OpenClaim := { program := "ytcjodaoeoifbcaa", sum := "485beb1befa4f8848bd9432bb34c4a7e318f3668af17989b33aa74c17f74ae68", func := "loop.example/g01613/laws.FnExactQuantized", spec := "fnExactQuantized", apart := false, narrowed := true }
def FnExactQuantizedUptoSaid : Prop := fnExactQuantizedUptoRow.holds Try.pinned (OpenSpec.upto fnExactQuantizedSpec)

/-- 'laws.FnExactScanned', WHERE WHAT IT READS IS OF BULK AT MOST 1048576: true; the input reads as it did. -/
def fnExactScannedUptoRow : OpenClaim := { program := "ytcjodaoeoifbcaa", sum := "485beb1befa4f8848bd9432bb34c4a7e318f3668af17989b33aa74c17f74ae68", func := "loop.example/g01613/laws.FnExactScanned", spec := "fnExactScanned", apart := false, narrowed := true }
def FnExactScannedUptoSaid : Prop := fnExactScannedUptoRow.holds Try.pinned (OpenSpec.upto fnExactScannedSpec)

/-- 'laws.FnExactPlaced', WHERE WHAT IT READS IS OF BULK AT MOST 1048576: true; the input reads as it did. -/
def fnExactPlacedUptoRow : OpenClaim := { program := "ytcjodaoeoifbcaa", sum := "485beb1befa4f8848bd9432bb34c4a7e318f3668af17989b33aa74c17f74ae68", func := "loop.example/g01613/laws.FnExactPlaced", spec := "fnExactPlaced", apart := false, narrowed := true }
def FnExactPlacedUptoSaid : Prop := fnExactPlacedUptoRow.holds Try.pinned (OpenSpec.upto fnExactPlacedSpec)

/-- 'laws.FnExactLevelsFrom', WHERE WHAT IT READS IS OF BULK AT MOST 1048576: true; the input reads as it did. -/
def fnExactLevelsFromUptoRow : OpenClaim := { program := "ytcjodaoeoifbcaa", sum := "485beb1befa4f8848bd9432bb34c4a7e318f3668af17989b33aa74c17f74ae68", func := "loop.example/g01613/laws.FnExactLevelsFrom", spec := "fnExactLevelsFrom", apart := false, narrowed := true }
def FnExactLevelsFromUptoSaid : Prop := fnExactLevelsFromUptoRow.holds Try.pinned (OpenSpec.upto fnExactLevelsFromSpec)

/-- 'laws.FnExactScaled', WHERE WHAT IT READS IS OF BULK AT MOST 1048576: true; the input reads as it did. -/
def fnExactScaledUptoRow : OpenClaim := { program := "ytcjodaoeoifbcaa", sum := "485beb1befa4f8848bd9432bb34c4a7e318f3668af17989b33aa74c17f74ae68", func := "loop.example/g01613/laws.FnExactScaled", spec := "fnExactScaled", apart := false, narrowed := true }
def FnExactScaledUptoSaid : Prop := fnExactScaledUptoRow.holds Try.pinned (OpenSpec.upto fnExactScaledSpec)

/-- 'laws.FnExactPairsOf', WHERE WHAT IT READS IS OF BULK AT MOST 1048576: true; the input reads as it did. -/
def fnExactPairsOfUptoRow : OpenClaim := { program := "ytcjodaoeoifbcaa", sum := "485beb1befa4f8848bd9432bb34c4a7e318f3668af17989b33aa74c17f74ae68", func := "loop.example/g01613/laws.FnExactPairsOf", spec := "fnExactPairsOf", apart := false, narrowed := true }
def FnExactPairsOfUptoSaid : Prop := fnExactPairsOfUptoRow.holds Try.pinned (OpenSpec.upto fnExactPairsOfSpec)

/-- 'laws.FnScans', WHERE WHAT IT READS IS OF BULK AT MOST 1048576: true; the input reads as it did. -/
def fnScansUptoRow : OpenClaim := { program := "ytcjodaoeoifbcaa", sum := "485beb1befa4f8848bd9432bb34c4a7e318f3668af17989b33aa74c17f74ae68", func := "loop.example/g01613/laws.FnScans", spec := "fnScans", apart := false, narrowed := true }
def FnScansUptoSaid : Prop := fnScansUptoRow.holds Try.pinned (OpenSpec.upto fnScansSpec)

/-- 'laws.FnRuns', WHERE WHAT IT READS IS OF BULK AT MOST 1048576: true; the input reads as it did. -/
def fnRunsUptoRow : OpenClaim := { program := "ytcjodaoeoifbcaa", sum := "485beb1befa4f8848bd9432bb34c4a7e318f3668af17989b33aa74c17f74ae68", func := "loop.example/g01613/laws.FnRuns", spec := "fnRuns", apart := false, narrowed := true }
def FnRunsUptoSaid : Prop := fnRunsUptoRow.holds Try.pinned (OpenSpec.upto fnRunsSpec)

/-- 'laws.FnSteps', WHERE WHAT IT READS IS OF BULK AT MOST 1048576: true; the input reads as it did. -/
def fnStepsUptoRow : OpenClaim := { program := "ytcjodaoeoifbcaa", sum := "485beb1befa4f8848bd9432bb34c4a7e318f3668af17989b33aa74c17f74ae68", func := "loop.example/g01613/laws.FnSteps", spec := "fnSteps", apart := false, narrowed := true }
def FnStepsUptoSaid : Prop := fnStepsUptoRow.holds Try.pinned (OpenSpec.upto fnStepsSpec)

end Rows
end Go.Proofs.Ytcjodaoeoifbcaa
