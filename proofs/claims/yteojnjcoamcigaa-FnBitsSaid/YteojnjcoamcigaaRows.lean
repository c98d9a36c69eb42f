/-
  No cell of these rows narrows 'for every input' (looked for: loops, veiled, ifaces, maps, wideKeys, modest, calm, conditions, laid).
  DERIVED. THE GIVEN ROWS OF THIS SEAT. 12 by the template 'for every input the law returns true; each argument reads behind the call as it read before'; 0 by the template 'total and deterministic' (their statements: YteojnjcoamcigaaTotals.lean).
  GIVEN WITH THE SEED: the statements are not yours to turn. If you find one false, say at which input.
  Laid BY PROGRAM, IN A SANDBOX (cutbox-rows.mjs): the forced cells as the released guide's own fill.sh prints them over the translation 4862d8329c2c3f0e… (all of the seat's roots in one cut). By AI agents, Wed Nov 11 2026. No macro, syntax, notation, axiom, sorry.
-/
import Derived.Test.YteojnjcoamcigaaChecked
import GoSem.Claim
import GoSem.ClaimJoined
import GoSem.ClaimMapViews
import Derived.JoinedTies
import Derived.KernelRfl
namespace Go.Proofs.Yteojnjcoamcigaa
/- THE CELL 'sum', in the pinned program and in every row, IS THE sha256 OF THE DUMP (.gsa) THAT YteojnjcoamcigaaProg.lean LOADS. Nothing in Lean hashes anything: it is a label: what it is worth is what the hold of that sum in a sandbox is worth. -/
noncomputable def Try.pinned : Pinned := { name := "yteojnjcoamcigaa", sum := "4862d8329c2c3f0eb387d99feb055ca1091ded8519c28a5269919a4afe316e6a", checked := Try.checked }
namespace Rows
def none {H : Type} : Left H := { results := [], args := [] }

/-- 'laws.FnExactCodeOk': WHATEVER THE INPUT: true; the input reads as it did. -/
def fnExactCodeOkSpec : ChangeSpec := { name := "fnExactCodeOk", fn := fun _ => fun
  | [d] => { results := [.lit (.bool true)], args := [d] }
  | _ => none }
def fnExactCodeOkRow : OpenClaim := { program := "yteojnjcoamcigaa", sum := "4862d8329c2c3f0eb387d99feb055ca1091ded8519c28a5269919a4afe316e6a", func := "loop.example/g01613/laws.FnExactCodeOk", spec := "fnExactCodeOk", apart := false }
def FnExactCodeOkSaid : Prop := fnExactCodeOkRow.holds Try.pinned (OpenSpec.ofChange fnExactCodeOkSpec)

/-- ITS FALSE NEIGHBOUR: 'it returns false'. Refute it at one input. -/
def fnExactCodeOkWrong : ChangeSpec := { name := "fnExactCodeOk", fn := fun _ => fun
  | [d] => { results := [.lit (.bool false)], args := [d] }
  | _ => none }
def FnExactCodeOkWrongFalsely : Prop := fnExactCodeOkRow.holds Try.pinned (OpenSpec.ofChange fnExactCodeOkWrong)

/-- 'laws.FnExactNumOf': WHATEVER THE INPUT: true; the input reads as it did. -/
def fnExactNumOfSpec : ChangeSpec := { name := "fnExactNumOf", fn := fun _ => fun
  | [d] => { results := [.lit (.bool true)], args := [d] }
  | _ => none }
def fnExactNumOfRow : OpenClaim := { program := "yteojnjcoamcigaa", sum := "4862d8329c2c3f0eb387d99feb055ca1091ded8519c28a5269919a4afe316e6a", func := "loop.example/g01613/laws.FnExactNumOf", spec := "fnExactNumOf", apart := false }
def FnExactNumOfSaid : Prop := fnExactNumOfRow.holds Try.pinned (OpenSpec.ofChange fnExactNumOfSpec)

/-- ITS FALSE NEIGHBOUR: 'it returns false'. Refute it at one input. -/
def fnExactNumOfWrong : ChangeSpec := { name := "fnExactNumOf", fn := fun _ => fun
  | [d] => { results := [.lit (.bool false)], args := [d] }
  | _ => none }
def FnExactNumOfWrongFalsely : Prop := fnExactNumOfRow.holds Try.pinned (OpenSpec.ofChange fnExactNumOfWrong)

/-- 'laws.FnExactBitsIn': WHATEVER THE INPUT: true; the input reads as it did. -/
def fnExactBitsInSpec : ChangeSpec := { name := "fnExactBitsIn", fn := fun _ => fun
  | [d1, d2] => { results := [.lit (.bool true)], args := [d1, d2] }
  | _ => none }
def fnExactBitsInRow : OpenClaim := { program := "yteojnjcoamcigaa", sum := "4862d8329c2c3f0eb387d99feb055ca1091ded8519c28a5269919a4afe316e6a", func := "loop.example/g01613/laws.FnExactBitsIn", spec := "fnExactBitsIn", apart := false }
def FnExactBitsInSaid : Prop := fnExactBitsInRow.holds Try.pinned (OpenSpec.ofChange fnExactBitsInSpec)

/-- ITS FALSE NEIGHBOUR: 'it returns false'. Refute it at one input. -/
def fnExactBitsInWrong : ChangeSpec := { name := "fnExactBitsIn", fn := fun _ => fun
  | [d1, d2] => { results := [.lit (.bool false)], args := [d1, d2] }
  | _ => none }
def FnExactBitsInWrongFalsely : Prop := fnExactBitsInRow.holds Try.pinned (OpenSpec.ofChange fnExactBitsInWrong)

/-- 'laws.FnExactZerosAhead': WHATEVER THE INPUT: true; the input reads as it did. -/
def fnExactZerosAheadSpec : ChangeSpec := { name := "fnExactZerosAhead", fn := fun _ => fun
  | [d] => { results := [.lit (.bool true)], args := [d] }
  | _ => none }
def fnExactZerosAheadRow : OpenClaim := { program := "yteojnjcoamcigaa", sum := "4862d8329c2c3f0eb387d99feb055ca1091ded8519c28a5269919a4afe316e6a", func := "loop.example/g01613/laws.FnExactZerosAhead", spec := "fnExactZerosAhead", apart := false }
def FnExactZerosAheadSaid : Prop := fnExactZerosAheadRow.holds Try.pinned (OpenSpec.ofChange fnExactZerosAheadSpec)

/-- ITS FALSE NEIGHBOUR: 'it returns false'. Refute it at one input. -/
def fnExactZerosAheadWrong : ChangeSpec := { name := "fnExactZerosAhead", fn := fun _ => fun
  | [d] => { results := [.lit (.bool false)], args := [d] }
  | _ => none }
def FnExactZerosAheadWrongFalsely : Prop := fnExactZerosAheadRow.holds Try.pinned (OpenSpec.ofChange fnExactZerosAheadWrong)

/-- 'laws.FnExactBitsOf': WHATEVER THE INPUT: true; the input reads as it did. -/
def fnExactBitsOfSpec : ChangeSpec := { name := "fnExactBitsOf", fn := fun _ => fun
  | [d] => { results := [.lit (.bool true)], args := [d] }
  | _ => none }
def fnExactBitsOfRow : OpenClaim := { program := "yteojnjcoamcigaa", sum := "4862d8329c2c3f0eb387d99feb055ca1091ded8519c28a5269919a4afe316e6a", func := "loop.example/g01613/laws.FnExactBitsOf", spec := "fnExactBitsOf", apart := false }
def FnExactBitsOfSaid : Prop := fnExactBitsOfRow.holds Try.pinned (OpenSpec.ofChange fnExactBitsOfSpec)

/-- ITS FALSE NEIGHBOUR: 'it returns false'. Refute it at one input. -/
def fnExactBitsOfWrong : ChangeSpec := { name := "fnExactBitsOf", fn := fun _ => fun
  | [d] => { results := [.lit (.bool false)], args := [d] }
  | _ => none }
def FnExactBitsOfWrongFalsely : Prop := fnExactBitsOfRow.holds Try.pinned (OpenSpec.ofChange fnExactBitsOfWrong)

/-- 'laws.FnExactBytesOf': WHATEVER THE INPUT: true; the input reads as it did. -/
def fnExactBytesOfSpec : ChangeSpec := { name := "fnExactBytesOf", fn := fun _ => fun
  | [d] => { results := [.lit (.bool true)], args := [d] }
  | _ => none }
def fnExactBytesOfRow : OpenClaim := { program := "yteojnjcoamcigaa", sum := "4862d8329c2c3f0eb387d99feb055ca1091ded8519c28a5269919a4afe316e6a", func := "loop.example/g01613/laws.FnExactBytesOf", spec := "fnExactBytesOf", apart := false }
def FnExactBytesOfSaid : Prop := fnExactBytesOfRow.holds Try.pinned (OpenSpec.ofChange fnExactBytesOfSpec)

/-- ITS FALSE NEIGHBOUR: 'it returns false'. Refute it at one input. -/
def fnExactBytesOfWrong : ChangeSpec := { name := "fnExactBytesOf", fn := fun _ => fun
  | [d] => { results := [.lit (.bool false)], args := [d] }
  | _ => none }
def FnExactBytesOfWrongFalsely : Prop := fnExactBytesOfRow.holds Try.pinned (OpenSpec.ofChange fnExactBytesOfWrong)

/-- 'laws.FnExactPutBits': WHATEVER THE INPUT: true; the input reads as it did. -/
def fnExactPutBitsSpec : ChangeSpec := { name := "fnExactPutBits", fn := fun _ => fun
  | [d1, d2, d3] => { results := [.lit (.bool true)], args := [d1, d2, d3] }
  | _ => none }
def fnExactPutBitsRow : OpenClaim := { program := "yteojnjcoamcigaa", sum := "4862d8329c2c3f0eb387d99feb055ca1091ded8519c28a5269919a4afe316e6a", func := "loop.example/g01613/laws.FnExactPutBits", spec := "fnExactPutBits", apart := false }
def FnExactPutBitsSaid : Prop := fnExactPutBitsRow.holds Try.pinned (OpenSpec.ofChange fnExactPutBitsSpec)

/-- ITS FALSE NEIGHBOUR: 'it returns false'. Refute it at one input. -/
def fnExactPutBitsWrong : ChangeSpec := { name := "fnExactPutBits", fn := fun _ => fun
  | [d1, d2, d3] => { results := [.lit (.bool false)], args := [d1, d2, d3] }
  | _ => none }
def FnExactPutBitsWrongFalsely : Prop := fnExactPutBitsRow.holds Try.pinned (OpenSpec.ofChange fnExactPutBitsWrong)

/-- 'laws.FnExactStopped': WHATEVER THE INPUT: true; the input reads as it did. -/
def fnExactStoppedSpec : ChangeSpec := { name := "fnExactStopped", fn := fun _ => fun
  | [d] => { results := [.lit (.bool true)], args := [d] }
  | _ => none }
def fnExactStoppedRow : OpenClaim := { program := "yteojnjcoamcigaa", sum := "4862d8329c2c3f0eb387d99feb055ca1091ded8519c28a5269919a4afe316e6a", func := "loop.example/g01613/laws.FnExactStopped", spec := "fnExactStopped", apart := false }
def FnExactStoppedSaid : Prop := fnExactStoppedRow.holds Try.pinned (OpenSpec.ofChange fnExactStoppedSpec)

/-- ITS FALSE NEIGHBOUR: 'it returns false'. Refute it at one input. -/
def fnExactStoppedWrong : ChangeSpec := { name := "fnExactStopped", fn := fun _ => fun
  | [d] => { results := [.lit (.bool false)], args := [d] }
  | _ => none }
def FnExactStoppedWrongFalsely : Prop := fnExactStoppedRow.holds Try.pinned (OpenSpec.ofChange fnExactStoppedWrong)

/-- 'laws.FnExactCodesOf': WHATEVER THE INPUT: true; the input reads as it did. -/
def fnExactCodesOfSpec : ChangeSpec := { name := "fnExactCodesOf", fn := fun _ => fun
  | [d] => { results := [.lit (.bool true)], args := [d] }
  | _ => none }
def fnExactCodesOfRow : OpenClaim := { program := "yteojnjcoamcigaa", sum := "4862d8329c2c3f0eb387d99feb055ca1091ded8519c28a5269919a4afe316e6a", func := "loop.example/g01613/laws.FnExactCodesOf", spec := "fnExactCodesOf", apart := false }
def FnExactCodesOfSaid : Prop := fnExactCodesOfRow.holds Try.pinned (OpenSpec.ofChange fnExactCodesOfSpec)

/-- ITS FALSE NEIGHBOUR: 'it returns false'. Refute it at one input. -/
def fnExactCodesOfWrong : ChangeSpec := { name := "fnExactCodesOf", fn := fun _ => fun
  | [d] => { results := [.lit (.bool false)], args := [d] }
  | _ => none }
def FnExactCodesOfWrongFalsely : Prop := fnExactCodesOfRow.holds Try.pinned (OpenSpec.ofChange fnExactCodesOfWrong)

/-- 'laws.FnExactUeBits': WHATEVER THE INPUT: true; the input reads as it did. -/
def fnExactUeBitsSpec : ChangeSpec := { name := "fnExactUeBits", fn := fun _ => fun
  | [d] => { results := [.lit (.bool true)], args := [d] }
  | _ => none }
def fnExactUeBitsRow : OpenClaim := { program := "yteojnjcoamcigaa", sum := "4862d8329c2c3f0eb387d99feb055ca1091ded8519c28a5269919a4afe316e6a", func := "loop.example/g01613/laws.FnExactUeBits", spec := "fnExactUeBits", apart := false }
def FnExactUeBitsSaid : Prop := fnExactUeBitsRow.holds Try.pinned (OpenSpec.ofChange fnExactUeBitsSpec)

/-- ITS FALSE NEIGHBOUR: 'it returns false'. Refute it at one input. -/
def fnExactUeBitsWrong : ChangeSpec := { name := "fnExactUeBits", fn := fun _ => fun
  | [d] => { results := [.lit (.bool false)], args := [d] }
  | _ => none }
def FnExactUeBitsWrongFalsely : Prop := fnExactUeBitsRow.holds Try.pinned (OpenSpec.ofChange fnExactUeBitsWrong)

/-- 'laws.FnExactSymBits': WHATEVER THE INPUT: true; the input reads as it did. -/
def fnExactSymBitsSpec : ChangeSpec := { name := "fnExactSymBits", fn := fun _ => fun
  | [d1, d2] => { results := [.lit (.bool true)], args := [d1, d2] }
  | _ => none }
def fnExactSymBitsRow : OpenClaim := { program := "yteojnjcoamcigaa", sum := "4862d8329c2c3f0eb387d99feb055ca1091ded8519c28a5269919a4afe316e6a", func := "loop.example/g01613/laws.FnExactSymBits", spec := "fnExactSymBits", apart := false }
def FnExactSymBitsSaid : Prop := fnExactSymBitsRow.holds Try.pinned (OpenSpec.ofChange fnExactSymBitsSpec)

/-- ITS FALSE NEIGHBOUR: 'it returns false'. Refute it at one input. -/
def fnExactSymBitsWrong : ChangeSpec := { name := "fnExactSymBits", fn := fun _ => fun
  | [d1, d2] => { results := [.lit (.bool false)], args := [d1, d2] }
  | _ => none }
def FnExactSymBitsWrongFalsely : Prop := fnExactSymBitsRow.holds Try.pinned (OpenSpec.ofChange fnExactSymBitsWrong)

/-- 'laws.FnBits': WHATEVER THE INPUT: true; the input reads as it did. -/
def fnBitsSpec : ChangeSpec := { name := "fnBits", fn := fun _ => fun
  | [d] => { results := [.lit (.bool true)], args := [d] }
  | _ => none }
def fnBitsRow : OpenClaim := { program := "yteojnjcoamcigaa", sum := "4862d8329c2c3f0eb387d99feb055ca1091ded8519c28a5269919a4afe316e6a", func := "loop.example/g01613/laws.FnBits", spec := "fnBits", apart := false }
def FnBitsSaid : Prop := fnBitsRow.holds Try.pinned (OpenSpec.ofChange fnBitsSpec)

/-- ITS FALSE NEIGHBOUR: 'it returns false'. Refute it at one input. -/
def fnBitsWrong : ChangeSpec := { name := "fnBits", fn := fun _ => fun
  | [d] => { results := [.lit (.bool false)], args := [d] }
  | _ => none }
def FnBitsWrongFalsely : Prop := fnBitsRow.holds Try.pinned (OpenSpec.ofChange fnBitsWrong)

/- THE SECOND FORM. 'bulk': how many values and letters a reading holds, each counted each time it is reached (what is shared counts as often as it is met; a slice's spare places count too). A statement '..UptoSaid' is the law's where the arguments, and the package variables that the reading takes, are together of bulk at most 1048576: NARROWER than '..Said'. Prove '..Said' where nothing that the law and all that it calls make is longer than what came in: it says more and counts as full. Else prove '..UptoSaid'. A law counts once. -/
mutual
def uptoBulk {H : Type} : DataW H → Nat
  | .lit (.string bytes) => bytes.length + 1
  | .lit _ => 1
  | .nil => 1
  | .ptr d => uptoBulk d + 1
  | .slice elems spare => uptoBulkAll elems + uptoBulkAll spare + 1
  | .agg parts => uptoBulkAll parts + 1
  | .iface _ d => uptoBulk d + 1
  | .map entries => uptoBulkEntries entries + 1
  | .held _ => 1
def uptoBulkAll {H : Type} : List (DataW H) → Nat
  | [] => 0
  | d :: r => uptoBulk d + uptoBulkAll r
def uptoBulkEntries {H : Type} : List (Lit × DataW H) → Nat
  | [] => 0
  | x :: r => uptoBulkEntry x + uptoBulkEntries r
def uptoBulkEntry {H : Type} : Lit × DataW H → Nat
  | (.string bytes, d) => bytes.length + uptoBulk d + 1
  | (_, d) => uptoBulk d + 1
 end
def uptoSmall : (H : Type) → List (DataW H) → Bool := fun _ ds => decide (uptoBulkAll ds ≤ 1048576)
def OpenSpec.upto (s : _root_.Go.ChangeSpec) : _root_.Go.OpenSpec := { _root_.Go.OpenSpec.ofChange s with cond := some uptoSmall }

/-- 'laws.FnExactCodeOk', WHERE WHAT IT READS IS OF BULK AT MOST 1048576: true; the input reads as it did. -/
def fnExactCodeOkUptoRow : OpenClaim := { program := "yteojnjcoamcigaa", sum := "4862d8329c2c3f0eb387d99feb055ca1091ded8519c28a5269919a4afe316e6a", func := "loop.example/g01613/laws.FnExactCodeOk", spec := "fnExactCodeOk", apart := false, narrowed := true }
def FnExactCodeOkUptoSaid : Prop := fnExactCodeOkUptoRow.holds Try.pinned (OpenSpec.upto fnExactCodeOkSpec)

/-- 'laws.FnExactNumOf', WHERE WHAT IT READS IS OF BULK AT MOST 1048576: true; the input reads as it did. -/
def fnExactNumOfUptoRow : OpenClaim := { program := "yteojnjcoamcigaa", sum := "4862d8329c2c3f0eb387d99feb055ca1091ded8519c28a5269919a4afe316e6a", func := "loop.example/g01613/laws.FnExactNumOf", spec := "fnExactNumOf", apart := false, narrowed := true }
def FnExactNumOfUptoSaid : Prop := fnExactNumOfUptoRow.holds Try.pinned (OpenSpec.upto fnExactNumOfSpec)

/-- 'laws.FnExactBitsIn', WHERE WHAT IT READS IS OF BULK AT MOST 1048576: true; the input reads as it did. -/
def fnExactBitsInUptoRow : OpenClaim := { program := "yteojnjcoamcigaa", sum := "4862d8329c2c3f0eb387d99feb055ca1091ded8519c28a5269919a4afe316e6a", func := "loop.example/g01613/laws.FnExactBitsIn", spec := "fnExactBitsIn", apart := false, narrowed := true }
def FnExactBitsInUptoSaid : Prop := fnExactBitsInUptoRow.holds Try.pinned (OpenSpec.upto fnExactBitsInSpec)

/-- 'laws.FnExactZerosAhead', WHERE WHAT IT READS IS OF BULK AT MOST 1048576: true; the input reads as it did. -/
def fnExactZerosAheadUptoRow : OpenClaim := { program := "yteojnjcoamcigaa", sum := "4862d8329c2c3f0eb387d99feb055ca1091ded8519c28a5269919a4afe316e6a", func := "loop.example/g01613/laws.FnExactZerosAhead", spec := "fnExactZerosAhead", apart := false, narrowed := true }
def FnExactZerosAheadUptoSaid : Prop := fnExactZerosAheadUptoRow.holds Try.pinned (OpenSpec.upto fnExactZerosAheadSpec)

/-- 'laws.FnExactBitsOf', WHERE WHAT IT READS IS OF BULK AT MOST 1048576: true; the input reads as it did. -/
def fnExactBitsOfUptoRow : OpenClaim := { program := "yteojnjcoamcigaa", sum := "4862d8329c2c3f0eb387d99feb055ca1091ded8519c28a5269919a4afe316e6a", func := "loop.example/g01613/laws.FnExactBitsOf", spec := "fnExactBitsOf", apart := false, narrowed := true }
def FnExactBitsOfUptoSaid : Prop := fnExactBitsOfUptoRow.holds Try.pinned (OpenSpec.upto fnExactBitsOfSpec)

/-- 'laws.FnExactBytesOf', WHERE WHAT IT READS IS OF BULK AT MOST 1048576: true; the input reads as it did. -/
def fnExactBytesOfUptoRow : OpenClaim := { program := "yteojnjcoamcigaa", sum := "4862d8329c2c3f0eb387d99feb055ca1091ded8519c28a5269919a4afe316e6a", func := "loop.example/g01613/laws.FnExactBytesOf", spec := "fnExactBytesOf", apart := false, narrowed := true }
def FnExactBytesOfUptoSaid : Prop := fnExactBytesOfUptoRow.holds Try.pinned (OpenSpec.upto fnExactBytesOfSpec)

/-- 'laws.FnExactPutBits', WHERE WHAT IT READS IS OF BULK AT MOST 1048576: true; the input reads as it did. -/
def fnExactPutBitsUptoRow : OpenClaim := { program := "yteojnjcoamcigaa", sum := "4862d8329c2c3f0eb387d99feb055ca1091ded8519c28a5269919a4afe316e6a", func := "loop.example/g01613/laws.FnExactPutBits", spec := "fnExactPutBits", apart := false, narrowed := true }
def FnExactPutBitsUptoSaid : Prop := fnExactPutBitsUptoRow.holds Try.pinned (OpenSpec.upto fnExactPutBitsSpec)

/-- 'laws.FnExactStopped', WHERE WHAT IT READS IS OF BULK AT MOST 1048576: true; the input reads as it did. -/
def fnExactStoppedUptoRow : OpenClaim := { program := "yteojnjcoamcigaa", sum := "4862d8329c2c3f0eb387d99feb055ca1091ded8519c28a5269919a4afe316e6a", func := "loop.example/g01613/laws.FnExactStopped", spec := "fnExactStopped", apart := false, narrowed := true }
def FnExactStoppedUptoSaid : Prop := fnExactStoppedUptoRow.holds Try.pinned (OpenSpec.upto fnExactStoppedSpec)

/-- 'laws.FnExactCodesOf', WHERE WHAT IT READS IS OF BULK AT MOST 1048576: true; the input reads as it did. -/
def fnExactCodesOfUptoRow : OpenClaim := { program := "yteojnjcoamcigaa", sum := "4862d8329c2c3f0eb387d99feb055ca1091ded8519c28a5269919a4afe316e6a", func := "loop.example/g01613/laws.FnExactCodesOf", spec := "fnExactCodesOf", apart := false, narrowed := true }
def FnExactCodesOfUptoSaid : Prop := fnExactCodesOfUptoRow.holds Try.pinned (OpenSpec.upto fnExactCodesOfSpec)

/-- 'laws.FnExactUeBits', WHERE WHAT IT READS IS OF BULK AT MOST 1048576: true; the input reads as it did. -/
def fnExactUeBitsUptoRow : OpenClaim := { program := "yteojnjcoamcigaa", sum := "4862d8329c2c3f0eb387d99feb055ca1091ded8519c28a5269919a4afe316e6a", func := "loop.example/g01613/laws.FnExactUeBits", spec := "fnExactUeBits", apart := false, narrowed := true }
def FnExactUeBitsUptoSaid : Prop := fnExactUeBitsUptoRow.holds Try.pinned (OpenSpec.upto fnExactUeBitsSpec)

/-- 'laws.FnExactSymBits', WHERE WHAT IT READS IS OF BULK AT MOST 1048576: true; the input reads as it did. -/
def fnExactSymBitsUptoRow : OpenClaim := { program := "yteojnjcoamcigaa", sum := "4862d8329c2c3f0eb387d99feb055ca1091ded8519c28a5269919a4afe316e6a", func := "loop.example/g01613/laws.FnExactSymBits", spec := "fnExactSymBits", apart := false, narrowed := true }
def FnExactSymBitsUptoSaid : Prop := fnExactSymBitsUptoRow.holds Try.pinned (OpenSpec.upto fnExactSymBitsSpec)

/-- 'laws.FnBits', WHERE WHAT IT READS IS OF BULK AT MOST 1048576: true; the input reads as it did. -/
def fnBitsUptoRow : OpenClaim := { program := "yteojnjcoamcigaa", sum := "4862d8329c2c3f0eb387d99feb055ca1091ded8519c28a5269919a4afe316e6a", func := "loop.example/g01613/laws.FnBits", spec := "fnBits", apart := false, narrowed := true }
def FnBitsUptoSaid : Prop := fnBitsUptoRow.holds Try.pinned (OpenSpec.upto fnBitsSpec)

end Rows
end Go.Proofs.Yteojnjcoamcigaa
