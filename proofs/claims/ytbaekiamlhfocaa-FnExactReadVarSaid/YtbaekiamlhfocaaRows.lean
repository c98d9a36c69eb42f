/-
  No cell of these rows narrows 'for every input' (looked for: loops, veiled, ifaces, maps, wideKeys, modest, calm, conditions, laid).
  DERIVED. THE GIVEN ROWS OF THIS SEAT. 12 by the template 'for every input the law returns true; each argument reads behind the call as it read before'; 0 by the template 'total and deterministic' (their statements: YtbaekiamlhfocaaTotals.lean).
  GIVEN WITH THE SEED: the statements are not yours to turn. If you find one false, say at which input.
  Laid BY PROGRAM, IN A SANDBOX (cutbox-rows.mjs): the forced cells as the released guide's own fill.sh prints them over the translation dcf3a011ce2c139a… (all of the seat's roots in one cut). By AI agents, Wed Nov 11 2026. No macro, syntax, notation, axiom, sorry.
-/
import Derived.Test.YtbaekiamlhfocaaChecked
import GoSem.Claim
import GoSem.ClaimJoined
import GoSem.ClaimMapViews
import Derived.JoinedTies
import Derived.KernelRfl
namespace Go.Proofs.Ytbaekiamlhfocaa
/- THE CELL 'sum', in the pinned program and in every row, IS THE sha256 OF THE DUMP (.gsa) THAT YtbaekiamlhfocaaProg.lean LOADS. Nothing in Lean hashes anything: it is a label: what it is worth is what the hold of that sum in a sandbox is worth. -/
noncomputable def Try.pinned : Pinned := { name := "ytbaekiamlhfocaa", sum := "dcf3a011ce2c139ab1eba4722fb83d4d82fcc32871eaa4738fb2aea4d8e7eae3", checked := Try.checked }
namespace Rows
def none {H : Type} : Left H := { results := [], args := [] }

/-- 'laws.FnExactErWord': WHATEVER THE INPUT: true; the input reads as it did. -/
def fnExactErWordSpec : ChangeSpec := { name := "fnExactErWord", fn := fun _ => fun
  | [d] => { results := [.lit (.bool true)], args := [d] }
  | _ => none }
def fnExactErWordRow : OpenClaim := { program := "ytbaekiamlhfocaa", sum := "dcf3a011ce2c139ab1eba4722fb83d4d82fcc32871eaa4738fb2aea4d8e7eae3", func := "loop.example/g01613/laws.FnExactErWord", spec := "fnExactErWord", apart := false }
def FnExactErWordSaid : Prop := fnExactErWordRow.holds Try.pinned (OpenSpec.ofChange fnExactErWordSpec)

/-- ITS FALSE NEIGHBOUR: 'it returns false'. Refute it at one input. -/
def fnExactErWordWrong : ChangeSpec := { name := "fnExactErWord", fn := fun _ => fun
  | [d] => { results := [.lit (.bool false)], args := [d] }
  | _ => none }
def FnExactErWordWrongFalsely : Prop := fnExactErWordRow.holds Try.pinned (OpenSpec.ofChange fnExactErWordWrong)

/-- 'laws.FnExactCacheNew': WHATEVER THE INPUT: true; the input reads as it did. -/
def fnExactCacheNewSpec : ChangeSpec := { name := "fnExactCacheNew", fn := fun _ => fun
  | [d] => { results := [.lit (.bool true)], args := [d] }
  | _ => none }
def fnExactCacheNewRow : OpenClaim := { program := "ytbaekiamlhfocaa", sum := "dcf3a011ce2c139ab1eba4722fb83d4d82fcc32871eaa4738fb2aea4d8e7eae3", func := "loop.example/g01613/laws.FnExactCacheNew", spec := "fnExactCacheNew", apart := false }
def FnExactCacheNewSaid : Prop := fnExactCacheNewRow.holds Try.pinned (OpenSpec.ofChange fnExactCacheNewSpec)

/-- ITS FALSE NEIGHBOUR: 'it returns false'. Refute it at one input. -/
def fnExactCacheNewWrong : ChangeSpec := { name := "fnExactCacheNew", fn := fun _ => fun
  | [d] => { results := [.lit (.bool false)], args := [d] }
  | _ => none }
def FnExactCacheNewWrongFalsely : Prop := fnExactCacheNewRow.holds Try.pinned (OpenSpec.ofChange fnExactCacheNewWrong)

/-- 'laws.FnExactReaderOk': WHATEVER THE INPUT: true; the input reads as it did. -/
def fnExactReaderOkSpec : ChangeSpec := { name := "fnExactReaderOk", fn := fun _ => fun
  | [d] => { results := [.lit (.bool true)], args := [d] }
  | _ => none }
def fnExactReaderOkRow : OpenClaim := { program := "ytbaekiamlhfocaa", sum := "dcf3a011ce2c139ab1eba4722fb83d4d82fcc32871eaa4738fb2aea4d8e7eae3", func := "loop.example/g01613/laws.FnExactReaderOk", spec := "fnExactReaderOk", apart := false }
def FnExactReaderOkSaid : Prop := fnExactReaderOkRow.holds Try.pinned (OpenSpec.ofChange fnExactReaderOkSpec)

/-- ITS FALSE NEIGHBOUR: 'it returns false'. Refute it at one input. -/
def fnExactReaderOkWrong : ChangeSpec := { name := "fnExactReaderOk", fn := fun _ => fun
  | [d] => { results := [.lit (.bool false)], args := [d] }
  | _ => none }
def FnExactReaderOkWrongFalsely : Prop := fnExactReaderOkRow.holds Try.pinned (OpenSpec.ofChange fnExactReaderOkWrong)

/-- 'laws.FnExactLevelOf': WHATEVER THE INPUT: true; the input reads as it did. -/
def fnExactLevelOfSpec : ChangeSpec := { name := "fnExactLevelOf", fn := fun _ => fun
  | [d] => { results := [.lit (.bool true)], args := [d] }
  | _ => none }
def fnExactLevelOfRow : OpenClaim := { program := "ytbaekiamlhfocaa", sum := "dcf3a011ce2c139ab1eba4722fb83d4d82fcc32871eaa4738fb2aea4d8e7eae3", func := "loop.example/g01613/laws.FnExactLevelOf", spec := "fnExactLevelOf", apart := false }
def FnExactLevelOfSaid : Prop := fnExactLevelOfRow.holds Try.pinned (OpenSpec.ofChange fnExactLevelOfSpec)

/-- ITS FALSE NEIGHBOUR: 'it returns false'. Refute it at one input. -/
def fnExactLevelOfWrong : ChangeSpec := { name := "fnExactLevelOf", fn := fun _ => fun
  | [d] => { results := [.lit (.bool false)], args := [d] }
  | _ => none }
def FnExactLevelOfWrongFalsely : Prop := fnExactLevelOfRow.holds Try.pinned (OpenSpec.ofChange fnExactLevelOfWrong)

/-- 'laws.FnExactNumOfLevel': WHATEVER THE INPUT: true; the input reads as it did. -/
def fnExactNumOfLevelSpec : ChangeSpec := { name := "fnExactNumOfLevel", fn := fun _ => fun
  | [d] => { results := [.lit (.bool true)], args := [d] }
  | _ => none }
def fnExactNumOfLevelRow : OpenClaim := { program := "ytbaekiamlhfocaa", sum := "dcf3a011ce2c139ab1eba4722fb83d4d82fcc32871eaa4738fb2aea4d8e7eae3", func := "loop.example/g01613/laws.FnExactNumOfLevel", spec := "fnExactNumOfLevel", apart := false }
def FnExactNumOfLevelSaid : Prop := fnExactNumOfLevelRow.holds Try.pinned (OpenSpec.ofChange fnExactNumOfLevelSpec)

/-- ITS FALSE NEIGHBOUR: 'it returns false'. Refute it at one input. -/
def fnExactNumOfLevelWrong : ChangeSpec := { name := "fnExactNumOfLevel", fn := fun _ => fun
  | [d] => { results := [.lit (.bool false)], args := [d] }
  | _ => none }
def FnExactNumOfLevelWrongFalsely : Prop := fnExactNumOfLevelRow.holds Try.pinned (OpenSpec.ofChange fnExactNumOfLevelWrong)

/-- 'laws.FnExactReadFixed': WHATEVER THE INPUT: true; the input reads as it did. -/
def fnExactReadFixedSpec : ChangeSpec := { name := "fnExactReadFixed", fn := fun _ => fun
  | [d1, d2] => { results := [.lit (.bool true)], args := [d1, d2] }
  | _ => none }
def fnExactReadFixedRow : OpenClaim := { program := "ytbaekiamlhfocaa", sum := "dcf3a011ce2c139ab1eba4722fb83d4d82fcc32871eaa4738fb2aea4d8e7eae3", func := "loop.example/g01613/laws.FnExactReadFixed", spec := "fnExactReadFixed", apart := false }
def FnExactReadFixedSaid : Prop := fnExactReadFixedRow.holds Try.pinned (OpenSpec.ofChange fnExactReadFixedSpec)

/-- ITS FALSE NEIGHBOUR: 'it returns false'. Refute it at one input. -/
def fnExactReadFixedWrong : ChangeSpec := { name := "fnExactReadFixed", fn := fun _ => fun
  | [d1, d2] => { results := [.lit (.bool false)], args := [d1, d2] }
  | _ => none }
def FnExactReadFixedWrongFalsely : Prop := fnExactReadFixedRow.holds Try.pinned (OpenSpec.ofChange fnExactReadFixedWrong)

/-- 'laws.FnExactVar': WHATEVER THE INPUT: true; the input reads as it did. -/
def fnExactVarSpec : ChangeSpec := { name := "fnExactVar", fn := fun _ => fun
  | [d] => { results := [.lit (.bool true)], args := [d] }
  | _ => none }
def fnExactVarRow : OpenClaim := { program := "ytbaekiamlhfocaa", sum := "dcf3a011ce2c139ab1eba4722fb83d4d82fcc32871eaa4738fb2aea4d8e7eae3", func := "loop.example/g01613/laws.FnExactVar", spec := "fnExactVar", apart := false }
def FnExactVarSaid : Prop := fnExactVarRow.holds Try.pinned (OpenSpec.ofChange fnExactVarSpec)

/-- ITS FALSE NEIGHBOUR: 'it returns false'. Refute it at one input. -/
def fnExactVarWrong : ChangeSpec := { name := "fnExactVar", fn := fun _ => fun
  | [d] => { results := [.lit (.bool false)], args := [d] }
  | _ => none }
def FnExactVarWrongFalsely : Prop := fnExactVarRow.holds Try.pinned (OpenSpec.ofChange fnExactVarWrong)

/-- 'laws.FnExactFixed': WHATEVER THE INPUT: true; the input reads as it did. -/
def fnExactFixedSpec : ChangeSpec := { name := "fnExactFixed", fn := fun _ => fun
  | [d1, d2] => { results := [.lit (.bool true)], args := [d1, d2] }
  | _ => none }
def fnExactFixedRow : OpenClaim := { program := "ytbaekiamlhfocaa", sum := "dcf3a011ce2c139ab1eba4722fb83d4d82fcc32871eaa4738fb2aea4d8e7eae3", func := "loop.example/g01613/laws.FnExactFixed", spec := "fnExactFixed", apart := false }
def FnExactFixedSaid : Prop := fnExactFixedRow.holds Try.pinned (OpenSpec.ofChange fnExactFixedSpec)

/-- ITS FALSE NEIGHBOUR: 'it returns false'. Refute it at one input. -/
def fnExactFixedWrong : ChangeSpec := { name := "fnExactFixed", fn := fun _ => fun
  | [d1, d2] => { results := [.lit (.bool false)], args := [d1, d2] }
  | _ => none }
def FnExactFixedWrongFalsely : Prop := fnExactFixedRow.holds Try.pinned (OpenSpec.ofChange fnExactFixedWrong)

/-- 'laws.FnExactNormAt': WHATEVER THE INPUT: true; the input reads as it did. -/
def fnExactNormAtSpec : ChangeSpec := { name := "fnExactNormAt", fn := fun _ => fun
  | [d1, d2] => { results := [.lit (.bool true)], args := [d1, d2] }
  | _ => none }
def fnExactNormAtRow : OpenClaim := { program := "ytbaekiamlhfocaa", sum := "dcf3a011ce2c139ab1eba4722fb83d4d82fcc32871eaa4738fb2aea4d8e7eae3", func := "loop.example/g01613/laws.FnExactNormAt", spec := "fnExactNormAt", apart := false }
def FnExactNormAtSaid : Prop := fnExactNormAtRow.holds Try.pinned (OpenSpec.ofChange fnExactNormAtSpec)

/-- ITS FALSE NEIGHBOUR: 'it returns false'. Refute it at one input. -/
def fnExactNormAtWrong : ChangeSpec := { name := "fnExactNormAt", fn := fun _ => fun
  | [d1, d2] => { results := [.lit (.bool false)], args := [d1, d2] }
  | _ => none }
def FnExactNormAtWrongFalsely : Prop := fnExactNormAtRow.holds Try.pinned (OpenSpec.ofChange fnExactNormAtWrong)

/-- 'laws.FnExactLeft': WHATEVER THE INPUT: true; the input reads as it did. -/
def fnExactLeftSpec : ChangeSpec := { name := "fnExactLeft", fn := fun _ => fun
  | [d] => { results := [.lit (.bool true)], args := [d] }
  | _ => none }
def fnExactLeftRow : OpenClaim := { program := "ytbaekiamlhfocaa", sum := "dcf3a011ce2c139ab1eba4722fb83d4d82fcc32871eaa4738fb2aea4d8e7eae3", func := "loop.example/g01613/laws.FnExactLeft", spec := "fnExactLeft", apart := false }
def FnExactLeftSaid : Prop := fnExactLeftRow.holds Try.pinned (OpenSpec.ofChange fnExactLeftSpec)

/-- ITS FALSE NEIGHBOUR: 'it returns false'. Refute it at one input. -/
def fnExactLeftWrong : ChangeSpec := { name := "fnExactLeft", fn := fun _ => fun
  | [d] => { results := [.lit (.bool false)], args := [d] }
  | _ => none }
def FnExactLeftWrongFalsely : Prop := fnExactLeftRow.holds Try.pinned (OpenSpec.ofChange fnExactLeftWrong)

/-- 'laws.FnExactReadVar': WHATEVER THE INPUT: true; the input reads as it did. -/
def fnExactReadVarSpec : ChangeSpec := { name := "fnExactReadVar", fn := fun _ => fun
  | [d] => { results := [.lit (.bool true)], args := [d] }
  | _ => none }
def fnExactReadVarRow : OpenClaim := { program := "ytbaekiamlhfocaa", sum := "dcf3a011ce2c139ab1eba4722fb83d4d82fcc32871eaa4738fb2aea4d8e7eae3", func := "loop.example/g01613/laws.FnExactReadVar", spec := "fnExactReadVar", apart := false }
def FnExactReadVarSaid : Prop := fnExactReadVarRow.holds Try.pinned (OpenSpec.ofChange fnExactReadVarSpec)

/-- ITS FALSE NEIGHBOUR: 'it returns false'. Refute it at one input. -/
def fnExactReadVarWrong : ChangeSpec := { name := "fnExactReadVar", fn := fun _ => fun
  | [d] => { results := [.lit (.bool false)], args := [d] }
  | _ => none }
def FnExactReadVarWrongFalsely : Prop := fnExactReadVarRow.holds Try.pinned (OpenSpec.ofChange fnExactReadVarWrong)

/-- 'laws.FnExactUeSize': WHATEVER THE INPUT: true; the input reads as it did. -/
def fnExactUeSizeSpec : ChangeSpec := { name := "fnExactUeSize", fn := fun _ => fun
  | [d] => { results := [.lit (.bool true)], args := [d] }
  | _ => none }
def fnExactUeSizeRow : OpenClaim := { program := "ytbaekiamlhfocaa", sum := "dcf3a011ce2c139ab1eba4722fb83d4d82fcc32871eaa4738fb2aea4d8e7eae3", func := "loop.example/g01613/laws.FnExactUeSize", spec := "fnExactUeSize", apart := false }
def FnExactUeSizeSaid : Prop := fnExactUeSizeRow.holds Try.pinned (OpenSpec.ofChange fnExactUeSizeSpec)

/-- ITS FALSE NEIGHBOUR: 'it returns false'. Refute it at one input. -/
def fnExactUeSizeWrong : ChangeSpec := { name := "fnExactUeSize", fn := fun _ => fun
  | [d] => { results := [.lit (.bool false)], args := [d] }
  | _ => none }
def FnExactUeSizeWrongFalsely : Prop := fnExactUeSizeRow.holds Try.pinned (OpenSpec.ofChange fnExactUeSizeWrong)

/- THE SECOND FORM. 'bulk': how many values and letters a reading holds, each counted each time it is reached (what is shared counts as often as it is met; a slice's spare places count too). A statement '..UptoSaid' is the law's where the arguments, and the package variables that the reading takes, are together of bulk at most 1048576: NARROWER than '..Said'. Prove '..Said' where nothing that the law and all that it calls make is longer than what came in: it says more and counts as full. Else prove '..UptoSaid'. A law counts once. -/
mutual
def uptoBulk {H : Type} : DataW H → Nat
  | .lit (.string bytes) => bytes.length + 1
  | .lit _ => 1
  | .nil => 1
  | .ptr d => uptoBulk d + 1
  | .slice elems spare => uptoBulkAll elems + uptoBulkAll spare + 1
  | .agg parts => uptoBulkAll parts + 1
  | .iface _ d => uptoBulk d + 1
  | .map entries => uptoBulkEntries entries + 1
  | .held _ => 1
def uptoBulkAll {H : Type} : List (DataW H) → Nat
  | [] => 0
  | d :: r => uptoBulk d + uptoBulkAll r
def uptoBulkEntries {H : Type} : List (Lit × DataW H) → Nat
  | [] => 0
  | x :: r => uptoBulkEntry x + uptoBulkEntries r
def uptoBulkEntry {H : Type} : Lit × DataW H → Nat
  | (.string bytes, d) => bytes.length + uptoBulk d + 1
  | (_, d) => uptoBulk d + 1
 end
def uptoSmall : (H : Type) → List (DataW H) → Bool := fun _ ds => decide (uptoBulkAll ds ≤ 1048576)
def OpenSpec.upto (s : _root_.Go.ChangeSpec) : _root_.Go.OpenSpec := { _root_.Go.OpenSpec.ofChange s with cond := some uptoSmall }

/-- 'laws.FnExactErWord', WHERE WHAT IT READS IS OF BULK AT MOST 1048576: true; the input reads as it did. -/
def fnExactErWordUptoRow : OpenClaim := { program := "ytbaekiamlhfocaa", sum := "dcf3a011ce2c139ab1eba4722fb83d4d82fcc32871eaa4738fb2aea4d8e7eae3", func := "loop.example/g01613/laws.FnExactErWord", spec := "fnExactErWord", apart := false, narrowed := true }
def FnExactErWordUptoSaid : Prop := fnExactErWordUptoRow.holds Try.pinned (OpenSpec.upto fnExactErWordSpec)

/-- 'laws.FnExactCacheNew', WHERE WHAT IT READS IS OF BULK AT MOST 1048576: true; the input reads as it did. -/
def fnExactCacheNewUptoRow : OpenClaim := { program := "ytbaekiamlhfocaa", sum := "dcf3a011ce2c139ab1eba4722fb83d4d82fcc32871eaa4738fb2aea4d8e7eae3", func := "loop.example/g01613/laws.FnExactCacheNew", spec := "fnExactCacheNew", apart := false, narrowed := true }
def FnExactCacheNewUptoSaid : Prop := fnExactCacheNewUptoRow.holds Try.pinned (OpenSpec.upto fnExactCacheNewSpec)

/-- 'laws.FnExactReaderOk', WHERE WHAT IT READS IS OF BULK AT MOST 1048576: true; the input reads as it did. -/
def fnExactReaderOkUptoRow : OpenClaim := { program := "ytbaekiamlhfocaa", sum := "dcf3a011ce2c139ab1eba4722fb83d4d82fcc32871eaa4738fb2aea4d8e7eae3", func := "loop.example/g01613/laws.FnExactReaderOk", spec := "fnExactReaderOk", apart := false, narrowed := true }
def FnExactReaderOkUptoSaid : Prop := fnExactReaderOkUptoRow.holds Try.pinned (OpenSpec.upto fnExactReaderOkSpec)

/-- 'laws.FnExactLevelOf', WHERE WHAT IT READS IS OF BULK AT MOST 1048576: true; the input reads as it did. -/
def fnExactLevelOfUptoRow : OpenClaim := { program := "ytbaekiamlhfocaa", sum := "dcf3a011ce2c139ab1eba4722fb83d4d82fcc32871eaa4738fb2aea4d8e7eae3", func := "loop.example/g01613/laws.FnExactLevelOf", spec := "fnExactLevelOf", apart := false, narrowed := true }
def FnExactLevelOfUptoSaid : Prop := fnExactLevelOfUptoRow.holds Try.pinned (OpenSpec.upto fnExactLevelOfSpec)

/-- 'laws.FnExactNumOfLevel', WHERE WHAT IT READS IS OF BULK AT MOST 1048576: true; the input reads as it did. -/
def fnExactNumOfLevelUptoRow : OpenClaim := { program := "ytbaekiamlhfocaa", sum := "dcf3a011ce2c139ab1eba4722fb83d4d82fcc32871eaa4738fb2aea4d8e7eae3", func := "loop.example/g01613/laws.FnExactNumOfLevel", spec := "fnExactNumOfLevel", apart := false, narrowed := true }
def FnExactNumOfLevelUptoSaid : Prop := fnExactNumOfLevelUptoRow.holds Try.pinned (OpenSpec.upto fnExactNumOfLevelSpec)

/-- 'laws.FnExactReadFixed', WHERE WHAT IT READS IS OF BULK AT MOST 1048576: true; the input reads as it did. -/
def fnExactReadFixedUptoRow : OpenClaim := { program := "ytbaekiamlhfocaa", sum := "dcf3a011ce2c139ab1eba4722fb83d4d82fcc32871eaa4738fb2aea4d8e7eae3", func := "loop.example/g01613/laws.FnExactReadFixed", spec := "fnExactReadFixed", apart := false, narrowed := true }
def FnExactReadFixedUptoSaid : Prop := fnExactReadFixedUptoRow.holds Try.pinned (OpenSpec.upto fnExactReadFixedSpec)

/-- 'laws.FnExactVar', WHERE WHAT IT READS IS OF BULK AT MOST 1048576: true; the input reads as it did. -/
def fnExactVarUptoRow : OpenClaim := { program := "ytbaekiamlhfocaa", sum := "dcf3a011ce2c139ab1eba4722fb83d4d82fcc32871eaa4738fb2aea4d8e7eae3", func := "loop.example/g01613/laws.FnExactVar", spec := "fnExactVar", apart := false, narrowed := true }
def FnExactVarUptoSaid : Prop := fnExactVarUptoRow.holds Try.pinned (OpenSpec.upto fnExactVarSpec)

/-- 'laws.FnExactFixed', WHERE WHAT IT READS IS OF BULK AT MOST 1048576: true; the input reads as it did. -/
def fnExactFixedUptoRow : OpenClaim := { program := "ytbaekiamlhfocaa", sum := "dcf3a011ce2c139ab1eba4722fb83d4d82fcc32871eaa4738fb2aea4d8e7eae3", func := "loop.example/g01613/laws.FnExactFixed", spec := "fnExactFixed", apart := false, narrowed := true }
def FnExactFixedUptoSaid : Prop := fnExactFixedUptoRow.holds Try.pinned (OpenSpec.upto fnExactFixedSpec)

/-- 'laws.FnExactNormAt', WHERE WHAT IT READS IS OF BULK AT MOST 1048576: true; the input reads as it did. -/
def fnExactNormAtUptoRow : OpenClaim := { program := "ytbaekiamlhfocaa", sum := "dcf3a011ce2c139ab1eba4722fb83d4d82fcc32871eaa4738fb2aea4d8e7eae3", func := "loop.example/g01613/laws.FnExactNormAt", spec := "fnExactNormAt", apart := false, narrowed := true }
def FnExactNormAtUptoSaid : Prop := fnExactNormAtUptoRow.holds Try.pinned (OpenSpec.upto fnExactNormAtSpec)

/-- 'laws.FnExactLeft', WHERE WHAT IT READS IS OF BULK AT MOST 1048576: true; the input reads as it did. -/
def fnExactLeftUptoRow : OpenClaim := { program := "ytbaekiamlhfocaa", sum := "dcf3a011ce2c139ab1eba4722fb83d4d82fcc32871eaa4738fb2aea4d8e7eae3", func := "loop.example/g01613/laws.FnExactLeft", spec := "fnExactLeft", apart := false, narrowed := true }
def FnExactLeftUptoSaid : Prop := fnExactLeftUptoRow.holds Try.pinned (OpenSpec.upto fnExactLeftSpec)

/-- 'laws.FnExactReadVar', WHERE WHAT IT READS IS OF BULK AT MOST 1048576: true; the input reads as it did. -/
def fnExactReadVarUptoRow : OpenClaim := { program := "ytbaekiamlhfocaa", sum := "dcf3a011ce2c139ab1eba4722fb83d4d82fcc32871eaa4738fb2aea4d8e7eae3", func := "loop.example/g01613/laws.FnExactReadVar", spec := "fnExactReadVar", apart := false, narrowed := true }
def FnExactReadVarUptoSaid : Prop := fnExactReadVarUptoRow.holds Try.pinned (OpenSpec.upto fnExactReadVarSpec)

/-- 'laws.FnExactUeSize', WHERE WHAT IT READS IS OF BULK AT MOST 1048576: true; the input reads as it did. -/
def fnExactUeSizeUptoRow : OpenClaim := { program := "ytbaekiamlhfocaa", sum := "dcf3a011ce2c139ab1eba4722fb83d4d82fcc32871eaa4738fb2aea4d8e7eae3", func := "loop.example/g01613/laws.FnExactUeSize", spec := "fnExactUeSize", apart := false, narrowed := true }
def FnExactUeSizeUptoSaid : Prop := fnExactUeSizeUptoRow.holds Try.pinned (OpenSpec.upto fnExactUeSizeSpec)

end Rows
end Go.Proofs.Ytbaekiamlhfocaa
