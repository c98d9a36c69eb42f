/-
  The transforms of eight, both sides together. No condition.
-/
import Derived.Test.YtlkpkfcimbepcaaTurn
import Derived.Test.YtlkpkfcimbepcaaSpec8
namespace Go.Proofs.Ytlkpkfcimbepcaa
theorem trans8_len (zs : List Int) : (trans 8 mH zs).length ≤ 1000000000 := trans_len 8 mH zs (by omega)
end Go.Proofs.Ytlkpkfcimbepcaa
