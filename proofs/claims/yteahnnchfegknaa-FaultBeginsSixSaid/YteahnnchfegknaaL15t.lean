/- What the reference's packets of IPv6 are as bytes: interpreterref04.Bytes, with eight extensions. -/
import Derived.Test.YteahnnchfegknaaL15r
set_option linter.unusedVariables false
set_option linter.unusedSimpArgs false
set_option maxRecDepth 100000
set_option maxHeartbeats 0
namespace Go.Rx.L15F
open Go.Proofs Go.Rx
theorem ev23_8 {G59 : Ip6 → Option Int} (h59 : P59 G59) (a : Ip6) (e0 e1 e2 e3 e4 e5 e6 e7 : Ext1) (u : Unit) : ev23 h59 a false [e0, e1, e2, e3, e4, e5, e6, e7] u = T23 G59 a false [e0, e1, e2, e3, e4, e5, e6, e7] := by kernel_rfl
end Go.Rx.L15F
