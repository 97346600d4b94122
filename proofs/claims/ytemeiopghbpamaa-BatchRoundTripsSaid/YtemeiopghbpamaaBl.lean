/- The decoding of the reference: lists of requests. -/
import Derived.Test.YtemeiopghbpamaaBk
set_option linter.unusedSimpArgs false
set_option linter.unusedVariables false
namespace Go.Proofs.Ytemeiopghbpamaa
open Go Ab Go.RowKit
attribute [local irreducible] awp aops aop asoft aeff aloop acall acallI acallT
attribute [local go_sem] Vl.row sRow

end Go.Proofs.Ytemeiopghbpamaa
