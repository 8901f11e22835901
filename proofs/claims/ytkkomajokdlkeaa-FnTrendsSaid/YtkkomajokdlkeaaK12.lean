/- Contracts: a walk's chances, as the program reckons them. -/
import Derived.Test.YtkkomajokdlkeaaK11
namespace Go.Proofs.Ytkkomajokdlkeaa
set_option linter.unusedSimpArgs false
set_option linter.unusedVariables false
set_option maxRecDepth 100000
set_option maxHeartbeats 4000000
open Go.RowKit
attribute [local go_sem] run_store_float run_store_complex alloc_drewN setCell_drewN

end Go.Proofs.Ytkkomajokdlkeaa
