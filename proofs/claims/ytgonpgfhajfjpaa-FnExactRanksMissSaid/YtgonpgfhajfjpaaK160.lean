/- Contracts: costs of warped ways, by the program. -/
import Derived.Test.YtgonpgfhajfjpaaWp
import Derived.Test.YtgonpgfhajfjpaaBk2
import Derived.Test.YtgonpgfhajfjpaaOwn
import Derived.Test.YtgonpgfhajfjpaaTrk
import Derived.Test.YtgonpgfhajfjpaaK13
import Derived.BigQuiet
namespace Go.Proofs.Ytgonpgfhajfjpaa
set_option linter.unusedSimpArgs false
set_option linter.unusedVariables false
set_option maxRecDepth 100000
set_option maxHeartbeats 4000000
open Go.RowKit
attribute [local go_sem] run_store_float run_store_complex alloc_drewN setCell_drewN
theorem run_negw {P : Program} (x : Nat) (w : World) : (Op.unary .neg (.float .f32 x)).run P w = .ok (.float .f32 (Op.negFloat .f32 x)) w := rfl

end Go.Proofs.Ytgonpgfhajfjpaa
