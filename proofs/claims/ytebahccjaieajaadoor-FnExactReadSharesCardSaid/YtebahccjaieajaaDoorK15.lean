/- Contracts: marks, in memory that is followed. -/
import Derived.Test.YtebahccjaieajaaDoorK5
import Derived.Test.YtebahccjaieajaaDoorTrk
namespace Go.Proofs.YtebahccjaieajaaDoor
set_option linter.unusedSimpArgs false
set_option linter.unusedVariables false
set_option maxRecDepth 100000
set_option maxHeartbeats 4000000
open Go.RowKit

theorem Wi.undrew {lo hi n : Nat} {w w' : World} (h : Wi lo hi (w.drewN n) w') : Wi lo hi w w' := ⟨h.os, h.tape, h.output, h.size, h.block⟩

end Go.Proofs.YtebahccjaieajaaDoor
