/- Contracts: valid shares; shares out of the law's. -/
import Derived.Test.YtebahccjaieajaaGreatDoorK6
import Derived.Test.YtebahccjaieajaaGreatDoorBk2
import Derived.Test.YtebahccjaieajaaGreatDoorS8
import Derived.Deep.RegionHeld3
import Derived.Deep.QuietTactic
import Derived.BigQuiet
namespace Go.Proofs.YtebahccjaieajaaGreatDoor
set_option linter.unusedSimpArgs false
set_option linter.unusedVariables false
set_option maxRecDepth 100000
set_option maxHeartbeats 4000000
open Go.RowKit
attribute [local go_sem] run_store_float run_store_complex alloc_drewN setCell_drewN
def shareB (c : Nat) : Bool := fc .geq .f32 c 0 && fc .leq .f32 c (cn .f32 1065353216)
def sharesB (a b c d : Nat) : Bool := shareB a && shareB b && shareB c && shareB d

end Go.Proofs.YtebahccjaieajaaGreatDoor
