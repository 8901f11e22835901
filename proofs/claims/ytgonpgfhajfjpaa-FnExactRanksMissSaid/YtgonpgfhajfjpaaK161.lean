/- Contracts: sizes and the best of three places, by the reference. Written by mk161.py. -/
import Derived.Test.YtgonpgfhajfjpaaK162
namespace Go.Proofs.Ytgonpgfhajfjpaa
set_option linter.unusedSimpArgs false
set_option linter.unusedVariables false
set_option maxRecDepth 100000
set_option maxHeartbeats 4000000
open Go.RowKit
attribute [local go_sem] run_store_float run_store_complex alloc_drewN setCell_drewN
/-- The way to what is best, as the reference hands it on. -/
def wbW (o : Option (Nat × Nat)) : Int := match o with | none => -1 | some b => (b.1 : Int)
theorem order_of_lssW {x y : Nat} {b : Bool} (h : fc .lss .f32 (cn .f32 x) (cn .f32 y) = b) : (FloatKind.f32.format.order x y == some .lt) = b := by
  rw [← order_cn]
  exact h

end Go.Proofs.Ytgonpgfhajfjpaa
