/- Contracts: marks, in memory that is followed. -/
import Derived.Test.YtgonpgfhajfjpaaK5
import Derived.Test.YtgonpgfhajfjpaaTrk
namespace Go.Proofs.Ytgonpgfhajfjpaa
set_option linter.unusedSimpArgs false
set_option linter.unusedVariables false
set_option maxRecDepth 100000
set_option maxHeartbeats 4000000
open Go.RowKit

theorem Wi.undrew {lo hi n : Nat} {w w' : World} (h : Wi lo hi (w.drewN n) w') : Wi lo hi w w' := ⟨h.os, h.tape, h.output, h.size, h.block⟩

theorem l_markFW (lo hi : Nat) (v : Value) (cs : List Nat) (k : Int) (w : World) (hv : FW 37 lo hi w v cs) (h0 : 0 ≤ k) (h1 : k ≤ 1000000000000) (hn : cs.length < 1099511627776) :
    Calls Try.prog 13 #[v, .int .i64 k] w fun e w' => e = .returned (.int .i64 (k + cs.length)) ∧ FW 37 lo hi w' v (markL k cs.length) ∧ Wi lo hi w w' :=
  (l_markFloat32S lo v cs k w hv.1 h0 h1 hn).mono fun _ _ ⟨he, ho, hg⟩ => ⟨he, ⟨ho, hv.2⟩, Wi.of_grown hg (fun g e => ⟨hv.1.own_ge g e, hv.2 g e⟩)⟩

end Go.Proofs.Ytgonpgfhajfjpaa
