/- Contracts: texts of numbers, by the reference. -/
import Derived.Test.YtebahccjaieajaaGreatDoorK100
namespace Go.Proofs.YtebahccjaieajaaGreatDoor
set_option linter.unusedSimpArgs false
set_option linter.unusedVariables false
set_option maxRecDepth 100000
set_option maxHeartbeats 4000000
open Go.RowKit
attribute [local go_sem] run_store_float run_store_complex alloc_drewN setCell_drewN

/-- The text of the first k numbers. -/
def hxTo (cs : List Nat) : Nat → List UInt8
  | 0 => []
  | k + 1 => (if k = 0 then [] else hxTo cs k ++ [44]) ++ hex8 (cs.getD k 0)
theorem hex8_len (n : Nat) : (hex8 n).length = 8 := hexM_length 8 n
theorem hxTo_len (cs : List Nat) : ∀ k, (hxTo cs (k + 1)).length = 9 * k + 8
  | 0 => by rw [hxTo, if_pos rfl, List.nil_append, hex8_len]
  | k + 1 => by
    rw [hxTo, if_neg (by omega), List.length_append, List.length_append, hxTo_len cs k, hex8_len]
    simp only [List.length_cons, List.length_nil]
    omega
def hxAll (cs : List Nat) : List UInt8 := if cs = [] then [110, 111, 110, 101] else hxTo cs cs.length

end Go.Proofs.YtebahccjaieajaaGreatDoor
