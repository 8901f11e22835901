/- Contracts: the journal of lines, by the reference. -/
import Derived.Test.YtebahccjaieajaaGreatDoorK91
import Derived.Lib.QuietBelow
namespace Go.Proofs.YtebahccjaieajaaGreatDoor
set_option linter.unusedSimpArgs false
set_option linter.unusedVariables false
set_option maxRecDepth 100000
set_option maxHeartbeats 4000000
open Go.RowKit
attribute [local go_sem] run_store_float run_store_complex alloc_drewN setCell_drewN

def ln (ss : List ByteArray) : List (List UInt8) := ss.map (·.data.toList)
theorem ln_length (ss : List ByteArray) : (ln ss).length = ss.length := List.length_map ..
theorem ln_get {ss : List ByteArray} {k : Nat} (hk : k < ss.length) : (ln ss).getD k [] = ss[k].data.toList := by
  rw [List.getD_eq_getElem?_getD, ln, List.getElem?_map, List.getElem?_eq_getElem hk]; rfl
theorem map_ln (ls : List (List UInt8)) : ln (ls.map tx) = ls := by
  rw [ln, List.map_map, show ((fun x : ByteArray => x.data.toList) ∘ tx) = id from funext fun l => tx_data l, List.map_id]

end Go.Proofs.YtebahccjaieajaaGreatDoor
