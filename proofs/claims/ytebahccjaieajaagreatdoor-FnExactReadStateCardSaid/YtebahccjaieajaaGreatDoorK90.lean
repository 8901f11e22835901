/- Contracts: slices of strings: their sizes, copies, comparison. -/
import Derived.Test.YtebahccjaieajaaGreatDoorTx
import Derived.Test.YtebahccjaieajaaGreatDoorOpen2
import Derived.Test.YtebahccjaieajaaGreatDoorK10
namespace Go.Proofs.YtebahccjaieajaaGreatDoor
set_option linter.unusedSimpArgs false
set_option linter.unusedVariables false
set_option maxRecDepth 100000
set_option maxHeartbeats 4000000
open Go.RowKit
attribute [local go_sem] run_store_float run_store_complex alloc_drewN setCell_drewN

def allStr (ss : List ByteArray) : Prop := ∀ s ∈ ss, s.size ≤ 9223372036854775807
section
variable {P : Program} {w : World} {base : Nat} {spare : Nat → Bool} {held : Bool} {H : Type} {enc : TypeId × Value → H}
theorem open_strs {fuel : Nat} {t e : TypeId} {v : Value} {x : DataW H × List MemPlace} (ht : P.underlying t = some (.slice e)) (he : P.underlying e = some .string) (hc : P.cellsOf e = 1)
    (h : DataW.trod enc P w base spare held fuel t [v] = some x) : ∃ ss, GL Value.string w v ss ∧ allStr ss := by
  obtain ⟨vs, n, h1, h2⟩ := open_gs ht hc h
  obtain ⟨xs, rfl, h3⟩ := unmap (inj := Value.string) (p := fun s => s.size ≤ 9223372036854775807) vs (fun u hu => by
    obtain ⟨y, hy⟩ := h2 u hu
    obtain ⟨b, hb, hw⟩ := DataW.trod_string he hy
    simp only [List.cons.injEq, and_true] at hb
    exact ⟨b, hb, hw.2⟩)
  exact ⟨xs, gl_map h1, h3⟩
end
/-- The lengths of the first k, and the number of all. -/
def szTo (ss : List ByteArray) : Nat → Nat
  | 0 => ss.length
  | k + 1 => szTo ss k + (ss.getD k ⟨#[]⟩).size
theorem szTo_mono (ss : List ByteArray) {i j : Nat} (h : i ≤ j) : szTo ss i ≤ szTo ss j := by
  induction h with
  | refl => exact Nat.le_refl _
  | step _ ih => rw [szTo]; omega
def szSQ (ss : List ByteArray) (left : Int) : Int := if (szTo ss ss.length : Int) ≤ left then left - szTo ss ss.length else -1

end Go.Proofs.YtebahccjaieajaaGreatDoor
