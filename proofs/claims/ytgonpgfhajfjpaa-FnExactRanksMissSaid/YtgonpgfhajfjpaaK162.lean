/- Contracts: all costs of warped ways, by the program. -/
import Derived.Test.YtgonpgfhajfjpaaK160
import Derived.Test.YtgonpgfhajfjpaaK6
namespace Go.Proofs.Ytgonpgfhajfjpaa
set_option linter.unusedSimpArgs false
set_option linter.unusedVariables false
set_option maxRecDepth 100000
set_option maxHeartbeats 4000000
open Go.RowKit
attribute [local go_sem] run_store_float run_store_complex alloc_drewN setCell_drewN
theorem cn32_raw {r c : Nat} (h : cn .f32 r = c) (hc : (S.read c).isNaN = false) : r = c := by
  cases hr : (FloatKind.f32.format.read r).isNaN
  · rw [← h, cn_of_not hr]
  · rw [cn_of_nan hr] at h
    rw [← h] at hc
    have h2 : (S.read (qnan .f32)).isNaN = true := qnan_isNaN .f32
    rw [h2] at hc; cases hc
theorem szI_notNaN {x : Nat} (h : x < 4294967296) (hn : (S.read x).isNaN = false) : (S.read (szI x)).isNaN = false := by
  unfold szI
  rcases mx_or x (Op.negFloat .f32 x) with e | e | e
  · rw [e]; exact hn
  · rw [e]; exact negw_notNaN h hn
  · rw [e]; decide +kernel
theorem BK.grownW {w w' : World} {p : Nat} {vs : List Value} {r : Option Nat} (h : BK w p vs) (hg : w.grownBy w' r) (hr : r ≠ some p) : BK w' p vs := by
  have hb := hg.block p h.lt (fun e => hr e.symm)
  refine ⟨Nat.lt_of_lt_of_le h.lt hg.size, fun i hi => (World.cell?_of_block hb).trans (h.cells i hi), fun i => ?_⟩
  have h1 := h.fro i
  simp only [World.frozen?, hb] at h1 ⊢
  exact h1

end Go.Proofs.Ytgonpgfhajfjpaa
