/- Contracts: centers of groups, by the reference. -/
import Derived.Test.YtgonpgfhajfjpaaK48
namespace Go.Proofs.Ytgonpgfhajfjpaa
set_option linter.unusedSimpArgs false
set_option linter.unusedVariables false
set_option maxRecDepth 100000
set_option maxHeartbeats 4000000
set_option linter.unusedSimpArgs false
set_option linter.unusedVariables false
open Go.RowKit
attribute [local go_sem] run_store_float run_store_complex alloc_drewN setCell_drewN

/-- What is left to do, as the reference asks it: the centers are finite. -/
theorem cenQ_no {css : List (List Nat)} {L r : Nat} {cts : List (List Nat)} (h : gOk css cts = false) : cenQ css L r cts = noC := by
  cases r <;> (rw [cenQ, h]; rfl)
theorem cenQ_end {css : List (List Nat)} {L : Nat} {cts : List (List Nat)} (h : gOk css cts = true) : cenQ css L 0 cts = (cts, grp css cts, true) := by rw [cenQ, h]; rfl
theorem cenQ_bad {css : List (List Nat)} {L r c : Nat} {cts : List (List Nat)} (h : gOk css cts = true) (hc : c < cts.length) (hf : allFin (cenN css (grp css cts) L (rowL cts c) c) = false) : cenQ css L (r + 1) cts = noC := by
  have : (newC css cts (grp css cts) L).all allFin = false := by
    cases e : (newC css cts (grp css cts) L).all allFin
    · rfl
    · have h1 := all_rows.1 e c (by rw [newC_length]; exact hc)
      rw [newC_row hc, hf] at h1; cases h1
  rw [cenQ, h, this]; rfl
theorem cenQ_next {css : List (List Nat)} {L r : Nat} {cts : List (List Nat)} (h : gOk css cts = true) (hf : ∀ c, c < cts.length → allFin (cenN css (grp css cts) L (rowL cts c) c) = true) : cenQ css L (r + 1) cts = cenQ css L r (newC css cts (grp css cts) L) := by
  have : (newC css cts (grp css cts) L).all allFin = true := all_rows.2 fun c hc => by rw [newC_length] at hc; rw [newC_row hc]; exact hf c hc
  rw [cenQ, h, this]; rfl
theorem ceQ_cen {css : List (List Nat)} {C R : Nat} (h : listOk css = true) (h1 : 1 ≤ C) (hC : C ≤ css.length) (hR : R ≤ 32) : ceQ css (C : Int) (R : Int) = cenQ css (headL css).length R (css.take C) := by
  rw [ceQ_yes h h1 hC hR, cenP, take_ok h h1 hC]; rfl
theorem grp_app {css cts : List (List Nat)} {k : Nat} (hk : k < css.length) : (grp css cts).take (k + 1) = (grp css cts).take k ++ [(nearL cts (rowL css k)).1] := grp_take hk

end Go.Proofs.Ytgonpgfhajfjpaa
