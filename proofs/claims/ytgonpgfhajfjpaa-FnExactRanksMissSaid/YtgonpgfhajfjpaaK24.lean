/- Contracts: the nearest one of a list of series, found. -/
import Derived.Test.YtgonpgfhajfjpaaK23
namespace Go.Proofs.Ytgonpgfhajfjpaa
set_option linter.unusedSimpArgs false
set_option linter.unusedVariables false
set_option maxRecDepth 100000
set_option maxHeartbeats 4000000
open Go.RowKit
attribute [local go_sem] run_store_float run_store_complex alloc_drewN setCell_drewN

theorem farQ_two {a b : List Nat} (h : twoOk a b = true) : farQ a b = numB (farL a b) := farQ_yes h
theorem rows_two {css : List (List Nat)} {x : List Nat} (h : listOk css = true) (hx : twoOk x (headL css) = true) {k : Nat} (hk : k < css.length) : twoOk (rowL css k) x = true := by
  have h1 := two_iff.1 (listOk_two h hk)
  have h2 := two_iff.1 hx
  exact two_iff.2 ⟨h1.1, h2.1, by rw [h1.2.2, h2.2.2]⟩
theorem numB_no {x : Nat} (h : fin x = false) : numB x = (0, false) := by rw [numB, h]; rfl
theorem numB_yes {x : Nat} (h : fin x = true) : numB x = (x, true) := by rw [numB, h]; rfl
theorem nsAt_first (css : List (List Nat)) (x : List Nat) : nsAt css x 1 = (0, farL (rowL css 0) x) := rfl
theorem nsAt_zero {css : List (List Nat)} {x : List Nat} {k : Nat} (hk : k = 0) : nsAt css x (k + 1) = ((k : Int), farL (rowL css k) x) := by subst hk; rfl
theorem nsAt_less {css : List (List Nat)} {x : List Nat} {k : Nat} (hk : k ≠ 0) (h : fc .lss .f32 (farL (rowL css k) x) (nsAt css x k).2 = true) : nsAt css x (k + 1) = ((k : Int), farL (rowL css k) x) := by
  rw [nsAt, if_neg hk, if_pos h]
theorem nsAt_not {css : List (List Nat)} {x : List Nat} {k : Nat} (hk : k ≠ 0) (h : fc .lss .f32 (farL (rowL css k) x) (nsAt css x k).2 = false) : nsAt css x (k + 1) = nsAt css x k := by
  rw [nsAt, if_neg hk, if_neg (by simp [h])]
theorem nsFin_snoc {css : List (List Nat)} {x : List Nat} {k : Nat} (h : nsFin css x k = true) (h2 : fin (farL (rowL css k) x) = true) : nsFin css x (k + 1) = true := by
  show (_ && _) = true; rw [h, h2]; rfl

end Go.Proofs.Ytgonpgfhajfjpaa
