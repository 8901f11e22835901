/- Eight cells of a block are written. -/
import Derived.Test.YtkkomajokdlkeaaMem
namespace Go.Proofs.Ytkkomajokdlkeaa
set_option linter.unusedSimpArgs false
set_option linter.unusedVariables false
set_option maxRecDepth 100000
set_option maxHeartbeats 4000000
set_option linter.unusedSimpArgs false
set_option linter.unusedVariables false
open Go.RowKit
theorem bodyPost_world {P : Program} {f : Func} {post : Ending → World → Prop} {ex : Exit} {a : Act} {W : World} (h : ∀ W', W' = W → bodyPost P f post ex a W') : bodyPost P f post ex a W := h W rfl
/-- Eight cells of a block are written. -/
theorem set8 {w1 W : World} {p n : Nat} {v0 v1 v2 v3 v4 v5 v6 v7 u0 u1 u2 u3 u4 u5 u6 u7 : Value} (hW : W = ((((((((w1.setCell ⟨p, 0, none⟩ v0).setCell ⟨p, 1, none⟩ v1).setCell ⟨p, 2, none⟩ v2).setCell ⟨p, 3, none⟩ v3).setCell ⟨p, 4, none⟩ v4).setCell ⟨p, 5, none⟩ v5).setCell ⟨p, 6, none⟩ v6).setCell ⟨p, 7, none⟩ v7).drewN n) (e0 : w1.cell? ⟨p, 0, none⟩ = some u0) (e1 : w1.cell? ⟨p, 1, none⟩ = some u1) (e2 : w1.cell? ⟨p, 2, none⟩ = some u2) (e3 : w1.cell? ⟨p, 3, none⟩ = some u3) (e4 : w1.cell? ⟨p, 4, none⟩ = some u4) (e5 : w1.cell? ⟨p, 5, none⟩ = some u5) (e6 : w1.cell? ⟨p, 6, none⟩ = some u6) (e7 : w1.cell? ⟨p, 7, none⟩ = some u7) :
    W.cell? ⟨p, 0, none⟩ = some v0 ∧ W.cell? ⟨p, 1, none⟩ = some v1 ∧ W.cell? ⟨p, 2, none⟩ = some v2 ∧ W.cell? ⟨p, 3, none⟩ = some v3 ∧ W.cell? ⟨p, 4, none⟩ = some v4 ∧ W.cell? ⟨p, 5, none⟩ = some v5 ∧ W.cell? ⟨p, 6, none⟩ = some v6 ∧ W.cell? ⟨p, 7, none⟩ = some v7 := by
  subst hW
  have z : ∀ (w : World) (a : Addr), (w.drewN n).cell? a = w.cell? a := fun _ _ => rfl
  have s : ∀ (w : World) (i j : Nat) (v : Value), i ≠ j → (w.setCell ⟨p, i, none⟩ v).cell? ⟨p, j, none⟩ = w.cell? ⟨p, j, none⟩ := fun w i j v h => World.cell?_setCell_other _ _ _ _ (by simp [h])
  have t : ∀ (w : World) (i : Nat) (u v : Value), w.cell? ⟨p, i, none⟩ = some u → (w.setCell ⟨p, i, none⟩ v).cell? ⟨p, i, none⟩ = some v := fun w i u v h => World.cell?_setCell_same _ _ _ h
  refine ⟨?_, ?_, ?_, ?_, ?_, ?_, ?_, ?_⟩
  · rw [z]
    rw [s _ 7 0 _ (by omega)]
    rw [s _ 6 0 _ (by omega)]
    rw [s _ 5 0 _ (by omega)]
    rw [s _ 4 0 _ (by omega)]
    rw [s _ 3 0 _ (by omega)]
    rw [s _ 2 0 _ (by omega)]
    rw [s _ 1 0 _ (by omega)]
    refine t _ 0 u0 _ ?_
    exact e0
  · rw [z]
    rw [s _ 7 1 _ (by omega)]
    rw [s _ 6 1 _ (by omega)]
    rw [s _ 5 1 _ (by omega)]
    rw [s _ 4 1 _ (by omega)]
    rw [s _ 3 1 _ (by omega)]
    rw [s _ 2 1 _ (by omega)]
    refine t _ 1 u1 _ ?_
    rw [s _ 0 1 _ (by omega)]
    exact e1
  · rw [z]
    rw [s _ 7 2 _ (by omega)]
    rw [s _ 6 2 _ (by omega)]
    rw [s _ 5 2 _ (by omega)]
    rw [s _ 4 2 _ (by omega)]
    rw [s _ 3 2 _ (by omega)]
    refine t _ 2 u2 _ ?_
    rw [s _ 1 2 _ (by omega)]
    rw [s _ 0 2 _ (by omega)]
    exact e2
  · rw [z]
    rw [s _ 7 3 _ (by omega)]
    rw [s _ 6 3 _ (by omega)]
    rw [s _ 5 3 _ (by omega)]
    rw [s _ 4 3 _ (by omega)]
    refine t _ 3 u3 _ ?_
    rw [s _ 2 3 _ (by omega)]
    rw [s _ 1 3 _ (by omega)]
    rw [s _ 0 3 _ (by omega)]
    exact e3
  · rw [z]
    rw [s _ 7 4 _ (by omega)]
    rw [s _ 6 4 _ (by omega)]
    rw [s _ 5 4 _ (by omega)]
    refine t _ 4 u4 _ ?_
    rw [s _ 3 4 _ (by omega)]
    rw [s _ 2 4 _ (by omega)]
    rw [s _ 1 4 _ (by omega)]
    rw [s _ 0 4 _ (by omega)]
    exact e4
  · rw [z]
    rw [s _ 7 5 _ (by omega)]
    rw [s _ 6 5 _ (by omega)]
    refine t _ 5 u5 _ ?_
    rw [s _ 4 5 _ (by omega)]
    rw [s _ 3 5 _ (by omega)]
    rw [s _ 2 5 _ (by omega)]
    rw [s _ 1 5 _ (by omega)]
    rw [s _ 0 5 _ (by omega)]
    exact e5
  · rw [z]
    rw [s _ 7 6 _ (by omega)]
    refine t _ 6 u6 _ ?_
    rw [s _ 5 6 _ (by omega)]
    rw [s _ 4 6 _ (by omega)]
    rw [s _ 3 6 _ (by omega)]
    rw [s _ 2 6 _ (by omega)]
    rw [s _ 1 6 _ (by omega)]
    rw [s _ 0 6 _ (by omega)]
    exact e6
  · rw [z]
    refine t _ 7 u7 _ ?_
    rw [s _ 6 7 _ (by omega)]
    rw [s _ 5 7 _ (by omega)]
    rw [s _ 4 7 _ (by omega)]
    rw [s _ 3 7 _ (by omega)]
    rw [s _ 2 7 _ (by omega)]
    rw [s _ 1 7 _ (by omega)]
    rw [s _ 0 7 _ (by omega)]
    exact e7
/-- Eight cells of a block are written. -/
theorem set8_ {w1 W : World} {p : Nat} {v0 v1 v2 v3 v4 v5 v6 v7 u0 u1 u2 u3 u4 u5 u6 u7 : Value} (hW : W = ((((((((w1.setCell ⟨p, 0, none⟩ v0).setCell ⟨p, 1, none⟩ v1).setCell ⟨p, 2, none⟩ v2).setCell ⟨p, 3, none⟩ v3).setCell ⟨p, 4, none⟩ v4).setCell ⟨p, 5, none⟩ v5).setCell ⟨p, 6, none⟩ v6).setCell ⟨p, 7, none⟩ v7)) (e0 : w1.cell? ⟨p, 0, none⟩ = some u0) (e1 : w1.cell? ⟨p, 1, none⟩ = some u1) (e2 : w1.cell? ⟨p, 2, none⟩ = some u2) (e3 : w1.cell? ⟨p, 3, none⟩ = some u3) (e4 : w1.cell? ⟨p, 4, none⟩ = some u4) (e5 : w1.cell? ⟨p, 5, none⟩ = some u5) (e6 : w1.cell? ⟨p, 6, none⟩ = some u6) (e7 : w1.cell? ⟨p, 7, none⟩ = some u7) :
    W.cell? ⟨p, 0, none⟩ = some v0 ∧ W.cell? ⟨p, 1, none⟩ = some v1 ∧ W.cell? ⟨p, 2, none⟩ = some v2 ∧ W.cell? ⟨p, 3, none⟩ = some v3 ∧ W.cell? ⟨p, 4, none⟩ = some v4 ∧ W.cell? ⟨p, 5, none⟩ = some v5 ∧ W.cell? ⟨p, 6, none⟩ = some v6 ∧ W.cell? ⟨p, 7, none⟩ = some v7 := by
  subst hW
  have s : ∀ (w : World) (i j : Nat) (v : Value), i ≠ j → (w.setCell ⟨p, i, none⟩ v).cell? ⟨p, j, none⟩ = w.cell? ⟨p, j, none⟩ := fun w i j v h => World.cell?_setCell_other _ _ _ _ (by simp [h])
  have t : ∀ (w : World) (i : Nat) (u v : Value), w.cell? ⟨p, i, none⟩ = some u → (w.setCell ⟨p, i, none⟩ v).cell? ⟨p, i, none⟩ = some v := fun w i u v h => World.cell?_setCell_same _ _ _ h
  refine ⟨?_, ?_, ?_, ?_, ?_, ?_, ?_, ?_⟩
  · skip
    rw [s _ 7 0 _ (by omega)]
    rw [s _ 6 0 _ (by omega)]
    rw [s _ 5 0 _ (by omega)]
    rw [s _ 4 0 _ (by omega)]
    rw [s _ 3 0 _ (by omega)]
    rw [s _ 2 0 _ (by omega)]
    rw [s _ 1 0 _ (by omega)]
    refine t _ 0 u0 _ ?_
    exact e0
  · skip
    rw [s _ 7 1 _ (by omega)]
    rw [s _ 6 1 _ (by omega)]
    rw [s _ 5 1 _ (by omega)]
    rw [s _ 4 1 _ (by omega)]
    rw [s _ 3 1 _ (by omega)]
    rw [s _ 2 1 _ (by omega)]
    refine t _ 1 u1 _ ?_
    rw [s _ 0 1 _ (by omega)]
    exact e1
  · skip
    rw [s _ 7 2 _ (by omega)]
    rw [s _ 6 2 _ (by omega)]
    rw [s _ 5 2 _ (by omega)]
    rw [s _ 4 2 _ (by omega)]
    rw [s _ 3 2 _ (by omega)]
    refine t _ 2 u2 _ ?_
    rw [s _ 1 2 _ (by omega)]
    rw [s _ 0 2 _ (by omega)]
    exact e2
  · skip
    rw [s _ 7 3 _ (by omega)]
    rw [s _ 6 3 _ (by omega)]
    rw [s _ 5 3 _ (by omega)]
    rw [s _ 4 3 _ (by omega)]
    refine t _ 3 u3 _ ?_
    rw [s _ 2 3 _ (by omega)]
    rw [s _ 1 3 _ (by omega)]
    rw [s _ 0 3 _ (by omega)]
    exact e3
  · skip
    rw [s _ 7 4 _ (by omega)]
    rw [s _ 6 4 _ (by omega)]
    rw [s _ 5 4 _ (by omega)]
    refine t _ 4 u4 _ ?_
    rw [s _ 3 4 _ (by omega)]
    rw [s _ 2 4 _ (by omega)]
    rw [s _ 1 4 _ (by omega)]
    rw [s _ 0 4 _ (by omega)]
    exact e4
  · skip
    rw [s _ 7 5 _ (by omega)]
    rw [s _ 6 5 _ (by omega)]
    refine t _ 5 u5 _ ?_
    rw [s _ 4 5 _ (by omega)]
    rw [s _ 3 5 _ (by omega)]
    rw [s _ 2 5 _ (by omega)]
    rw [s _ 1 5 _ (by omega)]
    rw [s _ 0 5 _ (by omega)]
    exact e5
  · skip
    rw [s _ 7 6 _ (by omega)]
    refine t _ 6 u6 _ ?_
    rw [s _ 5 6 _ (by omega)]
    rw [s _ 4 6 _ (by omega)]
    rw [s _ 3 6 _ (by omega)]
    rw [s _ 2 6 _ (by omega)]
    rw [s _ 1 6 _ (by omega)]
    rw [s _ 0 6 _ (by omega)]
    exact e6
  · skip
    refine t _ 7 u7 _ ?_
    rw [s _ 6 7 _ (by omega)]
    rw [s _ 5 7 _ (by omega)]
    rw [s _ 4 7 _ (by omega)]
    rw [s _ 3 7 _ (by omega)]
    rw [s _ 2 7 _ (by omega)]
    rw [s _ 1 7 _ (by omega)]
    rw [s _ 0 7 _ (by omega)]
    exact e7

end Go.Proofs.Ytkkomajokdlkeaa
