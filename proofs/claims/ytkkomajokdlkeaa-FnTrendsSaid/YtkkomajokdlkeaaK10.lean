/- Contracts: slices of integers, bools and strings copied, compared, marked and held. -/
import Derived.Test.YtkkomajokdlkeaaK5
import Derived.Test.YtkkomajokdlkeaaGen
namespace Go.Proofs.Ytkkomajokdlkeaa
set_option linter.unusedSimpArgs false
set_option linter.unusedVariables false
set_option maxRecDepth 100000
set_option maxHeartbeats 4000000
open Go.RowKit
attribute [local go_sem] run_store_float run_store_complex alloc_drewN setCell_drewN

theorem set_copyG {α : Type} (xs : List α) (z : α) (j : Nat) (hj : j < xs.length) : (xs.take j ++ List.replicate (xs.length - j) z).set j xs[j] = xs.take (j + 1) ++ List.replicate (xs.length - (j + 1)) z := by
  have h1 : (xs.take j).length = j := by rw [List.length_take]; omega
  rw [List.set_append_right _ _ (by omega), h1, Nat.sub_self, List.take_succ_eq_append_getElem hj, List.append_assoc]
  have h2 : xs.length - j = (xs.length - (j + 1)) + 1 := by omega
  rw [h2, List.replicate_succ]
  rfl
def markG {α : Type} (f : Int → α) (k : Int) (n : Nat) : List α := (List.range n).map fun (i : Nat) => f (k + (i : Int))
theorem markG_length {α : Type} (f : Int → α) (k : Int) (n : Nat) : (markG f k n).length = n := by simp [markG]
theorem markG_succ {α : Type} (f : Int → α) (k : Int) (n : Nat) : markG f k (n + 1) = markG f k n ++ [f (k + n)] := by simp [markG, List.range_succ]
theorem set_markG {α : Type} (f : Int → α) (k : Int) (cs : List α) (j : Nat) (hj : j < cs.length) : (markG f k j ++ cs.drop j).set j (f (k + j)) = markG f k (j + 1) ++ cs.drop (j + 1) := by
  rw [List.set_append_right _ _ (by rw [markG_length]; exact Nat.le_refl _), markG_length, Nat.sub_self, markG_succ, List.append_assoc]
  rw [List.drop_eq_getElem_cons hj]
  rfl
theorem markG_get {α : Type} (f : Int → α) (k : Int) (n j : Nat) (h : j < (markG f k n).length) : (markG f k n)[j] = f (k + j) := by simp [markG]

end Go.Proofs.Ytkkomajokdlkeaa
