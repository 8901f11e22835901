/- Contracts: series of mean 0 and spread 1. -/
import Derived.Test.YtgonpgfhajfjpaaK17
namespace Go.Proofs.Ytgonpgfhajfjpaa
set_option linter.unusedSimpArgs false
set_option linter.unusedVariables false
set_option maxRecDepth 100000
set_option maxHeartbeats 4000000
open Go.RowKit
attribute [local go_sem] run_store_float run_store_complex alloc_drewN setCell_drewN

def restL (cs : List Nat) (m : Nat) (n : Nat) : List Nat := (List.range n).map fun i => subF (cs.getD i 0) m
theorem restL_length (cs : List Nat) (m n : Nat) : (restL cs m n).length = n := by simp [restL]
theorem restL_succ (cs : List Nat) (m n : Nat) : restL cs m (n + 1) = restL cs m n ++ [subF (cs.getD n 0) m] := by simp [restL, List.range_succ]
theorem restL_get (cs : List Nat) (m : Nat) {n i : Nat} (h : i < n) : (restL cs m n).getD i 0 = subF (cs.getD i 0) m := by
  simp [restL, List.getD_eq_getElem?_getD, List.getElem?_map, List.getElem?_range h]
def normRoot (cs : List Nat) : Nat := rootF (divF (sqsL (fun i => subF (cs.getD i 0) (meanL cs)) cs.length) (fI cs.length))
def normL (cs : List Nat) (n : Nat) : List Nat := (List.range n).map fun i => divF (subF (cs.getD i 0) (meanL cs)) (normRoot cs)
theorem normL_length (cs : List Nat) (n : Nat) : (normL cs n).length = n := by simp [normL]
theorem normL_succ (cs : List Nat) (n : Nat) : normL cs (n + 1) = normL cs n ++ [divF (subF (cs.getD n 0) (meanL cs)) (normRoot cs)] := by simp [normL, List.range_succ]
/-- A series about 0, whatever is finite. -/
def rawQ (cs : List Nat) : List Nat × Bool := if above (normRoot cs) then (normL cs cs.length, allFin (normL cs cs.length)) else ([], false)
def normQ (cs : List Nat) : List Nat × Bool := if series cs && above (normRoot cs) then given (normL cs cs.length) else ([], false)
theorem normQ_short (cs : List Nat) : (normQ cs).1.length < 1000000 := by
  unfold normQ
  split
  · rename_i h
    simp only [Bool.and_eq_true] at h
    have := (series_len h.1).2
    unfold given
    dsimp only
    split
    · rw [normL_length]; omega
    · simp
  · simp
theorem dot_rest (cs : List Nat) : dotL (restL cs (meanL cs) cs.length) (restL cs (meanL cs) cs.length) cs.length = sqsL (fun i => subF (cs.getD i 0) (meanL cs)) cs.length :=
  dot_sqs cs.length (fun i hi => restL_get cs (meanL cs) hi)
theorem set_norm (cs : List Nat) {k : Nat} (hk : k < cs.length) : (normL cs k ++ (restL cs (meanL cs) cs.length).drop k).set k (divF (subF (cs.getD k 0) (meanL cs)) (normRoot cs)) = normL cs (k + 1) ++ (restL cs (meanL cs) cs.length).drop (k + 1) := by
  rw [List.set_append_right _ _ (by rw [normL_length]; exact Nat.le_refl _), normL_length, Nat.sub_self, normL_succ, List.append_assoc]
  rw [List.drop_eq_getElem_cons (by rw [restL_length]; exact hk)]
  rfl
theorem get_norm (cs : List Nat) {k : Nat} (hk : k < cs.length) : (normL cs k ++ (restL cs (meanL cs) cs.length).drop k).getD k 0 = subF (cs.getD k 0) (meanL cs) := by
  rw [List.getD_eq_getElem?_getD, List.getElem?_append_right (by rw [normL_length]; exact Nat.le_refl _), normL_length, Nat.sub_self, List.getElem?_drop, Nat.add_zero, ← List.getD_eq_getElem?_getD, restL_get cs _ hk]

end Go.Proofs.Ytgonpgfhajfjpaa
