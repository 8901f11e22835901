/- Contracts: costs, least costs and ways, by the program. -/
import Derived.Test.YtgonpgfhajfjpaaK163
import Derived.Test.YtgonpgfhajfjpaaGen
import Derived.Test.YtgonpgfhajfjpaaK4
import Derived.Test.YtgonpgfhajfjpaaK19
import Derived.Test.YtgonpgfhajfjpaaBk2
namespace Go.Proofs.Ytgonpgfhajfjpaa
set_option linter.unusedSimpArgs false
set_option linter.unusedVariables false
set_option maxRecDepth 100000
set_option maxHeartbeats 4000000
open Go.RowKit
attribute [local go_sem] run_store_float run_store_complex alloc_drewN setCell_drewN
/-- A list turned round from both ends, so far. -/
def revL (xs : List Int) (k : Nat) : List Int := (List.range xs.length).map fun i => if i < k ∨ xs.length - k ≤ i then xs.getD (xs.length - 1 - i) 0 else xs.getD i 0
theorem revL_length (xs : List Int) (k : Nat) : (revL xs k).length = xs.length := by simp [revL]
theorem revL_get (xs : List Int) (k i : Nat) (h : i < xs.length) : (revL xs k).getD i 0 = if i < k ∨ xs.length - k ≤ i then xs.getD (xs.length - 1 - i) 0 else xs.getD i 0 := by
  simp [revL, List.getD_eq_getElem?_getD, List.getElem?_map, List.getElem?_range h]
theorem list_ext_getD {a b : List Int} (hl : a.length = b.length) (h : ∀ i, i < a.length → a.getD i 0 = b.getD i 0) : a = b := by
  refine List.ext_getElem hl fun i h1 h2 => ?_
  have := h i h1
  rw [List.getD_eq_getElem?_getD, List.getD_eq_getElem?_getD, List.getElem?_eq_getElem h1, List.getElem?_eq_getElem h2] at this
  exact this
theorem revL_zero (xs : List Int) : revL xs 0 = xs := by
  refine list_ext_getD (revL_length _ _) fun i hi => ?_
  rw [revL_length] at hi
  rw [revL_get _ _ _ hi, if_neg (by omega)]
theorem getD_setI (l : List Int) (k i : Nat) (x : Int) (hk : k < l.length) : (l.set k x).getD i 0 = if i = k then x else l.getD i 0 := by
  rw [List.getD_eq_getElem?_getD, List.getElem?_set, List.getD_eq_getElem?_getD]
  by_cases h : k = i
  · subst h; simp [hk]
  · rw [if_neg h, if_neg (fun e => h e.symm)]
theorem revL_step (xs : List Int) (k j : Nat) (hj : j + k + 1 = xs.length) (hk : k < j) : ((revL xs k).set k (xs.getD j 0)).set j (xs.getD k 0) = revL xs (k + 1) := by
  refine list_ext_getD (by simp [revL_length]) fun i hi => ?_
  have hi' : i < xs.length := by simpa [revL_length] using hi
  rw [getD_setI _ _ _ _ (by rw [List.length_set, revL_length]; omega), getD_setI _ _ _ _ (by rw [revL_length]; omega), revL_get _ _ _ hi', revL_get _ _ _ hi']
  by_cases h1 : i = j
  · rw [if_pos h1, if_pos (by omega), h1, show xs.length - 1 - j = k by omega]
  · rw [if_neg h1]
    by_cases h2 : i = k
    · rw [if_pos h2, if_pos (by omega), h2, show xs.length - 1 - k = j by omega]
    · rw [if_neg h2]
      by_cases h3 : i < k ∨ xs.length - k ≤ i
      · rw [if_pos h3, if_pos (by omega)]
      · rw [if_neg h3, if_neg (by omega)]
theorem revL_end (xs : List Int) (k : Nat) (h : xs.length ≤ 2 * k + 1) : revL xs k = xs.reverse := by
  refine list_ext_getD (by simp [revL_length]) fun i hi => ?_
  have hi' : i < xs.length := by simpa [revL_length] using hi
  have hr : xs.reverse.getD i 0 = xs.getD (xs.length - 1 - i) 0 := by
    rw [List.getD_eq_getElem?_getD, List.getElem?_reverse hi', List.getD_eq_getElem?_getD]
  rw [revL_get _ _ _ hi', hr]
  split
  · rfl
  · rw [show xs.length - 1 - i = i by omega]
theorem grown_transW {w w1 w2 : World} {r : Option Nat} (h : w.grownBy w1 r) (h' : w1.grownBy w2 r) : w.grownBy w2 r :=
  grown_trans h h'

end Go.Proofs.Ytgonpgfhajfjpaa
