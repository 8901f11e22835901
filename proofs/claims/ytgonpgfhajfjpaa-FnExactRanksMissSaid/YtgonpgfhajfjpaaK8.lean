/- Contracts: means of parts. -/
import Derived.Test.YtgonpgfhajfjpaaK6
import Derived.Deep.RegionLaw
import Derived.Deep.QuietTactic
import Derived.BigQuiet
namespace Go.Proofs.Ytgonpgfhajfjpaa
set_option linter.unusedSimpArgs false
set_option linter.unusedVariables false
set_option maxRecDepth 100000
set_option maxHeartbeats 4000000
open Go.RowKit
attribute [local go_sem] run_store_float run_store_complex alloc_drewN setCell_drewN

/-- The part i of p parts. -/
def partL (cs : List Nat) (p i : Nat) : List Nat := (cs.drop (i * cs.length / p)).take ((i + 1) * cs.length / p - i * cs.length / p)
def pmL (cs : List Nat) (p n : Nat) : List Nat := (List.range n).map fun (i : Nat) => meanL (partL cs p i)
theorem pmL_length (cs : List Nat) (p n : Nat) : (pmL cs p n).length = n := by simp [pmL]
theorem pmL_succ (cs : List Nat) (p n : Nat) : pmL cs p (n + 1) = pmL cs p n ++ [meanL (partL cs p n)] := by simp [pmL, List.range_succ]
def partsQ (cs : List Nat) (p : Int) : List Nat × Bool := if series cs && inB p 1 cs.length then given (pmL cs p.toNat p.toNat) else ([], false)
theorem series_len {cs : List Nat} (h : series cs = true) : 1 ≤ cs.length ∧ cs.length ≤ 96 := by
  simp only [series, Bool.and_eq_true, decide_eq_true_eq] at h
  exact h.1
theorem part_bounds {n p i : Nat} (hi : i < p) (hp : p ≤ n) (hn : n ≤ 96) : i * n / p ≤ (i + 1) * n / p ∧ (i + 1) * n / p ≤ n ∧ i * n ≤ 9216 ∧ (i + 1) * n ≤ 9216 := by
  have h1 : i * n ≤ 96 * 96 := Nat.mul_le_mul (by omega) hn
  have h2 : (i + 1) * n ≤ 96 * 96 := Nat.mul_le_mul (by omega) hn
  have h3 : (i + 1) * n ≤ p * n := Nat.mul_le_mul_right _ (by omega)
  refine ⟨Nat.div_le_div_right (Nat.mul_le_mul_right _ (by omega)), ?_, by omega, by omega⟩
  calc (i + 1) * n / p ≤ p * n / p := Nat.div_le_div_right h3
    _ = n := by rw [Nat.mul_comm]; exact Nat.mul_div_cancel _ (by omega)

theorem mul_le_cast {a b c : Nat} (h : a * b ≤ c) : (a : Int) * (b : Int) ≤ (c : Int) := by
  have h2 : ((a * b : Nat) : Int) ≤ (c : Int) := by omega
  rw [Int.natCast_mul] at h2
  exact h2
theorem mul_le_cast' {a b c : Nat} (h : (a + 1) * b ≤ c) : ((a : Int) + 1) * (b : Int) ≤ (c : Int) := by
  have h1 := mul_le_cast h
  have h2 : ((a + 1 : Nat) : Int) = (a : Int) + 1 := by omega
  rw [h2] at h1
  exact h1

theorem SL.slice2 {w : World} {v : Value} {cs : List Nat} (h : SL w v cs) : ∃ ao c, v = .slice ao cs.length c ∧ cs.length ≤ c ∧ c ≤ 9223372036854775807 := by
  obtain ⟨ao, c, xs, rfl, rfl, h3, _⟩ := h
  exact ⟨ao, c, by simp, by simpa using h3.1, h3.2⟩
theorem wrap_in {n : Int} (h1 : 0 ≤ n) (h2 : n ≤ 1000000) : IntKind.i64.wrap n = n := by rw [IntKind.wrap_i64]; omega
theorem tdiv_cast {a b : Nat} {x : Int} (h : x = (a : Int)) : x.tdiv (b : Int) = ((a / b : Nat) : Int) := by
  subst h
  rw [Int.tdiv_eq_ediv_of_nonneg (by omega)]
  exact (Int.natCast_ediv a b).symm

end Go.Proofs.Ytgonpgfhajfjpaa
