/- Contracts: which lists of numbers are the same, by the reference. -/
import Derived.Test.YtkkomajokdlkeaaK6
import Derived.Test.YtkkomajokdlkeaaGen
import Derived.Deep.QuietTactic
import Derived.BigQuiet
namespace Go.Proofs.Ytkkomajokdlkeaa
set_option linter.unusedSimpArgs false
set_option linter.unusedVariables false
set_option maxRecDepth 100000
set_option maxHeartbeats 4000000
open Go.RowKit
attribute [local go_sem] run_store_float run_store_complex alloc_drewN setCell_drewN

theorem SB.getX {w : World} {v : Value} {cs : List Nat} (h : SB w v cs) {n : Nat} (hn : cs.length = n) : ∃ ao c, v = .slice ao n c ∧ n ≤ c ∧ c ≤ 9223372036854775807 ∧ ∀ i, i < n → ∃ b off r, ao = some ⟨b, off, none⟩ ∧ b < w.heap.size ∧ w.cell? ⟨b, off + i, none⟩ = some (.float .f32 r) ∧ r < 4294967296 ∧ cn .f32 r = cs.getD i 0 := by
  obtain ⟨ao, c, xs, rfl, rfl, h3, h5, h4⟩ := h
  have hn' : xs.length = n := by simpa using hn
  subst hn'
  refine ⟨ao, c, rfl, h3.1, h3.2, fun i hi => ?_⟩
  obtain ⟨b, off, e1, e2, e3⟩ := h4 i hi
  exact ⟨b, off, xs[i], e1, e2, e3, h5 _ (List.getElem_mem hi), by simp [hi]⟩
theorem list_same {cs ds : List Nat} (hl : cs.length = ds.length) (h : ∀ i, i < cs.length → cs.getD i 0 = ds.getD i 0) : (cs == ds) = true := by
  rw [beq_iff_eq]
  refine List.ext_getElem hl fun i h1 h2 => ?_
  have := h i h1
  simpa [h1, h2] using this
theorem list_other {cs ds : List Nat} {k : Nat} (h : cs.getD k 0 ≠ ds.getD k 0) : (cs == ds) = false := by
  cases e : cs == ds
  · rfl
  · rw [beq_iff_eq] at e; subst e; exact absurd rfl h
theorem list_longer {cs ds : List Nat} (h : cs.length ≠ ds.length) : (cs == ds) = false := by
  cases e : cs == ds
  · rfl
  · rw [beq_iff_eq] at e; subst e; exact absurd rfl h

end Go.Proofs.Ytkkomajokdlkeaa
