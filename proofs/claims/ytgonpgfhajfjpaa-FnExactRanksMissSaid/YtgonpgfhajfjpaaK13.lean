/- Contracts: drifts. -/
import Derived.Test.YtgonpgfhajfjpaaK8
import Derived.Test.YtgonpgfhajfjpaaTrk
import Derived.Deep.QuietTactic
import Derived.BigQuiet
namespace Go.Proofs.Ytgonpgfhajfjpaa
set_option linter.unusedSimpArgs false
set_option linter.unusedVariables false
set_option maxRecDepth 100000
set_option maxHeartbeats 4000000
open Go.RowKit
attribute [local go_sem] run_store_float run_store_complex alloc_drewN setCell_drewN

theorem SB.get {w : World} {v : Value} {cs : List Nat} (h : SB w v cs) {n : Nat} (hn : cs.length = n) : ∃ ao c, v = .slice ao n c ∧ n ≤ c ∧ c ≤ 9223372036854775807 ∧ ∀ i, i < n → ∃ b off r, ao = some ⟨b, off, none⟩ ∧ b < w.heap.size ∧ w.cell? ⟨b, off + i, none⟩ = some (.float .f32 r) ∧ r < 4294967296 ∧ cn .f32 r = cs.getD i 0 := by
  obtain ⟨ao, c, xs, rfl, rfl, h3, h5, h4⟩ := h
  have hn' : xs.length = n := by simpa using hn
  subst hn'
  refine ⟨ao, c, rfl, h3.1, h3.2, fun i hi => ?_⟩
  obtain ⟨b, off, e1, e2, e3⟩ := h4 i hi
  exact ⟨b, off, xs[i], e1, e2, e3, h5 _ (List.getElem_mem hi), by simp [hi]⟩

/-- What a drift becomes with a number. -/
def dRaw (down : Bool) (cm ck s x : Nat) : Nat := if down then subF (subF (addF s cm) x) ck else subF (subF (addF s x) cm) ck
def dStep (down : Bool) (cm ck s x : Nat) : Nat := if fc .lss .f32 (dRaw down cm ck s x) 0 then 0 else dRaw down cm ck s x
def dAt (down : Bool) (cm ck : Nat) (cs : List Nat) : Nat → Nat
  | 0 => 0
  | k + 1 => dStep down cm ck (dAt down cm ck cs k) (cs.getD k 0)
def dL (down : Bool) (cm ck : Nat) (cs : List Nat) (n : Nat) : List Nat := (List.range n).map fun i => dAt down cm ck cs (i + 1)
theorem dL_length (down : Bool) (cm ck : Nat) (cs : List Nat) (n : Nat) : (dL down cm ck cs n).length = n := by simp [dL]
theorem dL_succ (down : Bool) (cm ck : Nat) (cs : List Nat) (n : Nat) : dL down cm ck cs (n + 1) = dL down cm ck cs n ++ [dAt down cm ck cs (n + 1)] := by simp [dL, List.range_succ]
def driftOk (cs : List Nat) (cm ck : Nat) : Bool := series cs && fin cm && least ck
def driftQ (down : Bool) (cs : List Nat) (cm ck : Nat) : List Nat × Bool := if driftOk cs cm ck then given (dL down cm ck cs cs.length) else ([], false)
theorem driftQ_no (down : Bool) {cs : List Nat} {cm ck : Nat} (h : driftOk cs cm ck = false) : driftQ down cs cm ck = ([], false) := by rw [driftQ, h]; rfl
theorem driftQ_yes (down : Bool) {cs : List Nat} {cm ck : Nat} (h : driftOk cs cm ck = true) : driftQ down cs cm ck = given (dL down cm ck cs cs.length) := by rw [driftQ, h]; rfl

end Go.Proofs.Ytgonpgfhajfjpaa
