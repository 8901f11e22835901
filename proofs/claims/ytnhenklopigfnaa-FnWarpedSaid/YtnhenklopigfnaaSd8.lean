/- What FnDrift draws beside its list: means, slacks, bars; and what a drift of such numbers is. Plain. -/
import Derived.Test.YtnhenklopigfnaaSc8
namespace Go.Proofs.Ytnhenklopigfnaa
set_option linter.unusedSimpArgs false
set_option linter.unusedVariables false
set_option maxRecDepth 100000
set_option maxHeartbeats 4000000
open Go.RowKit
/-- Eighths, halves, and quarters of halves, as the law reckons them. -/
def e8v (n : Int) : Nat := divF (cn .f32 (floatOfInt .f32 n)) (cn .f32 1090519040)
def h2v (n : Int) : Nat := divF (cn .f32 (floatOfInt .f32 n)) (cn .f32 1073741824)
def wdv (n : Int) : Nat := divF (h2v n) (cn .f32 1082130432)
theorem e8v_all : ∀ i : Fin 9, (evB (e8v (i.val : Int)) (i.val : Int) && least (e8v (i.val : Int))) = true := by decide +kernel
theorem h2v_all : ∀ i : Fin 17, (evB (h2v (i.val : Int)) (4 * (i.val : Int)) && least (h2v (i.val : Int))) = true := by decide +kernel
theorem wdv_all : ∀ i : Fin 17, (evB (wdv (i.val : Int)) (i.val : Int) && least (wdv (i.val : Int))) = true := by decide +kernel
theorem e8v_ev {n : Nat} (h : n < 9) : Ev (e8v n) n ∧ least (e8v n) = true := by
  have := e8v_all ⟨n, h⟩
  simp only [Bool.and_eq_true] at this
  exact ⟨ev_of this.1, this.2⟩
theorem h2v_ev {n : Nat} (h : n < 17) : Ev (h2v n) (4 * n) ∧ least (h2v n) = true := by
  have := h2v_all ⟨n, h⟩
  simp only [Bool.and_eq_true] at this
  exact ⟨ev_of this.1, this.2⟩
theorem wdv_ev {n : Nat} (h : n < 17) : Ev (wdv n) n ∧ least (wdv n) = true := by
  have := wdv_all ⟨n, h⟩
  simp only [Bool.and_eq_true] at this
  exact ⟨ev_of this.1, this.2⟩
/-- The opposite. -/
theorem Ev.neg {c : Nat} {x : Int} (h : Ev c x) : Ev (Op.negFloat .f32 c) (-x) := by
  obtain ⟨h1, s, k, h2, h3⟩ := h
  refine ⟨by rw [neg_val h1]; split <;> omega, !s, k, ?_, fun h0 => ?_⟩
  · rw [read_neg h1 h2, Int.natAbs_neg]
  · rw [h3 (by omega)]
    by_cases hx : x < 0
    · rw [decide_eq_true hx, decide_eq_false (by omega)]; rfl
    · rw [decide_eq_false hx, decide_eq_true (by omega)]; rfl
/-- A list of quarters by integers. -/
theorem isQ_list {L : List Nat} (h : ∀ c ∈ L, isQ c) : ∃ X : Nat → Int, (∀ i, (X i).natAbs ≤ 32) ∧ ∀ i, i < L.length → Ev (L.getD i 0) (X i) ∧ Bd (L.getD i 0) 2 := by
  have h1 : ∀ i : Nat, ∃ x : Int, x.natAbs ≤ 32 ∧ (i < L.length → Ev (L.getD i 0) x ∧ Bd (L.getD i 0) 2) := by
    intro i
    by_cases hi : i < L.length
    · have hg : L.getD i 0 = L[i] := by rw [List.getD_eq_getElem?_getD, List.getElem?_eq_getElem hi]; rfl
      obtain ⟨x, h2, h3, h4⟩ := h L[i] (List.getElem_mem hi)
      refine ⟨2 * x, by omega, fun _ => ?_⟩
      rw [hg, h4]
      exact q4_ev h2 h3
    · exact ⟨0, by decide, fun h => absurd h hi⟩
  refine ⟨fun i => (h1 i).choose, fun i => (h1 i).choose_spec.1, fun i hi => (h1 i).choose_spec.2 hi⟩
/-- A drift of such numbers is told in full. -/
theorem drift_full (down : Bool) {M K : Int} {X : Nat → Int} {cm ck : Nat} {cs : List Nat} (hX : ∀ i, (X i).natAbs ≤ 100) (hM : M.natAbs ≤ 100) (hK : K.natAbs ≤ 100) (hm : Ev cm M) (hk : Ev ck K) (hl : least ck = true) (hc : ∀ i, i < cs.length → Ev (cs.getD i 0) (X i)) (h1 : 1 ≤ cs.length) (h2 : cs.length ≤ 96) :
    driftQ down cs cm ck = (dL down cm ck cs cs.length, true) := by
  have hf : allFin cs = true := by
    unfold allFin
    rw [List.all_eq_true]
    intro c hcm
    obtain ⟨i, hi, rfl⟩ := List.getElem_of_mem hcm
    have hg : cs.getD i 0 = cs[i] := by rw [List.getD_eq_getElem?_getD, List.getElem?_eq_getElem hi]; rfl
    rw [← hg]
    exact (hc i hi).fin
  have hok : driftOk cs cm ck = true := by
    unfold driftOk series
    rw [hf, hm.fin, hl, decide_eq_true h1, decide_eq_true h2]
    rfl
  rw [driftQ_yes down hok, given]
  have hall : allFin (dL down cm ck cs cs.length) = true := by
    unfold allFin dL
    rw [List.all_eq_true]
    intro c hcm
    obtain ⟨i, hi, rfl⟩ := List.mem_map.1 hcm
    have hi := List.mem_range.1 hi
    exact (dAt_ev down hX hM hK hm hk hc (i + 1) (by omega) (by omega)).fin
  rw [hall]
  rfl

end Go.Proofs.Ytnhenklopigfnaa
