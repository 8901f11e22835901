/- What profiles, motifs and discords are, in plain words. -/
import Derived.Test.YtnhenklopigfnaaK47
namespace Go.Proofs.Ytnhenklopigfnaa
set_option linter.unusedSimpArgs false
set_option linter.unusedVariables false
set_option maxRecDepth 100000
set_option maxHeartbeats 4000000
set_option linter.unusedSimpArgs false
set_option linter.unusedVariables false
open Go.RowKit

theorem fcg_key {a b : Nat} (ha : a < 4294967296) (hb : b < 4294967296) (h1 : fin a = true) (h2 : fin b = true) : fc .gtr .f32 a b = decide (fkey b < fkey a) := by
  show (S.order a b == some .gt) = _
  rw [order_key ha hb (fin_mod ha h1) (fin_mod hb h2)]
  rcases Int.lt_trichotomy (fkey a) (fkey b) with h | h | h
  · rw [cmp_lt h, decide_eq_false (by omega)]; rfl
  · rw [h, cmp_eq rfl, decide_eq_false (by omega)]; rfl
  · rw [cmp_gt h, decide_eq_true h]; rfl
/-- The first greatest one. -/
theorem mx_best {cs : List Nat} (hlt : ∀ i, i < cs.length → cs.getD i 0 < 4294967296) (hf : ∀ i, i < cs.length → fin (cs.getD i 0) = true) (k : Nat) (hk : k < cs.length) :
    bigAt .gtr cs (k + 1) ≤ k ∧ (∀ i, i < bigAt .gtr cs (k + 1) → fkey (cs.getD i 0) < fkey (cs.getD (bigAt .gtr cs (k + 1)) 0)) ∧ (∀ i, i ≤ k → fkey (cs.getD i 0) ≤ fkey (cs.getD (bigAt .gtr cs (k + 1)) 0)) := by
  induction k with
  | zero =>
    have e : bigAt .gtr cs 1 = 0 := by
      unfold bigAt
      split <;> rfl
    rw [e]
    exact ⟨Nat.le_refl _, fun i hi => by omega, fun i hi => (by
      have e0 : i = 0 := by omega
      subst e0
      exact Int.le_refl _)⟩
  | succ k ih =>
    obtain ⟨i4, i5, i6⟩ := ih (by omega)
    have hx := hlt (k + 1) hk
    have hxf := hf (k + 1) hk
    have hb := hlt (bigAt .gtr cs (k + 1)) (by omega)
    have hbf := hf (bigAt .gtr cs (k + 1)) (by omega)
    have hc := fcg_key hx hb hxf hbf
    by_cases hl : fkey (cs.getD (bigAt .gtr cs (k + 1)) 0) < fkey (cs.getD (k + 1) 0)
    · rw [decide_eq_true hl] at hc
      rw [bigAt_take hc]
      refine ⟨Nat.le_refl _, fun i hi => ?_, fun i hi => ?_⟩
      · exact Int.lt_of_le_of_lt (i6 i (by omega)) hl
      · rcases Nat.lt_or_ge i (k + 1) with h | h
        · exact Int.le_of_lt (Int.lt_of_le_of_lt (i6 i (by omega)) hl)
        · obtain rfl : i = k + 1 := by omega
          exact Int.le_refl _
    · rw [decide_eq_false hl] at hc
      rw [bigAt_leave hc]
      refine ⟨by omega, i5, fun i hi => ?_⟩
      rcases Nat.lt_or_ge i (k + 1) with h | h
      · exact i6 i (by omega)
      · obtain rfl : i = k + 1 := by omega
        exact Int.not_lt.1 hl
/-- The other part does not overlap. -/
theorem pfNear_apart (ps : List (List Nat)) (L i k : Nat) : (pfNear ps L i k).1 < 0 ∨ (∃ j : Nat, (pfNear ps L i k).1 = (j : Int) ∧ nearB L i j = false) := by
  induction k with
  | zero => exact .inl (by show (-1 : Int) < 0; omega)
  | succ k ih =>
    rw [pfNear]
    split
    · exact ih
    · rename_i h
      split
      · exact .inr ⟨k, rfl, by simpa using h⟩
      · exact ih
theorem pfNear_bound (ps : List (List Nat)) (L i k : Nat) : (pfNear ps L i k).1 < k := by
  induction k with
  | zero => show (-1 : Int) < _; omega
  | succ k ih =>
    rw [pfNear]
    split
    · omega
    · split
      · dsimp only; omega
      · omega
/-- What a profile is, if there is one. -/
structure PfFacts (n : Nat) (long : Int) (L : List Nat) (A : List Int) : Prop where
  lenL : (L.length : Int) = n - long + 1
  lenA : A.length = L.length
  lo : 2 ≤ long
  hi : long ≤ ((n / 2 : Nat) : Int)
  fin_ : ∀ i, i < L.length → fin (L.getD i 0) = true
  apart : ∀ i, i < L.length → 0 ≤ A.getD i 0 ∧ A.getD i 0 < L.length ∧ ((i : Int) - A.getD i 0 ≥ long ∨ A.getD i 0 - (i : Int) ≥ long)
theorem pf_facts {cs : List Nat} {long : Int} (h : (pfQ cs long).2.2 = true) : PfFacts cs.length long (pfQ cs long).1 (pfQ cs long).2.1 := by
  have hfin := pfQ_fin h
  have hpos := pfQ_pos h
  unfold pfQ at h hfin hpos ⊢
  split at h
  · rename_i h1
    rw [if_pos h1] at hfin hpos ⊢
    simp only [Bool.and_eq_true] at h1
    have h2 := (inB_iff _ _ _).1 h1.2
    split at h
    · rename_i h3
      rw [if_pos h3] at hfin hpos ⊢
      unfold pfEnd at h hfin hpos ⊢
      split at h
      · rename_i h4
        rw [if_pos h4] at hfin hpos ⊢
        simp only [Bool.and_eq_true] at h4
        dsimp only at hfin hpos ⊢
        have hl : (pfFars (pfL cs long.toNat (cs.length + 1 - long.toNat)) long.toNat (cs.length + 1 - long.toNat) (cs.length + 1 - long.toNat)).length = cs.length + 1 - long.toNat := pfFars_length _ _ _ _
        refine ⟨by rw [hl]; omega, hpos.2, h2.1, h2.2, fun i hi => allFin_at hfin hi, fun i hi => ?_⟩
        rw [hl] at hi ⊢
        have hg : (pfAts (pfL cs long.toNat (cs.length + 1 - long.toNat)) long.toNat (cs.length + 1 - long.toNat) (cs.length + 1 - long.toNat)).getD i 0 = (pfNear (pfL cs long.toNat (cs.length + 1 - long.toNat)) long.toNat i (cs.length + 1 - long.toNat)).1 := by simp [pfAts, hi]
        rw [hg]
        have hh := h4.1
        simp only [pfHas, List.all_eq_true, decide_eq_true_eq] at hh
        have h0 := hh i (List.mem_range.2 hi)
        have hr := pfNear_range (pfL cs long.toNat (cs.length + 1 - long.toNat)) long.toNat i (cs.length + 1 - long.toNat)
        have hb := pfNear_bound (pfL cs long.toNat (cs.length + 1 - long.toNat)) long.toNat i (cs.length + 1 - long.toNat)
        rcases pfNear_apart (pfL cs long.toNat (cs.length + 1 - long.toNat)) long.toNat i (cs.length + 1 - long.toNat) with hn | ⟨j, hj, hnb⟩
        · omega
        · rw [hj] at hb h0 ⊢
          have : ¬ (i - j < long.toNat ∧ j - i < long.toNat) := by
            intro hc
            simp [nearB, hc.1, hc.2] at hnb
          omega
      · cases h
    · cases h
  · cases h

end Go.Proofs.Ytnhenklopigfnaa
