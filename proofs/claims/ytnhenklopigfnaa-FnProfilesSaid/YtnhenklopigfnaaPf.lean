/- What FnProfiles asks of a profile, in plain words. -/
import Derived.Test.YtnhenklopigfnaaPn
namespace Go.Proofs.Ytnhenklopigfnaa
set_option linter.unusedSimpArgs false
set_option linter.unusedVariables false
set_option maxRecDepth 100000
set_option maxHeartbeats 4000000
set_option linter.unusedSimpArgs false
set_option linter.unusedVariables false
open Go.RowKit

/-- What the law's rounds ask. -/
structure PfLoop (n : Nat) (long : Int) (A : List Nat) (B : List Int) (mi ma : Nat) : Prop where
  lenA : (A.length : Int) = n - long + 1
  lenB : B.length = A.length
  hmi : mi < A.length
  hma : ma < A.length
  apart : ∀ i, i < A.length → 0 ≤ B.getD i 0 ∧ B.getD i 0 < A.length ∧ ((i : Int) - B.getD i 0 ≥ long ∨ B.getD i 0 - (i : Int) ≥ long)
  low : ∀ i, i < A.length → FloatKind.f32.format.order (A.getD i 0) (A.getD mi 0) = some .gt ∨ (FloatKind.f32.format.order (A.getD i 0) (A.getD mi 0) = some .eq ∧ mi ≤ i)
  high : ∀ i, i < A.length → FloatKind.f32.format.order (A.getD i 0) (A.getD ma 0) = some .lt ∨ (FloatKind.f32.format.order (A.getD i 0) (A.getD ma 0) = some .eq ∧ ma ≤ i)
theorem pf_loop {cs : List Nat} {long : Int} (h : (pfQ cs long).2.2 = true) (hlt : ∀ i, i < (pfQ cs long).1.length → (pfQ cs long).1.getD i 0 < 4294967296) :
    PfLoop cs.length long (pfQ cs long).1 (pfQ cs long).2.1 (bigAt .lss (pfQ cs long).1 (pfQ cs long).1.length) (bigAt .gtr (pfQ cs long).1 (pfQ cs long).1.length) := by
  have F := pf_facts h
  have hp := pfQ_pos h
  generalize (pfQ cs long).1 = A at *
  generalize (pfQ cs long).2.1 = B at *
  obtain ⟨k, hk⟩ : ∃ k, A.length = k + 1 := ⟨A.length - 1, by omega⟩
  have hk2 : k < A.length := by omega
  obtain ⟨x1, x2, x3⟩ := mx_best hlt F.fin_ k hk2
  have hmi : bigAt .lss A A.length < A.length := bigAt_lt .lss A hp.1 (Nat.le_refl _)
  have hma : bigAt .gtr A A.length < A.length := bigAt_lt .gtr A hp.1 (Nat.le_refl _)
  have hq : ∀ j, j < A.length → fin (A.getD j 0) = true := F.fin_
  obtain ⟨-, -, -, m2, m3⟩ := mn_best hlt F.fin_ k hk2
  have e1 : bigAt .lss A A.length = bigAt .lss A (k + 1) := by rw [hk]
  have e2 : bigAt .gtr A A.length = bigAt .gtr A (k + 1) := by rw [hk]
  rw [e1] at hmi ⊢
  rw [e2] at hma ⊢
  have ho : ∀ a b, a < A.length → b < A.length → FloatKind.f32.format.order (A.getD a 0) (A.getD b 0) = some (compare (fkey (A.getD a 0)) (fkey (A.getD b 0))) := fun a b ha hb => order_key (hlt a ha) (hlt b hb) (fin_mod (hlt a ha) (hq a ha)) (fin_mod (hlt b hb) (hq b hb))
  refine ⟨F.lenL, F.lenA, hmi, hma, F.apart, fun i hi => ?_, fun i hi => ?_⟩
  · rw [ho i _ hi hmi]
    rcases Int.lt_trichotomy (fkey (A.getD i 0)) (fkey (A.getD (bigAt .lss A (k + 1)) 0)) with h | h | h
    · have := m3 i (by omega); omega
    · refine .inr ⟨by rw [cmp_eq h], ?_⟩
      rcases Nat.lt_or_ge i (bigAt .lss A (k + 1)) with h1 | h1
      · have := m2 i h1; omega
      · exact h1
    · exact .inl (by rw [cmp_gt h])
  · rw [ho i _ hi hma]
    rcases Int.lt_trichotomy (fkey (A.getD i 0)) (fkey (A.getD (bigAt .gtr A (k + 1)) 0)) with h | h | h
    · exact .inl (by rw [cmp_lt h])
    · refine .inr ⟨by rw [cmp_eq h], ?_⟩
      rcases Nat.lt_or_ge i (bigAt .gtr A (k + 1)) with h1 | h1
      · have := x2 i h1; omega
      · exact h1
    · have := x3 i (by omega); omega

end Go.Proofs.Ytnhenklopigfnaa
