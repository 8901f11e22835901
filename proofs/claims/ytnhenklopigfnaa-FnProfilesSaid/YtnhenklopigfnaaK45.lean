/- Two slices of the call's own, told apart. Plain: no program. -/
import Derived.Test.YtnhenklopigfnaaK41
import Derived.Test.YtnhenklopigfnaaTrk
namespace Go.Proofs.Ytnhenklopigfnaa
set_option linter.unusedSimpArgs false
set_option linter.unusedVariables false
set_option maxRecDepth 100000
set_option maxHeartbeats 4000000
set_option linter.unusedSimpArgs false
set_option linter.unusedVariables false
open Go.RowKit


theorem OW.rebase {T lo a : Nat} {w : World} {u : Value} {cs : List Nat} (h : OW T lo w u cs) (ha : ∀ g, u.ownBlock = some g → a ≤ g) : OW T a w u cs := by
  obtain ⟨xs, ⟨hl, ho⟩, r⟩ := h
  refine ⟨xs, ⟨hl, ?_⟩, r⟩
  rcases ho with h | ⟨g, cap, cur, rfl, hb, rest⟩
  · exact .inl h
  · exact .inr ⟨g, cap, cur, rfl, ha g rfl, rest⟩
theorem GO.rebase {α : Type} {inj : α → Value} {T lo a : Nat} {w : World} {u : Value} {xs : List α} (h : GO inj T lo w u xs) (ha : ∀ g, u.ownBlock = some g → a ≤ g) : GO inj T a w u xs := by
  obtain ⟨hl, ho⟩ := h
  refine ⟨hl, ?_⟩
  rcases ho with h | ⟨g, cap, cur, rfl, hb, rest⟩
  · exact .inl h
  · exact .inr ⟨g, cap, cur, rfl, ha g rfl, rest⟩
/-- Two slices in blocks of their own. -/
theorem OW.split {T1 T2 lo : Nat} {w : World} {u v : Value} {cs : List Nat} {xs : List Int} (h1 : OW T1 lo w u cs) (h2 : GO (Value.int .i64) T2 lo w v xs) (hne : T1 ≠ T2) (hlo : lo ≤ w.heap.size) :
    ∃ a b c d, lo ≤ a ∧ b ≤ w.heap.size ∧ lo ≤ c ∧ d ≤ w.heap.size ∧ (b ≤ c ∨ d ≤ a) ∧ FW T1 a b w u cs ∧ GW (Value.int .i64) T2 c d w v xs := by
  have hd := h1.ne_go h2 hne
  cases hu : u.ownBlock with
  | none =>
    refine ⟨w.heap.size, w.heap.size, lo, w.heap.size, hlo, Nat.le_refl _, Nat.le_refl _, Nat.le_refl _, .inr (Nat.le_refl _), ⟨h1.rebase (by rw [hu]; simp), by rw [hu]; simp⟩, ⟨h2, fun g hg => (h2.block g hg).2⟩⟩
  | some g =>
    have hg := h1.block g hu
    cases hv : v.ownBlock with
    | none =>
      refine ⟨g, g + 1, w.heap.size, w.heap.size, hg.1, hg.2, hlo, Nat.le_refl _, .inl hg.2, ⟨h1.rebase (by rw [hu]; intro k hk; injection hk with hk; omega), by rw [hu]; intro k hk; injection hk with hk; omega⟩, ⟨h2.rebase (by rw [hv]; simp), by rw [hv]; simp⟩⟩
    | some k =>
      have hk := h2.block k hv
      have hgk : g ≠ k := by
        rcases hd with h | h
        · rw [hu] at h; cases h
        · intro e; subst e; exact h (by rw [hu, hv])
      refine ⟨g, g + 1, k, k + 1, hg.1, hg.2, hk.1, hk.2, by omega, ⟨h1.rebase (by rw [hu]; intro k hk; injection hk with hk; omega), by rw [hu]; intro k hk; injection hk with hk; omega⟩, ⟨h2.rebase (by rw [hv]; intro k hk; injection hk with hk; omega), by rw [hv]; intro k hk; injection hk with hk; omega⟩⟩
theorem pfQ_short (cs : List Nat) (long : Int) : (pfQ cs long).1.length < 1000000 ∧ (pfQ cs long).2.1.length < 1000000 := by
  unfold pfQ
  split
  · rename_i h
    simp only [Bool.and_eq_true] at h
    have hl := (series_len h.1).2
    split
    · unfold pfEnd
      split
      · rw [pfFars_length, pfAts_length]; omega
      · simp
    · simp
  · simp

end Go.Proofs.Ytnhenklopigfnaa
