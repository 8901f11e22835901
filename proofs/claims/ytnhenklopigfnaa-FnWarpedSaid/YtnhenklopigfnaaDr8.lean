/- Drifts of small eighths are told by integers. Plain (for FnDrift). -/
import Derived.Test.YtnhenklopigfnaaK14
import Derived.Test.YtnhenklopigfnaaEx8
namespace Go.Proofs.Ytnhenklopigfnaa
set_option linter.unusedSimpArgs false
set_option linter.unusedVariables false
set_option maxRecDepth 100000
set_option maxHeartbeats 4000000
open Go.RowKit
/-- A check that decides: c is x eighths. -/
def evB (c : Nat) (x : Int) : Bool := match S.read c with
  | .number s m p => decide (c < 4294967296) && decide (p ≤ -3) && (m == x.natAbs * 2 ^ (-3 - p).toNat) && (decide (x = 0) || (s == decide (x < 0)))
  | _ => false
theorem ev_of {c : Nat} {x : Int} (h : evB c x = true) : Ev c x := by
  unfold evB at h
  split at h
  · rename_i s m p hr
    simp only [Bool.and_eq_true, Bool.or_eq_true, decide_eq_true_eq, beq_iff_eq] at h
    obtain ⟨⟨⟨h1, h2⟩, h3⟩, h4⟩ := h
    refine ⟨h1, s, (-3 - p).toNat, ?_, fun h0 => ?_⟩
    · rw [hr, h3, show (-3 - (((-3 - p).toNat : Nat) : Int)) = p by omega]
    · rcases h4 with h4 | h4
      · exact absurd h4 h0
      · exact h4
  · cases h
/-- A drift, by integers. -/
def iStep (down : Bool) (M K s x : Int) : Int := let r := if down then s + M - x - K else s + x - M - K; if r < 0 then 0 else r
def iAt (down : Bool) (M K : Int) (X : Nat → Int) : Nat → Int
  | 0 => 0
  | n + 1 => iStep down M K (iAt down M K X n) (X n)
theorem iAt_bound (down : Bool) {M K : Int} {X : Nat → Int} (hX : ∀ i, (X i).natAbs ≤ 100) (hM : M.natAbs ≤ 100) (hK : K.natAbs ≤ 100) : ∀ n, 0 ≤ iAt down M K X n ∧ iAt down M K X n ≤ 300 * n
  | 0 => ⟨Int.le_refl _, by simp [iAt]⟩
  | n + 1 => by
    have ih := iAt_bound down hX hM hK n
    have hx := hX n
    rw [iAt, iStep]
    cases down
    · simp only [Bool.false_eq_true, if_false]
      split <;> omega
    · simp only [if_true]
      split <;> omega
theorem dAt_ev (down : Bool) {M K : Int} {X : Nat → Int} {cm ck : Nat} {cs : List Nat} (hX : ∀ i, (X i).natAbs ≤ 100) (hM : M.natAbs ≤ 100) (hK : K.natAbs ≤ 100) (hm : Ev cm M) (hk : Ev ck K) (hc : ∀ i, i < cs.length → Ev (cs.getD i 0) (X i)) : ∀ n, n ≤ cs.length → n ≤ 1000 → Ev (dAt down cm ck cs n) (iAt down M K X n)
  | 0, _, _ => ev_zero
  | n + 1, h, h1 => by
    have ih := dAt_ev down hX hM hK hm hk hc n (by omega) (by omega)
    have hb := iAt_bound down hX hM hK n
    have hx := hX n
    have hraw : Ev (dRaw down cm ck (dAt down cm ck cs n) (cs.getD n 0)) (if down then iAt down M K X n + M - X n - K else iAt down M K X n + X n - M - K) := by
      cases down
      · exact ev_up ih (hc n (by omega)) hm hk (by omega) (by omega) (by omega) (by omega)
      · exact ev_down ih (hc n (by omega)) hm hk (by omega) (by omega) (by omega) (by omega)
    rw [dAt, iAt, dStep, iStep]
    rw [hraw.lss ev_zero]
    generalize (if down then iAt down M K X n + M - X n - K else iAt down M K X n + X n - M - K) = r at *
    by_cases h : r < 0
    · rw [if_pos (decide_eq_true h), if_pos h]
      exact ev_zero
    · rw [if_neg (by rw [decide_eq_false h]; decide), if_neg h]
      exact hraw
/-- Up is down of the opposites. -/
theorem iAt_turn (M K : Int) (X : Nat → Int) : ∀ n, iAt true (-M) K (fun i => -(X i)) n = iAt false M K X n
  | 0 => rfl
  | n + 1 => by
    rw [iAt, iAt, iAt_turn M K X n, iStep, iStep]
    simp only [if_true, Bool.false_eq_true, if_false]
    rw [show iAt false M K X n + -M - -(X n) - K = iAt false M K X n + X n - M - K by omega]
/-- Of two that are as many eighths one is the other, but for the sign of zero. -/
theorem Ev.same {a b : Nat} {x : Int} (ha : Ev a x) (hb : Ev b x) : a = b ∨ ((a = 0 ∨ a = 2147483648) ∧ (b = 0 ∨ b = 2147483648)) := by
  by_cases h0 : x = 0
  · subst h0
    refine .inr ⟨?_, ?_⟩
    · exact ev_zeros ha
    · exact ev_zeros hb
  · have ho := ha.order hb
    rw [cmpI, if_neg (by omega), if_pos rfl] at ho
    obtain ⟨h1, s, k, h2, h3⟩ := ha
    obtain ⟨h4, t, j, h5, h6⟩ := hb
    refine .inl (bits_of_eq h1 h4 ho ?_)
    rw [h2, h5]
    show s = t
    rw [h3 h0, h6 h0]
where
  ev_zeros {a : Nat} (ha : Ev a 0) : a = 0 ∨ a = 2147483648 := by
    have hz := ha
    have ho := ha.order ev_zero
    rw [cmpI, if_neg (by omega), if_pos rfl] at ho
    obtain ⟨h1, s, k, h2, -⟩ := ha
    cases s with
    | false =>
      refine .inl (bits_of_eq h1 (by decide) ho ?_)
      rw [h2]
      show false = (S.read 0).neg
      decide
    | true =>
      have ho2 := hz.order (show Ev 2147483648 0 from ⟨by decide, true, 146, by decide, by simp⟩)
      rw [cmpI, if_neg (by omega), if_pos rfl] at ho2
      refine .inr (bits_of_eq h1 (by decide) ho2 ?_)
      rw [h2]
      show true = (S.read 2147483648).neg
      decide

end Go.Proofs.Ytnhenklopigfnaa
