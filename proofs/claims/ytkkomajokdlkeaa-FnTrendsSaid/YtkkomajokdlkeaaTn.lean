/- A step of a trend, in numbers: what it leaves is near what a filter leaves that does not round. Plain. -/
import Derived.Test.YtkkomajokdlkeaaTl
import Derived.Test.YtkkomajokdlkeaaK22
namespace Go.Proofs.Ytkkomajokdlkeaa
set_option linter.unusedSimpArgs false
set_option linter.unusedVariables false
set_option maxRecDepth 100000
set_option maxHeartbeats 4000000
open Go.RowKit
set_option linter.unusedSimpArgs false
set_option linter.unusedVariables false

theorem lst0_qv {c : Nat} {x y e : Rat} (h : QV S c x) (hn : Nr e y x) (hy : 0 ≤ y) : ∃ z, QV S (lst0 c) z ∧ Nr e y z ∧ 0 ≤ z := by
  obtain ⟨h1, h2⟩ := hn
  unfold lst0
  have e1 : fc .lss .f32 c 0 = decide (x < 0) := by
    show (S.order c 0 == some .lt) = _
    rw [h.order qv_zero]
    by_cases hx : x < 0
    · rw [if_pos hx, decide_eq_true hx]; rfl
    · rw [if_neg hx, decide_eq_false hx]; split <;> rfl
  by_cases hx : x < 0
  · rw [e1, decide_eq_true hx, if_pos rfl]
    exact ⟨0, qv_zero, ⟨by grind, by grind⟩, by grind⟩
  · rw [e1, decide_eq_false hx, if_neg (by decide)]
    exact ⟨x, h, ⟨h1, h2⟩, by grind⟩
theorem ts_step {l v a b c n d t x : Nat} {L V A B C N D E X K H : Rat} (hl : QV S l L) (hv : QV S v V) (ha : QV S a A) (hb : QV S b B) (hc : QV S c C) (hn : QV S n N) (hd : QV S d D) (ht : QV S t E) (hx : QV S x X)
    (hK : K * (A + 2 * B + C + D + N) = A + 2 * B + C + D) (hH : H * (A + 2 * B + C + D + N) = B + C) (hD : 0 ≤ D) (hD' : D ≤ 1 / 2) (hE : 0 ≤ E) (hE' : E ≤ 1 / 4) (hFF : 1 / 2 ≤ A + 2 * B + C + D + N) (k1 : 0 ≤ K) (k2 : K ≤ 1) (k3 : 0 ≤ H) (k4 : H ≤ 1) (n1 : 1 / 4 ≤ N) (n2 : N ≤ 2)
    (b1 : 0 ≤ A + 2 * B + C) (b2 : A + 2 * B + C ≤ 25 / 4) (b3 : 0 ≤ B + C) (b4 : B + C ≤ 9 / 4) (b5 : -5 ≤ A + B) (b6 : A + B ≤ 5) (b7 : 0 ≤ C) (b8 : C ≤ 5 / 2) (b9 : 0 ≤ K * N) (b10 : 0 ≤ C + E - H * (B + C))
    (e1 : -200 ≤ L + V) (e2 : L + V ≤ 200) (e3 : -90 ≤ X - L - V) (e4 : X - L - V ≤ 90) (e5 : -100 ≤ V) (e6 : V ≤ 100) (e7 : -70 ≤ X) (e8 : X ≤ 70) :
    ∃ l' v' a' b' c' L' V' A' B' C', tsNew l v a b c n d t x true = [l', v', a', b', c', n, d, t] ∧ QV S l' L' ∧ QV S v' V' ∧ QV S a' A' ∧ QV S b' B' ∧ QV S c' C' ∧
      Nr (1 / 512) (L + V + K * (X - L - V)) L' ∧ Nr (1 / 512) (V + H * (X - L - V)) V' ∧ Nr (1 / 1024) (K * N) A' ∧ 0 ≤ A' ∧ Nr (1 / 1024) ((1 - K) * (B + C)) B' ∧ Nr (1 / 1024) (C + E - H * (B + C)) C' ∧ 0 ≤ C' := by
  obtain ⟨_, q1, r1⟩ := nr_add ha hb (Nr.refl A) (Nr.refl B) b5 b6 (f := 6 / 8388608) (by decide +kernel) (by decide +kernel)
  obtain ⟨_, q2, r2⟩ := nr_add hb hc (Nr.refl B) (Nr.refl C) (M := 9 / 4) (by grind) b4 (f := 3 / 8388608) (by decide +kernel) (by decide +kernel)
  obtain ⟨_, q3, r3⟩ := nr_add q1 q2 r1 r2 (M := 25 / 4) (f := 16 / 8388608) (by grind) (by grind) (by decide +kernel) (by decide +kernel)
  obtain ⟨_, q4, r4⟩ := nr_add q3 hd r3 (Nr.refl D) (M := 7) (f := 24 / 8388608) (by grind) (by grind) (by decide +kernel) (by decide +kernel)
  obtain ⟨_, q5, r5⟩ := nr_add q4 hn r4 (Nr.refl N) (M := 9) (f := 34 / 8388608) (by grind) (by grind) (by decide +kernel) (by decide +kernel)
  have hF : A + B + (B + C) + D + N = A + 2 * B + C + D + N := by grind
  have hA : A + B + (B + C) + D = A + 2 * B + C + D := by grind
  obtain ⟨_, q6, r6⟩ := nr_div q4 q5 r4 r5 (K := K) (f := 138 / 8388608) (by rw [hF, hA]; exact hK) k1 k2 (by grind) (by decide +kernel) (by decide +kernel) (by decide +kernel) (by decide +kernel) (by decide +kernel)
  obtain ⟨_, q7, r7⟩ := nr_div q2 q5 r2 r5 (K := H) (f := 90 / 8388608) (by rw [hF]; exact hH) k3 k4 (by grind) (by decide +kernel) (by decide +kernel) (by decide +kernel) (by decide +kernel) (by decide +kernel)
  obtain ⟨_, q8, r8⟩ := nr_add hl hv (Nr.refl L) (Nr.refl V) e1 e2 (f := 201 / 8388608) (by decide +kernel) (by decide +kernel)
  obtain ⟨_, q9, r9⟩ := nr_sub hx q8 (Nr.refl X) r8 (M := 90) (f := 292 / 8388608) (by grind) (by grind) (by decide +kernel) (by decide +kernel)
  obtain ⟨_, q10, r10⟩ := nr_mul q6 q9 r6 r9 (X := 1) (Y := 90) (f := 12900 / 8388608) (by grind) (by grind) (by grind) (by grind) (by decide +kernel) (by decide +kernel)
  obtain ⟨_, q11, r11⟩ := nr_mul q7 q9 r7 r9 (X := 1) (Y := 90) (f := 8600 / 8388608) (by grind) (by grind) (by grind) (by grind) (by decide +kernel) (by decide +kernel)
  have m1 := mul_bd (x := K) (X := 1) (y := X - (L + V)) (Y := 90) (by grind) k2 (by grind) (by grind)
  have m2 := mul_bd (x := H) (X := 1) (y := X - (L + V)) (Y := 90) (by grind) k4 (by grind) (by grind)
  obtain ⟨L', q12, r12⟩ := nr_add q8 q10 r8 r10 (M := 300) (f := 1 / 512) (by grind) (by grind) (by decide +kernel) (by decide +kernel)
  obtain ⟨V', q13, r13⟩ := nr_add hv q11 (Nr.refl V) r11 (M := 200) (f := 1 / 512) (by grind) (by grind) (by decide +kernel) (by decide +kernel)
  obtain ⟨_, q14, r14⟩ := nr_mul q6 q4 r6 r4 (X := 1) (Y := 7) (f := 1020 / 8388608) (by grind) (by grind) (by grind) (by grind) (by decide +kernel) (by decide +kernel)
  obtain ⟨_, q15, r15⟩ := nr_mul q6 q2 r6 r2 (X := 1) (Y := 9 / 4) (f := 400 / 8388608) (by grind) (by grind) (by grind) (by grind) (by decide +kernel) (by decide +kernel)
  obtain ⟨_, q16, r16⟩ := nr_mul q7 q2 r7 r2 (X := 1) (Y := 9 / 4) (f := 400 / 8388608) (by grind) (by grind) (by grind) (by grind) (by decide +kernel) (by decide +kernel)
  have m3 := mul_bd (x := K) (X := 1) (y := A + B + (B + C) + D) (Y := 7) (by grind) k2 (by grind) (by grind)
  have m4 := mul_bd (x := K) (X := 1) (y := B + C) (Y := 9 / 4) (by grind) k2 (by grind) (by grind)
  have m5 := mul_bd (x := H) (X := 1) (y := B + C) (Y := 9 / 4) (by grind) k4 (by grind) (by grind)
  obtain ⟨_, q17, r17⟩ := nr_sub q4 q14 r4 r14 (M := 14) (f := 1 / 1024) (by grind) (by grind) (by decide +kernel) (by decide +kernel)
  obtain ⟨B', q18, r18⟩ := nr_sub q2 q15 r2 r15 (M := 9 / 2) (f := 1 / 1024) (by grind) (by grind) (by decide +kernel) (by decide +kernel)
  obtain ⟨_, q19, r19⟩ := nr_add hc ht (Nr.refl C) (Nr.refl E) (M := 3) (f := 4 / 8388608) (by grind) (by grind) (by decide +kernel) (by decide +kernel)
  obtain ⟨_, q20, r20⟩ := nr_sub q19 q16 r19 r16 (M := 6) (f := 1 / 1024) (by grind) (by grind) (by decide +kernel) (by decide +kernel)
  have g1 : A + B + (B + C) + D - K * (A + B + (B + C) + D) = K * N := by rw [hA]; grind
  rw [g1] at r17
  obtain ⟨A', q21, r21, z1⟩ := lst0_qv q17 r17 b9
  obtain ⟨C', q22, r22, z2⟩ := lst0_qv q20 r20 b10
  have g2 : L + V + K * (X - (L + V)) = L + V + K * (X - L - V) := by grind
  have g3 : V + H * (X - (L + V)) = V + H * (X - L - V) := by grind
  have g4 : B + C - K * (B + C) = (1 - K) * (B + C) := by grind
  rw [g2] at r12
  rw [g3] at r13
  rw [g4] at r18
  exact ⟨_, _, _, _, _, L', V', A', B', C', rfl, q12, q13, q21, q18, q22, r12, r13, r21, z1, r18, r22, z2⟩

end Go.Proofs.Ytkkomajokdlkeaa
