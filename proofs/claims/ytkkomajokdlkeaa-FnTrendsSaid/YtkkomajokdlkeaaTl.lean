/- A step of a trend, in numbers: how far words are from fractions. Plain. -/
import Derived.Test.YtkkomajokdlkeaaTk
namespace Go.Proofs.Ytkkomajokdlkeaa
set_option linter.unusedSimpArgs false
set_option linter.unusedVariables false
set_option maxRecDepth 100000
set_option maxHeartbeats 4000000
open Go.RowKit
set_option linter.unusedSimpArgs false
set_option linter.unusedVariables false

/-- Within a distance. -/
def Nr (e x y : Rat) : Prop := x - e ≤ y ∧ y ≤ x + e
theorem Nr.refl (x : Rat) : Nr 0 x x := by constructor <;> grind
theorem Nr.mono {e f x y : Rat} (h : Nr e x y) (hf : e ≤ f) : Nr f x y := by obtain ⟨h1, h2⟩ := h; constructor <;> grind
theorem Ns.nr {x y z M e f : Rat} (h : Ns e32 y z) (hx : Nr e x y) (h1 : -M ≤ x) (h2 : x ≤ M) (hf : e + (M + e) / 8388608 + 1 / 1152921504606846976 ≤ f) : Nr f x z := by
  obtain ⟨a, b⟩ := hx
  have := h.2.2 (M + e) (by grind) (by grind)
  constructor <;> grind
theorem nr_add {a b : Nat} {x y x' y' e1 e2 f M : Rat} (ha : QV S a x') (hb : QV S b y') (hx : Nr e1 x x') (hy : Nr e2 y y') (h1 : -M ≤ x + y) (h2 : x + y ≤ M) (hf : e1 + e2 + (M + (e1 + e2)) / 8388608 + 1 / 1152921504606846976 ≤ f) (hM : M + (e1 + e2) ≤ 1000) : ∃ z, QV S (addF a b) z ∧ Nr f (x + y) z := by
  obtain ⟨p1, p2⟩ := hx
  obtain ⟨q1, q2⟩ := hy
  obtain ⟨z, hz, hn⟩ := addF_qv ha hb (by unfold big; grind) (by unfold big; grind)
  exact ⟨z, hz, hn.nr (e := e1 + e2) (by constructor <;> grind) h1 h2 hf⟩
theorem nr_sub {a b : Nat} {x y x' y' e1 e2 f M : Rat} (ha : QV S a x') (hb : QV S b y') (hx : Nr e1 x x') (hy : Nr e2 y y') (h1 : -M ≤ x - y) (h2 : x - y ≤ M) (hf : e1 + e2 + (M + (e1 + e2)) / 8388608 + 1 / 1152921504606846976 ≤ f) (hM : M + (e1 + e2) ≤ 1000) : ∃ z, QV S (subF a b) z ∧ Nr f (x - y) z := by
  obtain ⟨p1, p2⟩ := hx
  obtain ⟨q1, q2⟩ := hy
  obtain ⟨z, hz, hn⟩ := subF_qv ha hb (by unfold big; grind) (by unfold big; grind)
  exact ⟨z, hz, hn.nr (e := e1 + e2) (by constructor <;> grind) h1 h2 hf⟩
theorem nr_prod {x y x' y' e1 e2 X Y : Rat} (hx : Nr e1 x x') (hy : Nr e2 y y') (h1 : -X ≤ x) (h2 : x ≤ X) (h3 : -Y ≤ y) (h4 : y ≤ Y) : Nr (e1 * (Y + e2) + X * e2) (x * y) (x' * y') := by
  obtain ⟨p1, p2⟩ := hx
  obtain ⟨q1, q2⟩ := hy
  have a := mul_bd (x := x' - x) (y := y') (X := e1) (Y := Y + e2) (by grind) (by grind) (by grind) (by grind)
  have b := mul_bd (x := x) (y := y' - y) (X := X) (Y := e2) (by grind) (by grind) (by grind) (by grind)
  constructor <;> grind
theorem nr_mul {a b : Nat} {x y x' y' e1 e2 f X Y : Rat} (ha : QV S a x') (hb : QV S b y') (hx : Nr e1 x x') (hy : Nr e2 y y') (h1 : -X ≤ x) (h2 : x ≤ X) (h3 : -Y ≤ y) (h4 : y ≤ Y)
    (hf : (e1 * (Y + e2) + X * e2) + (X * Y + (e1 * (Y + e2) + X * e2)) / 8388608 + 1 / 1152921504606846976 ≤ f) (hM : X * Y + (e1 * (Y + e2) + X * e2) ≤ 1000) : ∃ z, QV S (mulF a b) z ∧ Nr f (x * y) z := by
  have hp := nr_prod hx hy h1 h2 h3 h4
  have hxy := mul_bd h1 h2 h3 h4
  obtain ⟨p1, p2⟩ := hp
  obtain ⟨z, hz, hn⟩ := mulF_qv ha hb (by unfold big; grind) (by unfold big; grind)
  exact ⟨z, hz, hn.nr ⟨p1, p2⟩ hxy.1 hxy.2 hf⟩
/-- A quotient from 0 to 1, the divisor 1/2 at least. -/
theorem nr_div {a b : Nat} {x F x' F' K e1 e2 f : Rat} (ha : QV S a x') (hb : QV S b F') (hx : Nr e1 x x') (hF : Nr e2 F F') (hK : K * F = x) (h0 : 0 ≤ K) (h1 : K ≤ 1) (hF2 : 1 / 2 ≤ F) (he2 : e2 ≤ 1 / 16) (he0 : 0 ≤ e1) (he3 : 0 ≤ e2) (he1 : e1 ≤ 1 / 16)
    (hf : (e1 + e2) * (16 / 7) + (1 + (e1 + e2) * (16 / 7)) / 2097152 + 1 / 1152921504606846976 ≤ f) : ∃ z, QV S (divF a b) z ∧ Nr f K z := by
  obtain ⟨p1, p2⟩ := hx
  obtain ⟨q1, q2⟩ := hF
  have hF' : 0 < F' := by grind
  obtain ⟨w, hw⟩ : ∃ w : Rat, w * F' = x' := ⟨x' / F', Rat.div_mul_cancel (by grind)⟩
  have b := mul_bd (x := K) (y := F' - F) (X := 1) (Y := e2) (by grind) (by grind) (by grind) (by grind)
  have c1 : 0 ≤ (e1 + e2) * (16 / 7) - (w - K) := by
    have d := Rat.mul_nonneg (show 0 ≤ e1 + e2 by grind) (show 0 ≤ F' - 7 / 16 by grind)
    exact nn_of_mul hF' (by grind)
  have c2 : 0 ≤ (e1 + e2) * (16 / 7) + (w - K) := by
    have d := Rat.mul_nonneg (show 0 ≤ e1 + e2 by grind) (show 0 ≤ F' - 7 / 16 by grind)
    exact nn_of_mul hF' (by grind)
  obtain ⟨z, hz, hn⟩ := divF_qv ha hb (by grind) hw (by grind) (by grind)
  have h := hn.2.2 (1 + (e1 + e2) * (16 / 7)) (by grind) (by grind)
  exact ⟨z, hz, by constructor <;> grind⟩
theorem qv_zero : QV S 0 0 := ⟨false, 0, -149, by decide +kernel, by unfold sg; simp⟩
theorem qv_fin {c : Nat} {x : Rat} (h : QV S c x) (h1 : -1000 ≤ x) (h2 : x ≤ 1000) : fin c = true := by
  obtain ⟨z, hz, n1, n2, -⟩ := subF_qv h h (by unfold big; grind) (by unfold big; grind)
  have e : z = 0 := by have := n1 (by grind); have := n2 (by grind); grind
  subst e
  show (S.order (subF c c) 0 == some .eq) = true
  rw [hz.order qv_zero, if_neg (by grind), if_pos rfl]; rfl
theorem qv_least {c : Nat} {x : Rat} (h : QV S c x) (h1 : 0 ≤ x) (h2 : x ≤ 1000) : least c = true := by
  have e : fc .geq .f32 c 0 = true := by
    show (S.order c 0 == some .gt || S.order c 0 == some .eq) = true
    rw [h.order qv_zero, if_neg (by grind)]
    split <;> rfl
  rw [least, qv_fin h (by grind) h2, e]; rfl

end Go.Proofs.Ytkkomajokdlkeaa
