/- Eighths, exactly, in float64. Plain. -/
import Derived.Test.YtkkomajokdlkeaaQ20
namespace Go.Proofs.Ytkkomajokdlkeaa
set_option linter.unusedSimpArgs false
set_option linter.unusedVariables false
set_option maxRecDepth 100000
set_option maxHeartbeats 4000000
open Go.RowKit
/-- What is nearest to n eighths is n eighths. -/
theorem near_readD (neg : Bool) (n K : Nat) (hn : n < 16777216) : Ieee.double.nearest neg (n * 2 ^ K) (-3 - (K : Int)) < 18446744073709551616 ∧ ∃ k : Nat, Ieee.double.read (Ieee.double.nearest neg (n * 2 ^ K) (-3 - (K : Int))) = .number neg (n * 2 ^ k) (-3 - (k : Int)) := by
  by_cases h0 : n = 0
  · subst h0
    rw [Nat.zero_mul]
    have h1 : Ieee.double.nearest neg 0 (-3 - (K : Int)) = Ieee.double.word neg 0 := by unfold Ieee.Format.nearest; rw [if_pos rfl]
    rw [h1]
    cases neg
    · exact ⟨by decide +kernel, 1071, by decide +kernel⟩
    · exact ⟨by decide +kernel, 1071, by decide +kernel⟩
  · have hL := (Nat.log2_eq_iff h0).1 rfl
    have hLt : n.log2 < 24 := (Nat.log2_lt h0).2 hn
    obtain ⟨L, hLL⟩ : ∃ L, L = n.log2 := ⟨_, rfl⟩
    rw [← hLL] at hL hLt
    obtain ⟨q, hq⟩ : ∃ q, q = n * 2 ^ (52 - L) := ⟨_, rfl⟩
    have hp : 0 < 2 ^ (52 - L) := Nat.pow_pos (by decide)
    have e52 : (2 : Nat) ^ L * 2 ^ (52 - L) = 4503599627370496 := by rw [← Nat.pow_add, show L + (52 - L) = 52 by omega]
    have hq1 : 4503599627370496 ≤ q := by rw [hq, ← e52]; exact Nat.mul_le_mul_right _ hL.1
    have hq2 : q < 9007199254740992 := by
      have : (2 : Nat) ^ (L + 1) * 2 ^ (52 - L) = 9007199254740992 := by rw [← Nat.pow_add, show L + 1 + (52 - L) = 53 by omega]
      rw [hq, ← this]
      exact Nat.mul_lt_mul_of_pos_right hL.2 hp
    have hne : n * 2 ^ K ≠ 0 := Nat.mul_ne_zero h0 (Nat.ne_of_gt (Nat.pow_pos (by decide)))
    have hlast : max (-3 - (K : Int) + ((n * 2 ^ K).log2 : Int) - (Ieee.double.fractionBits : Int)) Ieee.double.leastPlace = (L : Int) - 55 := by
      rw [log2_mulpE h0, ← hLL, show (Ieee.double.fractionBits : Int) = 52 from rfl, show Ieee.double.leastPlace = -1074 from d_least]
      omega
    have hkept : Ieee.Toward.even.cut neg ((n * 2 ^ K) <<< (-3 - (K : Int) - ((L : Int) - 55)).toNat) ((L : Int) - 55 - (-3 - (K : Int))).toNat = q := by
      by_cases hK : K ≤ 52 - L
      · rw [show ((L : Int) - 55 - (-3 - (K : Int))).toNat = 0 by omega, cut_noneE, Nat.shiftLeft_eq, show (-3 - (K : Int) - ((L : Int) - 55)).toNat = 52 - L - K by omega, Nat.mul_assoc, ← Nat.pow_add, show K + (52 - L - K) = 52 - L by omega, hq]
      · rw [show (-3 - (K : Int) - ((L : Int) - 55)).toNat = 0 by omega, Nat.shiftLeft_zero, show ((L : Int) - 55 - (-3 - (K : Int))).toNat = K - (52 - L) by omega]
        have e : n * 2 ^ K = q * 2 ^ (K - (52 - L)) := by rw [hq, Nat.mul_assoc, ← Nat.pow_add, show 52 - L + (K - (52 - L)) = K by omega]
        rw [e]
        exact cut_exactE neg q (by omega) _
    have hnear : Ieee.double.nearest neg (n * 2 ^ K) (-3 - (K : Int)) = Ieee.double.word neg ((L + 1019) * 4503599627370496 + q) := by
      unfold Ieee.Format.nearest
      rw [if_neg hne]
      simp only [hlast, hkept]
      rw [show Ieee.double.leastPlace = -1074 from d_least, show Ieee.double.binade = 4503599627370496 from d_binade, show Ieee.double.infRung = 9218868437227405312 from d_inf, show ((L : Int) - 55 - -1074).toNat = L + 1019 by omega, Nat.min_eq_left (by omega)]
    have hr : (L + 1019) * 4503599627370496 + q < 9218868437227405312 := by omega
    have hw : Ieee.double.word neg ((L + 1019) * 4503599627370496 + q) = (if neg then 9223372036854775808 + ((L + 1019) * 4503599627370496 + q) else (L + 1019) * 4503599627370496 + q) := by
      unfold Ieee.Format.word
      rw [show Ieee.double.signWeight = 9223372036854775808 from d_weight]
    rw [hnear, hw]
    refine ⟨by split <;> omega, 52 - L, ?_⟩
    have hplace : (-3 - ((52 - L : Nat) : Int)) = -1074 + (((L + 1019) * 4503599627370496 + q) / 4503599627370496 - 1 : Nat) := by omega
    have hmant : n * 2 ^ (52 - L) = 4503599627370496 + ((L + 1019) * 4503599627370496 + q) % 4503599627370496 := by rw [← hq]; omega
    rw [hplace, hmant]
    generalize (L + 1019) * 4503599627370496 + q = r at *
    unfold Ieee.Format.read
    rw [show Ieee.double.signWeight = 9223372036854775808 from d_weight, show Ieee.double.binade = 4503599627370496 from d_binade, show Ieee.double.infRung = 9218868437227405312 from d_inf, show Ieee.double.leastPlace = -1074 from d_least]
    have hge : ¬ r < 4503599627370496 := by omega
    cases neg
    · simp only [Bool.false_eq_true, if_false]
      rw [Nat.mod_eq_of_lt (show r < 9223372036854775808 by omega), show r / 9223372036854775808 = 0 by omega]
      simp only [if_neg hge, if_pos hr]
      rfl
    · simp only [if_true]
      rw [show (9223372036854775808 + r) % 9223372036854775808 = r by omega, show (9223372036854775808 + r) / 9223372036854775808 = 1 by omega]
      simp only [if_neg hge, if_pos hr]
      rfl
/-- x eighths. -/
def Ew (c : Nat) (x : Int) : Prop := c < 18446744073709551616 ∧ ∃ (s : Bool) (k : Nat), Ieee.double.read c = .number s (x.natAbs * 2 ^ k) (-3 - (k : Int)) ∧ (x ≠ 0 → s = decide (x < 0))
theorem ew_near {r : Bool} {z : Int} {K : Nat} (hr : z ≠ 0 → r = decide (z < 0)) (hz : z.natAbs < 16777216) : Ew (Ieee.double.write (.number r (z.natAbs * 2 ^ K) (-3 - (K : Int)))) z := by
  obtain ⟨h1, k, h2⟩ := near_readD r z.natAbs K hz
  exact ⟨h1, r, k, h2, hr⟩
/-- A number made wide. -/
theorem Ev.wide {a : Nat} {x : Int} (h : Ev a x) (hx : x.natAbs < 16777216) : Ew (wd a) x := by
  have hn := h.notNaN
  obtain ⟨-, s, k, h2, h3⟩ := h
  have e : wd a = Ieee.double.write (S.read a) := by unfold wd; rw [if_neg (by simp [hn])]
  rw [e, h2]
  exact ew_near h3 hx
theorem Ew.add {a b : Nat} {x y : Int} (ha : Ew a x) (hb : Ew b y) (hxy : (x + y).natAbs < 16777216) : Ew (ar .add .f64 a b) (x + y) := by
  obtain ⟨-, s, k, h1, h2⟩ := ha
  obtain ⟨-, t, j, h3, h4⟩ := hb
  obtain ⟨r, K, h5, h6⟩ := sum_ev h2 h4 hxy (k := k) (j := j)
  have h7 : ar .add .f64 a b = Ieee.double.write (.number r ((x + y).natAbs * 2 ^ K) (-3 - (K : Int))) := by
    show ((Ieee.double.add a b).getD _) = _
    rw [Ieee.Format.add, h1, h3, h5]
    rfl
  rw [h7]
  exact ew_near h6 hxy
theorem Ew.sub {a b : Nat} {x y : Int} (ha : Ew a x) (hb : Ew b y) (hxy : (x - y).natAbs < 16777216) : Ew (ar .sub .f64 a b) (x - y) := by
  obtain ⟨-, s, k, h1, h2⟩ := ha
  obtain ⟨-, t, j, h3, h4⟩ := hb
  have h4' : -y ≠ 0 → (!t) = decide (-y < 0) := by
    intro h
    rw [h4 (by omega)]
    by_cases h5 : y < 0
    · rw [decide_eq_true h5, decide_eq_false (by omega)]; rfl
    · rw [decide_eq_false h5, decide_eq_true (by omega)]; rfl
  obtain ⟨r, K, h5, h6⟩ := sum_ev h2 h4' (by rw [← Int.sub_eq_add_neg]; exact hxy) (k := k) (j := j)
  rw [← Int.sub_eq_add_neg, Int.natAbs_neg] at h5
  rw [← Int.sub_eq_add_neg] at h6
  have h7 : ar .sub .f64 a b = Ieee.double.write (.number r ((x - y).natAbs * 2 ^ K) (-3 - (K : Int))) := by
    show ((Ieee.double.sub a b).getD _) = _
    rw [Ieee.Format.sub, h1, h3]
    show (Option.map Ieee.double.write ((Ieee.Datum.number s _ _).sum (Ieee.Datum.number (!t) _ _))).getD _ = _
    rw [h5]
    rfl
  rw [h7]
  exact ew_near h6 hxy
theorem num_order {s t : Bool} {x y : Int} {k j : Nat} (h2 : x ≠ 0 → s = decide (x < 0)) (h4 : y ≠ 0 → t = decide (y < 0)) : (Ieee.Datum.number s (x.natAbs * 2 ^ k) (-3 - (k : Int))).order (.number t (y.natAbs * 2 ^ j) (-3 - (j : Int))) = some (compare x y) := by
  obtain ⟨K, hK⟩ : ∃ K, K = max k j := ⟨_, rfl⟩
  have hbase : min (-3 - (k : Int)) (-3 - (j : Int)) = -3 - (K : Int) := by omega
  unfold Ieee.Datum.order
  simp only [hbase]
  rw [show (-3 - (k : Int) - (-3 - (K : Int))).toNat = K - k by omega, show (-3 - (j : Int) - (-3 - (K : Int))).toNat = K - j by omega, signed_ev h2, signed_ev h4, show k + (K - k) = K by omega, show j + (K - j) = K by omega]
  congr 1
  have hp : (0 : Int) < ((2 ^ K : Nat) : Int) := Int.natCast_pos.2 (Nat.pow_pos (by decide))
  rcases Int.lt_trichotomy x y with h | h | h
  · have h5 : x * ((2 ^ K : Nat) : Int) < y * ((2 ^ K : Nat) : Int) := Int.mul_lt_mul_of_pos_right h hp
    simp only [compare, compareOfLessAndEq, if_pos h, if_pos h5]
  · subst h
    simp [compare, compareOfLessAndEq]
  · have h5 : y * ((2 ^ K : Nat) : Int) < x * ((2 ^ K : Nat) : Int) := Int.mul_lt_mul_of_pos_right h hp
    have h6 : ¬ x < y := by omega
    have h7 : ¬ x = y := by omega
    have h8 : ¬ x * ((2 ^ K : Nat) : Int) < y * ((2 ^ K : Nat) : Int) := by omega
    have h9 : ¬ x * ((2 ^ K : Nat) : Int) = y * ((2 ^ K : Nat) : Int) := by omega
    simp only [compare, compareOfLessAndEq, if_neg h6, if_neg h7, if_neg h8, if_neg h9]
theorem Ew.order {a b : Nat} {x y : Int} (ha : Ew a x) (hb : Ew b y) : Ieee.double.order a b = some (compare x y) := by
  obtain ⟨-, s, k, h1, h2⟩ := ha
  obtain ⟨-, t, j, h3, h4⟩ := hb
  show (Ieee.double.read a).order (Ieee.double.read b) = _
  rw [h1, h3]
  exact num_order h2 h4
theorem Ew.notNaN {a : Nat} {x : Int} (ha : Ew a x) : (Ieee.double.read a).isNaN = false := by
  obtain ⟨-, s, k, h1, -⟩ := ha
  rw [h1]; rfl
theorem Ew.cn {a : Nat} {x : Int} (ha : Ew a x) : cn .f64 a = a := cn_of_not (k := .f64) ha.notNaN
theorem ew_zero : Ew 0 0 := ⟨by decide, false, 1071, by decide +kernel, by simp⟩
theorem Ew.lss {a b : Nat} {x y : Int} (ha : Ew a x) (hb : Ew b y) : fc .lss .f64 a b = decide (x < y) := by
  show (Ieee.double.order a b == some .lt) = _
  rw [ha.order hb, cmpI]
  by_cases h : x < y
  · rw [if_pos h, decide_eq_true h]; rfl
  · rw [if_neg h, decide_eq_false h]; split <;> rfl
/-- The gap of two. -/
theorem Ew.gap {a b : Nat} {x y : Int} (ha : Ew a x) (hb : Ew b y) (h1 : (x - y).natAbs < 16777216) : Ew (gapF a b) ((x - y).natAbs : Int) := by
  unfold gapF
  rw [ha.lss hb]
  by_cases h : x < y
  · rw [if_pos (decide_eq_true h)]
    have := hb.sub ha (by omega)
    rw [show ((x - y).natAbs : Int) = y - x by omega]
    exact this
  · rw [if_neg (by rw [decide_eq_false h]; decide)]
    have := ha.sub hb h1
    rw [show ((x - y).natAbs : Int) = x - y by omega]
    exact this

end Go.Proofs.Ytkkomajokdlkeaa
