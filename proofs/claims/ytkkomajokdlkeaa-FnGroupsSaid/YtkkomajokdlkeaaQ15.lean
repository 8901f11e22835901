/- Bits of float64 numbers: which two are the same. Plain. -/
import Derived.Test.YtkkomajokdlkeaaQ14
namespace Go.Proofs.Ytkkomajokdlkeaa
set_option linter.unusedSimpArgs false
set_option linter.unusedVariables false
set_option maxRecDepth 100000
set_option maxHeartbeats 4000000
open Go.RowKit
/-- What the bits below the sign stand for. -/
theorem read_double (b : Nat) : Ieee.double.read b =
    (if b % 9223372036854775808 < 4503599627370496 then .number (b / 9223372036854775808 % 2 == 1) (b % 9223372036854775808) (-1074)
     else if b % 9223372036854775808 < 9218868437227405312 then .number (b / 9223372036854775808 % 2 == 1) (4503599627370496 + b % 9223372036854775808 % 4503599627370496) (-1074 + (b % 9223372036854775808 / 4503599627370496 - 1 : Nat))
     else if b % 9223372036854775808 = 9218868437227405312 then .infinity (b / 9223372036854775808 % 2 == 1) else .nan (b / 9223372036854775808 % 2 == 1) (b % 9223372036854775808 - 9218868437227405312)) := by
  unfold Ieee.Format.read
  simp only [d_weight, d_binade, d_inf, d_least]

theorem mul_pow_injD {m n e1 e2 : Nat} (h1 : m < 9007199254740992) (h2 : n < 9007199254740992) (h1' : e1 = 0 ∨ 4503599627370496 ≤ m) (h2' : e2 = 0 ∨ 4503599627370496 ≤ n) (h : m * 2 ^ e1 = n * 2 ^ e2) : e1 = e2 ∧ m = n := by
  rcases Nat.lt_trichotomy e1 e2 with hl | rfl | hl
  · exfalso
    obtain ⟨d, rfl⟩ : ∃ d, e2 = e1 + (d + 1) := ⟨e2 - e1 - 1, by omega⟩
    rw [Nat.pow_add, ← Nat.mul_assoc, Nat.mul_right_comm] at h
    have := Nat.eq_of_mul_eq_mul_right (Nat.two_pow_pos e1) h
    have hp : 2 ≤ 2 ^ (d + 1) := by rw [Nat.pow_succ]; have := Nat.two_pow_pos d; omega
    have := Nat.mul_le_mul_left n hp
    omega
  · exact ⟨rfl, Nat.eq_of_mul_eq_mul_right (Nat.two_pow_pos e1) h⟩
  · exfalso
    obtain ⟨d, rfl⟩ : ∃ d, e1 = e2 + (d + 1) := ⟨e1 - e2 - 1, by omega⟩
    rw [Nat.pow_add, ← Nat.mul_assoc, Nat.mul_right_comm] at h
    have := Nat.eq_of_mul_eq_mul_right (Nat.two_pow_pos e2) h
    have hp : 2 ≤ 2 ^ (d + 1) := by rw [Nat.pow_succ]; have := Nat.two_pow_pos d; omega
    have := Nat.mul_le_mul_left m hp
    omega

theorem signed_eqD {s : Bool} {m n i j : Nat} (h : Ieee.signed s m i = Ieee.signed s n j) : m * 2 ^ i = n * 2 ^ j := by
  unfold Ieee.signed at h
  simp only [Nat.shiftLeft_eq] at h
  cases s <;> simp only [Bool.false_eq_true, if_false, if_true] at h <;> omega

theorem order_numD {s : Bool} {m n : Nat} {i j : Int} (h : (Ieee.Datum.number s m i).order (.number s n j) = some .eq) (hi : -1074 ≤ i) (hj : -1074 ≤ j) : m * 2 ^ (i + 1074).toNat = n * 2 ^ (j + 1074).toNat := by
  simp only [Ieee.Datum.order, Option.some.injEq] at h
  have h1 := signed_eqD (Int.compare_eq_eq.1 h)
  have e1 : (i + 1074).toNat = (i - min i j).toNat + (min i j + 1074).toNat := by omega
  have e2 : (j + 1074).toNat = (j - min i j).toNat + (min i j + 1074).toNat := by omega
  rw [e1, e2, Nat.pow_add, Nat.pow_add, ← Nat.mul_assoc, ← Nat.mul_assoc, h1]

/-- Two numbers that are equal and have one sign have the same bits. -/
theorem bits_of_eqD {a b : Nat} (ha : a < 18446744073709551616) (hb : b < 18446744073709551616) (ho : Ieee.double.order a b = some .eq) (hs : (Ieee.double.read a).neg = (Ieee.double.read b).neg) : a = b := by
  have hsa : a / 9223372036854775808 % 2 = a / 9223372036854775808 := by omega
  have hsb : b / 9223372036854775808 % 2 = b / 9223372036854775808 := by omega
  have key : a / 9223372036854775808 = b / 9223372036854775808 ∧ a % 9223372036854775808 = b % 9223372036854775808 := by
    unfold Ieee.Format.order at ho
    rw [read_double a, read_double b] at ho hs
    have sg : ∀ x y : Nat, x < 2 → y < 2 → ((x == 1) = (y == 1)) → x = y := by
      intro x y hx hy h
      rcases (by omega : x = 0 ∨ x = 1) with rfl | rfl <;> rcases (by omega : y = 0 ∨ y = 1) with rfl | rfl <;> simp_all
    have hqa : a / 9223372036854775808 < 2 := by omega
    have hqb : b / 9223372036854775808 < 2 := by omega
    rw [hsa, hsb] at ho hs
    generalize a / 9223372036854775808 = qa at *
    generalize b / 9223372036854775808 = qb at *
    have hra : a % 9223372036854775808 < 9223372036854775808 := Nat.mod_lt _ (by omega)
    have hrb : b % 9223372036854775808 < 9223372036854775808 := Nat.mod_lt _ (by omega)
    generalize a % 9223372036854775808 = ra at *
    generalize b % 9223372036854775808 = rb at *
    split at ho
    · rename_i c1
      rw [if_pos c1] at hs
      split at ho
      · rename_i c2
        rw [if_pos c2] at hs
        have e := sg _ _ hqa hqb hs
        subst e
        have := order_numD ho (by omega) (by omega)
        have := mul_pow_injD (by omega) (by omega) (.inl rfl) (.inl rfl) this
        exact ⟨rfl, this.2⟩
      · rename_i c2
        rw [if_neg c2] at hs
        split at ho
        · rename_i c3
          rw [if_pos c3] at hs
          have e := sg _ _ hqa hqb hs
          subst e
          have := order_numD ho (by omega) (by omega)
          have hm := Nat.mod_lt rb (show 0 < 4503599627370496 by omega)
          have := mul_pow_injD (by omega) (by omega) (.inl rfl) (.inr (by omega)) this
          omega
        · split at ho <;> simp [Ieee.Datum.order] at ho
          split at ho <;> simp at ho
    · rename_i c1
      rw [if_neg c1] at hs
      split at ho
      · rename_i c1'
        rw [if_pos c1'] at hs
        split at ho
        · rename_i c2
          rw [if_pos c2] at hs
          have e := sg _ _ hqa hqb hs
          subst e
          have := order_numD ho (by omega) (by omega)
          have hm := Nat.mod_lt ra (show 0 < 4503599627370496 by omega)
          have := mul_pow_injD (by omega) (by omega) (.inr (by omega)) (.inl rfl) this
          omega
        · rename_i c2
          rw [if_neg c2] at hs
          split at ho
          · rename_i c3
            rw [if_pos c3] at hs
            have e := sg _ _ hqa hqb hs
            subst e
            have := order_numD ho (by omega) (by omega)
            have hm := Nat.mod_lt ra (show 0 < 4503599627370496 by omega)
            have hm' := Nat.mod_lt rb (show 0 < 4503599627370496 by omega)
            have := mul_pow_injD (by omega) (by omega) (.inr (by omega)) (.inr (by omega)) this
            exact ⟨rfl, by omega⟩
          · split at ho <;> simp [Ieee.Datum.order] at ho
            split at ho <;> simp at ho
      · rename_i c1'
        rw [if_neg c1'] at hs
        split at ho
        · rename_i c4
          rw [if_pos c4] at hs
          split at ho
          · simp [Ieee.Datum.order] at ho
            split at ho <;> simp at ho
          · rename_i c2
            rw [if_neg c2] at hs
            split at ho
            · simp [Ieee.Datum.order] at ho
              split at ho <;> simp at ho
            · rename_i c3
              rw [if_neg c3] at hs
              split at ho
              · rename_i c5
                rw [if_pos c5] at hs
                exact ⟨sg _ _ hqa hqb hs, by omega⟩
              · simp [Ieee.Datum.order] at ho
        · simp [Ieee.Datum.order] at ho
  have h1 := Nat.div_add_mod a 9223372036854775808
  have h2 := Nat.div_add_mod b 9223372036854775808
  rw [key.1, key.2] at h1
  omega


/-- n eighths. -/
def c64 (n : Nat) : Nat := ar .quo .f64 (floatOfInt .f64 (n : Int)) 4620693217682128896
def ewB (c : Nat) (x : Int) : Bool := match Ieee.double.read c with
  | .number s m p => decide (c < 18446744073709551616) && decide (p ≤ -3) && (m == x.natAbs * 2 ^ (-3 - p).toNat) && (decide (x = 0) || (s == decide (x < 0)))
  | _ => false
theorem ew_of {c : Nat} {x : Int} (h : ewB c x = true) : Ew c x := by
  unfold ewB at h
  split at h
  · rename_i s m p hr
    simp only [Bool.and_eq_true, Bool.or_eq_true, decide_eq_true_eq, beq_iff_eq] at h
    obtain ⟨⟨⟨h1, h2⟩, h3⟩, h4⟩ := h
    refine ⟨h1, s, (-3 - p).toNat, ?_, fun h0 => ?_⟩
    · rw [hr, h3, show (-3 - (((-3 - p).toNat : Nat) : Int)) = p by omega]
    · rcases h4 with h4 | h4
      · exact absurd h4 h0
      · exact h4
  · cases h
/-- K = 0.001. -/
def kM : Nat := 4562254508917369340
def okT (n : Nat) : Bool := ewB (c64 n) (n : Int) && fc .lss .f64 0 (ar .mul .f64 kM (c64 n)) && fc .lss .f64 9223372036854775808 (ar .mul .f64 kM (c64 n)) && !(Ieee.double.read (ar .mul .f64 kM (c64 n))).isNaN
def okU (c : Nat) (n : Nat) : Bool := match Ieee.double.read (ar .add .f64 c kM) with
  | .number s m p => !s && decide (p ≤ -3) && decide (n * 2 ^ (-3 - p).toNat < m)
  | _ => false
theorem okT_all : ∀ i : Fin 2100, okT (i.val + 8) = true := by decide +kernel
theorem okU_all : ∀ i : Fin 800, okU (c64 (i.val + 1)) (i.val + 1) = true := by decide +kernel
theorem okU_zero : okU 0 0 = true ∧ okU 9223372036854775808 0 = true := by decide +kernel
theorem Ew.same {a b : Nat} {x : Int} (ha : Ew a x) (hb : Ew b x) (h0 : x ≠ 0) : a = b := by
  have ho := ha.order hb
  rw [cmpI, if_neg (by omega), if_pos rfl] at ho
  obtain ⟨h1, s, k, h2, h3⟩ := ha
  obtain ⟨h4, t, j, h5, h6⟩ := hb
  refine bits_of_eqD h1 h4 ho ?_
  rw [h2, h5]
  show s = t
  rw [h3 h0, h6 h0]
theorem Ew.zeros {a : Nat} (ha : Ew a 0) : a = 0 ∨ a = 9223372036854775808 := by
  have hz := ha
  have ho := ha.order ew_zero
  rw [cmpI, if_neg (by omega), if_pos rfl] at ho
  obtain ⟨h1, s, k, h2, -⟩ := ha
  cases s with
  | false =>
    refine .inl (bits_of_eqD h1 (by decide) ho ?_)
    rw [h2]
    show false = (Ieee.double.read 0).neg
    decide +kernel
  | true =>
    have ho2 := hz.order (show Ew 9223372036854775808 0 from ew_of (by decide +kernel))
    rw [cmpI, if_neg (by omega), if_pos rfl] at ho2
    refine .inr (bits_of_eqD h1 (by decide) ho2 ?_)
    rw [h2]
    show true = (Ieee.double.read 9223372036854775808).neg
    decide +kernel
/-- Nothing is less than a thousandth of anything. -/
theorem ew_less {g c : Nat} {n : Nat} (hg : Ew g 0) (hc : Ew c ((n : Int) + 8)) (hn : n < 2100) : fc .lss .f64 g (ar .mul .f64 kM c) = true ∧ (Ieee.double.read (ar .mul .f64 kM c)).isNaN = false := by
  have h := okT_all ⟨n, hn⟩
  simp only [okT, Bool.and_eq_true, Bool.not_eq_true'] at h
  obtain ⟨⟨⟨h1, h2⟩, h3⟩, h4⟩ := h
  have e : c = c64 (n + 8) := hc.same (by have := ew_of h1; rw [show ((n + 8 : Nat) : Int) = (n : Int) + 8 by omega] at this; exact this) (by omega)
  rw [e]
  exact ⟨by rcases hg.zeros with rfl | rfl <;> assumption, h4⟩
theorem num_less {s : Bool} {x : Int} {k j m : Nat} (h2 : x ≠ 0 → s = decide (x < 0)) {y : Nat} (hx : x ≤ (y : Int)) (hm : y * 2 ^ j < m) : (Ieee.Datum.number s (x.natAbs * 2 ^ k) (-3 - (k : Int))).order (.number false m (-3 - (j : Int))) = some .lt := by
  obtain ⟨K, hK⟩ : ∃ K, K = max k j := ⟨_, rfl⟩
  have hbase : min (-3 - (k : Int)) (-3 - (j : Int)) = -3 - (K : Int) := by omega
  unfold Ieee.Datum.order
  simp only [hbase]
  rw [show (-3 - (k : Int) - (-3 - (K : Int))).toNat = K - k by omega, show (-3 - (j : Int) - (-3 - (K : Int))).toNat = K - j by omega, signed_ev h2, show k + (K - k) = K by omega]
  congr 1
  have hs : Ieee.signed false m (K - j) = ((m * 2 ^ (K - j) : Nat) : Int) := by unfold Ieee.signed; rw [Nat.shiftLeft_eq]; rfl
  rw [hs]
  have e : (2 : Nat) ^ K = 2 ^ j * 2 ^ (K - j) := by rw [← Nat.pow_add]; congr 1; omega
  have h5 : y * 2 ^ K < m * 2 ^ (K - j) := by
    rw [e, ← Nat.mul_assoc]
    exact Nat.mul_lt_mul_of_pos_right hm (Nat.pow_pos (by decide))
  have h6 : x * ((2 ^ K : Nat) : Int) ≤ (y : Int) * ((2 ^ K : Nat) : Int) := Int.mul_le_mul_of_nonneg_right hx (by omega)
  have h7 : x * ((2 ^ K : Nat) : Int) < ((m * 2 ^ (K - j) : Nat) : Int) := by
    rw [← Int.natCast_mul] at h6
    omega
  simp only [compare, compareOfLessAndEq, if_pos h7]
/-- What is no more is less than a thousandth more. -/
theorem ew_more {g c : Nat} {x : Int} {y : Nat} (hg : Ew g x) (hc : Ew c (y : Int)) (hx : x ≤ (y : Int)) (hy : y ≤ 800) : fc .lss .f64 g (ar .add .f64 c kM) = true ∧ (Ieee.double.read (ar .add .f64 c kM)).isNaN = false := by
  have h : okU c y = true := by
    rcases Nat.eq_zero_or_pos y with h0 | h0
    · subst h0
      rcases hc.zeros with rfl | rfl
      · exact okU_zero.1
      · exact okU_zero.2
    · have h1 := okT_all
      have h2 := okU_all ⟨y - 1, by omega⟩
      have e : y - 1 + 1 = y := by omega
      simp only [e] at h2
      have e2 : c = c64 y := by
        rcases Nat.lt_or_ge y 8 with h8 | h8
        · have h9 : ∀ i : Fin 8, ewB (c64 i.val) (i.val : Int) = true := by decide +kernel
          exact hc.same (ew_of (h9 ⟨y, h8⟩)) (by omega)
        · have h9 := okT_all ⟨y - 8, by omega⟩
          have e3 : y - 8 + 8 = y := by omega
          simp only [e3, okT, Bool.and_eq_true] at h9
          exact hc.same (ew_of h9.1.1.1) (by omega)
      rw [e2]; exact h2
  obtain ⟨-, s, k, h1, h2⟩ := hg
  show (Ieee.double.order g (ar .add .f64 c kM) == some .lt) = true ∧ _
  unfold Ieee.Format.order
  rw [h1]
  unfold okU at h
  split at h
  · rename_i t m p hr
    simp only [Bool.and_eq_true, decide_eq_true_eq, Bool.not_eq_true'] at h
    obtain ⟨⟨h3, h4⟩, h5⟩ := h
    rw [hr, h3, show p = -3 - (((-3 - p).toNat : Nat) : Int) by omega, num_less h2 hx h5]
    exact ⟨rfl, rfl⟩
  · cases h

end Go.Proofs.Ytkkomajokdlkeaa
