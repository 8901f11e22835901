/- Exact results of float32 arithmetic; zero added; signs. Plain: no program. -/
import Derived.Test.YtkkomajokdlkeaaQ5
namespace Go.Proofs.Ytkkomajokdlkeaa
set_option linter.unusedSimpArgs false
set_option linter.unusedVariables false
set_option maxRecDepth 100000
set_option maxHeartbeats 4000000
open Go.RowKit

theorem log2_eq {m k : Nat} (h1 : 2 ^ k ≤ m) (h2 : m < 2 ^ (k + 1)) : m.log2 = k := by
  have h0 : m ≠ 0 := by have := Nat.two_pow_pos k; omega
  have a := (Nat.log2_lt h0).2 h2
  have b := (Nat.le_log2 h0).2 h1
  omega

theorem cut_exact (s : Bool) (m k : Nat) (hm : m ≠ 0) (hk : k ≤ (m * 2 ^ k).log2 + 2) : Ieee.Toward.even.cut s (m * 2 ^ k) k = m := by
  unfold Ieee.Toward.cut
  rw [Nat.min_eq_left hk]
  have e : (1 <<< k) = 2 ^ k := by rw [Nat.shiftLeft_eq, Nat.one_mul]
  simp only [e, Nat.mul_div_cancel _ (Nat.two_pow_pos k), Nat.mul_mod_left]
  simp

/-- A number of the format, written: its rung. -/
theorem nearest_exact (s : Bool) (m k : Nat) (hm : m < 16777216) (hk : k = 0 ∨ 8388608 ≤ m) (hi : k ≤ 253) : S.nearest s (m * 2 ^ k) (-149) = S.word s (k * 8388608 + m) := by
  unfold Ieee.Format.nearest
  by_cases h0 : m = 0
  · subst h0
    have : k = 0 := by omega
    subst this
    simp
  · have hne : m * 2 ^ k ≠ 0 := Nat.mul_ne_zero h0 (Nat.ne_of_gt (Nat.two_pow_pos k))
    rw [if_neg hne]
    have hf : (S.fractionBits : Int) = 23 := by decide +kernel
    simp only [s_least, s_binade, s_inf, hf]
    by_cases hn : 8388608 ≤ m
    · have hl : (m * 2 ^ k).log2 = 23 + k := by
        refine log2_eq ?_ ?_
        · rw [Nat.pow_add]; exact Nat.mul_le_mul_right _ hn
        · rw [show 23 + k + 1 = 24 + k by omega, Nat.pow_add]; exact Nat.mul_lt_mul_of_pos_right hm (Nat.two_pow_pos k)
      rw [hl]
      have h1 : max ((-149 : Int) + ((23 + k : Nat) : Int) - 23) (-149) = -149 + (k : Int) := by omega
      rw [h1]
      have h2 : ((-149 : Int) - (-149 + (k : Int))).toNat = 0 := by omega
      have h3 : ((-149 : Int) + (k : Int) - -149).toNat = k := by omega
      rw [h2, h3, Nat.shiftLeft_zero]
      rw [cut_exact s m k h0 (by rw [hl]; omega)]
      rw [Nat.min_eq_left (by omega)]
    · have hk0 : k = 0 := by omega
      subst hk0
      rw [Nat.pow_zero, Nat.mul_one]
      have hl : m.log2 < 23 := (Nat.log2_lt h0).2 (by omega)
      have h1 : max ((-149 : Int) + ((m.log2 : Nat) : Int) - 23) (-149) = -149 := by omega
      rw [h1]
      have h2 : ((-149 : Int) - -149).toNat = 0 := by omega
      rw [h2, Nat.shiftLeft_zero, cut_zero]
      rw [Nat.min_eq_left (by omega)]

theorem word_read (b : Nat) (hb : b < 4294967296) : S.word (b / 2147483648 % 2 == 1) (b % 2147483648) = b := by
  unfold Ieee.Format.word
  rw [s_weight]
  have h1 := Nat.div_add_mod b 2147483648
  have h2 : b / 2147483648 = 0 ∨ b / 2147483648 = 1 := by omega
  rcases h2 with h | h <;> rw [h] at h1 ⊢
  · rw [if_neg (by decide)]; omega
  · rw [if_pos (by decide)]; omega

/-- What a number of the format is, at the least place. -/
theorem read_form (b : Nat) {s : Bool} {m : Nat} {e : Int} (h : S.read b = .number s m e) :
    ∃ k : Nat, e = -149 + (k : Int) ∧ m < 16777216 ∧ (k = 0 ∨ 8388608 ≤ m) ∧ k ≤ 253 ∧ k * 8388608 + m = b % 2147483648 ∧ s = (b / 2147483648 % 2 == 1) := by
  rw [read_single] at h
  have h1 : b % 2147483648 < 2147483648 := Nat.mod_lt _ (by omega)
  generalize b % 2147483648 = r at *
  have h2 := Nat.mod_lt r (show 0 < 8388608 by omega)
  have h5 := Nat.div_add_mod r 8388608
  split at h
  · injection h with h3 h4 h6
    exact ⟨0, by omega, by omega, .inl rfl, by omega, by rw [Nat.zero_mul, Nat.zero_add]; exact h4.symm, h3.symm⟩
  · split at h
    · injection h with h3 h4 h6
      exact ⟨r / 8388608 - 1, by omega, by omega, .inr (by omega), by omega, by omega, h3.symm⟩
    · split at h <;> cases h

theorem signed_natAbs (s : Bool) (m k : Nat) : (Ieee.signed s m k).natAbs = m * 2 ^ k := by
  unfold Ieee.signed
  rw [Nat.shiftLeft_eq]
  cases s
  · exact Int.natAbs_natCast _
  · show (-((m * 2 ^ k : Nat) : Int)).natAbs = _
    rw [Int.natAbs_neg]; exact Int.natAbs_natCast _

theorem zero_bits (c : Nat) (hc : c < 4294967296) (h : c % 2147483648 = 0) (hz : c ≠ 2147483648) : c = 0 := by omega

/-- +0 added. -/
theorem addF_zero (c : Nat) (hc : c < 4294967296) (hn : (S.read c).isNaN = false) (hz : c ≠ 2147483648) : addF 0 c = c := by
  unfold addF ar floatBits
  show (S.add 0 c).getD _ = c
  unfold Ieee.Format.add
  have h0 : S.read 0 = .number false 0 (-149) := by decide +kernel
  rw [h0]
  cases hd : S.read c with
  | nan s t => rw [hd] at hn; simp [Ieee.Datum.isNaN] at hn
  | infinity s =>
    show S.write (.infinity s) = c
    rw [read_single] at hd
    split at hd
    · cases hd
    · split at hd
      · cases hd
      · split at hd
        · rename_i h
          injection hd with hd
          show S.word s S.infRung = c
          rw [s_inf, ← h, ← hd, word_read c hc]
        · cases hd
  | number s m e =>
    obtain ⟨k, rfl, h1, h2, h3, h4, h5⟩ := read_form c hd
    simp only [Ieee.Datum.sum, Option.map_some, Option.getD_some]
    have e1 : min (-149 : Int) (-149 + (k : Int)) = -149 := by omega
    have e2 : ((-149 : Int) + (k : Int) - -149).toNat = k := by omega
    have e3 : ((-149 : Int) - -149).toNat = 0 := by omega
    rw [e1, e2, e3]
    have e4 : Ieee.signed false 0 0 = 0 := by decide
    rw [e4, Int.zero_add, signed_natAbs]
    show S.nearest _ _ _ = c
    by_cases hm : m = 0
    · have hk : k = 0 := by omega
      have h0c : c % 2147483648 = 0 := by rw [← h4, hk, hm]
      have hc0 := zero_bits c hc h0c hz
      rw [hc0] at h5
      have hsf : s = false := by rw [h5]; decide +kernel
      have e5 : ∀ j, Ieee.signed false 0 j = 0 := by intro j; simp [Ieee.signed, Nat.shiftLeft_eq]
      rw [hsf, hm, Nat.zero_mul, hc0, e5]
      decide +kernel
    · have hpos : 0 < m * 2 ^ k := Nat.mul_pos (by omega) (Nat.two_pow_pos k)
      have hsg : (if Ieee.signed s m k = 0 then false && s else decide (Ieee.signed s m k < 0)) = s := by
        unfold Ieee.signed
        rw [Nat.shiftLeft_eq]
        cases s
        · have hx : ¬ ((m * 2 ^ k : Nat) : Int) = 0 := by omega
          have hy : ¬ ((m * 2 ^ k : Nat) : Int) < 0 := by omega
          simp only [Bool.false_eq_true, if_false]
          rw [if_neg hx]; exact decide_eq_false hy
        · have hx : ¬ -((m * 2 ^ k : Nat) : Int) = 0 := by omega
          have hy : -((m * 2 ^ k : Nat) : Int) < 0 := by omega
          simp only [if_true]
          rw [if_neg hx]; exact decide_eq_true hy
      rw [hsg, nearest_exact s m k h1 h2 h3, h4, h5, word_read c hc]

/-- A number that is greater than 0 has no sign. -/
theorem gtr_zero {c : Nat} (h : fc .gtr .f32 c 0 = true) : (S.read c).neg = false ∧ (S.read c).isNaN = false ∧ (S.read c).isZero = false := by
  have h1 : (S.read c).order (S.read 0) = some .gt := by
    have h2 : (FloatKind.f32.format.read c).order (FloatKind.f32.format.read 0) = some .gt := by simpa [fc, Ieee.Format.order] using h
    exact h2
  have h0 : S.read 0 = .number false 0 (-149) := by decide +kernel
  rw [h0] at h1
  cases hd : S.read c with
  | nan s t => rw [hd] at h1; simp [Ieee.Datum.order] at h1
  | infinity s =>
    rw [hd] at h1
    cases s
    · exact ⟨rfl, rfl, rfl⟩
    · simp [Ieee.Datum.order] at h1
  | number s m e =>
    rw [hd] at h1
    simp only [Ieee.Datum.order, Option.some.injEq] at h1
    have h2 := Int.compare_eq_gt.1 h1
    have e0 : ∀ k, Ieee.signed false 0 k = 0 := by intro k; simp [Ieee.signed, Nat.shiftLeft_eq]
    rw [e0] at h2
    unfold Ieee.signed at h2
    rw [Nat.shiftLeft_eq] at h2
    have hm : m ≠ 0 := by rintro rfl; cases s <;> simp at h2
    cases s
    · refine ⟨rfl, rfl, ?_⟩
      cases m with
      | zero => exact absurd rfl hm
      | succ n => rfl
    · exfalso
      simp only [if_true] at h2
      have := Int.natCast_nonneg (m * 2 ^ (e - min e (-149)).toNat)
      omega

/-- A quotient of two numbers without a sign, not both zeros or both infinities: no sign, and a number. -/
theorem divF_pos {c d : Nat} (h1 : (S.read c).neg = false) (h2 : (S.read d).neg = false) (h3 : (S.read c).isNaN = false) (h4 : (S.read d).isNaN = false) (h5 : (S.read c).isInfinity = false) (h6 : (S.read d).isZero = false) :
    divF c d < 2147483648 ∧ (S.read (divF c d)).isNaN = false := by
  unfold divF ar floatBits
  show ((S.div c d).getD _) < _ ∧ (S.read ((S.div c d).getD _)).isNaN = false
  unfold Ieee.Format.div
  have key : ∃ z, (S.read c).quotient (S.fractionBits + 2) (S.read d) = some z ∧ z.neg = false ∧ z.isNaN = false := by
    cases hc : S.read c with
    | nan s t => rw [hc] at h3; simp [Ieee.Datum.isNaN] at h3
    | infinity s => rw [hc] at h5; simp [Ieee.Datum.isInfinity] at h5
    | number s m i =>
      rw [hc] at h1
      have hs : s = false := h1
      subst hs
      cases hd : S.read d with
      | nan s t => rw [hd] at h4; simp [Ieee.Datum.isNaN] at h4
      | infinity t =>
        rw [hd] at h2
        have ht : t = false := h2
        subst ht
        exact ⟨_, rfl, rfl, rfl⟩
      | number t n j =>
        rw [hd] at h2 h6
        have ht : t = false := h2
        subst ht
        have hn : n ≠ 0 := by rintro rfl; simp [Ieee.Datum.isZero] at h6
        simp only [Ieee.Datum.quotient, if_neg hn]
        exact ⟨_, rfl, rfl, rfl⟩
  obtain ⟨z, hz, hzn, hza⟩ := key
  rw [hz]
  simp only [Option.map_some, Option.getD_some]
  refine ⟨?_, write_not_nan _ _ hza⟩
  have hw : S.word false S.infRung < 2147483648 := by decide +kernel
  cases z with
  | nan s t => simp [Ieee.Datum.isNaN] at hza
  | infinity s =>
    have hs : s = false := hzn
    subst hs
    exact hw
  | number s m e =>
    have hs : s = false := hzn
    subst hs
    show S.nearest false m e < _
    unfold Ieee.Format.nearest
    have wl : ∀ r, r ≤ 2139095040 → S.word false r < 2147483648 := by
      intro r hr
      unfold Ieee.Format.word
      simp; omega
    split
    · exact wl _ (by omega)
    · exact wl _ (by rw [← s_inf]; exact Nat.min_le_right _ _)

end Go.Proofs.Ytkkomajokdlkeaa

namespace Go.Proofs.Ytkkomajokdlkeaa
set_option linter.unusedSimpArgs false
set_option linter.unusedVariables false
set_option maxRecDepth 100000
set_option maxHeartbeats 4000000
open Go.RowKit

abbrev D := Ieee.double
theorem cut_le (s : Bool) (n drop : Nat) : Ieee.Toward.even.cut s n drop ≤ n / 2 ^ drop + 1 := by
  unfold Ieee.Toward.cut
  have hb : ∀ b : Bool, b.toNat ≤ 1 := fun b => by cases b <;> decide
  dsimp only
  refine Nat.add_le_add ?_ (hb _)
  rw [Nat.one_shiftLeft]
  rcases Nat.lt_or_ge (n.log2 + 2) drop with h | h
  · rw [Nat.min_eq_right (by omega)]
    have h1 : n < 2 ^ (n.log2 + 2) := Nat.lt_of_lt_of_le Nat.lt_log2_self (Nat.pow_le_pow_right (by omega) (by omega))
    rw [Nat.div_eq_of_lt h1]; exact Nat.zero_le _
  · rw [Nat.min_eq_left (by omega)]; exact Nat.le_refl _
theorem shl_div_lt (m a b k : Nat) (hm : m ≠ 0) (hab : a = 0 ∨ b = 0) (h : m.log2 + a ≤ k + b) : (m <<< a) / 2 ^ b < 2 ^ (k + 1) := by
  rw [Nat.shiftLeft_eq]
  have h1 : m < 2 ^ (m.log2 + 1) := Nat.lt_log2_self
  rw [Nat.div_lt_iff_lt_mul (Nat.two_pow_pos _), ← Nat.pow_add]
  rcases hab with rfl | rfl
  · rw [Nat.pow_zero, Nat.mul_one]
    exact Nat.lt_of_lt_of_le h1 (Nat.pow_le_pow_right (by omega) (by omega))
  · refine Nat.lt_of_lt_of_le (Nat.mul_lt_mul_of_pos_right h1 (Nat.two_pow_pos _)) ?_
    rw [← Nat.pow_add]
    exact Nat.pow_le_pow_right (by omega) (by omega)
/-- How great the nearest word is at most. -/
theorem nearest_le (f : Ieee.Format) (s : Bool) (m : Nat) (p L : Int) (h1 : p + (m.log2 : Int) - (f.fractionBits : Int) ≤ L) (h2 : f.leastPlace ≤ L) :
    ∃ r, r ≤ ((L - f.leastPlace).toNat + 2) * f.binade ∧ r ≤ f.infRung ∧ f.nearest s m p = f.word s r := by
  unfold Ieee.Format.nearest
  by_cases h0 : m = 0
  · rw [if_pos h0]; exact ⟨0, Nat.zero_le _, Nat.zero_le _, rfl⟩
  · rw [if_neg h0]
    dsimp only
    refine ⟨_, ?_, Nat.min_le_right _ _, rfl⟩
    refine Nat.le_trans (Nat.min_le_left _ _) ?_
    generalize hl : max (p + (m.log2 : Int) - (f.fractionBits : Int)) f.leastPlace = last
    have h3 : last ≤ L := by omega
    have h4 : f.leastPlace ≤ last := by omega
    have h5 : p + (m.log2 : Int) - (f.fractionBits : Int) ≤ last := by omega
    have hk : Ieee.Toward.even.cut s (m <<< (p - last).toNat) (last - p).toNat ≤ 2 * f.binade := by
      refine Nat.le_trans (cut_le _ _ _) ?_
      have := shl_div_lt m (p - last).toNat (last - p).toNat f.fractionBits h0 (by omega) (by omega)
      unfold Ieee.Format.binade
      rw [Nat.pow_succ] at this
      omega
    have h6 : (last - f.leastPlace).toNat * f.binade ≤ (L - f.leastPlace).toNat * f.binade := Nat.mul_le_mul_right _ (by omega)
    rw [Nat.add_mul]
    omega
theorem read_word (f : Ieee.Format) (s : Bool) (r : Nat) (h : r < f.infRung) {t : Bool} {m : Nat} {e : Int} (hb : f.binade ≤ f.infRung) (hd : f.read (f.word s r) = .number t m e) :
    m < 2 * f.binade ∧ e ≤ f.leastPlace + ((r / f.binade - 1 : Nat) : Int) ∧ f.leastPlace ≤ e := by
  have hbp : 0 < f.binade := Nat.two_pow_pos _
  unfold Ieee.Format.read at hd
  dsimp only at hd
  rw [word_mod f s (Nat.lt_trans h f.infRung_lt)] at hd
  by_cases h1 : r < f.binade
  · rw [if_pos h1] at hd
    injection hd with _ h3 h4
    omega
  · rw [if_neg h1, if_pos h] at hd
    injection hd with _ h3 h4
    have := Nat.mod_lt r hbp
    omega
theorem rootFrom_sq (n todo root : Nat) (h : root * root ≤ n) : Ieee.Datum.rootFrom n todo root * Ieee.Datum.rootFrom n todo root ≤ n := by
  induction todo generalizing root with
  | zero => exact h
  | succ k ih =>
    unfold Ieee.Datum.rootFrom
    dsimp only
    split
    · rename_i h1; exact ih _ h1
    · exact ih _ h

/-- The root of a float64. -/
def sqD (c : Nat) : Nat := (D.sqrt c).getD (qnan .f64)
/-- A float64 made narrow. -/
def nwD (c : Nat) : Nat := if (D.read c).isNaN then qnan .f32 else S.write (D.read c)
/-- The root of a float32. -/
def rootF (c : Nat) : Nat := nwD (sqD (wd c))
/-- What is not too great to be made narrow. -/
def nwOk (c : Nat) : Prop := (D.read c).isNaN = true ∨ (D.read c).isInfinity = true ∨ (S.read (S.write (D.read c))).isInfinity = false

theorem d_binade_le : D.binade ≤ D.infRung := by decide +kernel
theorem s_binade_le : S.binade ≤ S.infRung := by decide +kernel
/-- A number below 2 to the power of 65 can be made narrow. -/
theorem nwOk_of {s : Bool} {r : Nat} (h : r ≤ 1088 * 4503599627370496) : nwOk (D.word s r) := by
  have hr : r < D.infRung := by rw [d_inf]; omega
  cases hd : D.read (D.word s r) with
  | nan a b => exact .inl (by rw [hd]; rfl)
  | infinity a => exact .inr (.inl (by rw [hd]; rfl))
  | number t m e =>
    refine .inr (.inr ?_)
    rw [hd]
    obtain ⟨h1, h2, h3⟩ := read_word D s r hr d_binade_le hd
    rw [d_binade] at h1 h2
    rw [d_least] at h2 h3
    have h4 : r / 4503599627370496 ≤ 1088 := by omega
    have hml : m.log2 ≤ 52 := by
      by_cases hm : m = 0
      · subst hm; decide
      · have := (Nat.log2_lt hm).2 (show m < 2 ^ 53 by omega); omega
    have hf : (S.fractionBits : Int) = 23 := by decide +kernel
    obtain ⟨q, hq1, hq2, hq3⟩ := nearest_le S t m e 42 (by rw [hf]; omega) (by rw [s_least]; omega)
    show (S.read (S.nearest t m e)).isInfinity = false
    rw [hq3]
    refine read_word_inf S s_binade_le t ?_
    rw [s_least, s_binade] at hq1
    rw [s_inf]
    have h5 : ((42 : Int) - -149).toNat = 191 := by decide
    rw [h5] at hq1
    omega
theorem word_zero_ok (s : Bool) : nwOk (D.word s 0) := nwOk_of (by omega)
theorem root_ok (c : Nat) : nwOk (sqD (wd c)) := by
  unfold sqD
  cases hn : (S.read c).isNaN with
  | true =>
    have e : wd c = qnan .f64 := by unfold wd; rw [if_pos hn]
    rw [e]
    exact .inl (by decide +kernel)
  | false =>
    have e : wd c = D.write (S.read c) := by unfold wd; rw [if_neg (by simp [hn])]
    rw [e]
    unfold Ieee.Format.sqrt
    have key : ∀ s m i, D.read (D.write (S.read c)) = .number s m i → m < 9007199254740992 ∧ i ≤ 76 := by
      intro s m i hd
      cases hc : S.read c with
      | nan a b => rw [hc] at hn; simp [Ieee.Datum.isNaN] at hn
      | infinity a =>
        rw [hc] at hd
        have : D.read (D.write (.infinity a)) = .infinity a := by cases a <;> decide +kernel
        rw [this] at hd; cases hd
      | number s' m' e' =>
        rw [hc] at hd
        obtain ⟨h1, h2, h3⟩ := single_range c hc
        have hml : m'.log2 ≤ 23 := by
          by_cases hm : m' = 0
          · subst hm; decide
          · have := (Nat.log2_lt hm).2 (show m' < 2 ^ 24 by omega); omega
        have hf : (D.fractionBits : Int) = 52 := by decide +kernel
        obtain ⟨r, hr1, hr2, hr3⟩ := nearest_le D s' m' e' 75 (by rw [hf]; omega) (by rw [d_least]; omega)
        have hd' : D.read (D.nearest s' m' e') = .number s m i := hd
        rw [hr3] at hd'
        rw [d_least, d_binade] at hr1
        have h5 : ((75 : Int) - -1074).toNat = 1149 := by decide
        rw [h5] at hr1
        have hri : r < D.infRung := by rw [d_inf]; omega
        obtain ⟨g1, g2, g3⟩ := read_word D s' r hri d_binade_le hd'
        rw [d_binade] at g1 g2
        rw [d_least] at g2
        omega
    cases hd : D.read (D.write (S.read c)) with
    | nan a b => exact .inl (by show (D.read (qnan .f64)).isNaN = true; decide +kernel)
    | infinity a =>
      cases a
      · exact .inr (.inl (by show (D.read (D.write (.infinity false))).isInfinity = true; decide +kernel))
      · exact .inl (by show (D.read (qnan .f64)).isNaN = true; decide +kernel)
    | number s m i =>
      obtain ⟨h1, h2⟩ := key s m i hd
      unfold Ieee.Datum.root
      dsimp only
      by_cases hm : m = 0
      · rw [if_pos hm]
        subst hm
        show nwOk (D.nearest s 0 i)
        have : D.nearest s 0 i = D.word s 0 := by simp [Ieee.Format.nearest]
        rw [this]; exact word_zero_ok s
      · rw [if_neg hm]
        cases s
        · simp only [Bool.false_eq_true, if_false, Option.map_some, Option.getD_some]
          show nwOk (D.nearest _ _ _)
          have hml : m.log2 ≤ 52 := by have := (Nat.log2_lt hm).2 (show m < 2 ^ 53 by omega); omega
          have hdig : 2 * (D.fractionBits + 2) - m.log2 = 108 - m.log2 := by rfl
          rw [hdig]
          generalize hmore : 108 - m.log2 + ((i - ((108 - m.log2 : Nat) : Int)) % 2).toNat = more
          have hb1 : 56 ≤ more := by omega
          have hb2 : more + m.log2 ≤ 109 := by omega
          generalize hn' : m <<< more = n
          have hnlt : n < 2 ^ 110 := by
            rw [← hn', Nat.shiftLeft_eq]
            have h3 : m < 2 ^ (m.log2 + 1) := Nat.lt_log2_self
            refine Nat.lt_of_lt_of_le (Nat.mul_lt_mul_of_pos_right h3 (Nat.two_pow_pos _)) ?_
            rw [← Nat.pow_add]
            exact Nat.pow_le_pow_right (by omega) (by omega)
          have hsq := rootFrom_sq n (n.log2 / 2 + 1) 0 (Nat.zero_le _)
          generalize Ieee.Datum.rootFrom n (n.log2 / 2 + 1) 0 = whole at hsq ⊢
          have hw : whole < 2 ^ 55 := by
            rcases Nat.lt_or_ge whole (2 ^ 55) with h | h
            · exact h
            · exfalso
              have := Nat.mul_le_mul h h
              rw [← Nat.pow_add] at this
              omega
          have hbb : (whole * whole != n).toNat ≤ 1 := by cases (whole * whole != n) <;> decide
          generalize (whole * whole != n).toNat = bit at hbb ⊢
          have hmag : (2 * whole + bit).log2 ≤ 55 := by
            by_cases h0 : 2 * whole + bit = 0
            · rw [h0]; decide
            · have := (Nat.log2_lt h0).2 (show 2 * whole + bit < 2 ^ 56 by omega); omega
          have hf : (D.fractionBits : Int) = 52 := by decide +kernel
          obtain ⟨r, hr1, hr2, hr3⟩ := nearest_le D false (2 * whole + bit) ((i - (more : Int)) / 2 - 1) 12 (by rw [hf]; omega) (by rw [d_least]; omega)
          rw [hr3]
          rw [d_least, d_binade] at hr1
          have h5 : ((12 : Int) - -1074).toNat = 1086 := by decide
          rw [h5] at hr1
          exact nwOk_of (by omega)
        · exact .inl (by show (D.read (qnan .f64)).isNaN = true; decide +kernel)

end Go.Proofs.Ytkkomajokdlkeaa

namespace Go.Proofs.Ytkkomajokdlkeaa
set_option linter.unusedSimpArgs false
set_option linter.unusedVariables false
set_option maxRecDepth 100000
set_option maxHeartbeats 4000000
open Go.RowKit

/-- The number, but +0 for -0. -/
def zs (c : Nat) : Nat := if c = 2147483648 then 0 else c
theorem zs_zs (c : Nat) : zs (zs c) = zs c := by
  unfold zs
  by_cases h : c = 2147483648 <;> simp [h]
theorem zs_ne (c : Nat) : zs c ≠ 2147483648 := by
  unfold zs
  split
  · decide
  · assumption

/-- Data that are one up to the sign of zero. -/
def dz (x y : Ieee.Datum) : Prop := x = y ∨ ∃ s t i, x = .number s 0 i ∧ y = .number t 0 i
def oz : Option Ieee.Datum → Option Ieee.Datum → Prop
  | none, none => True
  | some x, some y => dz x y
  | _, _ => False
theorem oz_refl (x : Option Ieee.Datum) : oz x x := by
  cases x
  · trivial
  · exact .inl rfl
theorem read_zs (c : Nat) : dz (S.read c) (S.read (zs c)) := by
  unfold zs
  split
  · rename_i h
    subst h
    exact .inr ⟨true, false, -149, by decide +kernel, by decide +kernel⟩
  · exact .inl rfl
theorem word_zero (s : Bool) : zs (S.word s 0) = 0 := by cases s <;> decide +kernel
theorem write_dz {x y : Ieee.Datum} (h : dz x y) : zs (S.write x) = zs (S.write y) := by
  rcases h with rfl | ⟨s, t, i, rfl, rfl⟩
  · rfl
  · have e : ∀ s i, S.write (.number s 0 i) = S.word s 0 := by intro s i; simp [Ieee.Format.write, Ieee.Format.nearest]
    rw [e, e, word_zero, word_zero]
theorem getD_oz {x y : Option Ieee.Datum} (h : oz x y) : zs ((x.map S.write).getD (qnan .f32)) = zs ((y.map S.write).getD (qnan .f32)) := by
  cases x <;> cases y <;> first | rfl | (exact h.elim) | exact write_dz h
theorem signed_zero (s : Bool) (k : Nat) : Ieee.signed s 0 k = 0 := by cases s <;> simp [Ieee.signed, Nat.shiftLeft_eq]

theorem sum_dz_l {x x' : Ieee.Datum} (h : dz x x') (y : Ieee.Datum) : oz (x.sum y) (x'.sum y) := by
  rcases h with rfl | ⟨s, t, i, rfl, rfl⟩
  · exact oz_refl _
  · cases y with
    | nan a b => exact trivial
    | infinity a => exact .inl rfl
    | number u n k =>
      show dz _ _
      simp only [signed_zero, Int.zero_add]
      by_cases hT : Ieee.signed u n (k - min i k).toNat = 0
      · rw [if_pos hT, if_pos hT, hT]
        exact .inr ⟨_, _, _, rfl, rfl⟩
      · rw [if_neg hT, if_neg hT]
        exact .inl rfl
theorem sum_comm' (x y : Ieee.Datum) : x.sum y = y.sum x := by
  cases x <;> cases y <;> simp only [Ieee.Datum.sum]
  · rename_i s m i t n j
    rw [Int.min_comm i j, Int.add_comm, Bool.and_comm]
  · rename_i s t
    by_cases h : s = t
    · subst h; rfl
    · rw [if_neg h, if_neg (Ne.symm h)]
theorem sum_dz {x x' y y' : Ieee.Datum} (h : dz x x') (h' : dz y y') : oz (x.sum y) (x'.sum y') := by
  have h1 := sum_dz_l h y
  have h2 := sum_dz_l h' x'
  rw [sum_comm' y x', sum_comm' y' x'] at h2
  cases a : x.sum y <;> cases b : x'.sum y <;> cases c : x'.sum y' <;> rw [a, b] at h1 <;> rw [b, c] at h2 <;> first | exact trivial | exact h1.elim | exact h2.elim | skip
  rcases h1 with e1 | ⟨s, t, i, e1, e2⟩
  · rw [e1]; exact h2
  · rcases h2 with e3 | ⟨s', t', i', e3, e4⟩
    · rw [← e3]; exact .inr ⟨s, t, i, e1, e2⟩
    · rw [e2] at e3
      injection e3 with _ _ e5
      exact .inr ⟨s, t', i, e1, by rw [e4, e5]⟩
theorem product_dz_l {x x' : Ieee.Datum} (h : dz x x') (y : Ieee.Datum) : oz (x.product y) (x'.product y) := by
  rcases h with rfl | ⟨s, t, i, rfl, rfl⟩
  · exact oz_refl _
  · cases y with
    | nan a b => exact trivial
    | infinity a => exact trivial
    | number u n k =>
      show dz _ _
      simp only [Nat.zero_mul]
      exact .inr ⟨_, _, _, rfl, rfl⟩
theorem addF_zs (a b : Nat) : zs (addF a b) = zs (addF (zs a) (zs b)) := by
  unfold addF ar floatBits
  exact getD_oz (sum_dz (read_zs a) (read_zs b))
theorem mulF_zs_l (a b : Nat) : zs (mulF a b) = zs (mulF (zs a) b) := by
  unfold mulF ar floatBits
  exact getD_oz (product_dz_l (read_zs a) (S.read b))

/-- What is not 0 at a place of the format's or above it is not rounded to 0. -/
theorem nearest_pos (s : Bool) (m : Nat) (p : Int) (hm : m ≠ 0) (hp : -149 ≤ p) : ∃ r, 0 < r ∧ r ≤ 2139095040 ∧ S.nearest s m p = S.word s r := by
  unfold Ieee.Format.nearest
  rw [if_neg hm]
  refine ⟨_, ?_, ?_, rfl⟩
  · have hf : S.fractionBits = 23 := rfl
    rw [s_least, s_binade, s_inf, hf]
    generalize hl : max (p + ((m.log2 : Nat) : Int) - ((23 : Nat) : Int)) (-149) = last
    have h1 : -149 ≤ last := by omega
    by_cases h2 : last = -149
    · subst h2
      have h3 : ((-149 : Int) - p).toNat = 0 := by omega
      rw [h3, cut_zero, Nat.shiftLeft_eq]
      have := Nat.mul_pos (Nat.pos_of_ne_zero hm) (Nat.two_pow_pos (p - -149).toNat)
      omega
    · have h3 : 1 ≤ (last - -149).toNat := by omega
      have : 8388608 ≤ (last - -149).toNat * 8388608 := by omega
      omega
  · rw [← s_inf]; exact Nat.min_le_right _ _
theorem word_ne_neg0 (s : Bool) {r : Nat} (h : 0 < r) (h' : r ≤ 2139095040) : S.word s r ≠ 2147483648 := by
  unfold Ieee.Format.word
  rw [s_weight]
  split <;> omega
/-- A sum is -0 only of two such. -/
theorem addF_ne_neg0 {a b : Nat} (ha : a < 4294967296) (h : a ≠ 2147483648) : addF a b ≠ 2147483648 := by
  unfold addF ar floatBits
  show (S.add a b).getD _ ≠ _
  unfold Ieee.Format.add
  cases hx : (S.read a).sum (S.read b) with
  | none => show qnan .f32 ≠ _; decide
  | some z =>
    show S.write z ≠ _
    cases z with
    | nan s t => exact absurd (sum_not_nan hx) (by simp [Ieee.Datum.isNaN])
    | infinity s => show S.word s S.infRung ≠ _; rw [s_inf]; exact word_ne_neg0 s (by omega) (by omega)
    | number s m e =>
      cases hA : S.read a with
      | nan s t => rw [hA] at hx; simp [Ieee.Datum.sum] at hx
      | infinity s1 => rw [hA] at hx; cases hB : S.read b <;> rw [hB] at hx <;> simp [Ieee.Datum.sum] at hx
      | number s1 m1 e1 =>
        cases hB : S.read b with
        | nan s t => rw [hA, hB] at hx; simp [Ieee.Datum.sum] at hx
        | infinity s2 => rw [hA, hB] at hx; simp [Ieee.Datum.sum] at hx
        | number s2 m2 e2 =>
          rw [hA, hB] at hx
          simp only [Ieee.Datum.sum, Option.some.injEq, Ieee.Datum.number.injEq] at hx
          obtain ⟨hs, hm, he⟩ := hx
          have r1 := single_range a hA
          have r2 := single_range b hB
          have hp : -149 ≤ e := by omega
          show S.nearest s m e ≠ _
          by_cases hm0 : m = 0
          · subst hm0
            have ht : Ieee.signed s1 m1 (e1 - min e1 e2).toNat + Ieee.signed s2 m2 (e2 - min e1 e2).toNat = 0 := by omega
            rw [if_pos ht] at hs
            have e0 : S.nearest s 0 e = S.word s 0 := by simp [Ieee.Format.nearest]
            rw [e0]
            cases s with
            | false => decide +kernel
            | true =>
              exfalso
              simp only [Bool.and_eq_true] at hs
              obtain ⟨h1, h2⟩ := hs
              subst h1 h2
              unfold Ieee.signed at ht
              simp only [if_true] at ht
              simp only [Nat.shiftLeft_eq] at ht
              have hz : m1 * 2 ^ (e1 - min e1 e2).toNat = 0 := by
                generalize m1 * 2 ^ (e1 - min e1 e2).toNat = A at ht
                generalize m2 * 2 ^ (e2 - min e1 e2).toNat = B at ht
                omega
              have hm1 : m1 = 0 := by
                rcases Nat.mul_eq_zero.1 hz with h | h
                · exact h
                · exact absurd h (by have := Nat.two_pow_pos (e1 - min e1 e2).toNat; omega)
              obtain ⟨k, _, _, h3, _, h4, h5⟩ := read_form a hA
              have hk : k = 0 := by omega
              have h6 : a / 2147483648 % 2 = 1 := by simpa using h5.symm
              omega
          · obtain ⟨r, h1, h2, h3⟩ := nearest_pos s m e hm0 hp
            rw [h3]; exact word_ne_neg0 s h1 h2
theorem zs_eq {a b : Nat} (h : zs a = zs b) (ha : a ≠ 2147483648) (hb : b ≠ 2147483648) : a = b := by
  unfold zs at h
  rwa [if_neg ha, if_neg hb] at h
theorem ar_lt (op : BinOp) (x y : Nat) : ar op .f32 x y < 4294967296 := by
  unfold ar
  cases h : floatBits op .f32 x y with
  | none => show qnan .f32 < _; decide
  | some r =>
    have := floatBits_wf h
    simpa [Lit.wf] using this

end Go.Proofs.Ytkkomajokdlkeaa
