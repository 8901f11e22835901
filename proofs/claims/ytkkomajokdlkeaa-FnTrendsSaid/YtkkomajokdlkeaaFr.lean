/- The square root of a float32, by way of float64. Plain: no program. -/
import Derived.Test.YtkkomajokdlkeaaFx
namespace Go.Proofs.Ytkkomajokdlkeaa
set_option linter.unusedSimpArgs false
set_option linter.unusedVariables false
set_option maxRecDepth 100000
set_option maxHeartbeats 4000000
open Go.RowKit

abbrev D := Ieee.double
theorem cut_le (s : Bool) (n drop : Nat) : Ieee.Toward.even.cut s n drop ≤ n / 2 ^ drop + 1 := by
  unfold Ieee.Toward.cut
  have hb : ∀ b : Bool, b.toNat ≤ 1 := fun b => by cases b <;> decide
  dsimp only
  refine Nat.add_le_add ?_ (hb _)
  rw [Nat.one_shiftLeft]
  rcases Nat.lt_or_ge (n.log2 + 2) drop with h | h
  · rw [Nat.min_eq_right (by omega)]
    have h1 : n < 2 ^ (n.log2 + 2) := Nat.lt_of_lt_of_le Nat.lt_log2_self (Nat.pow_le_pow_right (by omega) (by omega))
    rw [Nat.div_eq_of_lt h1]; exact Nat.zero_le _
  · rw [Nat.min_eq_left (by omega)]; exact Nat.le_refl _
theorem shl_div_lt (m a b k : Nat) (hm : m ≠ 0) (hab : a = 0 ∨ b = 0) (h : m.log2 + a ≤ k + b) : (m <<< a) / 2 ^ b < 2 ^ (k + 1) := by
  rw [Nat.shiftLeft_eq]
  have h1 : m < 2 ^ (m.log2 + 1) := Nat.lt_log2_self
  rw [Nat.div_lt_iff_lt_mul (Nat.two_pow_pos _), ← Nat.pow_add]
  rcases hab with rfl | rfl
  · rw [Nat.pow_zero, Nat.mul_one]
    exact Nat.lt_of_lt_of_le h1 (Nat.pow_le_pow_right (by omega) (by omega))
  · refine Nat.lt_of_lt_of_le (Nat.mul_lt_mul_of_pos_right h1 (Nat.two_pow_pos _)) ?_
    rw [← Nat.pow_add]
    exact Nat.pow_le_pow_right (by omega) (by omega)
/-- How great the nearest word is at most. -/
theorem nearest_le (f : Ieee.Format) (s : Bool) (m : Nat) (p L : Int) (h1 : p + (m.log2 : Int) - (f.fractionBits : Int) ≤ L) (h2 : f.leastPlace ≤ L) :
    ∃ r, r ≤ ((L - f.leastPlace).toNat + 2) * f.binade ∧ r ≤ f.infRung ∧ f.nearest s m p = f.word s r := by
  unfold Ieee.Format.nearest
  by_cases h0 : m = 0
  · rw [if_pos h0]; exact ⟨0, Nat.zero_le _, Nat.zero_le _, rfl⟩
  · rw [if_neg h0]
    dsimp only
    refine ⟨_, ?_, Nat.min_le_right _ _, rfl⟩
    refine Nat.le_trans (Nat.min_le_left _ _) ?_
    generalize hl : max (p + (m.log2 : Int) - (f.fractionBits : Int)) f.leastPlace = last
    have h3 : last ≤ L := by omega
    have h4 : f.leastPlace ≤ last := by omega
    have h5 : p + (m.log2 : Int) - (f.fractionBits : Int) ≤ last := by omega
    have hk : Ieee.Toward.even.cut s (m <<< (p - last).toNat) (last - p).toNat ≤ 2 * f.binade := by
      refine Nat.le_trans (cut_le _ _ _) ?_
      have := shl_div_lt m (p - last).toNat (last - p).toNat f.fractionBits h0 (by omega) (by omega)
      unfold Ieee.Format.binade
      rw [Nat.pow_succ] at this
      omega
    have h6 : (last - f.leastPlace).toNat * f.binade ≤ (L - f.leastPlace).toNat * f.binade := Nat.mul_le_mul_right _ (by omega)
    rw [Nat.add_mul]
    omega
theorem read_word (f : Ieee.Format) (s : Bool) (r : Nat) (h : r < f.infRung) {t : Bool} {m : Nat} {e : Int} (hb : f.binade ≤ f.infRung) (hd : f.read (f.word s r) = .number t m e) :
    m < 2 * f.binade ∧ e ≤ f.leastPlace + ((r / f.binade - 1 : Nat) : Int) ∧ f.leastPlace ≤ e := by
  have hbp : 0 < f.binade := Nat.two_pow_pos _
  unfold Ieee.Format.read at hd
  dsimp only at hd
  rw [word_mod f s (Nat.lt_trans h f.infRung_lt)] at hd
  by_cases h1 : r < f.binade
  · rw [if_pos h1] at hd
    injection hd with _ h3 h4
    omega
  · rw [if_neg h1, if_pos h] at hd
    injection hd with _ h3 h4
    have := Nat.mod_lt r hbp
    omega
theorem rootFrom_sq (n todo root : Nat) (h : root * root ≤ n) : Ieee.Datum.rootFrom n todo root * Ieee.Datum.rootFrom n todo root ≤ n := by
  induction todo generalizing root with
  | zero => exact h
  | succ k ih =>
    unfold Ieee.Datum.rootFrom
    dsimp only
    split
    · rename_i h1; exact ih _ h1
    · exact ih _ h

/-- The root of a float64. -/
def sqD (c : Nat) : Nat := (D.sqrt c).getD (qnan .f64)
/-- A float64 made narrow. -/
def nwD (c : Nat) : Nat := if (D.read c).isNaN then qnan .f32 else S.write (D.read c)
/-- The root of a float32. -/
def rootF (c : Nat) : Nat := nwD (sqD (wd c))
/-- What is not too great to be made narrow. -/
def nwOk (c : Nat) : Prop := (D.read c).isNaN = true ∨ (D.read c).isInfinity = true ∨ (S.read (S.write (D.read c))).isInfinity = false

theorem d_binade_le : D.binade ≤ D.infRung := by decide +kernel
theorem s_binade_le : S.binade ≤ S.infRung := by decide +kernel
/-- A number below 2 to the power of 65 can be made narrow. -/
theorem nwOk_of {s : Bool} {r : Nat} (h : r ≤ 1088 * 4503599627370496) : nwOk (D.word s r) := by
  have hr : r < D.infRung := by rw [d_inf]; omega
  cases hd : D.read (D.word s r) with
  | nan a b => exact .inl (by rw [hd]; rfl)
  | infinity a => exact .inr (.inl (by rw [hd]; rfl))
  | number t m e =>
    refine .inr (.inr ?_)
    rw [hd]
    obtain ⟨h1, h2, h3⟩ := read_word D s r hr d_binade_le hd
    rw [d_binade] at h1 h2
    rw [d_least] at h2 h3
    have h4 : r / 4503599627370496 ≤ 1088 := by omega
    have hml : m.log2 ≤ 52 := by
      by_cases hm : m = 0
      · subst hm; decide
      · have := (Nat.log2_lt hm).2 (show m < 2 ^ 53 by omega); omega
    have hf : (S.fractionBits : Int) = 23 := by decide +kernel
    obtain ⟨q, hq1, hq2, hq3⟩ := nearest_le S t m e 42 (by rw [hf]; omega) (by rw [s_least]; omega)
    show (S.read (S.nearest t m e)).isInfinity = false
    rw [hq3]
    refine read_word_inf S s_binade_le t ?_
    rw [s_least, s_binade] at hq1
    rw [s_inf]
    have h5 : ((42 : Int) - -149).toNat = 191 := by decide
    rw [h5] at hq1
    omega
theorem word_zero_ok (s : Bool) : nwOk (D.word s 0) := nwOk_of (by omega)
theorem root_ok (c : Nat) : nwOk (sqD (wd c)) := by
  unfold sqD
  cases hn : (S.read c).isNaN with
  | true =>
    have e : wd c = qnan .f64 := by unfold wd; rw [if_pos hn]
    rw [e]
    exact .inl (by decide +kernel)
  | false =>
    have e : wd c = D.write (S.read c) := by unfold wd; rw [if_neg (by simp [hn])]
    rw [e]
    unfold Ieee.Format.sqrt
    have key : ∀ s m i, D.read (D.write (S.read c)) = .number s m i → m < 9007199254740992 ∧ i ≤ 76 := by
      intro s m i hd
      cases hc : S.read c with
      | nan a b => rw [hc] at hn; simp [Ieee.Datum.isNaN] at hn
      | infinity a =>
        rw [hc] at hd
        have : D.read (D.write (.infinity a)) = .infinity a := by cases a <;> decide +kernel
        rw [this] at hd; cases hd
      | number s' m' e' =>
        rw [hc] at hd
        obtain ⟨h1, h2, h3⟩ := single_range c hc
        have hml : m'.log2 ≤ 23 := by
          by_cases hm : m' = 0
          · subst hm; decide
          · have := (Nat.log2_lt hm).2 (show m' < 2 ^ 24 by omega); omega
        have hf : (D.fractionBits : Int) = 52 := by decide +kernel
        obtain ⟨r, hr1, hr2, hr3⟩ := nearest_le D s' m' e' 75 (by rw [hf]; omega) (by rw [d_least]; omega)
        have hd' : D.read (D.nearest s' m' e') = .number s m i := hd
        rw [hr3] at hd'
        rw [d_least, d_binade] at hr1
        have h5 : ((75 : Int) - -1074).toNat = 1149 := by decide
        rw [h5] at hr1
        have hri : r < D.infRung := by rw [d_inf]; omega
        obtain ⟨g1, g2, g3⟩ := read_word D s' r hri d_binade_le hd'
        rw [d_binade] at g1 g2
        rw [d_least] at g2
        omega
    cases hd : D.read (D.write (S.read c)) with
    | nan a b => exact .inl (by show (D.read (qnan .f64)).isNaN = true; decide +kernel)
    | infinity a =>
      cases a
      · exact .inr (.inl (by show (D.read (D.write (.infinity false))).isInfinity = true; decide +kernel))
      · exact .inl (by show (D.read (qnan .f64)).isNaN = true; decide +kernel)
    | number s m i =>
      obtain ⟨h1, h2⟩ := key s m i hd
      unfold Ieee.Datum.root
      dsimp only
      by_cases hm : m = 0
      · rw [if_pos hm]
        subst hm
        show nwOk (D.nearest s 0 i)
        have : D.nearest s 0 i = D.word s 0 := by simp [Ieee.Format.nearest]
        rw [this]; exact word_zero_ok s
      · rw [if_neg hm]
        cases s
        · simp only [Bool.false_eq_true, if_false, Option.map_some, Option.getD_some]
          show nwOk (D.nearest _ _ _)
          have hml : m.log2 ≤ 52 := by have := (Nat.log2_lt hm).2 (show m < 2 ^ 53 by omega); omega
          have hdig : 2 * (D.fractionBits + 2) - m.log2 = 108 - m.log2 := by rfl
          rw [hdig]
          generalize hmore : 108 - m.log2 + ((i - ((108 - m.log2 : Nat) : Int)) % 2).toNat = more
          have hb1 : 56 ≤ more := by omega
          have hb2 : more + m.log2 ≤ 109 := by omega
          generalize hn' : m <<< more = n
          have hnlt : n < 2 ^ 110 := by
            rw [← hn', Nat.shiftLeft_eq]
            have h3 : m < 2 ^ (m.log2 + 1) := Nat.lt_log2_self
            refine Nat.lt_of_lt_of_le (Nat.mul_lt_mul_of_pos_right h3 (Nat.two_pow_pos _)) ?_
            rw [← Nat.pow_add]
            exact Nat.pow_le_pow_right (by omega) (by omega)
          have hsq := rootFrom_sq n (n.log2 / 2 + 1) 0 (Nat.zero_le _)
          generalize Ieee.Datum.rootFrom n (n.log2 / 2 + 1) 0 = whole at hsq ⊢
          have hw : whole < 2 ^ 55 := by
            rcases Nat.lt_or_ge whole (2 ^ 55) with h | h
            · exact h
            · exfalso
              have := Nat.mul_le_mul h h
              rw [← Nat.pow_add] at this
              omega
          have hbb : (whole * whole != n).toNat ≤ 1 := by cases (whole * whole != n) <;> decide
          generalize (whole * whole != n).toNat = bit at hbb ⊢
          have hmag : (2 * whole + bit).log2 ≤ 55 := by
            by_cases h0 : 2 * whole + bit = 0
            · rw [h0]; decide
            · have := (Nat.log2_lt h0).2 (show 2 * whole + bit < 2 ^ 56 by omega); omega
          have hf : (D.fractionBits : Int) = 52 := by decide +kernel
          obtain ⟨r, hr1, hr2, hr3⟩ := nearest_le D false (2 * whole + bit) ((i - (more : Int)) / 2 - 1) 12 (by rw [hf]; omega) (by rw [d_least]; omega)
          rw [hr3]
          rw [d_least, d_binade] at hr1
          have h5 : ((12 : Int) - -1074).toNat = 1086 := by decide
          rw [h5] at hr1
          exact nwOk_of (by omega)
        · exact .inl (by show (D.read (qnan .f64)).isNaN = true; decide +kernel)

end Go.Proofs.Ytkkomajokdlkeaa
