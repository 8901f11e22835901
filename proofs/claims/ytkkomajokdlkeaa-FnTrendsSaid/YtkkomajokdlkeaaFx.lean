/- Exact results of float32 arithmetic; zero added; signs. Plain: no program. -/
import Derived.Test.YtkkomajokdlkeaaFb
namespace Go.Proofs.Ytkkomajokdlkeaa
set_option linter.unusedSimpArgs false
set_option linter.unusedVariables false
set_option maxRecDepth 100000
set_option maxHeartbeats 4000000
open Go.RowKit

theorem log2_eq {m k : Nat} (h1 : 2 ^ k ≤ m) (h2 : m < 2 ^ (k + 1)) : m.log2 = k := by
  have h0 : m ≠ 0 := by have := Nat.two_pow_pos k; omega
  have a := (Nat.log2_lt h0).2 h2
  have b := (Nat.le_log2 h0).2 h1
  omega

theorem cut_exact (s : Bool) (m k : Nat) (hm : m ≠ 0) (hk : k ≤ (m * 2 ^ k).log2 + 2) : Ieee.Toward.even.cut s (m * 2 ^ k) k = m := by
  unfold Ieee.Toward.cut
  rw [Nat.min_eq_left hk]
  have e : (1 <<< k) = 2 ^ k := by rw [Nat.shiftLeft_eq, Nat.one_mul]
  simp only [e, Nat.mul_div_cancel _ (Nat.two_pow_pos k), Nat.mul_mod_left]
  simp

/-- A number of the format, written: its rung. -/
theorem nearest_exact (s : Bool) (m k : Nat) (hm : m < 16777216) (hk : k = 0 ∨ 8388608 ≤ m) (hi : k ≤ 253) : S.nearest s (m * 2 ^ k) (-149) = S.word s (k * 8388608 + m) := by
  unfold Ieee.Format.nearest
  by_cases h0 : m = 0
  · subst h0
    have : k = 0 := by omega
    subst this
    simp
  · have hne : m * 2 ^ k ≠ 0 := Nat.mul_ne_zero h0 (Nat.ne_of_gt (Nat.two_pow_pos k))
    rw [if_neg hne]
    have hf : (S.fractionBits : Int) = 23 := by decide +kernel
    simp only [s_least, s_binade, s_inf, hf]
    by_cases hn : 8388608 ≤ m
    · have hl : (m * 2 ^ k).log2 = 23 + k := by
        refine log2_eq ?_ ?_
        · rw [Nat.pow_add]; exact Nat.mul_le_mul_right _ hn
        · rw [show 23 + k + 1 = 24 + k by omega, Nat.pow_add]; exact Nat.mul_lt_mul_of_pos_right hm (Nat.two_pow_pos k)
      rw [hl]
      have h1 : max ((-149 : Int) + ((23 + k : Nat) : Int) - 23) (-149) = -149 + (k : Int) := by omega
      rw [h1]
      have h2 : ((-149 : Int) - (-149 + (k : Int))).toNat = 0 := by omega
      have h3 : ((-149 : Int) + (k : Int) - -149).toNat = k := by omega
      rw [h2, h3, Nat.shiftLeft_zero]
      rw [cut_exact s m k h0 (by rw [hl]; omega)]
      rw [Nat.min_eq_left (by omega)]
    · have hk0 : k = 0 := by omega
      subst hk0
      rw [Nat.pow_zero, Nat.mul_one]
      have hl : m.log2 < 23 := (Nat.log2_lt h0).2 (by omega)
      have h1 : max ((-149 : Int) + ((m.log2 : Nat) : Int) - 23) (-149) = -149 := by omega
      rw [h1]
      have h2 : ((-149 : Int) - -149).toNat = 0 := by omega
      rw [h2, Nat.shiftLeft_zero, cut_zero]
      rw [Nat.min_eq_left (by omega)]

theorem word_read (b : Nat) (hb : b < 4294967296) : S.word (b / 2147483648 % 2 == 1) (b % 2147483648) = b := by
  unfold Ieee.Format.word
  rw [s_weight]
  have h1 := Nat.div_add_mod b 2147483648
  have h2 : b / 2147483648 = 0 ∨ b / 2147483648 = 1 := by omega
  rcases h2 with h | h <;> rw [h] at h1 ⊢
  · rw [if_neg (by decide)]; omega
  · rw [if_pos (by decide)]; omega

/-- What a number of the format is, at the least place. -/
theorem read_form (b : Nat) {s : Bool} {m : Nat} {e : Int} (h : S.read b = .number s m e) :
    ∃ k : Nat, e = -149 + (k : Int) ∧ m < 16777216 ∧ (k = 0 ∨ 8388608 ≤ m) ∧ k ≤ 253 ∧ k * 8388608 + m = b % 2147483648 ∧ s = (b / 2147483648 % 2 == 1) := by
  rw [read_single] at h
  have h1 : b % 2147483648 < 2147483648 := Nat.mod_lt _ (by omega)
  generalize b % 2147483648 = r at *
  have h2 := Nat.mod_lt r (show 0 < 8388608 by omega)
  have h5 := Nat.div_add_mod r 8388608
  split at h
  · injection h with h3 h4 h6
    exact ⟨0, by omega, by omega, .inl rfl, by omega, by rw [Nat.zero_mul, Nat.zero_add]; exact h4.symm, h3.symm⟩
  · split at h
    · injection h with h3 h4 h6
      exact ⟨r / 8388608 - 1, by omega, by omega, .inr (by omega), by omega, by omega, h3.symm⟩
    · split at h <;> cases h

theorem signed_natAbs (s : Bool) (m k : Nat) : (Ieee.signed s m k).natAbs = m * 2 ^ k := by
  unfold Ieee.signed
  rw [Nat.shiftLeft_eq]
  cases s
  · exact Int.natAbs_natCast _
  · show (-((m * 2 ^ k : Nat) : Int)).natAbs = _
    rw [Int.natAbs_neg]; exact Int.natAbs_natCast _

theorem zero_bits (c : Nat) (hc : c < 4294967296) (h : c % 2147483648 = 0) (hz : c ≠ 2147483648) : c = 0 := by omega

/-- +0 added. -/
theorem addF_zero (c : Nat) (hc : c < 4294967296) (hn : (S.read c).isNaN = false) (hz : c ≠ 2147483648) : addF 0 c = c := by
  unfold addF ar floatBits
  show (S.add 0 c).getD _ = c
  unfold Ieee.Format.add
  have h0 : S.read 0 = .number false 0 (-149) := by decide +kernel
  rw [h0]
  cases hd : S.read c with
  | nan s t => rw [hd] at hn; simp [Ieee.Datum.isNaN] at hn
  | infinity s =>
    show S.write (.infinity s) = c
    rw [read_single] at hd
    split at hd
    · cases hd
    · split at hd
      · cases hd
      · split at hd
        · rename_i h
          injection hd with hd
          show S.word s S.infRung = c
          rw [s_inf, ← h, ← hd, word_read c hc]
        · cases hd
  | number s m e =>
    obtain ⟨k, rfl, h1, h2, h3, h4, h5⟩ := read_form c hd
    simp only [Ieee.Datum.sum, Option.map_some, Option.getD_some]
    have e1 : min (-149 : Int) (-149 + (k : Int)) = -149 := by omega
    have e2 : ((-149 : Int) + (k : Int) - -149).toNat = k := by omega
    have e3 : ((-149 : Int) - -149).toNat = 0 := by omega
    rw [e1, e2, e3]
    have e4 : Ieee.signed false 0 0 = 0 := by decide
    rw [e4, Int.zero_add, signed_natAbs]
    show S.nearest _ _ _ = c
    by_cases hm : m = 0
    · have hk : k = 0 := by omega
      have h0c : c % 2147483648 = 0 := by rw [← h4, hk, hm]
      have hc0 := zero_bits c hc h0c hz
      rw [hc0] at h5
      have hsf : s = false := by rw [h5]; decide +kernel
      have e5 : ∀ j, Ieee.signed false 0 j = 0 := by intro j; simp [Ieee.signed, Nat.shiftLeft_eq]
      rw [hsf, hm, Nat.zero_mul, hc0, e5]
      decide +kernel
    · have hpos : 0 < m * 2 ^ k := Nat.mul_pos (by omega) (Nat.two_pow_pos k)
      have hsg : (if Ieee.signed s m k = 0 then false && s else decide (Ieee.signed s m k < 0)) = s := by
        unfold Ieee.signed
        rw [Nat.shiftLeft_eq]
        cases s
        · have hx : ¬ ((m * 2 ^ k : Nat) : Int) = 0 := by omega
          have hy : ¬ ((m * 2 ^ k : Nat) : Int) < 0 := by omega
          simp only [Bool.false_eq_true, if_false]
          rw [if_neg hx]; exact decide_eq_false hy
        · have hx : ¬ -((m * 2 ^ k : Nat) : Int) = 0 := by omega
          have hy : -((m * 2 ^ k : Nat) : Int) < 0 := by omega
          simp only [if_true]
          rw [if_neg hx]; exact decide_eq_true hy
      rw [hsg, nearest_exact s m k h1 h2 h3, h4, h5, word_read c hc]

/-- A number that is greater than 0 has no sign. -/
theorem gtr_zero {c : Nat} (h : fc .gtr .f32 c 0 = true) : (S.read c).neg = false ∧ (S.read c).isNaN = false ∧ (S.read c).isZero = false := by
  have h1 : (S.read c).order (S.read 0) = some .gt := by
    have h2 : (FloatKind.f32.format.read c).order (FloatKind.f32.format.read 0) = some .gt := by simpa [fc, Ieee.Format.order] using h
    exact h2
  have h0 : S.read 0 = .number false 0 (-149) := by decide +kernel
  rw [h0] at h1
  cases hd : S.read c with
  | nan s t => rw [hd] at h1; simp [Ieee.Datum.order] at h1
  | infinity s =>
    rw [hd] at h1
    cases s
    · exact ⟨rfl, rfl, rfl⟩
    · simp [Ieee.Datum.order] at h1
  | number s m e =>
    rw [hd] at h1
    simp only [Ieee.Datum.order, Option.some.injEq] at h1
    have h2 := Int.compare_eq_gt.1 h1
    have e0 : ∀ k, Ieee.signed false 0 k = 0 := by intro k; simp [Ieee.signed, Nat.shiftLeft_eq]
    rw [e0] at h2
    unfold Ieee.signed at h2
    rw [Nat.shiftLeft_eq] at h2
    have hm : m ≠ 0 := by rintro rfl; cases s <;> simp at h2
    cases s
    · refine ⟨rfl, rfl, ?_⟩
      cases m with
      | zero => exact absurd rfl hm
      | succ n => rfl
    · exfalso
      simp only [if_true] at h2
      have := Int.natCast_nonneg (m * 2 ^ (e - min e (-149)).toNat)
      omega

/-- A quotient of two numbers without a sign, not both zeros or both infinities: no sign, and a number. -/
theorem divF_pos {c d : Nat} (h1 : (S.read c).neg = false) (h2 : (S.read d).neg = false) (h3 : (S.read c).isNaN = false) (h4 : (S.read d).isNaN = false) (h5 : (S.read c).isInfinity = false) (h6 : (S.read d).isZero = false) :
    divF c d < 2147483648 ∧ (S.read (divF c d)).isNaN = false := by
  unfold divF ar floatBits
  show ((S.div c d).getD _) < _ ∧ (S.read ((S.div c d).getD _)).isNaN = false
  unfold Ieee.Format.div
  have key : ∃ z, (S.read c).quotient (S.fractionBits + 2) (S.read d) = some z ∧ z.neg = false ∧ z.isNaN = false := by
    cases hc : S.read c with
    | nan s t => rw [hc] at h3; simp [Ieee.Datum.isNaN] at h3
    | infinity s => rw [hc] at h5; simp [Ieee.Datum.isInfinity] at h5
    | number s m i =>
      rw [hc] at h1
      have hs : s = false := h1
      subst hs
      cases hd : S.read d with
      | nan s t => rw [hd] at h4; simp [Ieee.Datum.isNaN] at h4
      | infinity t =>
        rw [hd] at h2
        have ht : t = false := h2
        subst ht
        exact ⟨_, rfl, rfl, rfl⟩
      | number t n j =>
        rw [hd] at h2 h6
        have ht : t = false := h2
        subst ht
        have hn : n ≠ 0 := by rintro rfl; simp [Ieee.Datum.isZero] at h6
        simp only [Ieee.Datum.quotient, if_neg hn]
        exact ⟨_, rfl, rfl, rfl⟩
  obtain ⟨z, hz, hzn, hza⟩ := key
  rw [hz]
  simp only [Option.map_some, Option.getD_some]
  refine ⟨?_, write_not_nan _ _ hza⟩
  have hw : S.word false S.infRung < 2147483648 := by decide +kernel
  cases z with
  | nan s t => simp [Ieee.Datum.isNaN] at hza
  | infinity s =>
    have hs : s = false := hzn
    subst hs
    exact hw
  | number s m e =>
    have hs : s = false := hzn
    subst hs
    show S.nearest false m e < _
    unfold Ieee.Format.nearest
    have wl : ∀ r, r ≤ 2139095040 → S.word false r < 2147483648 := by
      intro r hr
      unfold Ieee.Format.word
      simp; omega
    split
    · exact wl _ (by omega)
    · exact wl _ (by rw [← s_inf]; exact Nat.min_le_right _ _)

end Go.Proofs.Ytkkomajokdlkeaa
