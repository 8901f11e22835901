/- Exact results of float32 arithmetic; zero added; signs. Plain: no program. -/
import Derived.Test.YtkkomajokdlkeaaQ5
namespace Go.Proofs.Ytkkomajokdlkeaa
set_option linter.unusedSimpArgs false
set_option linter.unusedVariables false
set_option maxRecDepth 100000
set_option maxHeartbeats 4000000
open Go.RowKit

theorem log2_eq {m k : Nat} (h1 : 2 ^ k ≤ m) (h2 : m < 2 ^ (k + 1)) : m.log2 = k := by
  have h0 : m ≠ 0 := by have := Nat.two_pow_pos k; omega
  have a := (Nat.log2_lt h0).2 h2
  have b := (Nat.le_log2 h0).2 h1
  omega

theorem cut_exact (s : Bool) (m k : Nat) (hm : m ≠ 0) (hk : k ≤ (m * 2 ^ k).log2 + 2) : Ieee.Toward.even.cut s (m * 2 ^ k) k = m := by
  unfold Ieee.Toward.cut
  rw [Nat.min_eq_left hk]
  have e : (1 <<< k) = 2 ^ k := by rw [Nat.shiftLeft_eq, Nat.one_mul]
  simp only [e, Nat.mul_div_cancel _ (Nat.two_pow_pos k), Nat.mul_mod_left]
  simp

/-- A number of the format, written: its rung. -/
theorem nearest_exact (s : Bool) (m k : Nat) (hm : m < 16777216) (hk : k = 0 ∨ 8388608 ≤ m) (hi : k ≤ 253) : S.nearest s (m * 2 ^ k) (-149) = S.word s (k * 8388608 + m) := by
  unfold Ieee.Format.nearest
  by_cases h0 : m = 0
  · subst h0
    have : k = 0 := by omega
    subst this
    simp
  · have hne : m * 2 ^ k ≠ 0 := Nat.mul_ne_zero h0 (Nat.ne_of_gt (Nat.two_pow_pos k))
    rw [if_neg hne]
    have hf : (S.fractionBits : Int) = 23 := by decide +kernel
    simp only [s_least, s_binade, s_inf, hf]
    by_cases hn : 8388608 ≤ m
    · have hl : (m * 2 ^ k).log2 = 23 + k := by
        refine log2_eq ?_ ?_
        · rw [Nat.pow_add]; exact Nat.mul_le_mul_right _ hn
        · rw [show 23 + k + 1 = 24 + k by omega, Nat.pow_add]; exact Nat.mul_lt_mul_of_pos_right hm (Nat.two_pow_pos k)
      rw [hl]
      have h1 : max ((-149 : Int) + ((23 + k : Nat) : Int) - 23) (-149) = -149 + (k : Int) := by omega
      rw [h1]
      have h2 : ((-149 : Int) - (-149 + (k : Int))).toNat = 0 := by omega
      have h3 : ((-149 : Int) + (k : Int) - -149).toNat = k := by omega
      rw [h2, h3, Nat.shiftLeft_zero]
      rw [cut_exact s m k h0 (by rw [hl]; omega)]
      rw [Nat.min_eq_left (by omega)]
    · have hk0 : k = 0 := by omega
      subst hk0
      rw [Nat.pow_zero, Nat.mul_one]
      have hl : m.log2 < 23 := (Nat.log2_lt h0).2 (by omega)
      have h1 : max ((-149 : Int) + ((m.log2 : Nat) : Int) - 23) (-149) = -149 := by omega
      rw [h1]
      have h2 : ((-149 : Int) - -149).toNat = 0 := by omega
      rw [h2, Nat.shiftLeft_zero, cut_zero]
      rw [Nat.min_eq_left (by omega)]

theorem word_read (b : Nat) (hb : b < 4294967296) : S.word (b / 2147483648 % 2 == 1) (b % 2147483648) = b := by
  unfold Ieee.Format.word
  rw [s_weight]
  have h1 := Nat.div_add_mod b 2147483648
  have h2 : b / 2147483648 = 0 ∨ b / 2147483648 = 1 := by omega
  rcases h2 with h | h <;> rw [h] at h1 ⊢
  · rw [if_neg (by decide)]; omega
  · rw [if_pos (by decide)]; omega

/-- What a number of the format is, at the least place. -/
theorem read_form (b : Nat) {s : Bool} {m : Nat} {e : Int} (h : S.read b = .number s m e) :
    ∃ k : Nat, e = -149 + (k : Int) ∧ m < 16777216 ∧ (k = 0 ∨ 8388608 ≤ m) ∧ k ≤ 253 ∧ k * 8388608 + m = b % 2147483648 ∧ s = (b / 2147483648 % 2 == 1) := by
  rw [read_single] at h
  have h1 : b % 2147483648 < 2147483648 := Nat.mod_lt _ (by omega)
  generalize b % 2147483648 = r at *
  have h2 := Nat.mod_lt r (show 0 < 8388608 by omega)
  have h5 := Nat.div_add_mod r 8388608
  split at h
  · injection h with h3 h4 h6
    exact ⟨0, by omega, by omega, .inl rfl, by omega, by rw [Nat.zero_mul, Nat.zero_add]; exact h4.symm, h3.symm⟩
  · split at h
    · injection h with h3 h4 h6
      exact ⟨r / 8388608 - 1, by omega, by omega, .inr (by omega), by omega, by omega, h3.symm⟩
    · split at h <;> cases h

theorem signed_natAbs (s : Bool) (m k : Nat) : (Ieee.signed s m k).natAbs = m * 2 ^ k := by
  unfold Ieee.signed
  rw [Nat.shiftLeft_eq]
  cases s
  · exact Int.natAbs_natCast _
  · show (-((m * 2 ^ k : Nat) : Int)).natAbs = _
    rw [Int.natAbs_neg]; exact Int.natAbs_natCast _

theorem zero_bits (c : Nat) (hc : c < 4294967296) (h : c % 2147483648 = 0) (hz : c ≠ 2147483648) : c = 0 := by omega

/-- +0 added. -/
theorem addF_zero (c : Nat) (hc : c < 4294967296) (hn : (S.read c).isNaN = false) (hz : c ≠ 2147483648) : addF 0 c = c := by
  unfold addF ar floatBits
  show (S.add 0 c).getD _ = c
  unfold Ieee.Format.add
  have h0 : S.read 0 = .number false 0 (-149) := by decide +kernel
  rw [h0]
  cases hd : S.read c with
  | nan s t => rw [hd] at hn; simp [Ieee.Datum.isNaN] at hn
  | infinity s =>
    show S.write (.infinity s) = c
    rw [read_single] at hd
    split at hd
    · cases hd
    · split at hd
      · cases hd
      · split at hd
        · rename_i h
          injection hd with hd
          show S.word s S.infRung = c
          rw [s_inf, ← h, ← hd, word_read c hc]
        · cases hd
  | number s m e =>
    obtain ⟨k, rfl, h1, h2, h3, h4, h5⟩ := read_form c hd
    simp only [Ieee.Datum.sum, Option.map_some, Option.getD_some]
    have e1 : min (-149 : Int) (-149 + (k : Int)) = -149 := by omega
    have e2 : ((-149 : Int) + (k : Int) - -149).toNat = k := by omega
    have e3 : ((-149 : Int) - -149).toNat = 0 := by omega
    rw [e1, e2, e3]
    have e4 : Ieee.signed false 0 0 = 0 := by decide
    rw [e4, Int.zero_add, signed_natAbs]
    show S.nearest _ _ _ = c
    by_cases hm : m = 0
    · have hk : k = 0 := by omega
      have h0c : c % 2147483648 = 0 := by rw [← h4, hk, hm]
      have hc0 := zero_bits c hc h0c hz
      rw [hc0] at h5
      have hsf : s = false := by rw [h5]; decide +kernel
      have e5 : ∀ j, Ieee.signed false 0 j = 0 := by intro j; simp [Ieee.signed, Nat.shiftLeft_eq]
      rw [hsf, hm, Nat.zero_mul, hc0, e5]
      decide +kernel
    · have hpos : 0 < m * 2 ^ k := Nat.mul_pos (by omega) (Nat.two_pow_pos k)
      have hsg : (if Ieee.signed s m k = 0 then false && s else decide (Ieee.signed s m k < 0)) = s := by
        unfold Ieee.signed
        rw [Nat.shiftLeft_eq]
        cases s
        · have hx : ¬ ((m * 2 ^ k : Nat) : Int) = 0 := by omega
          have hy : ¬ ((m * 2 ^ k : Nat) : Int) < 0 := by omega
          simp only [Bool.false_eq_true, if_false]
          rw [if_neg hx]; exact decide_eq_false hy
        · have hx : ¬ -((m * 2 ^ k : Nat) : Int) = 0 := by omega
          have hy : -((m * 2 ^ k : Nat) : Int) < 0 := by omega
          simp only [if_true]
          rw [if_neg hx]; exact decide_eq_true hy
      rw [hsg, nearest_exact s m k h1 h2 h3, h4, h5, word_read c hc]

/-- A number that is greater than 0 has no sign. -/
theorem gtr_zero {c : Nat} (h : fc .gtr .f32 c 0 = true) : (S.read c).neg = false ∧ (S.read c).isNaN = false ∧ (S.read c).isZero = false := by
  have h1 : (S.read c).order (S.read 0) = some .gt := by
    have h2 : (FloatKind.f32.format.read c).order (FloatKind.f32.format.read 0) = some .gt := by simpa [fc, Ieee.Format.order] using h
    exact h2
  have h0 : S.read 0 = .number false 0 (-149) := by decide +kernel
  rw [h0] at h1
  cases hd : S.read c with
  | nan s t => rw [hd] at h1; simp [Ieee.Datum.order] at h1
  | infinity s =>
    rw [hd] at h1
    cases s
    · exact ⟨rfl, rfl, rfl⟩
    · simp [Ieee.Datum.order] at h1
  | number s m e =>
    rw [hd] at h1
    simp only [Ieee.Datum.order, Option.some.injEq] at h1
    have h2 := Int.compare_eq_gt.1 h1
    have e0 : ∀ k, Ieee.signed false 0 k = 0 := by intro k; simp [Ieee.signed, Nat.shiftLeft_eq]
    rw [e0] at h2
    unfold Ieee.signed at h2
    rw [Nat.shiftLeft_eq] at h2
    have hm : m ≠ 0 := by rintro rfl; cases s <;> simp at h2
    cases s
    · refine ⟨rfl, rfl, ?_⟩
      cases m with
      | zero => exact absurd rfl hm
      | succ n => rfl
    · exfalso
      simp only [if_true] at h2
      have := Int.natCast_nonneg (m * 2 ^ (e - min e (-149)).toNat)
      omega

/-- A quotient of two numbers without a sign, not both zeros or both infinities: no sign, and a number. -/
theorem divF_pos {c d : Nat} (h1 : (S.read c).neg = false) (h2 : (S.read d).neg = false) (h3 : (S.read c).isNaN = false) (h4 : (S.read d).isNaN = false) (h5 : (S.read c).isInfinity = false) (h6 : (S.read d).isZero = false) :
    divF c d < 2147483648 ∧ (S.read (divF c d)).isNaN = false := by
  unfold divF ar floatBits
  show ((S.div c d).getD _) < _ ∧ (S.read ((S.div c d).getD _)).isNaN = false
  unfold Ieee.Format.div
  have key : ∃ z, (S.read c).quotient (S.fractionBits + 2) (S.read d) = some z ∧ z.neg = false ∧ z.isNaN = false := by
    cases hc : S.read c with
    | nan s t => rw [hc] at h3; simp [Ieee.Datum.isNaN] at h3
    | infinity s => rw [hc] at h5; simp [Ieee.Datum.isInfinity] at h5
    | number s m i =>
      rw [hc] at h1
      have hs : s = false := h1
      subst hs
      cases hd : S.read d with
      | nan s t => rw [hd] at h4; simp [Ieee.Datum.isNaN] at h4
      | infinity t =>
        rw [hd] at h2
        have ht : t = false := h2
        subst ht
        exact ⟨_, rfl, rfl, rfl⟩
      | number t n j =>
        rw [hd] at h2 h6
        have ht : t = false := h2
        subst ht
        have hn : n ≠ 0 := by rintro rfl; simp [Ieee.Datum.isZero] at h6
        simp only [Ieee.Datum.quotient, if_neg hn]
        exact ⟨_, rfl, rfl, rfl⟩
  obtain ⟨z, hz, hzn, hza⟩ := key
  rw [hz]
  simp only [Option.map_some, Option.getD_some]
  refine ⟨?_, write_not_nan _ _ hza⟩
  have hw : S.word false S.infRung < 2147483648 := by decide +kernel
  cases z with
  | nan s t => simp [Ieee.Datum.isNaN] at hza
  | infinity s =>
    have hs : s = false := hzn
    subst hs
    exact hw
  | number s m e =>
    have hs : s = false := hzn
    subst hs
    show S.nearest false m e < _
    unfold Ieee.Format.nearest
    have wl : ∀ r, r ≤ 2139095040 → S.word false r < 2147483648 := by
      intro r hr
      unfold Ieee.Format.word
      simp; omega
    split
    · exact wl _ (by omega)
    · exact wl _ (by rw [← s_inf]; exact Nat.min_le_right _ _)

end Go.Proofs.Ytkkomajokdlkeaa

namespace Go.Proofs.Ytkkomajokdlkeaa
set_option linter.unusedSimpArgs false
set_option linter.unusedVariables false
set_option maxRecDepth 100000
set_option maxHeartbeats 4000000
open Go.RowKit

/-- The number, but +0 for -0. -/
def zs (c : Nat) : Nat := if c = 2147483648 then 0 else c
theorem zs_zs (c : Nat) : zs (zs c) = zs c := by
  unfold zs
  by_cases h : c = 2147483648 <;> simp [h]
theorem zs_ne (c : Nat) : zs c ≠ 2147483648 := by
  unfold zs
  split
  · decide
  · assumption

/-- Data that are one up to the sign of zero. -/
def dz (x y : Ieee.Datum) : Prop := x = y ∨ ∃ s t i, x = .number s 0 i ∧ y = .number t 0 i
def oz : Option Ieee.Datum → Option Ieee.Datum → Prop
  | none, none => True
  | some x, some y => dz x y
  | _, _ => False
theorem oz_refl (x : Option Ieee.Datum) : oz x x := by
  cases x
  · trivial
  · exact .inl rfl
theorem read_zs (c : Nat) : dz (S.read c) (S.read (zs c)) := by
  unfold zs
  split
  · rename_i h
    subst h
    exact .inr ⟨true, false, -149, by decide +kernel, by decide +kernel⟩
  · exact .inl rfl
theorem word_zero (s : Bool) : zs (S.word s 0) = 0 := by cases s <;> decide +kernel
theorem write_dz {x y : Ieee.Datum} (h : dz x y) : zs (S.write x) = zs (S.write y) := by
  rcases h with rfl | ⟨s, t, i, rfl, rfl⟩
  · rfl
  · have e : ∀ s i, S.write (.number s 0 i) = S.word s 0 := by intro s i; simp [Ieee.Format.write, Ieee.Format.nearest]
    rw [e, e, word_zero, word_zero]
theorem getD_oz {x y : Option Ieee.Datum} (h : oz x y) : zs ((x.map S.write).getD (qnan .f32)) = zs ((y.map S.write).getD (qnan .f32)) := by
  cases x <;> cases y <;> first | rfl | (exact h.elim) | exact write_dz h
theorem signed_zero (s : Bool) (k : Nat) : Ieee.signed s 0 k = 0 := by cases s <;> simp [Ieee.signed, Nat.shiftLeft_eq]

theorem sum_dz_l {x x' : Ieee.Datum} (h : dz x x') (y : Ieee.Datum) : oz (x.sum y) (x'.sum y) := by
  rcases h with rfl | ⟨s, t, i, rfl, rfl⟩
  · exact oz_refl _
  · cases y with
    | nan a b => exact trivial
    | infinity a => exact .inl rfl
    | number u n k =>
      show dz _ _
      simp only [signed_zero, Int.zero_add]
      by_cases hT : Ieee.signed u n (k - min i k).toNat = 0
      · rw [if_pos hT, if_pos hT, hT]
        exact .inr ⟨_, _, _, rfl, rfl⟩
      · rw [if_neg hT, if_neg hT]
        exact .inl rfl
theorem sum_comm' (x y : Ieee.Datum) : x.sum y = y.sum x := by
  cases x <;> cases y <;> simp only [Ieee.Datum.sum]
  · rename_i s m i t n j
    rw [Int.min_comm i j, Int.add_comm, Bool.and_comm]
  · rename_i s t
    by_cases h : s = t
    · subst h; rfl
    · rw [if_neg h, if_neg (Ne.symm h)]
theorem sum_dz {x x' y y' : Ieee.Datum} (h : dz x x') (h' : dz y y') : oz (x.sum y) (x'.sum y') := by
  have h1 := sum_dz_l h y
  have h2 := sum_dz_l h' x'
  rw [sum_comm' y x', sum_comm' y' x'] at h2
  cases a : x.sum y <;> cases b : x'.sum y <;> cases c : x'.sum y' <;> rw [a, b] at h1 <;> rw [b, c] at h2 <;> first | exact trivial | exact h1.elim | exact h2.elim | skip
  rcases h1 with e1 | ⟨s, t, i, e1, e2⟩
  · rw [e1]; exact h2
  · rcases h2 with e3 | ⟨s', t', i', e3, e4⟩
    · rw [← e3]; exact .inr ⟨s, t, i, e1, e2⟩
    · rw [e2] at e3
      injection e3 with _ _ e5
      exact .inr ⟨s, t', i, e1, by rw [e4, e5]⟩
theorem product_dz_l {x x' : Ieee.Datum} (h : dz x x') (y : Ieee.Datum) : oz (x.product y) (x'.product y) := by
  rcases h with rfl | ⟨s, t, i, rfl, rfl⟩
  · exact oz_refl _
  · cases y with
    | nan a b => exact trivial
    | infinity a => exact trivial
    | number u n k =>
      show dz _ _
      simp only [Nat.zero_mul]
      exact .inr ⟨_, _, _, rfl, rfl⟩
theorem addF_zs (a b : Nat) : zs (addF a b) = zs (addF (zs a) (zs b)) := by
  unfold addF ar floatBits
  exact getD_oz (sum_dz (read_zs a) (read_zs b))
theorem mulF_zs_l (a b : Nat) : zs (mulF a b) = zs (mulF (zs a) b) := by
  unfold mulF ar floatBits
  exact getD_oz (product_dz_l (read_zs a) (S.read b))

/-- What is not 0 at a place of the format's or above it is not rounded to 0. -/
theorem nearest_pos (s : Bool) (m : Nat) (p : Int) (hm : m ≠ 0) (hp : -149 ≤ p) : ∃ r, 0 < r ∧ r ≤ 2139095040 ∧ S.nearest s m p = S.word s r := by
  unfold Ieee.Format.nearest
  rw [if_neg hm]
  refine ⟨_, ?_, ?_, rfl⟩
  · have hf : S.fractionBits = 23 := rfl
    rw [s_least, s_binade, s_inf, hf]
    generalize hl : max (p + ((m.log2 : Nat) : Int) - ((23 : Nat) : Int)) (-149) = last
    have h1 : -149 ≤ last := by omega
    by_cases h2 : last = -149
    · subst h2
      have h3 : ((-149 : Int) - p).toNat = 0 := by omega
      rw [h3, cut_zero, Nat.shiftLeft_eq]
      have := Nat.mul_pos (Nat.pos_of_ne_zero hm) (Nat.two_pow_pos (p - -149).toNat)
      omega
    · have h3 : 1 ≤ (last - -149).toNat := by omega
      have : 8388608 ≤ (last - -149).toNat * 8388608 := by omega
      omega
  · rw [← s_inf]; exact Nat.min_le_right _ _
theorem word_ne_neg0 (s : Bool) {r : Nat} (h : 0 < r) (h' : r ≤ 2139095040) : S.word s r ≠ 2147483648 := by
  unfold Ieee.Format.word
  rw [s_weight]
  split <;> omega
/-- A sum is -0 only of two such. -/
theorem addF_ne_neg0 {a b : Nat} (ha : a < 4294967296) (h : a ≠ 2147483648) : addF a b ≠ 2147483648 := by
  unfold addF ar floatBits
  show (S.add a b).getD _ ≠ _
  unfold Ieee.Format.add
  cases hx : (S.read a).sum (S.read b) with
  | none => show qnan .f32 ≠ _; decide
  | some z =>
    show S.write z ≠ _
    cases z with
    | nan s t => exact absurd (sum_not_nan hx) (by simp [Ieee.Datum.isNaN])
    | infinity s => show S.word s S.infRung ≠ _; rw [s_inf]; exact word_ne_neg0 s (by omega) (by omega)
    | number s m e =>
      cases hA : S.read a with
      | nan s t => rw [hA] at hx; simp [Ieee.Datum.sum] at hx
      | infinity s1 => rw [hA] at hx; cases hB : S.read b <;> rw [hB] at hx <;> simp [Ieee.Datum.sum] at hx
      | number s1 m1 e1 =>
        cases hB : S.read b with
        | nan s t => rw [hA, hB] at hx; simp [Ieee.Datum.sum] at hx
        | infinity s2 => rw [hA, hB] at hx; simp [Ieee.Datum.sum] at hx
        | number s2 m2 e2 =>
          rw [hA, hB] at hx
          simp only [Ieee.Datum.sum, Option.some.injEq, Ieee.Datum.number.injEq] at hx
          obtain ⟨hs, hm, he⟩ := hx
          have r1 := single_range a hA
          have r2 := single_range b hB
          have hp : -149 ≤ e := by omega
          show S.nearest s m e ≠ _
          by_cases hm0 : m = 0
          · subst hm0
            have ht : Ieee.signed s1 m1 (e1 - min e1 e2).toNat + Ieee.signed s2 m2 (e2 - min e1 e2).toNat = 0 := by omega
            rw [if_pos ht] at hs
            have e0 : S.nearest s 0 e = S.word s 0 := by simp [Ieee.Format.nearest]
            rw [e0]
            cases s with
            | false => decide +kernel
            | true =>
              exfalso
              simp only [Bool.and_eq_true] at hs
              obtain ⟨h1, h2⟩ := hs
              subst h1 h2
              unfold Ieee.signed at ht
              simp only [if_true] at ht
              simp only [Nat.shiftLeft_eq] at ht
              have hz : m1 * 2 ^ (e1 - min e1 e2).toNat = 0 := by
                generalize m1 * 2 ^ (e1 - min e1 e2).toNat = A at ht
                generalize m2 * 2 ^ (e2 - min e1 e2).toNat = B at ht
                omega
              have hm1 : m1 = 0 := by
                rcases Nat.mul_eq_zero.1 hz with h | h
                · exact h
                · exact absurd h (by have := Nat.two_pow_pos (e1 - min e1 e2).toNat; omega)
              obtain ⟨k, _, _, h3, _, h4, h5⟩ := read_form a hA
              have hk : k = 0 := by omega
              have h6 : a / 2147483648 % 2 = 1 := by simpa using h5.symm
              omega
          · obtain ⟨r, h1, h2, h3⟩ := nearest_pos s m e hm0 hp
            rw [h3]; exact word_ne_neg0 s h1 h2
theorem zs_eq {a b : Nat} (h : zs a = zs b) (ha : a ≠ 2147483648) (hb : b ≠ 2147483648) : a = b := by
  unfold zs at h
  rwa [if_neg ha, if_neg hb] at h
theorem ar_lt (op : BinOp) (x y : Nat) : ar op .f32 x y < 4294967296 := by
  unfold ar
  cases h : floatBits op .f32 x y with
  | none => show qnan .f32 < _; decide
  | some r =>
    have := floatBits_wf h
    simpa [Lit.wf] using this

end Go.Proofs.Ytkkomajokdlkeaa

namespace Go.Proofs.Ytkkomajokdlkeaa
set_option linter.unusedSimpArgs false
set_option linter.unusedVariables false
set_option maxRecDepth 100000
set_option maxHeartbeats 4000000
open Go.RowKit

/-- Data that are one up to their sign. -/
def us : Ieee.Datum → Ieee.Datum → Prop
  | .number _ m i, .number _ n j => m = n ∧ i = j
  | .infinity _, .infinity _ => True
  | _, _ => False
def ou : Option Ieee.Datum → Option Ieee.Datum → Prop
  | none, none => True
  | some x, some y => us x y
  | _, _ => False
theorem signed_not (s : Bool) (m k : Nat) : Ieee.signed (!s) m k = -Ieee.signed s m k := by cases s <;> simp [Ieee.signed]
theorem sub_us (x y : Ieee.Datum) : ou (x.sum y.opposite) (y.sum x.opposite) := by
  cases x <;> cases y <;> simp only [Ieee.Datum.sum, Ieee.Datum.opposite]
  case number.number s m i t n j =>
    rw [signed_not, signed_not, Int.min_comm j i]
    refine ⟨?_, rfl⟩
    have : Ieee.signed t n (j - min i j).toNat + -Ieee.signed s m (i - min i j).toNat = -(Ieee.signed s m (i - min i j).toNat + -Ieee.signed t n (j - min i j).toNat) := by omega
    rw [this, Int.natAbs_neg]
  case infinity.infinity s t =>
    cases s <;> cases t <;> first | exact trivial | (simp [ou, us])
  all_goals first | exact trivial | (simp [ou, us])
theorem cut_sign (s t : Bool) (n d : Nat) : Ieee.Toward.even.cut s n d = Ieee.Toward.even.cut t n d := rfl
theorem write_us {x y : Ieee.Datum} (h : us x y) : ∃ s t r, r ≤ S.infRung ∧ S.write x = S.word s r ∧ S.write y = S.word t r := by
  cases x <;> cases y <;> simp only [us] at h
  case number.number s m i t n j =>
    obtain ⟨rfl, rfl⟩ := h
    by_cases hm : m = 0
    · subst hm
      exact ⟨s, t, 0, Nat.zero_le _, by simp [Ieee.Format.write, Ieee.Format.nearest], by simp [Ieee.Format.write, Ieee.Format.nearest]⟩
    · refine ⟨s, t, _, ?_, by simp only [Ieee.Format.write, Ieee.Format.nearest]; rw [if_neg hm], by simp only [Ieee.Format.write, Ieee.Format.nearest]; rw [if_neg hm, cut_sign t s]⟩
      exact Nat.min_le_right _ _
  case infinity.infinity s t => exact ⟨s, t, _, Nat.le_refl _, rfl, rfl⟩
theorem read_word_us (s t : Bool) {r : Nat} (h : r ≤ S.infRung) : us (S.read (S.word s r)) (S.read (S.word t r)) := by
  have h1 := word_mod S s (Nat.lt_of_le_of_lt h S.infRung_lt)
  have h2 := word_mod S t (Nat.lt_of_le_of_lt h S.infRung_lt)
  unfold Ieee.Format.read
  dsimp only
  rw [h1, h2]
  split
  · exact ⟨rfl, rfl⟩
  · split
    · exact ⟨rfl, rfl⟩
    · rw [if_pos (by omega), if_pos (by omega)]; exact trivial
theorem square_us {x y : Ieee.Datum} (h : us x y) : x.product x = y.product y := by
  cases x <;> cases y <;> simp only [us] at h
  case number.number s m i t n j =>
    obtain ⟨rfl, rfl⟩ := h
    simp [Ieee.Datum.product]
  case infinity.infinity s t => simp [Ieee.Datum.product]
/-- The square of a difference. -/
theorem sq_sub (a b : Nat) : mulF (subF a b) (subF a b) = mulF (subF b a) (subF b a) := by
  have h := sub_us (S.read a) (S.read b)
  have e1 : subF a b = (((S.read a).sum (S.read b).opposite).map S.write).getD (qnan .f32) := rfl
  have e2 : subF b a = (((S.read b).sum (S.read a).opposite).map S.write).getD (qnan .f32) := rfl
  rw [e1, e2]
  generalize (S.read a).sum (S.read b).opposite = x at *
  generalize (S.read b).sum (S.read a).opposite = y at *
  cases x <;> cases y <;> first | rfl | (exact h.elim) | skip
  rename_i x y
  obtain ⟨s, t, r, hr, h1, h2⟩ := write_us h
  have m : ∀ c, mulF c c = (((S.read c).product (S.read c)).map S.write).getD (qnan .f32) := fun _ => rfl
  show mulF (S.write x) (S.write x) = mulF (S.write y) (S.write y)
  rw [h1, h2, m, m, square_us (read_word_us s t hr)]

/-- The greater one, as Go's built-in has it. -/
def mx (x y : Nat) : Nat :=
  match S.order x y with
  | none => 0
  | some .lt => y
  | some .gt => x
  | some .eq => if (S.read x).neg then y else x
theorem run_mx {P : Program} (ts : Array TypeId) (t : TypeId) (x y : Nat) (hx : (S.read x).isNaN = false) (hy : (S.read y).isNaN = false) (w : World) :
    (Builtin.max_ ts t #[.float .f32 x, .float .f32 y]).run P w = .ok (.float .f32 (mx x y)) w := by
  have ho : S.order x y ≠ none := by
    unfold Ieee.Format.order
    cases h1 : S.read x <;> cases h2 : S.read y <;> rw [h1] at hx <;> rw [h2] at hy <;> simp [Ieee.Datum.isNaN] at hx hy <;> simp [Ieee.Datum.order]
  have ho2 : FloatKind.f32.format.order x y = S.order x y := rfl
  unfold mx
  cases h : S.order x y with
  | none => exact absurd h ho
  | some o =>
    cases o <;> simp [Builtin.max_, Builtin.max2, ho2, h]
    rfl
theorem mx_lt {x y : Nat} (hx : x < 4294967296) (hy : y < 4294967296) : mx x y < 4294967296 := by
  unfold mx
  split <;> first | assumption | omega | (split <;> assumption)
theorem fin_notNaN {c : Nat} (h : fin c = true) : (S.read c).isNaN = false := by
  cases e : (S.read c).isNaN
  · rfl
  · have h1 : fc .eql .f32 (ar .sub .f32 c c) 0 = true := h
    have h2 : floatBits .sub .f32 c c = none := floatBits_nan_l e
    have h3 : ar .sub .f32 c c = qnan .f32 := by unfold ar; rw [h2]; rfl
    rw [h3] at h1
    revert h1
    decide +kernel
theorem raw_of {x c : Nat} (h : cn .f32 x = c) (hc : fin c = true) : x = c ∧ (S.read x).isNaN = false := by
  have h1 := fin_notNaN hc
  have h2 : (S.read x).isNaN = false := by
    have := isNaN_cn .f32 x
    rw [h] at this
    rw [show (S.read x).isNaN = (FloatKind.f32.format.read x).isNaN from rfl, ← this]; exact h1
  exact ⟨by rw [← h]; exact (cn_of_not (k := .f32) h2).symm, h2⟩
theorem mx_or (x y : Nat) : mx x y = x ∨ mx x y = y ∨ mx x y = 0 := by
  unfold mx
  split
  · exact .inr (.inr rfl)
  · exact .inr (.inl rfl)
  · exact .inl rfl
  · split
    · exact .inr (.inl rfl)
    · exact .inl rfl
theorem mx_fin {x y : Nat} (hx : fin x = true) (hy : fin y = true) : fin (mx x y) = true := by
  rcases mx_or x y with h | h | h <;> rw [h]
  · exact hx
  · exact hy
  · decide +kernel

end Go.Proofs.Ytkkomajokdlkeaa

namespace Go.Proofs.Ytkkomajokdlkeaa
set_option linter.unusedSimpArgs false
set_option linter.unusedVariables false
set_option maxRecDepth 100000
set_option maxHeartbeats 4000000
open Go.RowKit

def fM (x : Nat) : Nat := if x < 8388608 then x else 8388608 + x % 8388608
def fK (x : Nat) : Nat := if x < 8388608 then 0 else x / 8388608 - 1
def fV (x : Nat) : Nat := fM x * 2 ^ fK x
theorem fV_succ (x : Nat) : fV x < fV (x + 1) := by
  unfold fV fM fK
  by_cases h1 : x + 1 < 8388608
  · rw [if_pos (by omega), if_pos (by omega), if_pos h1, if_pos h1]; omega
  · rw [if_neg h1, if_neg h1]
    by_cases h2 : x < 8388608
    · have e : x = 8388607 := by omega
      subst e; decide
    · rw [if_neg h2, if_neg h2]
      by_cases h3 : x % 8388608 + 1 < 8388608
      · have e1 : (x + 1) / 8388608 = x / 8388608 := by omega
        have e2 : (x + 1) % 8388608 = x % 8388608 + 1 := by omega
        rw [e1, e2]
        exact Nat.mul_lt_mul_of_pos_right (by omega) (Nat.two_pow_pos _)
      · have e1 : (x + 1) / 8388608 - 1 = (x / 8388608 - 1) + 1 := by omega
        have e2 : (x + 1) % 8388608 = 0 := by omega
        have e3 : x % 8388608 = 8388607 := by omega
        rw [e1, e2, e3, Nat.pow_succ]
        have := Nat.two_pow_pos (x / 8388608 - 1)
        generalize 2 ^ (x / 8388608 - 1) = p at *
        omega
theorem fV_lt {a b : Nat} (h : a < b) : fV a < fV b := by
  induction h with
  | refl => exact fV_succ a
  | step _ ih => exact Nat.lt_trans ih (fV_succ _)
theorem fV_zero : fV 0 = 0 := rfl
/-- Where a finite number lies. -/
def fkey (x : Nat) : Int := if x < 2147483648 then (fV x : Int) else -(fV (x - 2147483648) : Int)
theorem fin_mod {c : Nat} (hc : c < 4294967296) (h : fin c = true) : c % 2147483648 < 2139095040 := by
  rcases Nat.lt_trichotomy (c % 2147483648) 2139095040 with h1 | h1 | h1
  · exact h1
  · exfalso
    have : c = 2139095040 ∨ c = 4286578688 := by omega
    rcases this with rfl | rfl <;> exact absurd h (by decide +kernel)
  · exfalso
    have h2 := fin_notNaN h
    rw [read_single] at h2
    rw [if_neg (by omega), if_neg (by omega), if_neg (by omega)] at h2
    simp [Ieee.Datum.isNaN] at h2
theorem read_fin {c : Nat} (hc : c < 4294967296) (h : c % 2147483648 < 2139095040) : S.read c = .number (decide (2147483648 ≤ c)) (fM (c % 2147483648)) (-149 + (fK (c % 2147483648) : Int)) := by
  have hs : (c / 2147483648 % 2 == 1) = decide (2147483648 ≤ c) := by
    have h1 : c / 2147483648 = 0 ∨ c / 2147483648 = 1 := by omega
    rcases h1 with e | e <;> rw [e]
    · exact (decide_eq_false (by omega)).symm
    · exact (decide_eq_true (by omega)).symm
  rw [read_single, hs]
  generalize c % 2147483648 = r at *
  unfold fM fK
  by_cases h3 : r < 8388608
  · simp [h3]
  · simp [h3, h]
theorem signed_f (m j : Nat) : Ieee.signed false m j = ((m <<< j : Nat) : Int) := rfl
theorem signed_t (m j : Nat) : Ieee.signed true m j = -((m <<< j : Nat) : Int) := rfl
theorem signed_val (s : Bool) {r k : Nat} (hk : k ≤ fK r) : Ieee.signed s (fM r) (fK r - k) * ((2 ^ k : Nat) : Int) = if s then -(fV r : Int) else (fV r : Int) := by
  have e : fM r <<< (fK r - k) * 2 ^ k = fV r := by
    rw [Nat.shiftLeft_eq, Nat.mul_assoc, ← Nat.pow_add, Nat.sub_add_cancel hk, fV]
  cases s
  · rw [signed_f, ← Int.natCast_mul, e]; simp
  · rw [signed_t, Int.neg_mul, ← Int.natCast_mul, e]; simp
theorem fkey_eq {c : Nat} (hc : c < 4294967296) : fkey c = if decide (2147483648 ≤ c) then -(fV (c % 2147483648) : Int) else (fV (c % 2147483648) : Int) := by
  unfold fkey
  by_cases h : c < 2147483648
  · rw [if_pos h, Nat.mod_eq_of_lt h, if_neg (by simp; omega)]
  · have h2 : c % 2147483648 = c - 2147483648 := by omega
    rw [if_neg h, h2, if_pos (by simp; omega)]
theorem signed_key {c k : Nat} (hc : c < 4294967296) (hk : k ≤ fK (c % 2147483648)) : Ieee.signed (decide (2147483648 ≤ c)) (fM (c % 2147483648)) (fK (c % 2147483648) - k) * ((2 ^ k : Nat) : Int) = fkey c := by
  rw [signed_val _ hk, fkey_eq hc]
theorem cmp_lt {a b : Int} (h : a < b) : compare a b = .lt := by
  show (if a < b then Ordering.lt else if a = b then .eq else .gt) = _
  rw [if_pos h]
theorem cmp_eq {a b : Int} (h : a = b) : compare a b = .eq := by
  show (if a < b then Ordering.lt else if a = b then .eq else .gt) = _
  rw [if_neg (by omega), if_pos h]
theorem cmp_gt {a b : Int} (h : b < a) : compare a b = .gt := by
  show (if a < b then Ordering.lt else if a = b then .eq else .gt) = _
  rw [if_neg (by omega), if_neg (by omega)]
theorem compare_mul (a b : Int) (p : Nat) (hp : 0 < p) : compare (a * (p : Int)) (b * (p : Int)) = compare a b := by
  have hp' : (0 : Int) < p := by omega
  rcases Int.lt_trichotomy a b with h | h | h
  · rw [cmp_lt h, cmp_lt (Int.mul_lt_mul_of_pos_right h hp')]
  · subst h; rw [cmp_eq rfl, cmp_eq rfl]
  · rw [cmp_gt h, cmp_gt (Int.mul_lt_mul_of_pos_right h hp')]
theorem order_key {a b : Nat} (ha : a < 4294967296) (hb : b < 4294967296) (h1 : a % 2147483648 < 2139095040) (h2 : b % 2147483648 < 2139095040) : S.order a b = some (compare (fkey a) (fkey b)) := by
  unfold Ieee.Format.order
  rw [read_fin ha h1, read_fin hb h2]
  simp only [Ieee.Datum.order]
  have e1 : min (-149 + (fK (a % 2147483648) : Int)) (-149 + (fK (b % 2147483648) : Int)) = -149 + ((min (fK (a % 2147483648)) (fK (b % 2147483648)) : Nat) : Int) := by omega
  rw [e1]
  have hka : min (fK (a % 2147483648)) (fK (b % 2147483648)) ≤ fK (a % 2147483648) := Nat.min_le_left _ _
  have hkb : min (fK (a % 2147483648)) (fK (b % 2147483648)) ≤ fK (b % 2147483648) := Nat.min_le_right _ _
  generalize min (fK (a % 2147483648)) (fK (b % 2147483648)) = k at *
  have e2 : (-149 + (fK (a % 2147483648) : Int) - (-149 + (k : Int))).toNat = fK (a % 2147483648) - k := by omega
  have e3 : (-149 + (fK (b % 2147483648) : Int) - (-149 + (k : Int))).toNat = fK (b % 2147483648) - k := by omega
  rw [e2, e3, ← signed_key ha hka, ← signed_key hb hkb, compare_mul _ _ _ (Nat.two_pow_pos _)]
theorem fcl_key {a b : Nat} (ha : a < 4294967296) (hb : b < 4294967296) (h1 : fin a = true) (h2 : fin b = true) : fc .lss .f32 a b = decide (fkey a < fkey b) := by
  show (S.order a b == some .lt) = _
  rw [order_key ha hb (fin_mod ha h1) (fin_mod hb h2)]
  rcases Int.lt_trichotomy (fkey a) (fkey b) with h | h | h
  · rw [cmp_lt h, decide_eq_true h]; rfl
  · rw [h, cmp_eq rfl, decide_eq_false (by omega)]; rfl
  · rw [cmp_gt h, decide_eq_false (by omega)]; rfl
theorem fce_key {a b : Nat} (ha : a < 4294967296) (hb : b < 4294967296) (h1 : fin a = true) (h2 : fin b = true) : fc .eql .f32 a b = decide (fkey a = fkey b) := by
  show (S.order a b == some .eq) = _
  rw [order_key ha hb (fin_mod ha h1) (fin_mod hb h2)]
  rcases Int.lt_trichotomy (fkey a) (fkey b) with h | h | h
  · rw [cmp_lt h, decide_eq_false (by omega)]; rfl
  · rw [h, cmp_eq rfl, decide_eq_true rfl]; rfl
  · rw [cmp_gt h, decide_eq_false (by omega)]; rfl

end Go.Proofs.Ytkkomajokdlkeaa
