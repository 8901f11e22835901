/- Numbers up to the sign of zero. Plain: no program. -/
import Derived.Test.YtkkomajokdlkeaaFx
namespace Go.Proofs.Ytkkomajokdlkeaa
set_option linter.unusedSimpArgs false
set_option linter.unusedVariables false
set_option maxRecDepth 100000
set_option maxHeartbeats 4000000
open Go.RowKit

/-- The number, but +0 for -0. -/
def zs (c : Nat) : Nat := if c = 2147483648 then 0 else c
theorem zs_zs (c : Nat) : zs (zs c) = zs c := by
  unfold zs
  by_cases h : c = 2147483648 <;> simp [h]
theorem zs_ne (c : Nat) : zs c ≠ 2147483648 := by
  unfold zs
  split
  · decide
  · assumption

/-- Data that are one up to the sign of zero. -/
def dz (x y : Ieee.Datum) : Prop := x = y ∨ ∃ s t i, x = .number s 0 i ∧ y = .number t 0 i
def oz : Option Ieee.Datum → Option Ieee.Datum → Prop
  | none, none => True
  | some x, some y => dz x y
  | _, _ => False
theorem oz_refl (x : Option Ieee.Datum) : oz x x := by
  cases x
  · trivial
  · exact .inl rfl
theorem read_zs (c : Nat) : dz (S.read c) (S.read (zs c)) := by
  unfold zs
  split
  · rename_i h
    subst h
    exact .inr ⟨true, false, -149, by decide +kernel, by decide +kernel⟩
  · exact .inl rfl
theorem word_zero (s : Bool) : zs (S.word s 0) = 0 := by cases s <;> decide +kernel
theorem write_dz {x y : Ieee.Datum} (h : dz x y) : zs (S.write x) = zs (S.write y) := by
  rcases h with rfl | ⟨s, t, i, rfl, rfl⟩
  · rfl
  · have e : ∀ s i, S.write (.number s 0 i) = S.word s 0 := by intro s i; simp [Ieee.Format.write, Ieee.Format.nearest]
    rw [e, e, word_zero, word_zero]
theorem getD_oz {x y : Option Ieee.Datum} (h : oz x y) : zs ((x.map S.write).getD (qnan .f32)) = zs ((y.map S.write).getD (qnan .f32)) := by
  cases x <;> cases y <;> first | rfl | (exact h.elim) | exact write_dz h
theorem signed_zero (s : Bool) (k : Nat) : Ieee.signed s 0 k = 0 := by cases s <;> simp [Ieee.signed, Nat.shiftLeft_eq]

theorem sum_dz_l {x x' : Ieee.Datum} (h : dz x x') (y : Ieee.Datum) : oz (x.sum y) (x'.sum y) := by
  rcases h with rfl | ⟨s, t, i, rfl, rfl⟩
  · exact oz_refl _
  · cases y with
    | nan a b => exact trivial
    | infinity a => exact .inl rfl
    | number u n k =>
      show dz _ _
      simp only [signed_zero, Int.zero_add]
      by_cases hT : Ieee.signed u n (k - min i k).toNat = 0
      · rw [if_pos hT, if_pos hT, hT]
        exact .inr ⟨_, _, _, rfl, rfl⟩
      · rw [if_neg hT, if_neg hT]
        exact .inl rfl
theorem sum_comm' (x y : Ieee.Datum) : x.sum y = y.sum x := by
  cases x <;> cases y <;> simp only [Ieee.Datum.sum]
  · rename_i s m i t n j
    rw [Int.min_comm i j, Int.add_comm, Bool.and_comm]
  · rename_i s t
    by_cases h : s = t
    · subst h; rfl
    · rw [if_neg h, if_neg (Ne.symm h)]
theorem sum_dz {x x' y y' : Ieee.Datum} (h : dz x x') (h' : dz y y') : oz (x.sum y) (x'.sum y') := by
  have h1 := sum_dz_l h y
  have h2 := sum_dz_l h' x'
  rw [sum_comm' y x', sum_comm' y' x'] at h2
  cases a : x.sum y <;> cases b : x'.sum y <;> cases c : x'.sum y' <;> rw [a, b] at h1 <;> rw [b, c] at h2 <;> first | exact trivial | exact h1.elim | exact h2.elim | skip
  rcases h1 with e1 | ⟨s, t, i, e1, e2⟩
  · rw [e1]; exact h2
  · rcases h2 with e3 | ⟨s', t', i', e3, e4⟩
    · rw [← e3]; exact .inr ⟨s, t, i, e1, e2⟩
    · rw [e2] at e3
      injection e3 with _ _ e5
      exact .inr ⟨s, t', i, e1, by rw [e4, e5]⟩
theorem product_dz_l {x x' : Ieee.Datum} (h : dz x x') (y : Ieee.Datum) : oz (x.product y) (x'.product y) := by
  rcases h with rfl | ⟨s, t, i, rfl, rfl⟩
  · exact oz_refl _
  · cases y with
    | nan a b => exact trivial
    | infinity a => exact trivial
    | number u n k =>
      show dz _ _
      simp only [Nat.zero_mul]
      exact .inr ⟨_, _, _, rfl, rfl⟩
theorem addF_zs (a b : Nat) : zs (addF a b) = zs (addF (zs a) (zs b)) := by
  unfold addF ar floatBits
  exact getD_oz (sum_dz (read_zs a) (read_zs b))
theorem mulF_zs_l (a b : Nat) : zs (mulF a b) = zs (mulF (zs a) b) := by
  unfold mulF ar floatBits
  exact getD_oz (product_dz_l (read_zs a) (S.read b))

/-- What is not 0 at a place of the format's or above it is not rounded to 0. -/
theorem nearest_pos (s : Bool) (m : Nat) (p : Int) (hm : m ≠ 0) (hp : -149 ≤ p) : ∃ r, 0 < r ∧ r ≤ 2139095040 ∧ S.nearest s m p = S.word s r := by
  unfold Ieee.Format.nearest
  rw [if_neg hm]
  refine ⟨_, ?_, ?_, rfl⟩
  · have hf : S.fractionBits = 23 := rfl
    rw [s_least, s_binade, s_inf, hf]
    generalize hl : max (p + ((m.log2 : Nat) : Int) - ((23 : Nat) : Int)) (-149) = last
    have h1 : -149 ≤ last := by omega
    by_cases h2 : last = -149
    · subst h2
      have h3 : ((-149 : Int) - p).toNat = 0 := by omega
      rw [h3, cut_zero, Nat.shiftLeft_eq]
      have := Nat.mul_pos (Nat.pos_of_ne_zero hm) (Nat.two_pow_pos (p - -149).toNat)
      omega
    · have h3 : 1 ≤ (last - -149).toNat := by omega
      have : 8388608 ≤ (last - -149).toNat * 8388608 := by omega
      omega
  · rw [← s_inf]; exact Nat.min_le_right _ _
theorem word_ne_neg0 (s : Bool) {r : Nat} (h : 0 < r) (h' : r ≤ 2139095040) : S.word s r ≠ 2147483648 := by
  unfold Ieee.Format.word
  rw [s_weight]
  split <;> omega
/-- A sum is -0 only of two such. -/
theorem addF_ne_neg0 {a b : Nat} (ha : a < 4294967296) (h : a ≠ 2147483648) : addF a b ≠ 2147483648 := by
  unfold addF ar floatBits
  show (S.add a b).getD _ ≠ _
  unfold Ieee.Format.add
  cases hx : (S.read a).sum (S.read b) with
  | none => show qnan .f32 ≠ _; decide
  | some z =>
    show S.write z ≠ _
    cases z with
    | nan s t => exact absurd (sum_not_nan hx) (by simp [Ieee.Datum.isNaN])
    | infinity s => show S.word s S.infRung ≠ _; rw [s_inf]; exact word_ne_neg0 s (by omega) (by omega)
    | number s m e =>
      cases hA : S.read a with
      | nan s t => rw [hA] at hx; simp [Ieee.Datum.sum] at hx
      | infinity s1 => rw [hA] at hx; cases hB : S.read b <;> rw [hB] at hx <;> simp [Ieee.Datum.sum] at hx
      | number s1 m1 e1 =>
        cases hB : S.read b with
        | nan s t => rw [hA, hB] at hx; simp [Ieee.Datum.sum] at hx
        | infinity s2 => rw [hA, hB] at hx; simp [Ieee.Datum.sum] at hx
        | number s2 m2 e2 =>
          rw [hA, hB] at hx
          simp only [Ieee.Datum.sum, Option.some.injEq, Ieee.Datum.number.injEq] at hx
          obtain ⟨hs, hm, he⟩ := hx
          have r1 := single_range a hA
          have r2 := single_range b hB
          have hp : -149 ≤ e := by omega
          show S.nearest s m e ≠ _
          by_cases hm0 : m = 0
          · subst hm0
            have ht : Ieee.signed s1 m1 (e1 - min e1 e2).toNat + Ieee.signed s2 m2 (e2 - min e1 e2).toNat = 0 := by omega
            rw [if_pos ht] at hs
            have e0 : S.nearest s 0 e = S.word s 0 := by simp [Ieee.Format.nearest]
            rw [e0]
            cases s with
            | false => decide +kernel
            | true =>
              exfalso
              simp only [Bool.and_eq_true] at hs
              obtain ⟨h1, h2⟩ := hs
              subst h1 h2
              unfold Ieee.signed at ht
              simp only [if_true] at ht
              simp only [Nat.shiftLeft_eq] at ht
              have hz : m1 * 2 ^ (e1 - min e1 e2).toNat = 0 := by
                generalize m1 * 2 ^ (e1 - min e1 e2).toNat = A at ht
                generalize m2 * 2 ^ (e2 - min e1 e2).toNat = B at ht
                omega
              have hm1 : m1 = 0 := by
                rcases Nat.mul_eq_zero.1 hz with h | h
                · exact h
                · exact absurd h (by have := Nat.two_pow_pos (e1 - min e1 e2).toNat; omega)
              obtain ⟨k, _, _, h3, _, h4, h5⟩ := read_form a hA
              have hk : k = 0 := by omega
              have h6 : a / 2147483648 % 2 = 1 := by simpa using h5.symm
              omega
          · obtain ⟨r, h1, h2, h3⟩ := nearest_pos s m e hm0 hp
            rw [h3]; exact word_ne_neg0 s h1 h2
theorem zs_eq {a b : Nat} (h : zs a = zs b) (ha : a ≠ 2147483648) (hb : b ≠ 2147483648) : a = b := by
  unfold zs at h
  rwa [if_neg ha, if_neg hb] at h
theorem ar_lt (op : BinOp) (x y : Nat) : ar op .f32 x y < 4294967296 := by
  unfold ar
  cases h : floatBits op .f32 x y with
  | none => show qnan .f32 < _; decide
  | some r =>
    have := floatBits_wf h
    simpa [Lit.wf] using this

end Go.Proofs.Ytkkomajokdlkeaa
