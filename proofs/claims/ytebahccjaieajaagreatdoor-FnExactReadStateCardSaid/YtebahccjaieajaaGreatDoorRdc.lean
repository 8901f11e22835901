/- Decimals read: plain laws: what both keep is the number whose decimal the text is. -/
import Derived.Test.YtebahccjaieajaaGreatDoorTx
import Derived.Lib.ParseIntB
import Derived.Lib.ParseIntBTie
import Derived.Lib.ItoaNum
namespace Go.Proofs.YtebahccjaieajaaGreatDoor
set_option linter.unusedSimpArgs false
set_option linter.unusedVariables false
set_option maxRecDepth 100000
set_option maxHeartbeats 4000000
open Go.RowKit

/-- The digits' number; other bytes are passed by. -/
def dgV : Nat → List UInt8 → Nat
  | acc, [] => acc
  | acc, b :: l => dgV (if 48 ≤ b.toNat ∧ b.toNat ≤ 57 then 10 * acc + (b.toNat - 48) else acc) l
theorem dgV_append : ∀ (a : Nat) (u v : List UInt8), dgV a (u ++ v) = dgV (dgV a u) v
  | a, [], v => rfl
  | a, b :: u, v => by rw [List.cons_append, dgV, dgV, dgV_append]
theorem dgt_nat {r : Nat} (h : r < 10) : (dgt r).toNat = 48 + r := by have := dgt_val h; omega
theorem dgV_dec : ∀ (n r : Nat), r ≤ n → dgV 0 (Lib.decDigits r) = r := by
  intro n
  induction n with
  | zero =>
    intro r h
    obtain rfl : r = 0 := by omega
    rw [decDigits_step]
    rfl
  | succ n ih =>
    intro r h
    have hd := dgt_nat (Nat.mod_lt r (by decide : 0 < 10))
    have e : dgV 0 (if r / 10 = 0 then [] else Lib.decDigits (r / 10)) = r / 10 := by
      split
      · rename_i h0; rw [h0]; rfl
      · exact ih _ (by omega)
    rw [decDigits_step, dgV_append, e]
    show dgV (if 48 ≤ (dgt (r % 10)).toNat ∧ (dgt (r % 10)).toNat ≤ 57 then _ else _) [] = r
    rw [dgV, if_pos (by omega)]
    omega
theorem parseUintM_append (M : Nat) : ∀ (u v : List UInt8) (a r : Nat), Lib.parseUintM M a u = .ok r → Lib.parseUintM M a (u ++ v) = Lib.parseUintM M r v
  | [], v, a, r, h => by
    have e : a = r := by
      rw [Lib.parseUintM] at h
      injection h
    rw [e]; rfl
  | b :: u, v, a, r, h => by
    rw [Lib.parseUintM] at h
    rw [List.cons_append, Lib.parseUintM]
    split at h
    · rename_i h1
      split at h
      · cases h
      · rename_i h2
        split at h
        · cases h
        · rename_i h3
          rw [if_pos h1, if_neg h2, if_neg h3]
          exact parseUintM_append M u v _ r h
    · cases h
theorem parseUintM_dec (M : Nat) (hM : M < 18446744073709551616) : ∀ (n r : Nat), r ≤ n → r ≤ M → Lib.parseUintM M 0 (Lib.decDigits r) = .ok r := by
  intro n
  induction n with
  | zero =>
    intro r h _
    obtain rfl : r = 0 := by omega
    rw [decDigits_step]
    have hd := dgt_nat (Nat.mod_lt 0 (by decide : 0 < 10))
    show Lib.parseUintM M 0 [dgt (0 % 10)] = _
    rw [Lib.parseUintM, if_pos (by omega), if_neg (by omega), if_neg (by omega), Lib.parseUintM]
    congr 1
  | succ n ih =>
    intro r h hr
    have hd := dgt_nat (Nat.mod_lt r (by decide : 0 < 10))
    have e : Lib.parseUintM M 0 (if r / 10 = 0 then [] else Lib.decDigits (r / 10)) = .ok (r / 10) := by
      split
      · rename_i h0; rw [h0]; rfl
      · exact ih _ (by omega) (by omega)
    rw [decDigits_step, parseUintM_append M _ _ _ _ e]
    show Lib.parseUintM M (r / 10) [dgt (r % 10)] = _
    rw [Lib.parseUintM, if_pos (by omega), if_neg (by omega), if_neg (by omega), Lib.parseUintM]
    congr 1
    omega
theorem decDigits_ne (r : Nat) : Lib.decDigits r ≠ [] := by rw [decDigits_step]; simp
theorem decDigits_head (r : Nat) : ∀ n, r ≤ n → ∃ c l, Lib.decDigits r = c :: l ∧ 48 ≤ c.toNat ∧ c.toNat ≤ 57 := by
  intro n
  induction n generalizing r with
  | zero =>
    intro h
    obtain rfl : r = 0 := by omega
    exact ⟨dgt 0, [], by rw [decDigits_step]; rfl, by have := dgt_nat (r := 0) (by decide); omega, by have := dgt_nat (r := 0) (by decide); omega⟩
  | succ n ih =>
    intro h
    have hd := dgt_nat (Nat.mod_lt r (by decide : 0 < 10))
    rw [decDigits_step]
    by_cases h0 : r / 10 = 0
    · rw [if_pos h0]
      exact ⟨_, _, rfl, by omega, by omega⟩
    · rw [if_neg h0]
      obtain ⟨c, l, e, h1, h2⟩ := ih (r / 10) (by omega)
      exact ⟨c, l ++ [dgt (r % 10)], by rw [e]; rfl, h1, h2⟩
def isVal (n : Int) : Prop := -1000000000000000 ≤ n ∧ n ≤ 1000000000000000
instance (n : Int) : Decidable (isVal n) := inferInstanceAs (Decidable (_ ∧ _))
theorem parseIntB_itoa {n : Int} (h : isVal n) : Lib.parseIntB 64 (Lib.itoa n) = .ok n := by
  obtain ⟨h0, h1⟩ := h
  by_cases hn : n < 0
  · have e := parseUintM_dec (2 ^ 64 - 1) (by decide) _ n.natAbs (Nat.le_refl _) (by omega)
    rw [itoa_neg hn, Lib.parseIntB]
    have e1 : (45 : UInt8).toNat = 45 := rfl
    simp only [e1, or_true, if_true, Lib.parseUintB, if_neg (decDigits_ne _), e, not_true, false_and, if_false, true_and]
    rw [if_neg (by omega)]
    congr 1
    omega
  · obtain ⟨c, l, hc, h2, h3⟩ := decDigits_head n.natAbs _ (Nat.le_refl _)
    have e := parseUintM_dec (2 ^ 64 - 1) (by decide) _ n.natAbs (Nat.le_refl _) (by omega)
    rw [itoa_nat hn]
    rw [hc] at e ⊢
    have c1 : ¬ c.toNat = 43 := by omega
    have c2 : ¬ c.toNat = 45 := by omega
    rw [Lib.parseIntB]
    simp only [c1, c2, or_self, Lib.parseUintB, e, not_false_eq_true, true_and, false_and, if_false, reduceCtorEq]
    rw [if_neg (by omega)]
    congr 1
    omega
/-- The number with a decimal text. -/
def rdD (l : List UInt8) : Option Int := match Lib.parseIntB 64 l with | .ok v => if isVal v ∧ Lib.itoa v = l then some v else none | _ => none
theorem rdD_some {l : List UInt8} {v : Int} (h : isVal v) (e : Lib.itoa v = l) : rdD l = some v := by
  rw [rdD, ← e, parseIntB_itoa h]
  exact if_pos ⟨h, rfl⟩
theorem rdD_is {l : List UInt8} {v : Int} (h : rdD l = some v) : isVal v ∧ Lib.itoa v = l := by
  rw [rdD] at h
  split at h
  · split at h
    · rename_i hx
      injection h with h
      subst h
      exact hx
    · cases h
  · cases h
/-- The reference's number: digits alone, the sign by the first byte. -/
def sgV (l : List UInt8) : Int := if l.head? = some 45 then -(dgV 0 l : Int) else (dgV 0 l : Int)
theorem sgV_itoa (n : Int) : sgV (Lib.itoa n) = n := by
  by_cases hn : n < 0
  · rw [itoa_neg hn, sgV]
    rw [if_pos (by rfl)]
    have : dgV 0 (45 :: Lib.decDigits n.natAbs) = n.natAbs := dgV_dec _ _ (Nat.le_refl _)
    rw [this]
    omega
  · have e := dgV_dec _ n.natAbs (Nat.le_refl _)
    obtain ⟨c, l, hc, h2, h3⟩ := decDigits_head n.natAbs _ (Nat.le_refl _)
    rw [itoa_nat hn]
    rw [hc] at e ⊢
    rw [sgV, if_neg, e]
    · omega
    · intro h
      have : c = 45 := by simpa using h
      rw [this] at h2
      exact absurd h2 (by decide)
theorem decDigits_len : ∀ (k r : Nat), r < 10 ^ (k + 1) → (Lib.decDigits r).length ≤ k + 1
  | 0, r, h => by rw [decDigits_step, if_pos (by omega)]; simp
  | k + 1, r, h => by
    have h2 : r / 10 < 10 ^ (k + 1) := by rw [Nat.div_lt_iff_lt_mul (by decide), ← Nat.pow_succ]; exact h
    have := decDigits_len k (r / 10) h2
    rw [decDigits_step, List.length_append]
    split <;> simp <;> omega
theorem itoa_val_len {n : Int} (h : isVal n) : 1 ≤ (Lib.itoa n).length ∧ (Lib.itoa n).length ≤ 17 := by
  obtain ⟨h0, h1⟩ := h
  have hl := decDigits_len 15 n.natAbs (by have : (10 : Nat) ^ (15 + 1) = 10000000000000000 := by decide
                                           omega)
  have hp := List.length_pos_iff.2 (decDigits_ne n.natAbs)
  by_cases hn : n < 0
  · rw [itoa_neg hn]; simp only [List.length_cons]; omega
  · rw [itoa_nat hn]; omega
/-- What the reference reads. -/
theorem rdD_ref (l : List UInt8) : rdD l = if (1 ≤ l.length ∧ l.length ≤ 17) ∧ isVal (sgV l) ∧ Lib.itoa (sgV l) = l then some (sgV l) else none := by
  split
  · rename_i h
    exact rdD_some h.2.1 h.2.2
  · rename_i h
    cases hr : rdD l with
    | none => rfl
    | some v =>
      exfalso
      obtain ⟨h1, h2⟩ := rdD_is hr
      apply h
      have e : sgV l = v := by rw [← h2, sgV_itoa]
      have hl := itoa_val_len h1
      rw [h2] at hl
      rw [e]
      exact ⟨hl, h1, h2⟩

end Go.Proofs.YtebahccjaieajaaGreatDoor
