/- Numbers in hexadecimal. Plain: no program. -/
import Derived.Test.YtebahccjaieajaaGreatDoorTx
namespace Go.Proofs.YtebahccjaieajaaGreatDoor
set_option linter.unusedSimpArgs false
set_option linter.unusedVariables false
set_option maxRecDepth 100000
set_option maxHeartbeats 4000000
open Go.RowKit

def hx (d : Nat) : UInt8 := if d < 10 then UInt8.ofNat (48 + d) else UInt8.ofNat (87 + d)
theorem hx_val {d : Nat} (h : d < 16) : (hx d).toNat = if d < 10 then 48 + d else 87 + d := by
  rw [hx]; split
  · rw [UInt8.toNat_ofNat']; omega
  · rw [UInt8.toNat_ofNat']; omega
/-- Without leading zeros. -/
def hexN (n : Nat) : List UInt8 := if n < 16 then [hx n] else hexN (n / 16) ++ [hx (n % 16)]
/-- The last m digits. -/
def hexM : Nat → Nat → List UInt8
  | 0, _ => []
  | m + 1, n => hexM m (n / 16) ++ [hx (n % 16)]
theorem hexM_length : ∀ m n, (hexM m n).length = m
  | 0, _ => rfl
  | m + 1, n => by rw [hexM, List.length_append, hexM_length]; rfl
theorem hexM_zero : ∀ m, hexM m 0 = List.replicate m 48
  | 0 => rfl
  | m + 1 => by rw [hexM, Nat.zero_div, hexM_zero, List.replicate_succ']; rfl
theorem hexN_small {n : Nat} (h : n < 16) : hexN n = [hx n] := by rw [hexN, if_pos h]
theorem hexN_great {n : Nat} (h : ¬ n < 16) : hexN n = hexN (n / 16) ++ [hx (n % 16)] := by rw [hexN, if_neg h]
theorem hexN_pad : ∀ (m n : Nat), n < 16 ^ (m + 1) → (hexN n).length ≤ m + 1 ∧ List.replicate (m + 1 - (hexN n).length) 48 ++ hexN n = hexM (m + 1) n
  | m, n, h => by
    by_cases hs : n < 16
    · rw [hexN_small hs, hexM, show n / 16 = 0 by omega, hexM_zero, Nat.mod_eq_of_lt hs]
      exact ⟨by simp, rfl⟩
    · cases m with
      | zero => exact absurd h (by omega)
      | succ m =>
        have h2 : n / 16 < 16 ^ (m + 1) := by
          rw [Nat.div_lt_iff_lt_mul (by decide), ← Nat.pow_succ]; exact h
        obtain ⟨i1, i2⟩ := hexN_pad m (n / 16) h2
        rw [hexN_great hs, hexM, ← i2, List.length_append]
        refine ⟨by simp; omega, ?_⟩
        rw [show m + 1 + 1 - ((hexN (n / 16)).length + [hx (n % 16)].length) = m + 1 - (hexN (n / 16)).length by simp, List.append_assoc]
def hex8 (n : Nat) : List UInt8 := hexM 8 n
theorem hex8_pad {n : Nat} (h : n < 4294967296) : (hexN n).length ≤ 8 ∧ List.replicate (8 - (hexN n).length) 48 ++ hexN n = hex8 n := hexN_pad 7 n (by simpa using h)
theorem hexM_step (n j : Nat) (hj : j < 8) : hexM (j + 1) (n / 16 ^ (7 - j)) = hexM j (n / 16 ^ (8 - j)) ++ [hx (n / 16 ^ (7 - j) % 16)] := by
  rw [hexM, Nat.div_div_eq_div_mul, ← Nat.pow_succ, show (7 - j).succ = 8 - j by omega]
theorem hexN_ne (n : Nat) : hexN n ≠ [] := by rw [hexN]; split <;> simp
def hexDigits : List UInt8 := [48, 49, 50, 51, 52, 53, 54, 55, 56, 57, 97, 98, 99, 100, 101, 102]
theorem hexDigits_at : ∀ {d : Nat}, d < 16 → hexDigits[d]? = some (hx d) := by decide
def hv (b : UInt8) : Option Nat := if 48 ≤ b.toNat ∧ b.toNat ≤ 57 then some (b.toNat - 48) else if 97 ≤ b.toNat ∧ b.toNat ≤ 102 then some (b.toNat - 87) else none
theorem hv_hx : ∀ {d : Nat}, d < 16 → hv (hx d) = some d := by decide
theorem hx_of_hv {b : UInt8} {d : Nat} (h : hv b = some d) : d < 16 ∧ hx d = b := by
  have hb := b.toNat_lt
  rw [hv] at h
  split at h
  · rename_i h1
    injection h with h
    refine ⟨by omega, UInt8.toNat_inj.1 ?_⟩
    rw [hx_val (by omega), if_pos (by omega)]
    omega
  · split at h
    · rename_i h0 h1
      injection h with h
      refine ⟨by omega, UInt8.toNat_inj.1 ?_⟩
      rw [hx_val (by omega), if_neg (by omega)]
      omega
    · cases h
/-- The number with these digits, behind another one. -/
def rdN : Nat → List UInt8 → Option Nat
  | acc, [] => some acc
  | acc, b :: l => (hv b).bind fun d => rdN (16 * acc + d) l
theorem rdN_snoc (b : UInt8) : ∀ (a : Nat) (l : List UInt8), rdN a (l ++ [b]) = (rdN a l).bind fun r => (hv b).map fun d => 16 * r + d
  | a, [] => by
    show (hv b).bind _ = (some a).bind _
    cases hv b <;> rfl
  | a, c :: l => by
    rw [List.cons_append, rdN, rdN]
    cases hv c with
    | none => rfl
    | some d => exact rdN_snoc b (16 * a + d) l
theorem rdN_hexM : ∀ (m n : Nat), n < 16 ^ m → rdN 0 (hexM m n) = some n
  | 0, n, h => by
    have : n = 0 := by rw [Nat.pow_zero] at h; omega
    rw [this]; rfl
  | m + 1, n, h => by
    have h2 : n / 16 < 16 ^ m := by rw [Nat.div_lt_iff_lt_mul (by decide), ← Nat.pow_succ]; exact h
    rw [hexM, rdN_snoc, rdN_hexM m (n / 16) h2, hv_hx (Nat.mod_lt _ (by decide))]
    show some (16 * (n / 16) + n % 16) = some n
    rw [Nat.div_add_mod]
theorem hexM_of_rdN : ∀ (m : Nat) (l : List UInt8) (n : Nat), l.length = m → rdN 0 l = some n → n < 16 ^ m ∧ hexM m n = l
  | 0, l, n, hl, h => by
    obtain rfl := List.length_eq_zero_iff.1 hl
    injection h with h
    subst h
    exact ⟨by decide, rfl⟩
  | m + 1, l, n, hl, h => by
    have hne : l ≠ [] := fun e => by rw [e] at hl; cases hl
    obtain ⟨i, b, rfl⟩ : ∃ i b, l = i ++ [b] := ⟨l.dropLast, l.getLast hne, (List.dropLast_concat_getLast hne).symm⟩
    rw [rdN_snoc] at h
    have hi : i.length = m := by simpa using hl
    cases hr : rdN 0 i with
    | none => rw [hr] at h; cases h
    | some r =>
      rw [hr] at h
      cases hb : hv b with
      | none => rw [hb] at h; cases h
      | some d =>
        rw [hb] at h
        have e : 16 * r + d = n := Option.some.inj h
        obtain ⟨h1, h2⟩ := hexM_of_rdN m i r hi hr
        obtain ⟨h3, h4⟩ := hx_of_hv hb
        refine ⟨by rw [Nat.pow_succ]; omega, ?_⟩
        rw [hexM, show n / 16 = r by omega, show n % 16 = d by omega, h2, h4]
/-- Eight digits. -/
theorem rd8_hex8 {n : Nat} (h : n < 4294967296) : rdN 0 (hex8 n) = some n := rdN_hexM 8 n (by simpa using h)
theorem hex8_rd8 {l : List UInt8} {n : Nat} (hl : l.length = 8) (h : rdN 0 l = some n) : n < 4294967296 ∧ hex8 n = l := by
  obtain ⟨h1, h2⟩ := hexM_of_rdN 8 l n hl h
  exact ⟨by simpa using h1, h2⟩

end Go.Proofs.YtebahccjaieajaaGreatDoor
