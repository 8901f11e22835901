/- Numbers in hexadecimal. Plain: no program. -/
import Derived.Test.YtebahccjaieajaaDoorTx
namespace Go.Proofs.YtebahccjaieajaaDoor
set_option linter.unusedSimpArgs false
set_option linter.unusedVariables false
set_option maxRecDepth 100000
set_option maxHeartbeats 4000000
open Go.RowKit

def hx (d : Nat) : UInt8 := if d < 10 then UInt8.ofNat (48 + d) else UInt8.ofNat (87 + d)
theorem hx_val {d : Nat} (h : d < 16) : (hx d).toNat = if d < 10 then 48 + d else 87 + d := by
  rw [hx]; split
  · rw [UInt8.toNat_ofNat']; omega
  · rw [UInt8.toNat_ofNat']; omega
/-- Without leading zeros. -/
def hexN (n : Nat) : List UInt8 := if n < 16 then [hx n] else hexN (n / 16) ++ [hx (n % 16)]
/-- The last m digits. -/
def hexM : Nat → Nat → List UInt8
  | 0, _ => []
  | m + 1, n => hexM m (n / 16) ++ [hx (n % 16)]
theorem hexM_length : ∀ m n, (hexM m n).length = m
  | 0, _ => rfl
  | m + 1, n => by rw [hexM, List.length_append, hexM_length]; rfl
theorem hexM_zero : ∀ m, hexM m 0 = List.replicate m 48
  | 0 => rfl
  | m + 1 => by rw [hexM, Nat.zero_div, hexM_zero, List.replicate_succ']; rfl
theorem hexN_small {n : Nat} (h : n < 16) : hexN n = [hx n] := by rw [hexN, if_pos h]
theorem hexN_great {n : Nat} (h : ¬ n < 16) : hexN n = hexN (n / 16) ++ [hx (n % 16)] := by rw [hexN, if_neg h]
theorem hexN_pad : ∀ (m n : Nat), n < 16 ^ (m + 1) → (hexN n).length ≤ m + 1 ∧ List.replicate (m + 1 - (hexN n).length) 48 ++ hexN n = hexM (m + 1) n
  | m, n, h => by
    by_cases hs : n < 16
    · rw [hexN_small hs, hexM, show n / 16 = 0 by omega, hexM_zero, Nat.mod_eq_of_lt hs]
      exact ⟨by simp, rfl⟩
    · cases m with
      | zero => exact absurd h (by omega)
      | succ m =>
        have h2 : n / 16 < 16 ^ (m + 1) := by
          rw [Nat.div_lt_iff_lt_mul (by decide), ← Nat.pow_succ]; exact h
        obtain ⟨i1, i2⟩ := hexN_pad m (n / 16) h2
        rw [hexN_great hs, hexM, ← i2, List.length_append]
        refine ⟨by simp; omega, ?_⟩
        rw [show m + 1 + 1 - ((hexN (n / 16)).length + [hx (n % 16)].length) = m + 1 - (hexN (n / 16)).length by simp, List.append_assoc]
def hex8 (n : Nat) : List UInt8 := hexM 8 n
theorem hex8_pad {n : Nat} (h : n < 4294967296) : (hexN n).length ≤ 8 ∧ List.replicate (8 - (hexN n).length) 48 ++ hexN n = hex8 n := hexN_pad 7 n (by simpa using h)
theorem hexM_step (n j : Nat) (hj : j < 8) : hexM (j + 1) (n / 16 ^ (7 - j)) = hexM j (n / 16 ^ (8 - j)) ++ [hx (n / 16 ^ (7 - j) % 16)] := by
  rw [hexM, Nat.div_div_eq_div_mul, ← Nat.pow_succ, show (7 - j).succ = 8 - j by omega]
theorem hexN_ne (n : Nat) : hexN n ≠ [] := by rw [hexN]; split <;> simp
def hexDigits : List UInt8 := [48, 49, 50, 51, 52, 53, 54, 55, 56, 57, 97, 98, 99, 100, 101, 102]
theorem hexDigits_at : ∀ {d : Nat}, d < 16 → hexDigits[d]? = some (hx d) := by decide

end Go.Proofs.YtebahccjaieajaaDoor
