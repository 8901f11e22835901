/- Contracts: all costs of warped ways, by the reference. -/
import Derived.Test.YtgonpgfhajfjpaaK161
import Derived.Test.YtgonpgfhajfjpaaGen
import Derived.BigQuiet
namespace Go.Proofs.Ytgonpgfhajfjpaa
set_option linter.unusedSimpArgs false
set_option linter.unusedVariables false
set_option maxRecDepth 100000
set_option maxHeartbeats 4000000
open Go.RowKit
attribute [local go_sem] run_store_float run_store_complex alloc_drewN setCell_drewN
/-- An operation whose result is no NaN, at every world. -/
theorem run_arx {P : Program} (op : BinOp) (x y D : Nat) (hD : ar op .f32 (cn .f32 x) (cn .f32 y) = D) (hn : (S.read D).isNaN = false) (t : TypeId) (w : World) :
    (binOp op t (.float .f32 x) (.float .f32 y)).run P w = .ok (.float .f32 D) w := by
  rw [ar_cn] at hD
  cases h : floatBits op .f32 x y with
  | some r =>
    have : r = D := by rw [← hD]; simp [ar, h]
    subst this
    exact run_float_arith w op t .f32 x y r h
  | none =>
    have : D = qnan .f32 := by rw [← hD]; simp [ar, h]
    subst this
    have h2 : (S.read (qnan .f32)).isNaN = true := qnan_isNaN .f32
    rw [h2] at hn; cases hn
theorem getD_under {A B : List Nat} {i : Nat} (h : i < A.length) : (A ++ B).getD i 0 = A.getD i 0 := by
  simp [List.getElem?_append_left h]
theorem set_end (A : List Nat) (x y n : Nat) : (A ++ x :: List.replicate n 0).set A.length y = A ++ y :: List.replicate n 0 := by
  rw [List.set_append_right _ _ (Nat.le_refl _), Nat.sub_self]; rfl
theorem rep_open {n m : Nat} (h : n < m) : List.replicate (m - n) 0 = 0 :: List.replicate (m - (n + 1)) (0 : Nat) := by
  rw [show m - n = (m - (n + 1)) + 1 by omega]; rfl
theorem cand_place {wide n m zz : Nat} (hz : zz = n * wide + m) {b : Nat} (hb : b < 3) (h0 : 0 ≤ candI b n) (h1 : 0 ≤ candK b m) :
    ∃ yy : Nat, (candI b n).toNat * wide + (candK b m).toNat = yy ∧ (b = 0 ∧ (zz : Int) - (wide : Int) = (yy : Int) ∨ b = 1 ∧ (zz : Int) - 1 = (yy : Int) ∨ b = 2 ∧ (zz : Int) - (wide : Int) - 1 = (yy : Int)) := by
  refine ⟨_, rfl, ?_⟩
  have h3 : b = 0 ∨ b = 1 ∨ b = 2 := by omega
  rcases h3 with rfl | rfl | rfl
  · have h0' : 0 ≤ (n : Int) - 1 := h0
    obtain ⟨k, rfl⟩ : ∃ k, n = k + 1 := ⟨n - 1, by omega⟩
    have e1 : (candI 0 ((k + 1 : Nat) : Int)).toNat = k := by show (((k + 1 : Nat) : Int) - 1).toNat = k; omega
    have e2 : (candK 0 (m : Int)).toNat = m := by show ((m : Int)).toNat = m; omega
    rw [e1, e2, hz, Nat.add_mul]
    exact .inl ⟨rfl, by omega⟩
  · have h1' : 0 ≤ (m : Int) - 1 := h1
    have e1 : (candI 1 (n : Int)).toNat = n := by show ((n : Int)).toNat = n; omega
    have e2 : (candK 1 (m : Int)).toNat = m - 1 := by show ((m : Int) - 1).toNat = m - 1; omega
    rw [e1, e2, hz]
    exact .inr (.inl ⟨rfl, by omega⟩)
  · have h0' : 0 ≤ (n : Int) - 1 := h0
    have h1' : 0 ≤ (m : Int) - 1 := h1
    obtain ⟨k, rfl⟩ : ∃ k, n = k + 1 := ⟨n - 1, by omega⟩
    have e1 : (candI 2 ((k + 1 : Nat) : Int)).toNat = k := by show (((k + 1 : Nat) : Int) - 1).toNat = k; omega
    have e2 : (candK 2 (m : Int)).toNat = m - 1 := by show ((m : Int) - 1).toNat = m - 1; omega
    rw [e1, e2, hz, Nat.add_mul]
    exact .inr (.inr ⟨rfl, by omega⟩)
theorem szS_notNaN {x : Nat} (h : x < 4294967296) (hn : (S.read x).isNaN = false) : (S.read (szS x)).isNaN = false := by
  unfold szS
  split
  · exact negw_notNaN h hn
  · exact hn

end Go.Proofs.Ytgonpgfhajfjpaa
