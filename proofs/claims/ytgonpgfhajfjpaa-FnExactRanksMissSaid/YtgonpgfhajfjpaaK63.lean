/- How many numbers centers and groups have, and where marks end. Plain. -/
import Derived.Test.YtgonpgfhajfjpaaK59
namespace Go.Proofs.Ytgonpgfhajfjpaa
set_option linter.unusedSimpArgs false
set_option linter.unusedVariables false
set_option maxRecDepth 100000
set_option maxHeartbeats 4000000

theorem mkAt_sz (css : List (List Nat)) (k left : Int) (n : Nat) : mkAt css k n = k + left - css.length - szAt css left n := by
  induction n with
  | zero => show k = _ - (left - (css.length : Int)); omega
  | succ n ih => show mkAt css k n + ((rowL css n).length : Int) = _ - (szAt css left n - ((css.getD n []).length : Int)); rw [ih, rowL]; omega
theorem mkAt_le_sz {css : List (List Nat)} {k : Int} (h : 0 ≤ szL css 1048576) : mkAt css k css.length ≤ k + 1048576 := by
  have := mkAt_sz css k 1048576 css.length
  unfold szL at h
  omega
theorem mkAt_ge (css : List (List Nat)) (k : Int) : k ≤ mkAt css k css.length := mkAt_le (css := css) (k := k) (Nat.zero_le _)
theorem mkAt_few {css : List (List Nat)} {k : Int} {L : Nat} (h : ∀ c, c < css.length → (rowL css c).length ≤ L) : ∀ n, n ≤ css.length → mkAt css k n ≤ k + L * n
  | 0, _ => by show k ≤ _; omega
  | n + 1, hn => by
    have h1 := mkAt_few (k := k) h n (by omega)
    have h2 := h n (by omega)
    show mkAt css k n + ((rowL css n).length : Int) ≤ k + (L : Int) * ((n + 1 : Nat) : Int)
    have e : (L : Int) * ((n + 1 : Nat) : Int) = L * n + L := by rw [Int.natCast_add, Int.mul_add]; simp
    rw [e]
    omega
theorem cenQ_shape {css : List (List Nat)} {L C : Nat} : ∀ (r : Nat) {cts : List (List Nat)}, Shp L C cts → cenQ css L r cts = noC ∨ Shp L C (cenQ css L r cts).1 ∧ (cenQ css L r cts).2.1.length = css.length
  | 0, cts, h => by
    rw [cenQ]
    split
    · exact .inr ⟨h, grp_length ..⟩
    · exact .inl rfl
  | r + 1, cts, h => by
    rw [cenQ]
    split
    · split
      · exact cenQ_shape r h.new
      · exact .inl rfl
    · exact .inl rfl
theorem ceQ_few (css : List (List Nat)) (count rounds : Int) (k : Int) : mkAt (ceQ css count rounds).1 k (ceQ css count rounds).1.length ≤ k + 1536 ∧ (ceQ css count rounds).1.length ≤ 16 ∧ (ceQ css count rounds).2.1.length ≤ 16 := by
  have hno : mkAt noC.1 k noC.1.length ≤ k + 1536 ∧ noC.1.length ≤ 16 ∧ noC.2.1.length ≤ 16 := ⟨by show k ≤ _; omega, by decide, by decide⟩
  rw [ceQ]
  split
  · rename_i h
    simp only [Bool.and_eq_true] at h
    obtain ⟨h1, h2, h3⟩ := h
    have hc : 1 ≤ count ∧ count ≤ css.length := by simpa [inB] using h2
    have hl := listOk_len h1
    have hs := (series_iff.1 (listOk_row h1 (k := 0) (by omega)).1).1
    have hC : count.toNat ≤ css.length := by omega
    rcases cenQ_shape rounds.toNat (css := css) (Shp.take h1 hC) with h4 | ⟨h4, h5⟩
    · rw [h4]; exact hno
    · have h6 := h4.1
      refine ⟨?_, by omega, by omega⟩
      have h7 := mkAt_few (k := k) (L := 96) (fun c hc => by rw [h4.2 c (by omega)]; exact hs.2) _ (Nat.le_refl (cenQ css (headL css).length rounds.toNat (css.take count.toNat)).1.length)
      omega
  · exact hno

end Go.Proofs.Ytgonpgfhajfjpaa
