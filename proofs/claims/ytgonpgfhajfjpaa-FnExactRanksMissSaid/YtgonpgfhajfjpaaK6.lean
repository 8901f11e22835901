/- Contracts: series, sums and means. -/
import Derived.Test.YtgonpgfhajfjpaaK5
namespace Go.Proofs.Ytgonpgfhajfjpaa
set_option linter.unusedSimpArgs false
set_option linter.unusedVariables false
set_option maxRecDepth 100000
set_option maxHeartbeats 4000000
open Go.RowKit
attribute [local go_sem] run_store_float run_store_complex alloc_drewN setCell_drewN

/-- A series: 1 to 96 finite numbers. -/
def series (cs : List Nat) : Bool := decide (1 ≤ cs.length) && decide (cs.length ≤ 96) && allFin cs
def meanL (cs : List Nat) : Nat := divF (sumL cs) (fI cs.length)
theorem SL.slice {w : World} {v : Value} {cs : List Nat} (h : SL w v cs) : ∃ ao c, v = .slice ao cs.length c ∧ cs.length ≤ 9223372036854775807 := by
  obtain ⟨ao, c, xs, rfl, rfl, h3, _⟩ := h
  exact ⟨ao, c, by simp, by simp; omega⟩
theorem allFin_take {cs : List Nat} {k : Nat} (hk : k < cs.length) (h1 : allFin (cs.take k) = true) (h2 : fin cs[k] = true) : allFin (cs.take (k + 1)) = true := by
  unfold allFin at *
  rw [take_snoc cs k hk, List.all_append, h1]; simp [h2]
theorem allFin_no {cs : List Nat} {k : Nat} (hk : k < cs.length) (h2 : fin cs[k] = false) : allFin cs = false := by
  unfold allFin
  rw [List.all_eq_false]
  exact ⟨cs[k], List.getElem_mem hk, by simp [h2]⟩


theorem s_l02Finite (v : Value) (cs : List Nat) (w : World) (hv : SL w v cs) :
    Calls Try.prog 39 #[v] w fun e w' => e = .returned (.bool (allFin cs)) ∧ Dr w w' := by
  obtain ⟨ao, c, xs, rfl, hcs, hlen, hcell⟩ := hv
  have hl : xs.length = cs.length := by rw [← hcs]; simp
  have HL := Lib.hid hl
  have HCS := Lib.hid hcs
  have HC := Lib.hid hcell
  clear hcell hcs hl
  go_enter Try.func39, Try.ntmps39
  go_wp2_with fail
  go_loopw [3] (fun i wr => ∃ k : Nat, k ≤ xs.length ∧ i = .int .i64 k ∧ Hid (allFin (cs.take k) = true) ∧ ∃ d, wr = w.drewN d) (fun i _ => xs.length - (intOf i).toNat)
  case atStart => exact ⟨0, Nat.zero_le _, rfl, by simp [Hid, allFin], 0, rfl⟩
  case round =>
    obtain ⟨k, hk, rfl, H1, d, rfl⟩ := hrel
    by_cases hlt : k < xs.length
    · obtain ⟨b, off, rfl, hb, hc⟩ := HC.out k hlt
      have hlt2 : k < cs.length := by have := HL.out; omega
      have hk2 : cn .f32 xs[k] = cs[k] := by simp [← HCS.out]
      cases hp : fin (cn .f32 xs[k])
      all_goals
        have HP := Lib.hid hp
        have HK := Lib.hid hk2
        clear hp hk2
        go_wp2_with (go_at_call 20; refine (s_l01Finite _ _).mono ?_; rintro e w1 ⟨rfl, n, rfl⟩; rw [HP.out])
      · go_ret
        refine ⟨ret_bool ?_, _, rfl⟩
        rw [allFin_no hlt2 (by rw [← HK.out]; exact HP.out)]
      · refine ⟨⟨k + 1, by omega, by go_num, ?_, _, rfl⟩, by simp [intOf]; omega⟩
        exact allFin_take hlt2 H1.out (by rw [← HK.out]; exact HP.out)
    · go_wp2_with fail
      go_ret
      refine ⟨ret_bool ?_, _, rfl⟩
      have h1 := H1.out
      rw [List.take_of_length_le (by have := HL.out; omega)] at h1
      exact h1.symm


theorem s_l02Series (v : Value) (cs : List Nat) (w : World) (hv : SL w v cs) :
    Calls Try.prog 27 #[v] w fun e w' => e = .returned (.bool (series cs)) ∧ Dr w w' := by
  obtain ⟨ao, c, rfl, hlen⟩ := hv.slice
  by_cases h1 : 1 ≤ cs.length
  all_goals
    by_cases h2 : cs.length ≤ 96
    all_goals
      have a1 : (1 : Int) ≤ (cs.length : Int) ↔ 1 ≤ cs.length := by omega
      go_enter Try.func27, Try.ntmps27
      go_wp2_with (go_at_call 39; refine (s_l02Finite _ cs _ hv).mono ?_; rintro e w1 ⟨rfl, n, rfl⟩)
      all_goals
        go_ret
        refine ⟨ret_bool ?_, by first | exact Dr.refl _ | exact Dr.mk _ _⟩
        simp [series, h1, h2]

theorem i_IsSeries (v : Value) (cs : List Nat) (w : World) (hv : SL w v cs) :
    Calls Try.prog 43 #[v] w fun e w' => e = .returned (.bool (series cs)) ∧ Dr w w' := by
  obtain ⟨ao, c, rfl, hlen⟩ := hv.slice
  by_cases h1 : 1 ≤ cs.length
  all_goals
    by_cases h2 : cs.length ≤ 96
    all_goals
      have a1 : (1 : Int) ≤ (cs.length : Int) ↔ 1 ≤ cs.length := by omega
      go_enter Try.func43, Try.ntmps43
      go_wp2_with (go_at_call 48; refine (i_areFinite _ cs _ hv).mono ?_; rintro e w1 ⟨rfl, n, rfl⟩)
      all_goals
        go_ret
        refine ⟨ret_bool ?_, by first | exact Dr.refl _ | exact Dr.mk _ _⟩
        simp [series, h1, h2]

end Go.Proofs.Ytgonpgfhajfjpaa
