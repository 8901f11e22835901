/- Contracts: the first day of a year, by the reference. -/
import Derived.Test.YtfckfdaloamkdaaK52
namespace Go.Proofs.Ytfckfdaloamkdaa
set_option linter.unusedSimpArgs false
set_option linter.unusedVariables false
set_option maxRecDepth 100000
set_option maxHeartbeats 4000000
set_option linter.unusedSimpArgs false
set_option linter.unusedVariables false
open Go.RowKit
attribute [local go_sem] run_store_float run_store_complex alloc_drewN setCell_drewN


theorem s_l02First (y : Int) (hy : 1000 ≤ y) (hy2 : y ≤ 3000) (w : World) : Calls Try.prog 126 #[.int .i64 y] w fun e w' => e = .returned (.int .i64 (newS y)) ∧ Dr w w' := by
  obtain ⟨n, hn⟩ : ∃ n : Nat, n = (y - 2000).toNat := ⟨_, rfl⟩
  obtain ⟨m, hm⟩ : ∃ m : Nat, m = (2000 - y).toNat := ⟨_, rfl⟩
  have HQ := Lib.hid (show newS y = upI n - fromI y m by rw [newS, hn, hm])
  have hbn := upI_bound n
  have HN := Lib.hid (show y ≤ 2000 + (n : Int) ∧ (n = 0 ∨ 2000 + (n : Int) = y) by omega)
  have HM := Lib.hid (show 2000 ≤ y + (m : Int) ∧ (m = 0 ∨ y + (m : Int) = 2000) by omega)
  clear hn hm
  go_enter Try.func126, Try.ntmps126
  go_wp2_with fail
  go_loopw [3, 4] (fun s i wr => ∃ k : Nat, k ≤ n ∧ i = .int .i64 (2000 + (k : Int)) ∧ s = .int .i64 (upI k) ∧ ∃ d, wr = w.drewN d) (fun _ i _ => 2000 + n - (intOf i).toNat)
  case atStart => exact ⟨0, Nat.zero_le _, rfl, rfl, 0, rfl⟩
  case round =>
    obtain ⟨k, hk, rfl, rfl, d, rfl⟩ := hrel
    have hb := upI_bound k
    by_cases hlt : k < n
    · have j1 : (2000 : Int) + (k : Int) < y := by have := HN.out; omega
      have hd := dyI_bound (2000 + (k : Int))
      have j2 : IntKind.i64.wrap (2000 + (k : Int) + 1) = 2000 + (k : Int) + 1 := by rw [IntKind.wrap_i64]; omega
      have j3 : IntKind.i64.wrap (upI k + dyI (2000 + (k : Int))) = upI k + dyI (2000 + (k : Int)) := by rw [IntKind.wrap_i64]; omega
      go_wp2_with (go_at_call 135; refine (s_l02Long _ (by omega) (by omega) _).mono ?_; rintro z w1 ⟨rfl, n1, rfl⟩)
      refine ⟨⟨k + 1, by omega, by go_num, ?_, _, rfl⟩, by simp [intOf]; omega⟩
      show _ = Value.int .i64 (upI k + dyI (2000 + (k : Int)))
      congr 1
    · have j1 : ¬ (2000 : Int) + (k : Int) < y := by have := HN.out; omega
      have hkn : k = n := by omega
      subst hkn
      go_wp2_with fail
      go_loopw [3, 5] (fun s i wr => ∃ j : Nat, j ≤ m ∧ i = .int .i64 (y + (j : Int)) ∧ s = .int .i64 (upI k - fromI y j) ∧ ∃ d, wr = w.drewN d) (fun _ i _ => (2000 - intOf i).toNat)
      case atStart => exact ⟨0, Nat.zero_le _, by simp, by simp [fromI], _, rfl⟩
      case round =>
        obtain ⟨j, hj, rfl, rfl, d2, rfl⟩ := hrel
        have hb2 := fromI_bound y j
        have hkk : k ≤ 1000 := by have := HN.out; omega
        by_cases hlt2 : j < m
        · have g1 : y + (j : Int) < 2000 := by have := HM.out; omega
          have hd := dyI_bound (y + (j : Int))
          have g2 : IntKind.i64.wrap (y + (j : Int) + 1) = y + (j : Int) + 1 := by rw [IntKind.wrap_i64]; omega
          have g3 : IntKind.i64.wrap (upI k - fromI y j - dyI (y + (j : Int))) = upI k - fromI y j - dyI (y + (j : Int)) := by rw [IntKind.wrap_i64]; omega
          go_wp2_with (go_at_call 135; refine (s_l02Long _ (by omega) (by omega) _).mono ?_; rintro z w1 ⟨rfl, n1, rfl⟩)
          refine ⟨⟨j + 1, by omega, by go_num, ?_, _, rfl⟩, by simp [intOf]; omega⟩
          show _ = Value.int .i64 (upI k - (fromI y j + dyI (y + (j : Int))))
          congr 1
          omega
        · have g1 : ¬ y + (j : Int) < 2000 := by have := HM.out; omega
          have hjm : j = m := by omega
          subst hjm
          go_wp2_with fail
          go_ret
          exact ⟨ret_int HQ.out.symm, _, rfl⟩

end Go.Proofs.Ytfckfdaloamkdaa
