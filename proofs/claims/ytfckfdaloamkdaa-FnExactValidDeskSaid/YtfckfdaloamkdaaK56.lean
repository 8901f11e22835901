/- Contracts: days. -/
import Derived.Test.YtfckfdaloamkdaaK54
import Derived.Test.YtfckfdaloamkdaaK55
namespace Go.Proofs.Ytfckfdaloamkdaa
set_option linter.unusedSimpArgs false
set_option linter.unusedVariables false
set_option maxRecDepth 100000
set_option maxHeartbeats 4000000
set_option linter.unusedSimpArgs false
set_option linter.unusedVariables false
open Go.RowKit
attribute [local go_sem] run_store_float run_store_complex alloc_drewN setCell_drewN


theorem i_newYear_1900 (w : World) : Calls Try.prog 114 #[.int .i64 1900] w fun e w' => e = .returned (.int .i64 (-36524)) ∧ Dr w w' :=
  (i_newYear 1900 (by omega) (by omega) w).mono fun _ _ h => ⟨h.1.trans (congrArg (fun z => Ending.returned (Value.int .i64 z)) newI_1900), h.2⟩
theorem i_newYear_2200 (w : World) : Calls Try.prog 114 #[.int .i64 2200] w fun e w' => e = .returned (.int .i64 73049) ∧ Dr w w' :=
  (i_newYear 2200 (by omega) (by omega) w).mono fun _ _ h => ⟨h.1.trans (congrArg (fun z => Ending.returned (Value.int .i64 z)) newI_2200), h.2⟩
theorem i_isDay (n : Int) (w : World) : Calls Try.prog 90 #[.int .i64 n] w fun e w' => e = .returned (.bool (dayB n)) ∧ Dr w w' := by
  go_enter Try.func90, Try.ntmps90
  go_wp2_with fail
  refine (i_newYear_1900 _).mono ?_; rintro z w1 ⟨rfl, n1, rfl⟩
  go_wp2_with fail
  refine (i_newYear_2200 _).mono ?_; rintro z w2 ⟨rfl, n2, rfl⟩
  go_wp2_with fail
  refine (i_within _ _ _ _).mono ?_; rintro z w3 ⟨rfl, n3, rfl⟩
  go_wp2_with fail
  go_ret
  exact ⟨rfl, Dr.mk _ _⟩

theorem s_l02First_1900 (w : World) : Calls Try.prog 126 #[.int .i64 1900] w fun e w' => e = .returned (.int .i64 (-36524)) ∧ Dr w w' :=
  (s_l02First 1900 (by omega) (by omega) w).mono fun _ _ h => ⟨h.1.trans (congrArg (fun z => Ending.returned (Value.int .i64 z)) newS_1900), h.2⟩
theorem s_l02First_2200 (w : World) : Calls Try.prog 126 #[.int .i64 2200] w fun e w' => e = .returned (.int .i64 73049) ∧ Dr w w' :=
  (s_l02First 2200 (by omega) (by omega) w).mono fun _ _ h => ⟨h.1.trans (congrArg (fun z => Ending.returned (Value.int .i64 z)) newS_2200), h.2⟩
theorem s_l02Day (n : Int) (w : World) : Calls Try.prog 112 #[.int .i64 n] w fun e w' => e = .returned (.bool (dayB n)) ∧ Dr w w' := by
  go_enter Try.func112, Try.ntmps112
  go_wp2_with fail
  refine (s_l02First_1900 _).mono ?_; rintro z w1 ⟨rfl, n1, rfl⟩
  go_wp2_with fail
  refine (s_l02First_2200 _).mono ?_; rintro z w2 ⟨rfl, n2, rfl⟩
  go_wp2_with fail
  refine (s_l00In _ _ _ _).mono ?_; rintro z w3 ⟨rfl, n3, rfl⟩
  go_wp2_with fail
  go_ret
  exact ⟨rfl, Dr.mk _ _⟩

end Go.Proofs.Ytfckfdaloamkdaa
