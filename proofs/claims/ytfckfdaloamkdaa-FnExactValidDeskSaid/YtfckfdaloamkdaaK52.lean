/- Contracts: which numbers are days. -/
import Derived.Test.YtfckfdaloamkdaaK4
namespace Go.Proofs.Ytfckfdaloamkdaa
set_option linter.unusedSimpArgs false
set_option linter.unusedVariables false
set_option maxRecDepth 100000
set_option maxHeartbeats 4000000
set_option linter.unusedSimpArgs false
set_option linter.unusedVariables false
open Go.RowKit
attribute [local go_sem] run_store_float run_store_complex alloc_drewN setCell_drewN

/-- A leap year. -/
def lpB (y : Int) : Bool := (decide (y % 4 = 0) && !decide (y % 100 = 0)) || decide (y % 400 = 0)
/-- How many days a year has. -/
def dyI (y : Int) : Int := if lpB y then 366 else 365
def upI : Nat → Int
  | 0 => 0
  | k + 1 => upI k + dyI (2000 + k)
def downI : Nat → Int
  | 0 => 0
  | k + 1 => downI k + dyI (1999 - k)
def fromI (y : Int) : Nat → Int
  | 0 => 0
  | k + 1 => fromI y k + dyI (y + k)
theorem dyI_bound (y : Int) : 365 ≤ dyI y ∧ dyI y ≤ 366 := by unfold dyI; split <;> omega
theorem dyI_of {y : Int} {b : Bool} (h : lpB y = b) : dyI y = if b then 366 else 365 := by rw [dyI, h]
theorem upI_bound (k : Nat) : 0 ≤ upI k ∧ upI k ≤ 366 * k := by
  induction k with
  | zero => simp [upI]
  | succ k ih => have := dyI_bound (2000 + k); simp only [upI]; omega
theorem downI_bound (k : Nat) : 0 ≤ downI k ∧ downI k ≤ 366 * k := by
  induction k with
  | zero => simp [downI]
  | succ k ih => have := dyI_bound (1999 - k); simp only [downI]; omega
theorem fromI_bound (y : Int) (k : Nat) : 0 ≤ fromI y k ∧ fromI y k ≤ 366 * k := by
  induction k with
  | zero => simp [fromI]
  | succ k ih => have := dyI_bound (y + k); simp only [fromI]; omega
/-- The first day of a year, by the program and by the reference. -/
def newI (y : Int) : Int := upI (y - 2000).toNat - downI (2000 - y).toNat
def newS (y : Int) : Int := upI (y - 2000).toNat - fromI y (2000 - y).toNat
theorem newI_1900 : newI 1900 = -36524 := by decide +kernel
theorem newI_2200 : newI 2200 = 73049 := by decide +kernel
theorem newS_1900 : newS 1900 = -36524 := by decide +kernel
theorem newS_2200 : newS 2200 = 73049 := by decide +kernel
def dayB (n : Int) : Bool := inB n (-36524) 73048

theorem i_leaps (y : Int) (hy : 1000 ≤ y) (hy2 : y ≤ 3000) (w : World) : Calls Try.prog 127 #[.int .i64 y] w fun e w' => e = .returned (.bool (lpB y)) ∧ Dr w w' := by
  by_cases h1 : y % 4 = 0 <;> by_cases h2 : y % 100 = 0 <;> by_cases h3 : y % 400 = 0
  all_goals
    go_enter Try.func127, Try.ntmps127
    go_wp2_with fail
    go_ret
    exact ⟨ret_bool (by simp [lpB, *]), by first | exact Dr.refl _ | exact Dr.mk _ _⟩

theorem s_l02Leap (y : Int) (hy : 1000 ≤ y) (hy2 : y ≤ 3000) (w : World) : Calls Try.prog 141 #[.int .i64 y] w fun e w' => e = .returned (.bool (lpB y)) ∧ Dr w w' := by
  by_cases h1 : y % 4 = 0 <;> by_cases h2 : y % 100 = 0 <;> by_cases h3 : y % 400 = 0
  all_goals
    go_enter Try.func141, Try.ntmps141
    go_wp2_with fail
    go_ret
    exact ⟨ret_bool (by simp [lpB, *]), by first | exact Dr.refl _ | exact Dr.mk _ _⟩

theorem s_l02Long (y : Int) (hy : 1000 ≤ y) (hy2 : y ≤ 3000) (w : World) : Calls Try.prog 135 #[.int .i64 y] w fun e w' => e = .returned (.int .i64 (dyI y)) ∧ Dr w w' := by
  cases h : lpB y
  all_goals
    have H := Lib.hid h
    clear h
    go_enter Try.func135, Try.ntmps135
    go_wp2_with (go_at_call 141; refine (s_l02Leap y hy hy2 _).mono ?_; rintro z w1 ⟨rfl, n1, rfl⟩; rw [H.out])
    go_ret
    exact ⟨ret_int (by simp [dyI, H.out]), _, rfl⟩

end Go.Proofs.Ytfckfdaloamkdaa
