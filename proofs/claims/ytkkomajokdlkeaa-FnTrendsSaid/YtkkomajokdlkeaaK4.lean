/- Contracts: ranges of integers, numbers if they are finite, and walks. -/
import Derived.Test.YtkkomajokdlkeaaK3
import Derived.Test.YtkkomajokdlkeaaFx
namespace Go.Proofs.Ytkkomajokdlkeaa
set_option linter.unusedSimpArgs false
set_option linter.unusedVariables false
set_option maxRecDepth 100000
set_option maxHeartbeats 4000000
open Go.RowKit
attribute [local go_sem] run_store_float run_store_complex alloc_drewN setCell_drewN

/-- From low to high. -/
def inB (n low high : Int) : Bool := decide (low ≤ n) && decide (n ≤ high)
theorem inB_iff (n low high : Int) : inB n low high = true ↔ low ≤ n ∧ n ≤ high := by simp [inB]

/-- A number and a bool are returned. -/
def NB (e : Ending) (q : Nat × Bool) : Prop := ∃ r b, e = .returned (.tuple #[.float .f32 r, .bool b]) ∧ r < 4294967296 ∧ cn .f32 r = q.1 ∧ b = q.2
/-- A number if it is finite. -/
def numB (c : Nat) : Nat × Bool := (if fin c then c else 0, fin c)
theorem num_pair {r : Nat} (hr : r < 4294967296) : (if fin (cn .f32 r) then r else 0) < 4294967296 ∧ cn .f32 (if fin (cn .f32 r) then r else 0) = if fin (cn .f32 r) then cn .f32 r else 0 := by
  split
  · exact ⟨hr, rfl⟩
  · exact ⟨by omega, cn0⟩


theorem s_l00In (n low high : Int) (w : World) : Calls Try.prog 62 #[.int .i64 n, .int .i64 low, .int .i64 high] w fun e w' => e = .returned (.bool (inB n low high)) ∧ Dr w w' := by
  by_cases h : low ≤ n
  all_goals
    go_enter Try.func62, Try.ntmps62
    go_wp2
    go_ret
    exact ⟨ret_bool (by first | (simp [inB, h]; done) | (simp [inB]; omega)), Dr.refl _⟩

theorem i_within (n low high : Int) (w : World) : Calls Try.prog 56 #[.int .i64 n, .int .i64 low, .int .i64 high] w fun e w' => e = .returned (.bool (inB n low high)) ∧ Dr w w' := by
  by_cases h : low ≤ n
  all_goals
    go_enter Try.func56, Try.ntmps56
    go_wp2
    go_ret
    exact ⟨ret_bool (by first | (simp [inB, h]; done) | (simp [inB]; omega)), Dr.refl _⟩

theorem s_l02Number (x : Nat) (hx : x < 4294967296) (w : World) : Calls Try.prog 66 #[.float .f32 x] w fun e w' => NB e (numB (cn .f32 x)) ∧ Dr w w' := by
  cases h : fin (cn .f32 x)
  all_goals
    have H := Lib.hid h
    clear h
    go_enter Try.func66, Try.ntmps66
    go_wp2_with (go_at_call 69; refine (s_l01Finite _ _).mono ?_; rintro e w1 ⟨rfl, n, rfl⟩; rw [H.out])
    go_ret2
  · exact ⟨⟨0, false, rfl, by omega, by simp [numB, H.out, cn0], by simp [numB, H.out]⟩, _, rfl⟩
  · exact ⟨⟨x, true, rfl, hx, by simp [numB, H.out], by simp [numB, H.out]⟩, _, rfl⟩

theorem i_ifFinite (x : Nat) (hx : x < 4294967296) (w : World) : Calls Try.prog 72 #[.float .f32 x] w fun e w' => NB e (numB (cn .f32 x)) ∧ Dr w w' := by
  cases h : fin (cn .f32 x)
  all_goals
    have H := Lib.hid h
    clear h
    go_enter Try.func72, Try.ntmps72
    go_wp2_with (go_at_call 87; refine (i_IsFinite _ _).mono ?_; rintro e w1 ⟨rfl, n, rfl⟩; rw [H.out])
    go_ret2
  · exact ⟨⟨0, false, rfl, by omega, by simp [numB, H.out, cn0], by simp [numB, H.out]⟩, _, rfl⟩
  · exact ⟨⟨x, true, rfl, hx, by simp [numB, H.out], by simp [numB, H.out]⟩, _, rfl⟩

end Go.Proofs.Ytkkomajokdlkeaa
