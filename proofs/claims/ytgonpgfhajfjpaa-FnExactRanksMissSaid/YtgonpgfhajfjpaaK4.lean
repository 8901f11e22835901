/- Contracts: ranges of integers, numbers if they are finite, and walks. -/
import Derived.Test.YtgonpgfhajfjpaaK3
import Derived.Test.YtgonpgfhajfjpaaFx
namespace Go.Proofs.Ytgonpgfhajfjpaa
set_option linter.unusedSimpArgs false
set_option linter.unusedVariables false
set_option maxRecDepth 100000
set_option maxHeartbeats 4000000
open Go.RowKit
attribute [local go_sem] run_store_float run_store_complex alloc_drewN setCell_drewN

/-- From low to high. -/
def inB (n low high : Int) : Bool := decide (low ≤ n) && decide (n ≤ high)
theorem inB_iff (n low high : Int) : inB n low high = true ↔ low ≤ n ∧ n ≤ high := by simp [inB]

/-- A number and a bool are returned. -/
def NB (e : Ending) (q : Nat × Bool) : Prop := ∃ r b, e = .returned (.tuple #[.float .f32 r, .bool b]) ∧ r < 4294967296 ∧ cn .f32 r = q.1 ∧ b = q.2
/-- A number if it is finite. -/
def numB (c : Nat) : Nat × Bool := (if fin c then c else 0, fin c)
theorem num_pair {r : Nat} (hr : r < 4294967296) : (if fin (cn .f32 r) then r else 0) < 4294967296 ∧ cn .f32 (if fin (cn .f32 r) then r else 0) = if fin (cn .f32 r) then cn .f32 r else 0 := by
  split
  · exact ⟨hr, rfl⟩
  · exact ⟨by omega, cn0⟩


theorem i_ifFinite (x : Nat) (hx : x < 4294967296) (w : World) : Calls Try.prog 36 #[.float .f32 x] w fun e w' => NB e (numB (cn .f32 x)) ∧ Dr w w' := by
  cases h : fin (cn .f32 x)
  all_goals
    have H := Lib.hid h
    clear h
    go_enter Try.func36, Try.ntmps36
    go_wp2_with (go_at_call 44; refine (i_IsFinite _ _).mono ?_; rintro e w1 ⟨rfl, n, rfl⟩; rw [H.out])
    go_ret2
  · exact ⟨⟨0, false, rfl, by omega, by simp [numB, H.out, cn0], by simp [numB, H.out]⟩, _, rfl⟩
  · exact ⟨⟨x, true, rfl, hx, by simp [numB, H.out], by simp [numB, H.out]⟩, _, rfl⟩

theorem l_sameFloat (x y : Nat) (hxy : cn .f64 x = cn .f64 y) (w : World) : Calls Try.prog 26 #[.float .f64 x, .float .f64 y] w fun e w' => e = .returned (.bool true) ∧ Dr w w' := by
  have HY := Lib.hid hxy.symm
  clear hxy
  have H0 := Lib.hid (show cn .f64 0 = 0 by decide +kernel)
  cases hn : (FloatKind.f64.format.read (cn .f64 x)).isNaN
  · have h1 : fc .neq .f64 (cn .f64 x) (cn .f64 x) = false := by rw [fc_neq_self, hn]
    have h2 : fc .eql .f64 (cn .f64 x) (cn .f64 x) = true := by rw [fc_eql_self, hn]; rfl
    have H1 := Lib.hid h1
    have H2 := Lib.hid h2
    clear h1 h2 hn
    go_enter Try.func26, Try.ntmps26
    go_wp2_with (first | (refine wpList_ar .f64 _ _ rfl rfl rfl ?_; intro r n hr hlt; (try rw [HY.out] at hr); have HR := Lib.hid hr; clear hr) | (refine wpList_fc .f64 _ _ rfl rfl rfl ?_; (try rw [HY.out]); first | rw [H1.out] | rw [H2.out] | skip) | (refine wpList_fc_g rfl .f64 _ _ rfl rfl rfl ?_; (try rw [HY.out]); first | rw [H1.out] | rw [H2.out] | skip))
    all_goals
      go_ret
      first
        | exact ⟨rfl, Dr.refl _⟩
        | exact ⟨rfl, Dr.mk _ _⟩
        | (refine ⟨ret_bool ?_, Dr.mk _ _⟩; rename_i r1 n1 hl1 HR1 r n hlt; rw [Hid.out HR1, Hid.out ‹Hid (cn .f64 r = _)›]; simp; done)
        | (refine ⟨ret_bool ?_, Dr.mk _ _⟩; rename_i r1 n1 hl1 HR1; rw [Hid.out HR1, Hid.out HR]; simp; done)
  · have h1 : fc .neq .f64 (cn .f64 x) (cn .f64 x) = true := by rw [fc_neq_self, hn]
    have H1 := Lib.hid h1
    clear h1 hn
    go_enter Try.func26, Try.ntmps26
    go_wp2_with (first | (refine wpList_fc .f64 _ _ rfl rfl rfl ?_; (try rw [HY.out]); rw [H1.out]) | (refine wpList_fc_g rfl .f64 _ _ rfl rfl rfl ?_; (try rw [HY.out]); rw [H1.out]))
    go_ret
    exact ⟨rfl, Dr.refl _⟩

end Go.Proofs.Ytgonpgfhajfjpaa
