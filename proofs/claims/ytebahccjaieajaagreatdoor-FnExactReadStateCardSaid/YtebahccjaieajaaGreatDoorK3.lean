/- Contracts: which numbers are the same. -/
import Derived.Test.YtebahccjaieajaaGreatDoorK1
import Derived.Test.YtebahccjaieajaaGreatDoorFb
namespace Go.Proofs.YtebahccjaieajaaGreatDoor
set_option linter.unusedSimpArgs false
set_option linter.unusedVariables false
set_option maxRecDepth 100000
set_option maxHeartbeats 4000000
open Go.RowKit
attribute [local go_sem] run_store_float run_store_complex alloc_drewN setCell_drewN

theorem ret_bool {a b : Bool} (h : a = b) : Ending.returned (.bool a) = .returned (.bool b) := by rw [h]
theorem ret_int {k : IntKind} {a b : Int} (h : a = b) : Ending.returned (.int k a) = .returned (.int k b) := by rw [h]


theorem c_Float32bits (x : Nat) (w : World) : Sem.run Tryz.prog (callFunc 47 #[.float .f32 x]) w = .ok (.value (.int .u32 x)) w := by kernel_rfl


/-- The bits that the reference tells. -/
theorem s_l01Bits (x : Nat) (hx : x < 4294967296) (w : World) :
    Calls Tryz.prog 31 #[.float .f32 x] w fun e w' => e = .returned (.int .i64 (cn .f32 x)) ∧ Dr w w' := by
  have hb := c_Float32bits
  go_enter Tryz.func31, Tryz.ntmps31
  go_wp2_with (first | (refine wpList_ar .f32 _ _ rfl rfl rfl ?_; intro r n hr hlt) | (refine wpList_fc .f32 _ _ rfl rfl rfl ?_) | (refine wpList_fc_g rfl .f32 _ _ rfl rfl rfl ?_) | (refine wpList_ar_g rfl .f32 _ _ rfl rfl rfl ?_; intro r n hr hlt))
  all_goals
    rename_i h
    go_ret
    refine ⟨ret_int ?_, Dr.refl _⟩
    rw [fc_neq_self, isNaN_cn] at h
  · rw [cn_of_nan h]
    exact rfl
  · have h : (FloatKind.f32.format.read x).isNaN = false := by simpa using h
    rw [cn_of_not h]

end Go.Proofs.YtebahccjaieajaaGreatDoor
