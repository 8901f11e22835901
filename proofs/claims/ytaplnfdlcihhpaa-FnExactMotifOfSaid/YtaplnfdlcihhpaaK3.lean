/- Contracts: which numbers are the same. -/
import Derived.Test.YtaplnfdlcihhpaaK1
import Derived.Test.YtaplnfdlcihhpaaFb
namespace Go.Proofs.Ytaplnfdlcihhpaa
set_option maxRecDepth 100000
set_option maxHeartbeats 4000000
open Go.RowKit
attribute [local go_sem] run_store_float run_store_complex alloc_drewN setCell_drewN

theorem ret_bool {a b : Bool} (h : a = b) : Ending.returned (.bool a) = .returned (.bool b) := by rw [h]
theorem ret_int {k : IntKind} {a b : Int} (h : a = b) : Ending.returned (.int k a) = .returned (.int k b) := by rw [h]


theorem c_Float32bits (x : Nat) (w : World) : Sem.run Try.prog (callFunc 117 #[.float .f32 x]) w = .ok (.value (.int .u32 x)) w := by kernel_rfl


/-- The bits that the reference tells. -/
theorem s_l01Bits (x : Nat) (hx : x < 4294967296) (w : World) :
    Calls Try.prog 103 #[.float .f32 x] w fun e w' => e = .returned (.int .i64 (cn .f32 x)) ∧ Dr w w' := by
  have hb := c_Float32bits
  go_enter Try.func103, Try.ntmps103
  go_wp2_with (first | (refine wpList_ar .f32 _ _ rfl rfl rfl ?_; intro r n hr hlt) | (refine wpList_fc .f32 _ _ rfl rfl rfl ?_) | (refine wpList_fc_g rfl .f32 _ _ rfl rfl rfl ?_) | (refine wpList_ar_g rfl .f32 _ _ rfl rfl rfl ?_; intro r n hr hlt))
  all_goals
    rename_i h
    go_ret
    refine ⟨ret_int ?_, Dr.refl _⟩
    rw [fc_neq_self, isNaN_cn] at h
  · rw [cn_of_nan h]
    exact rfl
  · have h : (FloatKind.f32.format.read x).isNaN = false := by simpa using h
    rw [cn_of_not h]


theorem s_l01Same (x y : Nat) (hx : x < 4294967296) (hy : y < 4294967296) (w : World) :
    Calls Try.prog 58 #[.float .f32 x, .float .f32 y] w fun e w' => e = .returned (.bool (same (cn .f32 x) (cn .f32 y))) ∧ Dr w w' := by
  go_enter Try.func58, Try.ntmps58
  go_wp2_with fail
  refine (s_l01Bits _ hx _).mono ?_; rintro z w1 ⟨rfl, n, rfl⟩
  go_wp2_with fail
  refine (s_l01Bits _ hy _).mono ?_; rintro z w1 ⟨rfl, n, rfl⟩
  go_wp2_with fail
  go_ret
  refine ⟨ret_bool ?_, _, rfl⟩
  unfold same
  rw [Bool.eq_iff_iff]
  simp only [beq_iff_eq]
  omega

end Go.Proofs.Ytaplnfdlcihhpaa
