/- Contracts: slices copied, compared, marked and held. -/
import Derived.Test.YtkkomajokdlkeaaK4
import Derived.Test.YtkkomajokdlkeaaOwn
import Derived.Deep.RegionWith
namespace Go.Proofs.Ytkkomajokdlkeaa
set_option linter.unusedSimpArgs false
set_option linter.unusedVariables false
set_option maxRecDepth 100000
set_option maxHeartbeats 4000000
open Go.RowKit
attribute [local go_sem] run_store_float run_store_complex alloc_drewN setCell_drewN

theorem f32s : F32s Try.prog 26 33 := f32s_of Try.underlying26 (by kernel_rfl)

/-- An integer as a float32. -/
def fI (k : Int) : Nat := floatOfInt .f32 k
theorem fI_not_nan (k : Int) : (FloatKind.f32.format.read (fI k)).isNaN = false := write_not_nan S (.number (k < 0) k.natAbs 0) rfl
theorem fI_lt (k : Int) : fI k < 4294967296 := Ieee.Format.write_lt S (.number (k < 0) k.natAbs 0)
theorem cn_fI (k : Int) : cn .f32 (fI k) = fI k := cn_of_not (fI_not_nan k)
def markL (k : Int) (n : Nat) : List Nat := (List.range n).map fun (i : Nat) => fI (k + (i : Int))
theorem markL_length (k : Int) (n : Nat) : (markL k n).length = n := by simp [markL]
theorem markL_succ (k : Int) (n : Nat) : markL k (n + 1) = markL k n ++ [fI (k + n)] := by simp [markL, List.range_succ]
theorem set_mark (k : Int) (cs : List Nat) (j : Nat) (hj : j < cs.length) : (markL k j ++ cs.drop j).set j (fI (k + j)) = markL k (j + 1) ++ cs.drop (j + 1) := by
  rw [List.set_append_right _ _ (by rw [markL_length]; exact Nat.le_refl _), markL_length, Nat.sub_self, markL_succ, List.append_assoc]
  rw [List.drop_eq_getElem_cons hj]
  rfl
theorem set_copy (cs : List Nat) (j : Nat) (hj : j < cs.length) : (cs.take j ++ List.replicate (cs.length - j) 0).set j cs[j] = cs.take (j + 1) ++ List.replicate (cs.length - (j + 1)) 0 := by
  have h1 : (cs.take j).length = j := by rw [List.length_take]; omega
  rw [List.set_append_right _ _ (by omega), h1, Nat.sub_self, take_snoc cs j hj, List.append_assoc]
  have h2 : cs.length - j = (cs.length - (j + 1)) + 1 := by omega
  rw [h2, List.replicate_succ]
  rfl

end Go.Proofs.Ytkkomajokdlkeaa
