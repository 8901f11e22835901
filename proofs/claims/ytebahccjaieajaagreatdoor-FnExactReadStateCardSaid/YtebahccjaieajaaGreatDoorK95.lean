/- Contracts: decimals, lines, journals by the program. -/
import Derived.Test.YtebahccjaieajaaGreatDoorK94
import Derived.Test.YtebahccjaieajaaGreatDoorShelf
import Derived.Lib.SmallJoins
namespace Go.Proofs.YtebahccjaieajaaGreatDoor
set_option linter.unusedSimpArgs false
set_option linter.unusedVariables false
set_option maxRecDepth 100000
set_option maxHeartbeats 4000000
open Go.RowKit
attribute [local go_sem] run_store_float run_store_complex alloc_drewN setCell_drewN

/-- A block of one-cell elements is read as a slice. -/
theorem GL.block {α : Type} (inj : α → Value) (T : Nat) (w : World) (xs : List α) (hl : xs.length ≤ 9223372036854775807) : GL inj (w.alloc (.cells (xs.map inj).toArray T)) (.slice (some ⟨w.heap.size, 0, none⟩) xs.length xs.length) xs := by
  refine ⟨_, _, rfl, ⟨Nat.le_refl _, hl⟩, fun i hi => ⟨_, _, rfl, by simp, ?_⟩⟩
  rw [World.cell?_alloc_new]
  simp [hi]

theorem f_Split (t : ByteArray) (m : Int) (w : World) (hs : t.size ≤ 1000000000) (hm : w.cell? ⟨1, 0, none⟩ = some (.int .i64 m)) (c : UInt8) :
    Calls Tryz.prog 10 #[.string t, .string ⟨#[c]⟩] w fun e w' => ∃ b N, e = .returned (.slice (some ⟨b, 0, none⟩) N N) ∧ N = (cutC c t.data.toList).length ∧ GL Value.string w' (.slice (some ⟨b, 0, none⟩) N N) (cutB c t) ∧ Below w.heap.size w w' := by
  refine (Tryz.strings_Split t ⟨#[c]⟩ m w (by omega) hm (by simp [ByteArray.size])).mono fun e w' ⟨he, hw⟩ => ?_
  rw [splitB_cut] at hw
  rw [countB_cut] at he
  subst he hw
  have h1 := cutB_length c t
  have h2 := cutC_le c t.data.toList
  rw [data_len] at h2
  refine ⟨_, _, rfl, rfl, ?_, (Below.refl _ _).alloc (Nat.le_refl _) _⟩
  have h3 := GL.block Value.string 9 w (cutB c t) (by omega)
  rw [h1] at h3
  exact h3

theorem i_Decimal (n : Int) (h0 : -9223372036854775808 ≤ n) (h1 : n ≤ 9223372036854775807) (w : World) (htab : Lib.TabIs Tryz.prog w "internal/strconv.uint64pow10" .u64 Lib.pow10Tab) :
    Calls Tryz.prog 28 #[.int .i64 n] w fun e w' => e = .returned (.string (tx (Lib.itoa n))) ∧ Below w.heap.size w w' := by
  go_enter Tryz.func28, Tryz.ntmps28
  go_wp2_with fail
  refine (Tryz.strconv_FormatInt_10 n h0 h1 _ htab).mono ?_; rintro e w1 ⟨rfl, k, os, rfl⟩
  have hb : Below w.heap.size w (Go.Sort.grow (w.drewN k) os) := below_regrown w (w.drawn + k) os
  generalize Go.Sort.grow (w.drewN k) os = w1 at *
  go_wp2_with fail
  go_ret
  exact ⟨rfl, hb⟩

end Go.Proofs.YtebahccjaieajaaGreatDoor
