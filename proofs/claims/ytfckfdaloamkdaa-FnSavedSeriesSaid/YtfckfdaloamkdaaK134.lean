/- Contracts: FromBits, l07Read, by the reference. -/
import Derived.Test.YtfckfdaloamkdaaK133
namespace Go.Proofs.Ytfckfdaloamkdaa
set_option linter.unusedSimpArgs false
set_option linter.unusedVariables false
set_option maxRecDepth 100000
set_option maxHeartbeats 4000000
open Go.RowKit
attribute [local go_sem] run_store_float run_store_complex alloc_drewN setCell_drewN

theorem s_l01FromT (n : Nat) (hn : n < 4294967296) (w : World) :
    Calls Try.prog 117 #[.int .i64 (n : Int)] w fun e w' => e = .returned (.float .f32 n) ∧ Dr w w' := by
  have h1 : IntKind.u32.wrap (n : Int) = (n : Int) := by rw [IntKind.wrap_u32]; omega
  have hb := c_F32frombits
  go_enter Try.func117, Try.ntmps117
  go_wp2_with fail
  go_ret
  exact ⟨rfl, Dr.refl _⟩
theorem s_FromBits (n : Nat) (hn : n < 4294967296) (w : World) :
    Calls Try.prog 102 #[.int .i64 (n : Int)] w fun e w' => e = .returned (.tuple #[.float .f32 n, .bool true]) ∧ Below w.heap.size w w' := by
  have HI := Lib.hid (show ∀ w, Calls Try.prog 94 #[.int .i64 (n : Int), .int .i64 0, .int .i64 4294967295] w fun e w' => e = .returned (.bool true) ∧ Dr w w' from fun w => by
    have h := s_l00In (n : Int) 0 4294967295 w
    rw [show inB (n : Int) 0 4294967295 = true from (inB_iff _ _ _).2 ⟨by omega, by omega⟩] at h
    exact h)
  go_enter Try.func102, Try.ntmps102
  go_wp2_with fail
  refine (HI.out _).mono ?_; rintro e w1 ⟨rfl, hd⟩
  have hb1 := hd.below w.heap.size
  go_wp2_with fail
  refine (s_l01FromT n hn _).mono ?_; rintro e w2 ⟨rfl, hd2⟩
  have hb2 := hb1.trans (hd2.below w.heap.size)
  go_wp2_with fail
  go_ret2
  exact ⟨rfl, hb2⟩

theorem s_l07Read (t : ByteArray) (h4 : 4 ≤ t.size) (w : World) :
    Calls Try.prog 101 #[.string t] w fun e w' => e = .returned (.int .i64 (leV (t.data.toList.take 4) : Int)) ∧ Below w.heap.size w w' := by
  have hl : t.data.toList.length = t.size := by simp
  have h0 : 0 < t.size := by omega
  have h1 : 1 < t.size := by omega
  have h2 : 2 < t.size := by omega
  have h3 : 3 < t.size := by omega
  have HX := Lib.hid (show leV (t.data.toList.take 4) = (t[0]).toNat + 256 * (t[1]).toNat + 65536 * (t[2]).toNat + 16777216 * (t[3]).toNat by
    have e : t.data.toList.take 4 = [t[0], t[1], t[2], t[3]] := by
      refine List.ext_getElem (by rw [List.length_take]; simp; omega) fun i h h' => ?_
      rw [List.getElem_take]
      have hi : i < 4 := by simpa using h'
      rcases (show i = 0 ∨ i = 1 ∨ i = 2 ∨ i = 3 by omega) with rfl | rfl | rfl | rfl <;> (simp; rfl)
    rw [e, leV4])
  have c0 := (t[0]).toNat_lt
  have c1 := (t[1]).toNat_lt
  have c2 := (t[2]).toNat_lt
  have c3 := (t[3]).toNat_lt
  have i0 : (0 : Int) < (t.size : Int) := by omega
  have i1 : (1 : Int) < (t.size : Int) := by omega
  have i2 : (2 : Int) < (t.size : Int) := by omega
  have i3 : (3 : Int) < (t.size : Int) := by omega
  go_enter Try.func101, Try.ntmps101
  go_wp2_with fail
  go_quiet (fail)
  go_wp2_with fail
  go_ret
  refine ⟨?_, below_drewN (Below.refl _ _) _⟩
  rw [HX.out]
  refine congrArg _ (congrArg (Value.int .i64) ?_)
  simp

end Go.Proofs.Ytfckfdaloamkdaa
