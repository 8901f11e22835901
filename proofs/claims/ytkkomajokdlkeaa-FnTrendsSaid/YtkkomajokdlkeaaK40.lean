/- Contracts and a plain law: walks over eighths. -/
import Derived.Test.YtkkomajokdlkeaaK12
import Derived.Test.YtkkomajokdlkeaaK39
import Derived.Test.YtkkomajokdlkeaaOpen3
namespace Go.Proofs.Ytkkomajokdlkeaa
set_option linter.unusedSimpArgs false
set_option linter.unusedVariables false
set_option maxRecDepth 100000
set_option maxHeartbeats 4000000
open Go.RowKit
attribute [local go_sem] run_store_float run_store_complex alloc_drewN setCell_drewN

def gapF (a b : Nat) : Nat := if fc .lss .f64 a b then ar .sub .f64 b a else ar .sub .f64 a b

/-- A number from 0 to 7 that a byte chooses. -/
def b8 (cs : List Int) (i : Nat) : Nat := if i < cs.length then (cs.getD i 0).toNat % 8 else (i * 37 + 11) % 8
theorem b8_lt (cs : List Int) (i : Nat) : b8 cs i < 8 := by unfold b8; split <;> omega
theorem l_b10Long (u v : Value) (cs ds : List Int) (w : World) (hu : GL (Value.int .u8) w u cs) (hv : GL (Value.int .u8) w v ds) :
    Calls Try.prog 7 #[u, v] w fun e w' => e = .returned (.bool (decide (1048576 < cs.length) || decide (1048576 < ds.length))) ∧ Dr w w' := by
  obtain ⟨ao, c, rfl, hc1, hc2⟩ := hu.slice
  obtain ⟨bo, d, rfl, hd1, hd2⟩ := hv.slice
  clear hu hv
  by_cases h1 : (1048576 : Int) < (cs.length : Int) <;> by_cases h2 : (1048576 : Int) < (ds.length : Int)
  all_goals
    go_enter Try.func7, Try.ntmps7
    go_wp2
    go_ret
    refine ⟨ret_bool ?_, Dr.refl _⟩
    have h3 : decide (1048576 < cs.length) = decide ((1048576 : Int) < (cs.length : Int)) := by apply decide_eq_decide.2; omega
    have h4 : decide (1048576 < ds.length) = decide ((1048576 : Int) < (ds.length : Int)) := by apply decide_eq_decide.2; omega
    rw [h3, h4]
    simp [h1, h2]
theorem l_b10At (v : Value) (cs : List Int) (i : Nat) (hi : i < 3) (w : World) (hv : GL (Value.int .u8) w v cs) (hw : allU8 cs) :
    Calls Try.prog 8 #[v, .int .i64 i, .int .i64 8] w fun e w' => e = .returned (.int .i64 ((b8 cs i : Nat) : Int)) ∧ Dr w w' := by
  obtain ⟨ao, c, hv', hc, hget⟩ := hv
  subst hv'
  by_cases h : i < cs.length
  · obtain ⟨b, off, rfl, hb, hcell⟩ := hget i h
    have hx := hw.get i
    have e : cs.getD i 0 = cs[i] := by simp [h]
    rw [e] at hx
    have hb8 : b8 cs i = (cs[i]).toNat % 8 := by unfold b8; rw [if_pos h, e]
    generalize cs[i] = x at *
    obtain ⟨n, rfl⟩ := Int.eq_ofNat_of_zero_le hx.1
    rw [hb8]
    clear hget hw hb8 e
    have hm : ((n : Int)).tmod 8 = ((n % 8 : Nat) : Int) := by rw [Int.tmod_eq_emod_of_nonneg (by omega)]; omega
    have hw1 : IntKind.i64.wrap (n : Int) = (n : Int) := by rw [IntKind.wrap_i64]; omega
    go_enter Try.func8, Try.ntmps8
    go_wp2_with fail
    go_ret
    refine ⟨ret_int ?_, Dr.refl _⟩
    first | rfl | (simp; done) | (simp [hm, hw1]; done) | (simp; omega)
  · have hb8 : b8 cs i = (i * 37 + 11) % 8 := by unfold b8; rw [if_neg h]
    rw [hb8]
    clear hget hw hb8
    have h' : ¬ (i : Int) < (cs.length : Int) := by omega
    have hi3 : i = 0 ∨ i = 1 ∨ i = 2 := by omega
    rcases hi3 with rfl | rfl | rfl
    all_goals
      go_enter Try.func8, Try.ntmps8
      go_wp2_with fail
      go_ret
      refine ⟨ret_int ?_, Dr.refl _⟩
      first | rfl | decide | (simp; done) | (simp; omega)
theorem l_b10Gap (a b : Nat) (w : World) : Calls Try.prog 29 #[.float .f64 a, .float .f64 b] w fun e w' => (∃ r, e = .returned (.float .f64 r) ∧ cn .f64 r = gapF (cn .f64 a) (cn .f64 b)) ∧ Dr w w' := by
  cases h : fc .lss .f64 (cn .f64 a) (cn .f64 b)
  all_goals
    have H := Lib.hid h
    clear h
    go_enter Try.func29, Try.ntmps29
    go_wp2_with (first | (refine wpList_fc .f64 _ _ rfl rfl rfl ?_; rw [H.out]) | (refine wpList_ar .f64 _ _ rfl rfl rfl ?_; intro r n hr hlt; have HR := Lib.hid hr; clear hr))
    go_ret
    exact ⟨⟨_, rfl, by rw [gapF, H.out, HR.out]; rfl⟩, by first | exact Dr.refl _ | exact Dr.mk _ _⟩

end Go.Proofs.Ytkkomajokdlkeaa
