/- Contracts: the laws' own small functions. -/
import Derived.Test.YtkkomajokdlkeaaK80
import Derived.Test.YtkkomajokdlkeaaK40
import Derived.Test.YtkkomajokdlkeaaK10
import Derived.Test.YtkkomajokdlkeaaK32
namespace Go.Proofs.Ytkkomajokdlkeaa
set_option linter.unusedSimpArgs false
set_option linter.unusedVariables false
set_option maxRecDepth 100000
set_option maxHeartbeats 4000000
open Go.RowKit
attribute [local go_sem] run_store_float run_store_complex alloc_drewN setCell_drewN


theorem s_SameNumber (x y : Nat) (hx : x < 4294967296) (hy : y < 4294967296) (w : World) :
    Calls Try.prog 19 #[.float .f32 x, .float .f32 y] w fun e w' => e = .returned (.bool (same (cn .f32 x) (cn .f32 y))) ∧ Dr w w' := by
  go_enter Try.func19, Try.ntmps19
  go_wp2_with fail
  refine (s_l01Same x y hx hy _).mono ?_
  rintro z w1 ⟨rfl, n, rfl⟩
  go_wp2_with fail
  go_ret
  exact ⟨rfl, _, rfl⟩

theorem l_b10AtX (v : Value) (cs : List Int) (i n : Nat) (hi : i ≤ 1000) (hn : 1 < n) (hn2 : n ≤ 100000) (w : World) (hv : GL (Value.int .u8) w v cs) (hw : allU8 cs) :
    Calls Try.prog 8 #[v, .int .i64 (i : Int), .int .i64 (n : Int)] w fun e w' => (∃ x : Nat, x < n ∧ e = .returned (.int .i64 (x : Int))) ∧ Dr w w' := by
  obtain ⟨ao, c, rfl, hc1, hc2⟩ := hv.slice
  have z0 : (0 : Int) ≤ (i : Int) := by omega
  have z2 : ((i : Int)).toNat = i := by omega
  have z3 : (1 : Int) < (n : Int) := by omega
  by_cases h : i < cs.length
  · obtain ⟨b, off, rfl, hbl, hcell⟩ := hv.getU i h
    have hx := hw.get i
    have z1 : (i : Int) < (cs.length : Int) := by omega
    clear hv hw
    generalize cs.getD i 0 = x at *
    obtain ⟨xn, rfl⟩ := Int.eq_ofNat_of_zero_le hx.1
    have hlt : xn % n < n := Nat.mod_lt _ (by omega)
    have HM := Lib.hid (show (xn : Int) % (n : Int) = ((xn % n : Nat) : Int) by omega)
    go_enter Try.func8, Try.ntmps8
    go_wp2_with fail
    go_ret
    refine ⟨⟨xn % n, hlt, ?_⟩, Dr.refl _⟩
    exact congrArg (fun z => Ending.returned (Value.int .i64 z)) HM.out
  · have z1 : ¬ (i : Int) < (cs.length : Int) := by omega
    clear hv hw
    have hlt : (i * 37 + 11) % n < n := Nat.mod_lt _ (by omega)
    have HM := Lib.hid (show ((i : Int) * 37 + 11) % (n : Int) = (((i * 37 + 11) % n : Nat) : Int) by rw [Int.natCast_emod]; push_cast; rfl)
    go_enter Try.func8, Try.ntmps8
    go_wp2_with fail
    go_ret
    refine ⟨⟨(i * 37 + 11) % n, hlt, ?_⟩, Dr.refl _⟩
    exact congrArg (fun z => Ending.returned (Value.int .i64 z)) HM.out

theorem l_b10List (u v : Value) (cs : List Nat) (w : World) (hu : SB w u cs) (hv : SB w v cs) :
    Calls Try.prog 13 #[u, v] w fun e w' => e = .returned (.bool true) ∧ Dr w w' := by
  obtain ⟨ao, c, rfl, hc1, hc2, hget⟩ := SB.getX hu rfl
  obtain ⟨bo, d, rfl, hd1, hd2, hget'⟩ := SB.getX hv rfl
  have HC := Lib.hid hget
  have HD := Lib.hid hget'
  clear hget hget' hu hv
  go_enter Try.func13, Try.ntmps13
  go_wp2_with fail
  go_loopw [13] (fun i wr => ∃ k : Nat, k ≤ cs.length ∧ i = .int .i64 k ∧ ∃ d, wr = w.drewN d) (fun i _ => cs.length - (intOf i).toNat)
  case atStart => exact ⟨0, Nat.zero_le _, rfl, 0, rfl⟩
  case round =>
    obtain ⟨k, hk, rfl, dd, rfl⟩ := hrel
    by_cases hlt : k < cs.length
    · obtain ⟨b, off, r, rfl, hbl, hc, hr, hcr⟩ := HC.out k hlt
      obtain ⟨b', off', r', rfl, hbl', hc', hr', hcr'⟩ := HD.out k hlt
      have z0 : (0 : Int) ≤ (k : Int) := by omega
      have z1 : (k : Int) < (cs.length : Int) := by omega
      have z2 : ((k : Int)).toNat = k := by omega
      have HQ := Lib.hid (fun n => by have h := s_SameNumber r r' hr hr' (w.drewN (dd + n)); rw [hcr, hcr', show same (cs.getD k 0) (cs.getD k 0) = true by simp [same]] at h; exact h)
      have HQ0 := Lib.hid (fun n => by have h := s_SameNumber r r' hr hr' (w.drewN n); rw [hcr, hcr', show same (cs.getD k 0) (cs.getD k 0) = true by simp [same]] at h; exact h)
      clear hcr hcr'
      go_wp2_with fail
      go_quiet ((go_at_call 19; first | exact quiet_dr2 (HQ.out _) | exact quiet_dr (HQ0.out _)))
      go_wp2_with fail
      exact ⟨⟨k + 1, by omega, by go_num, _, rfl⟩, by simp [intOf]; omega⟩
    · go_wp2_with fail
      go_ret
      exact ⟨rfl, _, rfl⟩

theorem l_b10Ints (u v : Value) (xs : List Int) (w : World) (hu : GL (Value.int .i64) w u xs) (hv : GL (Value.int .i64) w v xs) :
    Calls Try.prog 12 #[u, v] w fun e w' => e = .returned (.bool true) ∧ Dr w w' := by
  obtain ⟨ao, c, rfl, hlen, hcell⟩ := hu
  obtain ⟨bo, d, rfl, hlen', hcell'⟩ := hv
  have HC := Lib.hid hcell
  have HD := Lib.hid hcell'
  clear hcell hcell'
  go_enter Try.func12, Try.ntmps12
  go_wp2_with fail
  go_loopw [13] (fun i wr => ∃ k : Nat, k ≤ xs.length ∧ i = .int .i64 k ∧ ∃ d, wr = w.drewN d) (fun i _ => xs.length - (intOf i).toNat)
  case atStart => exact ⟨0, Nat.zero_le _, rfl, 0, rfl⟩
  case round =>
    obtain ⟨k, hk, rfl, dd, rfl⟩ := hrel
    by_cases hlt : k < xs.length
    · obtain ⟨b, off, rfl, hb, hc⟩ := HC.out k hlt
      obtain ⟨b', off', rfl, hb', hc'⟩ := HD.out k hlt
      obtain ⟨xk, hxk⟩ : ∃ y, y = xs[k] := ⟨_, rfl⟩
      rw [← hxk] at hc hc'
      clear hxk
      have z0 : (0 : Int) ≤ (k : Int) := by omega
      have z1 : (k : Int) < (xs.length : Int) := by omega
      have z2 : ((k : Int)).toNat = k := by omega
      go_wp2_with fail
      go_quiet (fail)
      go_wp2_with fail
      exact ⟨⟨k + 1, by omega, by go_num, _, rfl⟩, by simp [intOf]; omega⟩
    · go_wp2_with fail
      go_ret
      exact ⟨rfl, _, rfl⟩

end Go.Proofs.Ytkkomajokdlkeaa
