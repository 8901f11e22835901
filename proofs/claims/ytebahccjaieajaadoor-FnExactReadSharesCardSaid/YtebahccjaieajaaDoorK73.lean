/- Contracts: bytes of numbers, check numbers. -/
import Derived.Test.YtebahccjaieajaaDoorBy
import Derived.Test.YtebahccjaieajaaDoorK9
namespace Go.Proofs.YtebahccjaieajaaDoor
set_option linter.unusedSimpArgs false
set_option linter.unusedVariables false
set_option maxRecDepth 100000
set_option maxHeartbeats 4000000
open Go.RowKit
attribute [local go_sem] run_store_float run_store_complex alloc_drewN setCell_drewN


theorem i_BitsOf (x : Nat) (hx : x < 4294967296) (w : World) :
    Calls Tryd.prog 87 #[.float .f32 x] w fun e w' => e = .returned (.int .i64 (cn .f32 x)) ∧ Dr w w' := by
  have hb := c_Float32bits
  go_enter Tryd.func87, Tryd.ntmps87
  go_wp2_with (first | (refine wpList_ar .f32 _ _ rfl rfl rfl ?_; intro r n hr hlt) | (refine wpList_fc .f32 _ _ rfl rfl rfl ?_) | (refine wpList_fc_g rfl .f32 _ _ rfl rfl rfl ?_) | (refine wpList_ar_g rfl .f32 _ _ rfl rfl rfl ?_; intro r n hr hlt))
  all_goals
    rename_i h
    go_ret
    refine ⟨ret_int ?_, Dr.refl _⟩
    rw [fc_neq_self, isNaN_cn] at h
  · rw [cn_of_nan h]
    exact rfl
  · have h : (FloatKind.f32.format.read x).isNaN = false := by simpa using h
    rw [cn_of_not h]

theorem i_CheckOf (s : ByteArray) (hs : s.size ≤ 9223372036854775807) (n : Int) (h0 : 0 ≤ n) (h1 : n < 65003) (w : World) :
    Calls Tryd.prog 35 #[.int .i64 n, .string s] w fun e w' => e = .returned (.tuple #[.int .i64 (ckL n s.data.toList), .bool true]) ∧ Dr w w' := by
  go_enter Tryd.func35, Tryd.ntmps35
  go_wp2_with fail
  refine (i_within _ _ _ _).mono ?_
  rintro z w1 ⟨rfl, n1, rfl⟩
  rw [show inB n 0 65002 = true from (inB_iff _ _ _).2 ⟨h0, by omega⟩]
  go_wp2_with fail
  go_loopw [0, 12] (fun c i wr => ∃ k : Nat, k ≤ s.size ∧ i = .int .i64 k ∧ c = .int .i64 (ckL n (s.data.toList.take k)) ∧ ∃ d, wr = w.drewN d) (fun _ i _ => s.size - (intOf i).toNat)
  case atStart => exact ⟨0, Nat.zero_le _, rfl, rfl, n1, rfl⟩
  case round =>
    obtain ⟨k, hk, rfl, rfl, d, rfl⟩ := hrel
    have hb := ckL_bound h0 h1 (s.data.toList.take k)
    by_cases hlt : k < s.size
    · have hby := s[k].toNat_lt
      have HS := Lib.hid (show ckL n (s.data.toList.take (k + 1)) = (941 * ckL n (s.data.toList.take k) + (s[k].toNat : Int) + 199) % 65003 by rw [bytes_take_snoc s k hlt, ckL_snoc])
      go_wp2_with fail
      refine ⟨⟨k + 1, by omega, by go_num, ?_, _, rfl⟩, by simp [intOf]; omega⟩
      rw [HS.out]
    · have HE := Lib.hid (show s.data.toList.take k = s.data.toList from List.take_of_length_le (by simp; omega))
      go_wp2_with fail
      first | go_ret2 | go_ret
      refine ⟨?_, _, rfl⟩
      rw [HE.out]
      rfl

theorem s_l01Check (s : ByteArray) (hs : s.size ≤ 9223372036854775807) (n : Int) (h0 : 0 ≤ n) (h1 : n < 65003) (w : World) :
    Calls Tryd.prog 60 #[.int .i64 n, .string s] w fun e w' => e = .returned (.int .i64 (ckL n s.data.toList)) ∧ Dr w w' := by
  go_enter Tryd.func60, Tryd.ntmps60
  go_wp2_with fail
  go_loopw [0, 5] (fun c i wr => ∃ k : Nat, k ≤ s.size ∧ i = .int .i64 k ∧ c = .int .i64 (ckL n (s.data.toList.take k)) ∧ ∃ d, wr = w.drewN d) (fun _ i _ => s.size - (intOf i).toNat)
  case atStart => exact ⟨0, Nat.zero_le _, rfl, rfl, 0, rfl⟩
  case round =>
    obtain ⟨k, hk, rfl, rfl, d, rfl⟩ := hrel
    have hb := ckL_bound h0 h1 (s.data.toList.take k)
    by_cases hlt : k < s.size
    · have hby := s[k].toNat_lt
      have HS := Lib.hid (show ckL n (s.data.toList.take (k + 1)) = (941 * ckL n (s.data.toList.take k) + (s[k].toNat : Int) + 199) % 65003 by rw [bytes_take_snoc s k hlt, ckL_snoc])
      go_wp2_with fail
      refine ⟨⟨k + 1, by omega, by go_num, ?_, _, rfl⟩, by simp [intOf]; omega⟩
      rw [HS.out]
    · have HE := Lib.hid (show s.data.toList.take k = s.data.toList from List.take_of_length_le (by simp; omega))
      go_wp2_with fail
      go_ret
      refine ⟨?_, _, rfl⟩
      rw [HE.out]
      rfl

end Go.Proofs.YtebahccjaieajaaDoor
