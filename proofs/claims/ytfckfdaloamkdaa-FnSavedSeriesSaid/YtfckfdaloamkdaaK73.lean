/- Contracts: bytes of numbers, check numbers. -/
import Derived.Test.YtfckfdaloamkdaaBy
import Derived.Test.YtfckfdaloamkdaaK9
namespace Go.Proofs.Ytfckfdaloamkdaa
set_option linter.unusedSimpArgs false
set_option linter.unusedVariables false
set_option maxRecDepth 100000
set_option maxHeartbeats 4000000
open Go.RowKit
attribute [local go_sem] run_store_float run_store_complex alloc_drewN setCell_drewN


theorem i_BitsOf (x : Nat) (hx : x < 4294967296) (w : World) :
    Calls Try.prog 60 #[.float .f32 x] w fun e w' => e = .returned (.int .i64 (cn .f32 x)) ∧ Dr w w' := by
  have hb := c_Float32bits
  go_enter Try.func60, Try.ntmps60
  go_wp2_with (first | (refine wpList_ar .f32 _ _ rfl rfl rfl ?_; intro r n hr hlt) | (refine wpList_fc .f32 _ _ rfl rfl rfl ?_) | (refine wpList_fc_g rfl .f32 _ _ rfl rfl rfl ?_) | (refine wpList_ar_g rfl .f32 _ _ rfl rfl rfl ?_; intro r n hr hlt))
  all_goals
    rename_i h
    go_ret
    refine ⟨ret_int ?_, Dr.refl _⟩
    rw [fc_neq_self, isNaN_cn] at h
  · rw [cn_of_nan h]
    exact rfl
  · have h : (FloatKind.f32.format.read x).isNaN = false := by simpa using h
    rw [cn_of_not h]

theorem oneU8S : OneC Try.prog 48 5 (.int .u8 0) 1 := oneC_of Try.underlying48 (by kernel_rfl) rfl (by decide)

theorem i_CheckOf (s : ByteArray) (hs : s.size ≤ 9223372036854775807) (n : Int) (h0 : 0 ≤ n) (h1 : n < 65003) (w : World) :
    Calls Try.prog 61 #[.int .i64 n, .string s] w fun e w' => e = .returned (.tuple #[.int .i64 (ckL n s.data.toList), .bool true]) ∧ Dr w w' := by
  go_enter Try.func61, Try.ntmps61
  go_wp2_with fail
  refine (i_within _ _ _ _).mono ?_
  rintro z w1 ⟨rfl, n1, rfl⟩
  rw [show inB n 0 65002 = true from (inB_iff _ _ _).2 ⟨h0, by omega⟩]
  go_wp2_with fail
  go_loopw [0, 12] (fun c i wr => ∃ k : Nat, k ≤ s.size ∧ i = .int .i64 k ∧ c = .int .i64 (ckL n (s.data.toList.take k)) ∧ ∃ d, wr = w.drewN d) (fun _ i _ => s.size - (intOf i).toNat)
  case atStart => exact ⟨0, Nat.zero_le _, rfl, rfl, n1, rfl⟩
  case round =>
    obtain ⟨k, hk, rfl, rfl, d, rfl⟩ := hrel
    have hb := ckL_bound h0 h1 (s.data.toList.take k)
    by_cases hlt : k < s.size
    · have hby := s[k].toNat_lt
      have HS := Lib.hid (show ckL n (s.data.toList.take (k + 1)) = (941 * ckL n (s.data.toList.take k) + (s[k].toNat : Int) + 199) % 65003 by rw [bytes_take_snoc s k hlt, ckL_snoc])
      go_wp2_with fail
      refine ⟨⟨k + 1, by omega, by go_num, ?_, _, rfl⟩, by simp [intOf]; omega⟩
      rw [HS.out]
    · have HE := Lib.hid (show s.data.toList.take k = s.data.toList from List.take_of_length_le (by simp; omega))
      go_wp2_with fail
      first | go_ret2 | go_ret
      refine ⟨?_, _, rfl⟩
      rw [HE.out]
      rfl

theorem s_l01Check (s : ByteArray) (hs : s.size ≤ 9223372036854775807) (n : Int) (h0 : 0 ≤ n) (h1 : n < 65003) (w : World) :
    Calls Try.prog 98 #[.int .i64 n, .string s] w fun e w' => e = .returned (.int .i64 (ckL n s.data.toList)) ∧ Dr w w' := by
  go_enter Try.func98, Try.ntmps98
  go_wp2_with fail
  go_loopw [0, 5] (fun c i wr => ∃ k : Nat, k ≤ s.size ∧ i = .int .i64 k ∧ c = .int .i64 (ckL n (s.data.toList.take k)) ∧ ∃ d, wr = w.drewN d) (fun _ i _ => s.size - (intOf i).toNat)
  case atStart => exact ⟨0, Nat.zero_le _, rfl, rfl, 0, rfl⟩
  case round =>
    obtain ⟨k, hk, rfl, rfl, d, rfl⟩ := hrel
    have hb := ckL_bound h0 h1 (s.data.toList.take k)
    by_cases hlt : k < s.size
    · have hby := s[k].toNat_lt
      have HS := Lib.hid (show ckL n (s.data.toList.take (k + 1)) = (941 * ckL n (s.data.toList.take k) + (s[k].toNat : Int) + 199) % 65003 by rw [bytes_take_snoc s k hlt, ckL_snoc])
      go_wp2_with fail
      refine ⟨⟨k + 1, by omega, by go_num, ?_, _, rfl⟩, by simp [intOf]; omega⟩
      rw [HS.out]
    · have HE := Lib.hid (show s.data.toList.take k = s.data.toList from List.take_of_length_le (by simp; omega))
      go_wp2_with fail
      go_ret
      refine ⟨?_, _, rfl⟩
      rw [HE.out]
      rfl

theorem i_bytesOf (lo : Nat) (v : Value) (xs : List UInt8) (n : Int) (c : Nat) (h0 : 0 ≤ n) (h1 : n ≤ 4294967296) (hc : c ≤ 8) (w : World) (hv : GO byV 5 lo w v xs) (hlo : lo ≤ w.heap.size) (hl : xs.length < 1000000000) :
    Calls Try.prog 59 #[v, .int .i64 n, .int .i64 (c : Int)] w fun e w' => ∃ u, e = .returned u ∧ GO byV 5 lo w' u (xs ++ leB n c) ∧ Below lo w w' := by
  have HV := Lib.hid hv
  clear hv
  go_enter Try.func59, Try.ntmps59
  go_wp2_with fail
  go_loopw [0, 1, 8] (fun b m i wr => ∃ k : Nat, k ≤ c ∧ i = .int .i64 k ∧ m = .int .i64 (n / 256 ^ k) ∧ Hid (GO byV 5 lo wr b (xs ++ leB n k)) ∧ Below lo w wr) (fun _ _ i _ => c - (intOf i).toNat)
  case atStart => exact ⟨0, Nat.zero_le _, rfl, by simp, by simpa [leB] using HV, Below.refl _ _⟩
  case round =>
    obtain ⟨k, hk, rfl, rfl, HO, hb⟩ := hrel
    have p0 := pow256_nonneg h0 k
    have p1 := pow256_le h0 k
    have HP := Lib.hid (pow256 n k)
    have HU := Lib.hid (byV_u8 (n / 256 ^ k))
    have HL := Lib.hid (show (xs ++ leB n k).length + 1 < 1099511627776 by rw [List.length_append, leB_length]; omega)
    have hsz := Nat.le_trans hlo hb.size
    have HLE := Lib.hid (show leB n k ++ [u8 (n / 256 ^ k)] = leB n (k + 1) from rfl)
    generalize n / 256 ^ k = m at *
    by_cases hlt : k < c
    · go_wp2_with (at_builtin; refine wpList_gapp (inj := byV) oneU8S byV_one lo u0 _ rfl (by first | exact GO.drewN (GO.alloc HO.out _) _ | exact GO.alloc HO.out _) [u8 m] _ 1 rfl rfl (by intro i u hu; cases i with | zero => (simp only [List.getElem?_cons_zero, Option.some.injEq] at hu; subst hu; rw [HU.out]; simp) | succ i => simp at hu) HL.out (by simp; omega) ?_; intro v2 w2 hown2 hg2; have HO2 := Lib.hid hown2; have HG2 := Lib.hid hg2; clear hown2 hg2)
      refine ⟨⟨k + 1, by omega, by go_num, by rw [HP.out], ?_, (hb.alloc hsz _).grown HG2.out (by simp; omega) HO.out.own_ge⟩, by simp [intOf]; omega⟩
      have h2 := HO2.out
      rw [List.append_assoc] at h2
      exact HLE.out ▸ h2
    · go_wp2_with fail
      go_ret
      obtain rfl : k = c := by omega
      exact ⟨_, rfl, HO.out, hb⟩

theorem s_l07Word (lo : Nat) (v : Value) (xs : List UInt8) (n : Int) (h0 : 0 ≤ n) (h1 : n < 4294967296) (w : World) (hv : GO byV 5 lo w v xs) (hlo : lo ≤ w.heap.size) (hl : xs.length < 1000000000) :
    Calls Try.prog 96 #[v, .int .i64 n] w fun e w' => ∃ u, e = .returned u ∧ GO byV 5 lo w' u (xs ++ leB n 4) ∧ Below lo w w' := by
  have HV := Lib.hid hv
  clear hv
  have HB := Lib.hid (leB4 n)
  have U0 := Lib.hid (byV_u8 n)
  have U1 := Lib.hid (byV_u8 (n / 256))
  have U2 := Lib.hid (byV_u8 (n / 65536))
  have U3 := Lib.hid (byV_u8 (n / 16777216))
  go_enter Try.func96, Try.ntmps96
  have HL := Lib.hid (show xs.length + 4 < 1099511627776 by omega)
  go_wp2_with (at_builtin; refine wpList_gapp (inj := byV) oneU8S byV_one lo v _ rfl (GO.alloc HV.out _) [u8 n, u8 (n / 256), u8 (n / 65536), u8 (n / 16777216)] _ 4 rfl rfl (by intro i u hu; match i with | 0 => (simp only [List.getElem?_cons_zero, Option.some.injEq] at hu; subst hu; rw [U0.out]; simp) | 1 => (simp only [List.getElem?_cons_zero, List.getElem?_cons_succ, Option.some.injEq] at hu; subst hu; rw [U1.out]; simp) | 2 => (simp only [List.getElem?_cons_zero, List.getElem?_cons_succ, Option.some.injEq] at hu; subst hu; rw [U2.out]; simp) | 3 => (simp only [List.getElem?_cons_zero, List.getElem?_cons_succ, Option.some.injEq] at hu; subst hu; rw [U3.out]; simp; omega) | j + 4 => simp at hu) HL.out (by simp; omega) ?_; intro v2 w2 hown2 hg2; have HO2 := Lib.hid hown2; have HG2 := Lib.hid hg2; clear hown2 hg2)
  go_ret
  refine ⟨_, rfl, ?_, ((Below.refl _ _).alloc hlo _).grown HG2.out (by simp; omega) HV.out.own_ge⟩
  rw [HB.out]
  exact HO2.out

end Go.Proofs.Ytfckfdaloamkdaa
