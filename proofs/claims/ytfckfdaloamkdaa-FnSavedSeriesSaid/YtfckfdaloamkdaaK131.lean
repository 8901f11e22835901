/- Contracts: numbers taken out of bytes, by the program. -/
import Derived.Test.YtfckfdaloamkdaaK130
import Derived.Laws.Bits64

namespace Go.Proofs.Ytfckfdaloamkdaa
set_option linter.unusedSimpArgs false
set_option linter.unusedVariables false
set_option maxRecDepth 100000
set_option maxHeartbeats 4000000
open Go.RowKit
attribute [local go_sem] run_store_float run_store_complex alloc_drewN setCell_drewN
theorem or_i64 (a b : Nat) (ha : a < 4294967296) (hb : b < 9223372036854775808) : bits .or .i64 (a : Int) (b : Int) = ((a ||| b : Nat) : Int) := by
  have hx : a ||| b < 2 ^ 63 := Nat.or_lt_two_pow (by omega) (by omega)
  have h1 : (BitVec.ofInt 64 (a : Int)).toNat = a := by
    rw [BitVec.ofInt_natCast, BitVec.toNat_ofNat]; exact Nat.mod_eq_of_lt (by omega)
  have h2 : (BitVec.ofInt 64 (b : Int)).toNat = b := by
    rw [BitVec.ofInt_natCast, BitVec.toNat_ofNat]; exact Nat.mod_eq_of_lt (by omega)
  show IntKind.i64.wrap ((BitVec.ofInt 64 (a : Int) ||| BitVec.ofInt 64 (b : Int)).toNat : Int) = _
  rw [BitVec.toNat_or, h1, h2, IntKind.wrap_i64]
  omega
theorem or_shift {a b k : Nat} (h : a < 2 ^ k) : a ||| (b * 2 ^ k) = a + 2 ^ k * b := by
  rw [Nat.or_comm, Nat.mul_comm b, ← Nat.two_pow_add_eq_or_of_lt h, Nat.add_comm]

theorem i_number (p : Nat) (T : ByteArray) (a : Nat) (sh : Bool) (n : Nat) (hT : T.size ≤ 100000000) (ha : a ≤ T.size) (hn : n ≤ 4) (w : World) (hB : BK w p (TKc T a sh)) :
    Calls Try.prog 104 #[.pointer (some ⟨p, 0, none⟩), .int .i64 (n : Int)] w fun e w' => e = .returned (.int .i64 (leV (tk T.data.toList a sh n).1 : Int)) ∧ BK w' p (TKc T (tk T.data.toList a sh n).2.1 (tk T.data.toList a sh n).2.2) ∧ Wi p (p + 1) w w' := by
  have HC := Lib.hid (i_take p T a sh n hT ha (by omega) w hB)
  have HL := Lib.hid (show (tk T.data.toList a sh n).1.length ≤ 4 by
    have hl : T.data.toList.length = T.size := by simp
    unfold tk
    split
    · rw [List.length_replicate]; exact hn
    · rw [List.length_take]; omega)
  generalize tk T.data.toList a sh n = q at HC HL ⊢
  obtain ⟨bs, a', sh'⟩ := q
  have HC : Hid (Calls Try.prog 103 #[.pointer (some ⟨p, 0, none⟩), .int .i64 (n : Int)] w fun e w' => e = .returned (.string (tx bs)) ∧ BK w' p (TKc T a' sh') ∧ Wi p (p + 1) w w') := HC
  have HL : Hid (bs.length ≤ 4) := HL
  show Calls _ _ _ _ fun e w' => e = .returned (.int .i64 (leV bs : Int)) ∧ BK w' p (TKc T a' sh') ∧ Wi p (p + 1) w w'
  go_enter Try.func104, Try.ntmps104
  go_wp2_with fail
  refine HC.out.mono ?_; rintro e w1 ⟨rfl, hb, hw⟩
  have hts : (tx bs).size = bs.length := tx_size bs
  have hcv := Lib.run_convert_string_bytes (P := Try.prog) w1 9 48 5 (tx bs) (u := .string) Try.underlying9 Try.underlying48 Try.underlying5
  have hB : ∀ j, j < bs.length → (Lib.bytesWorld w1 5 (tx bs)).cell? ⟨w1.heap.size, j, none⟩ = some (.int .u8 (bs.getD j 0).toNat) := fun j hj => by
    have := Lib.bytesWorld_cell w1 5 (tx bs) j (by rw [hts]; exact hj)
    rw [tx_data] at this
    exact this
  have HBW := Lib.hid (bytesWorld_below (Below.refl w1.heap.size w1) 5 (tx bs) (Nat.le_refl _))
  have HB1 := Lib.hid (hb.keep HBW.out)
  have HW1 := Lib.hid (hw.trans (Wi.any HBW.out))
  rw [hts] at hcv
  generalize tx bs = tb at *
  obtain ⟨W1, hW1⟩ : ∃ W1, W1 = Lib.bytesWorld w1 5 tb := ⟨_, rfl⟩
  rw [← hW1] at hcv hB HBW HB1 HW1
  clear hW1 hb hw hts HC
  go_wp2_with fail
  go_loop [5, 13] (fun v i => ∃ (k acc : Nat), v = .int .i64 (acc : Int) ∧ i = .int .i64 (k : Int) ∧ k ≤ bs.length ∧ Hid (acc = leV (bs.take k))) (fun _ i => bs.length - (intOf i).toNat)
  case atStart => exact ⟨0, 0, rfl, rfl, Nat.zero_le _, rfl⟩
  case round =>
    obtain ⟨k, acc, rfl, rfl, hk, HA⟩ := hrel
    have hl4 := HL.out
    by_cases hkn : k < bs.length
    · have hc := hB k hkn
      have hget : bs.getD k 0 = bs[k] := by simp [List.getD, List.getElem?_eq_getElem hkn]
      rw [hget] at hc
      have HN := Lib.hid (show leV (bs.take (k + 1)) = acc + 256 ^ k * bs[k].toNat by
        rw [List.take_succ_eq_append_getElem hkn, leV_snoc, HA.out, List.length_take, Nat.min_eq_left hk])
      have HLT := Lib.hid (show acc < 256 ^ k by have := leV_lt (bs.take k); rw [List.length_take, Nat.min_eq_left hk] at this; rw [HA.out]; exact this)
      generalize bs[k] = c at hc HN
      have hc256 := c.toNat_lt
      clear hB hget
      rcases (show k = 0 ∨ k = 1 ∨ k = 2 ∨ k = 3 by omega) with rfl | rfl | rfl | rfl
      · have HO := Lib.hid (show bits .or .i64 (acc : Int) (c.toNat : Int) = ((acc + 1 * c.toNat : Nat) : Int) by
          have h1 : acc < 2 ^ 0 := HLT.out
          have h2 := or_i64 acc (c.toNat * 2 ^ 0) (by omega) (by omega)
          rw [or_shift h1] at h2
          simpa using h2)
        go_wp2
        exact ⟨⟨1, acc + 1 * c.toNat, congrArg (Value.int .i64) HO.out, rfl, by omega, HN.out.symm⟩, by simp [intOf]; omega⟩
      · have HO := Lib.hid (show bits .or .i64 (acc : Int) ((c.toNat : Int) * 256) = ((acc + 256 * c.toNat : Nat) : Int) by
          have h1 : acc < 2 ^ 8 := HLT.out
          have h2 := or_i64 acc (c.toNat * 2 ^ 8) (by omega) (by omega)
          rw [or_shift h1] at h2
          simpa using h2)
        go_wp2
        exact ⟨⟨2, acc + 256 * c.toNat, congrArg (Value.int .i64) HO.out, rfl, by omega, HN.out.symm⟩, by simp [intOf]; omega⟩
      · have HO := Lib.hid (show bits .or .i64 (acc : Int) ((c.toNat : Int) * 65536) = ((acc + 65536 * c.toNat : Nat) : Int) by
          have h1 : acc < 2 ^ 16 := HLT.out
          have h2 := or_i64 acc (c.toNat * 2 ^ 16) (by omega) (by omega)
          rw [or_shift h1] at h2
          simpa using h2)
        go_wp2
        exact ⟨⟨3, acc + 65536 * c.toNat, congrArg (Value.int .i64) HO.out, rfl, by omega, HN.out.symm⟩, by simp [intOf]; omega⟩
      · have HO := Lib.hid (show bits .or .i64 (acc : Int) ((c.toNat : Int) * 16777216) = ((acc + 16777216 * c.toNat : Nat) : Int) by
          have h1 : acc < 2 ^ 24 := HLT.out
          have h2 := or_i64 acc (c.toNat * 2 ^ 24) (by omega) (by omega)
          rw [or_shift h1] at h2
          simpa using h2)
        go_wp2
        exact ⟨⟨4, acc + 16777216 * c.toNat, congrArg (Value.int .i64) HO.out, rfl, by omega, HN.out.symm⟩, by simp [intOf]; omega⟩
    · have hke : k = bs.length := by omega
      subst hke
      have HF := Lib.hid (show acc = leV bs by rw [HA.out, List.take_length])
      go_wp2
      go_ret
      exact ⟨by rw [HF.out]; rfl, HB1.out, HW1.out⟩

end Go.Proofs.Ytfckfdaloamkdaa
