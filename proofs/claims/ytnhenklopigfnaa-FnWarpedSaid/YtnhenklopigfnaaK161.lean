/- Contracts: sizes and the best of three places, by the reference. Written by mk161.py. -/
import Derived.Test.YtnhenklopigfnaaK162
namespace Go.Proofs.Ytnhenklopigfnaa
set_option linter.unusedSimpArgs false
set_option linter.unusedVariables false
set_option maxRecDepth 100000
set_option maxHeartbeats 4000000
open Go.RowKit
attribute [local go_sem] run_store_float run_store_complex alloc_drewN setCell_drewN
/-- The way to what is best, as the reference hands it on. -/
def wbW (o : Option (Nat × Nat)) : Int := match o with | none => -1 | some b => (b.1 : Int)
theorem order_of_lssW {x y : Nat} {b : Bool} (h : fc .lss .f32 (cn .f32 x) (cn .f32 y) = b) : (FloatKind.f32.format.order x y == some .lt) = b := by
  rw [← order_cn]
  exact h

theorem s_l07SizeN (x : Nat) (hx : (S.read x).isNaN = false) (w : World) :
    Calls Try.prog 80 #[.float .f32 x] w fun e w' => e = .returned (.float .f32 (szS x)) ∧ Dr w w' := by
  cases h : fc .lss .f32 x 0
  all_goals
    have hv : szS x = if fc .lss .f32 x 0 then Op.negFloat .f32 x else x := rfl
    rw [h] at hv
    have ho2 : (FloatKind.f32.format.order x 0 == some .lt) = _ := h
    have RN := fun w => run_negw (P := Try.prog) x w
    go_enter Try.func80, Try.ntmps80
    go_wp2_with fail
    go_ret
    first | exact ⟨rfl, Dr.refl _⟩ | exact ⟨by rw [hv]; rfl, Dr.refl _⟩

theorem s_l07Three (v : Value) (C : List Nat) (wide i k : Nat) (w : World) (hv : SB w v C) (hi : i < 96) (hk : k < wide) (hwd : wide ≤ 96) (hin : i * wide + k ≤ C.length) :
    Calls Try.prog 94 #[v, .int .i64 wide, .int .i64 i, .int .i64 k] w fun e w' => e = .returned (.int .i64 (wbW (wThree geS C wide i k 3))) ∧ Dr w w' := by
  obtain ⟨ao, c, rfl, -, -, hget⟩ := hv.get rfl
  have HGET := Lib.hid hget
  clear hget hv
  have HIN := Lib.hid (fun p q h1 h2 h3 h4 h5 => Nat.lt_of_lt_of_le (before_lt (i := i) hk p q h1 h2 h3 h4 h5) hin)
  clear hin
  have hw1 : IntKind.i64.wrap ((i : Int) - 1) = (i : Int) - 1 := by rw [IntKind.wrap_i64]; omega
  have hw2 : IntKind.i64.wrap ((k : Int) - 1) = (k : Int) - 1 := by rw [IntKind.wrap_i64]; omega
  go_enter Try.func94, Try.ntmps94
  go_wp2_with fail
  go_loopw [11, 9, 10] (fun n bw bl wr => ∃ m : Nat, m ≤ 3 ∧ n = .int .i64 (m : Int) ∧ bw = .int .i64 (wbW (wThree geS C wide i k m)) ∧ (∃ rl, bl = .float .f32 rl ∧ Hid (∀ b, wThree geS C wide i k m = some b → cn .f32 rl = b.2)) ∧ ∃ d, wr = w.drewN d) (fun n _ _ _ => 3 - (intOf n).toNat)
  case atStart => exact ⟨0, Nat.zero_le _, rfl, rfl, ⟨0, rfl, fun b h => by cases h⟩, 0, rfl⟩
  case round =>
    obtain ⟨m, hm, rfl, rfl, ⟨rl, rfl, HRL⟩, dd, rfl⟩ := hrel
    by_cases hlt : m < 3
    · have hm3 : m = 0 ∨ m = 1 ∨ m = 2 := by omega
      rcases hm3 with rfl | rfl | rfl
      · have HS := Lib.hid (show wThree geS C wide i k 1 = wUpd (wThree geS C wide i k 0) 0 (wVal geS C wide ((i : Int) - 1) ((k : Int))) from rfl)
        have hgo : wThree geS C wide i k 0 = none := rfl
        rw [hgo]
        by_cases hnegi : (i : Int) - 1 < 0
        · have HNX := Lib.hid (show wThree geS C wide i k 1 = (none : Option (Nat × Nat)) by rw [HS.out, wVal, show wAt C wide ((i : Int) - 1) ((k : Int)) = neg1 by unfold wAt; rw [if_pos (by omega)], neg1_ge.2]; rfl)
          clear HS
          go_wp2_with fail
          refine ⟨⟨1, by omega, by go_num, by rw [HNX.out], ⟨rl, rfl, ?_⟩, _, rfl⟩, by simp [intOf]⟩
          rw [HNX.out]; exact HRL
        · have hxi : 0 < i := by omega
          have hp0 : 0 ≤ (i : Int) - 1 := by omega
          have hq0 : 0 ≤ (k : Int) := by omega
          have hz : ((i : Int) - 1).toNat * wide + ((k : Int)).toNat < C.length := HIN.out _ _ (by omega) (by omega) (by omega) hp0 hq0
          have HAT := Lib.hid (show wAt C wide ((i : Int) - 1) ((k : Int)) = C.getD (((i : Int) - 1).toNat * wide + ((k : Int)).toNat) 0 by unfold wAt; rw [if_neg (by omega)])
          obtain ⟨b, off, r, rfl, hbl, hc, hr, hcr⟩ := HGET.out _ hz
          have HR := Lib.hid (hcr.trans HAT.out.symm)
          clear hcr HAT
          have hnw : ((i : Int) - 1).toNat * wide ≤ 96 * 96 := Nat.mul_le_mul (by omega) hwd
          have hmul : ((i : Int) - 1) * (wide : Int) = ((((i : Int) - 1).toNat * wide : Nat) : Int) := by rw [Int.natCast_mul, Int.toNat_of_nonneg hp0]
          generalize ((i : Int) - 1).toNat * wide = tt at *
          have hadd : (tt : Int) + ((k : Int)) = ((tt + ((k : Int)).toNat : Nat) : Int) := by omega
          have hzb : tt + ((k : Int)).toNat ≤ 20000 := by omega
          generalize tt + ((k : Int)).toNat = zz at *
          have hzi : (zz : Int) < (C.length : Int) := by omega
          have hz0 : 0 ≤ (zz : Int) := by omega
          have hzn : ((zz : Int)).toNat = zz := by omega
          have hv1 : IntKind.i64.wrap (tt : Int) = (tt : Int) := by rw [IntKind.wrap_i64]; omega
          have hv2 : IntKind.i64.wrap (zz : Int) = (zz : Int) := by rw [IntKind.wrap_i64]; omega
          have HL0 := Lib.hid (show fc .lss .f32 (cn .f32 r) (cn .f32 0) = !geS (wAt C wide ((i : Int) - 1) ((k : Int))) by rw [HR.out, cn0, geS, Bool.not_not])
          cases hg : geS (wAt C wide ((i : Int) - 1) ((k : Int)))
          · have HG := Lib.hid hg
            rw [hg] at HL0
            have HNX := Lib.hid (show wThree geS C wide i k 1 = (none : Option (Nat × Nat)) by rw [HS.out, wVal, hg]; rfl)
            clear hg HS
            have oL0 := order_of_lssW HL0.out
            go_wp2_with fail
            refine ⟨⟨1, by omega, by go_num, by rw [HNX.out] <;> rfl, ⟨_, rfl, ?_⟩, _, rfl⟩, by simp [intOf]⟩
            rw [HNX.out]; exact HRL
          · have HG := Lib.hid hg
            rw [hg] at HL0
            have HNX := Lib.hid (show wThree geS C wide i k 1 = some (0, wAt C wide ((i : Int) - 1) ((k : Int))) by rw [HS.out, wVal, hg]; rfl)
            clear hg HS
            have oL0 := order_of_lssW HL0.out
            go_wp2_with fail
            refine ⟨⟨1, by omega, by go_num, by rw [HNX.out] <;> rfl, ⟨_, rfl, ?_⟩, _, rfl⟩, by simp [intOf]⟩
            rw [HNX.out]; exact Lib.hid (fun b h => by cases h; exact HR.out)
      · have HS := Lib.hid (show wThree geS C wide i k 2 = wUpd (wThree geS C wide i k 1) 1 (wVal geS C wide ((i : Int)) ((k : Int) - 1)) from rfl)
        generalize hgo : wThree geS C wide i k 1 = o at *
        by_cases hnegk : (k : Int) - 1 < 0
        · have HNX := Lib.hid (show wThree geS C wide i k 2 = o by rw [HS.out, wVal, show wAt C wide ((i : Int)) ((k : Int) - 1) = neg1 by unfold wAt; rw [if_pos (by omega)], neg1_ge.2]; rfl)
          clear HS
          go_wp2_with fail
          refine ⟨⟨2, by omega, by go_num, by rw [HNX.out], ⟨rl, rfl, ?_⟩, _, rfl⟩, by simp [intOf]⟩
          rw [HNX.out]; exact HRL
        · have hxk : 0 < k := by omega
          have hp0 : 0 ≤ (i : Int) := by omega
          have hq0 : 0 ≤ (k : Int) - 1 := by omega
          have hz : ((i : Int)).toNat * wide + ((k : Int) - 1).toNat < C.length := HIN.out _ _ (by omega) (by omega) (by omega) hp0 hq0
          have HAT := Lib.hid (show wAt C wide ((i : Int)) ((k : Int) - 1) = C.getD (((i : Int)).toNat * wide + ((k : Int) - 1).toNat) 0 by unfold wAt; rw [if_neg (by omega)])
          obtain ⟨b, off, r, rfl, hbl, hc, hr, hcr⟩ := HGET.out _ hz
          have HR := Lib.hid (hcr.trans HAT.out.symm)
          clear hcr HAT
          have hnw : ((i : Int)).toNat * wide ≤ 96 * 96 := Nat.mul_le_mul (by omega) hwd
          have hmul : ((i : Int)) * (wide : Int) = ((((i : Int)).toNat * wide : Nat) : Int) := by rw [Int.natCast_mul, Int.toNat_of_nonneg hp0]
          generalize ((i : Int)).toNat * wide = tt at *
          have hadd : (tt : Int) + ((k : Int) - 1) = ((tt + ((k : Int) - 1).toNat : Nat) : Int) := by omega
          have hzb : tt + ((k : Int) - 1).toNat ≤ 20000 := by omega
          generalize tt + ((k : Int) - 1).toNat = zz at *
          have hzi : (zz : Int) < (C.length : Int) := by omega
          have hz0 : 0 ≤ (zz : Int) := by omega
          have hzn : ((zz : Int)).toNat = zz := by omega
          have hv1 : IntKind.i64.wrap (tt : Int) = (tt : Int) := by rw [IntKind.wrap_i64]; omega
          have hv2 : IntKind.i64.wrap (zz : Int) = (zz : Int) := by rw [IntKind.wrap_i64]; omega
          have HL0 := Lib.hid (show fc .lss .f32 (cn .f32 r) (cn .f32 0) = !geS (wAt C wide ((i : Int)) ((k : Int) - 1)) by rw [HR.out, cn0, geS, Bool.not_not])
          cases o with
          | none =>
            cases hg : geS (wAt C wide ((i : Int)) ((k : Int) - 1))
            · have HG := Lib.hid hg
              rw [hg] at HL0
              have HNX := Lib.hid (show wThree geS C wide i k 2 = (none : Option (Nat × Nat)) by rw [HS.out, wVal, hg]; rfl)
              clear hg HS
              have oL0 := order_of_lssW HL0.out
              go_wp2_with fail
              refine ⟨⟨2, by omega, by go_num, by rw [HNX.out] <;> rfl, ⟨_, rfl, ?_⟩, _, rfl⟩, by simp [intOf]⟩
              rw [HNX.out]; exact HRL
            · have HG := Lib.hid hg
              rw [hg] at HL0
              have HNX := Lib.hid (show wThree geS C wide i k 2 = some (1, wAt C wide ((i : Int)) ((k : Int) - 1)) by rw [HS.out, wVal, hg]; rfl)
              clear hg HS
              have oL0 := order_of_lssW HL0.out
              go_wp2_with fail
              refine ⟨⟨2, by omega, by go_num, by rw [HNX.out] <;> rfl, ⟨_, rfl, ?_⟩, _, rfl⟩, by simp [intOf]⟩
              rw [HNX.out]; exact Lib.hid (fun b h => by cases h; exact HR.out)
          | some b0 =>
            have HLB := Lib.hid (HRL.out b0 rfl)
            cases hg : geS (wAt C wide ((i : Int)) ((k : Int) - 1))
            · have HG := Lib.hid hg
              rw [hg] at HL0
              have HNX := Lib.hid (show wThree geS C wide i k 2 = (some b0) by rw [HS.out, wVal, hg]; rfl)
              clear hg HS
              have hb00 : ¬ ((b0.1 : Int) < 0) := by omega
              have ewb : wbW (some b0) = (b0.1 : Int) := rfl
              rw [ewb]
              clear ewb
              have oL0 := order_of_lssW HL0.out
              go_wp2_with fail
              refine ⟨⟨2, by omega, by go_num, by rw [HNX.out] <;> rfl, ⟨_, rfl, ?_⟩, _, rfl⟩, by simp [intOf]⟩
              rw [HNX.out]; exact HRL
            · have HG := Lib.hid hg
              rw [hg] at HL0
              cases hl : fc .lss .f32 (wAt C wide ((i : Int)) ((k : Int) - 1)) b0.2
              · have HL1 := Lib.hid (show fc .lss .f32 (cn .f32 r) (cn .f32 rl) = false by rw [HR.out, HLB.out]; exact hl)
                have HNX := Lib.hid (show wThree geS C wide i k 2 = some b0 by rw [HS.out, wVal, hg]; show (if fc .lss .f32 _ b0.2 = true then _ else _) = _; rw [hl]; rfl)
                clear hl
                clear hg HS
                have hb00 : ¬ ((b0.1 : Int) < 0) := by omega
                have ewb : wbW (some b0) = (b0.1 : Int) := rfl
                rw [ewb]
                clear ewb
                have oL0 := order_of_lssW HL0.out
                have oL1 := order_of_lssW HL1.out
                go_wp2_with fail
                refine ⟨⟨2, by omega, by go_num, by rw [HNX.out] <;> rfl, ⟨_, rfl, ?_⟩, _, rfl⟩, by simp [intOf]⟩
                rw [HNX.out]; exact HRL
              · have HL1 := Lib.hid (show fc .lss .f32 (cn .f32 r) (cn .f32 rl) = true by rw [HR.out, HLB.out]; exact hl)
                have HNX := Lib.hid (show wThree geS C wide i k 2 = some (1, wAt C wide ((i : Int)) ((k : Int) - 1)) by rw [HS.out, wVal, hg]; show (if fc .lss .f32 _ b0.2 = true then _ else _) = _; rw [hl]; rfl)
                clear hl
                clear hg HS
                have hb00 : ¬ ((b0.1 : Int) < 0) := by omega
                have ewb : wbW (some b0) = (b0.1 : Int) := rfl
                rw [ewb]
                clear ewb
                have oL0 := order_of_lssW HL0.out
                have oL1 := order_of_lssW HL1.out
                go_wp2_with fail
                refine ⟨⟨2, by omega, by go_num, by rw [HNX.out] <;> rfl, ⟨_, rfl, ?_⟩, _, rfl⟩, by simp [intOf]⟩
                rw [HNX.out]; exact Lib.hid (fun b h => by cases h; exact HR.out)
      · have HS := Lib.hid (show wThree geS C wide i k 3 = wUpd (wThree geS C wide i k 2) 2 (wVal geS C wide ((i : Int) - 1) ((k : Int) - 1)) from rfl)
        generalize hgo : wThree geS C wide i k 2 = o at *
        by_cases hnegi : (i : Int) - 1 < 0
        · have HNX := Lib.hid (show wThree geS C wide i k 3 = o by rw [HS.out, wVal, show wAt C wide ((i : Int) - 1) ((k : Int) - 1) = neg1 by unfold wAt; rw [if_pos (by omega)], neg1_ge.2]; rfl)
          clear HS
          go_wp2_with fail
          refine ⟨⟨3, by omega, by go_num, by rw [HNX.out], ⟨rl, rfl, ?_⟩, _, rfl⟩, by simp [intOf]⟩
          rw [HNX.out]; exact HRL
        · have hxi : 0 < i := by omega
          by_cases hnegk : (k : Int) - 1 < 0
          · have HNX := Lib.hid (show wThree geS C wide i k 3 = o by rw [HS.out, wVal, show wAt C wide ((i : Int) - 1) ((k : Int) - 1) = neg1 by unfold wAt; rw [if_pos (by omega)], neg1_ge.2]; rfl)
            clear HS
            go_wp2_with fail
            refine ⟨⟨3, by omega, by go_num, by rw [HNX.out], ⟨rl, rfl, ?_⟩, _, rfl⟩, by simp [intOf]⟩
            rw [HNX.out]; exact HRL
          · have hxk : 0 < k := by omega
            have hp0 : 0 ≤ (i : Int) - 1 := by omega
            have hq0 : 0 ≤ (k : Int) - 1 := by omega
            have hz : ((i : Int) - 1).toNat * wide + ((k : Int) - 1).toNat < C.length := HIN.out _ _ (by omega) (by omega) (by omega) hp0 hq0
            have HAT := Lib.hid (show wAt C wide ((i : Int) - 1) ((k : Int) - 1) = C.getD (((i : Int) - 1).toNat * wide + ((k : Int) - 1).toNat) 0 by unfold wAt; rw [if_neg (by omega)])
            obtain ⟨b, off, r, rfl, hbl, hc, hr, hcr⟩ := HGET.out _ hz
            have HR := Lib.hid (hcr.trans HAT.out.symm)
            clear hcr HAT
            have hnw : ((i : Int) - 1).toNat * wide ≤ 96 * 96 := Nat.mul_le_mul (by omega) hwd
            have hmul : ((i : Int) - 1) * (wide : Int) = ((((i : Int) - 1).toNat * wide : Nat) : Int) := by rw [Int.natCast_mul, Int.toNat_of_nonneg hp0]
            generalize ((i : Int) - 1).toNat * wide = tt at *
            have hadd : (tt : Int) + ((k : Int) - 1) = ((tt + ((k : Int) - 1).toNat : Nat) : Int) := by omega
            have hzb : tt + ((k : Int) - 1).toNat ≤ 20000 := by omega
            generalize tt + ((k : Int) - 1).toNat = zz at *
            have hzi : (zz : Int) < (C.length : Int) := by omega
            have hz0 : 0 ≤ (zz : Int) := by omega
            have hzn : ((zz : Int)).toNat = zz := by omega
            have hv1 : IntKind.i64.wrap (tt : Int) = (tt : Int) := by rw [IntKind.wrap_i64]; omega
            have hv2 : IntKind.i64.wrap (zz : Int) = (zz : Int) := by rw [IntKind.wrap_i64]; omega
            have HL0 := Lib.hid (show fc .lss .f32 (cn .f32 r) (cn .f32 0) = !geS (wAt C wide ((i : Int) - 1) ((k : Int) - 1)) by rw [HR.out, cn0, geS, Bool.not_not])
            cases o with
            | none =>
              cases hg : geS (wAt C wide ((i : Int) - 1) ((k : Int) - 1))
              · have HG := Lib.hid hg
                rw [hg] at HL0
                have HNX := Lib.hid (show wThree geS C wide i k 3 = (none : Option (Nat × Nat)) by rw [HS.out, wVal, hg]; rfl)
                clear hg HS
                have oL0 := order_of_lssW HL0.out
                go_wp2_with fail
                refine ⟨⟨3, by omega, by go_num, by rw [HNX.out] <;> rfl, ⟨_, rfl, ?_⟩, _, rfl⟩, by simp [intOf]⟩
                rw [HNX.out]; exact HRL
              · have HG := Lib.hid hg
                rw [hg] at HL0
                have HNX := Lib.hid (show wThree geS C wide i k 3 = some (2, wAt C wide ((i : Int) - 1) ((k : Int) - 1)) by rw [HS.out, wVal, hg]; rfl)
                clear hg HS
                have oL0 := order_of_lssW HL0.out
                go_wp2_with fail
                refine ⟨⟨3, by omega, by go_num, by rw [HNX.out] <;> rfl, ⟨_, rfl, ?_⟩, _, rfl⟩, by simp [intOf]⟩
                rw [HNX.out]; exact Lib.hid (fun b h => by cases h; exact HR.out)
            | some b0 =>
              have HLB := Lib.hid (HRL.out b0 rfl)
              cases hg : geS (wAt C wide ((i : Int) - 1) ((k : Int) - 1))
              · have HG := Lib.hid hg
                rw [hg] at HL0
                have HNX := Lib.hid (show wThree geS C wide i k 3 = (some b0) by rw [HS.out, wVal, hg]; rfl)
                clear hg HS
                have hb00 : ¬ ((b0.1 : Int) < 0) := by omega
                have ewb : wbW (some b0) = (b0.1 : Int) := rfl
                rw [ewb]
                clear ewb
                have oL0 := order_of_lssW HL0.out
                go_wp2_with fail
                refine ⟨⟨3, by omega, by go_num, by rw [HNX.out] <;> rfl, ⟨_, rfl, ?_⟩, _, rfl⟩, by simp [intOf]⟩
                rw [HNX.out]; exact HRL
              · have HG := Lib.hid hg
                rw [hg] at HL0
                cases hl : fc .lss .f32 (wAt C wide ((i : Int) - 1) ((k : Int) - 1)) b0.2
                · have HL1 := Lib.hid (show fc .lss .f32 (cn .f32 r) (cn .f32 rl) = false by rw [HR.out, HLB.out]; exact hl)
                  have HNX := Lib.hid (show wThree geS C wide i k 3 = some b0 by rw [HS.out, wVal, hg]; show (if fc .lss .f32 _ b0.2 = true then _ else _) = _; rw [hl]; rfl)
                  clear hl
                  clear hg HS
                  have hb00 : ¬ ((b0.1 : Int) < 0) := by omega
                  have ewb : wbW (some b0) = (b0.1 : Int) := rfl
                  rw [ewb]
                  clear ewb
                  have oL0 := order_of_lssW HL0.out
                  have oL1 := order_of_lssW HL1.out
                  go_wp2_with fail
                  refine ⟨⟨3, by omega, by go_num, by rw [HNX.out] <;> rfl, ⟨_, rfl, ?_⟩, _, rfl⟩, by simp [intOf]⟩
                  rw [HNX.out]; exact HRL
                · have HL1 := Lib.hid (show fc .lss .f32 (cn .f32 r) (cn .f32 rl) = true by rw [HR.out, HLB.out]; exact hl)
                  have HNX := Lib.hid (show wThree geS C wide i k 3 = some (2, wAt C wide ((i : Int) - 1) ((k : Int) - 1)) by rw [HS.out, wVal, hg]; show (if fc .lss .f32 _ b0.2 = true then _ else _) = _; rw [hl]; rfl)
                  clear hl
                  clear hg HS
                  have hb00 : ¬ ((b0.1 : Int) < 0) := by omega
                  have ewb : wbW (some b0) = (b0.1 : Int) := rfl
                  rw [ewb]
                  clear ewb
                  have oL0 := order_of_lssW HL0.out
                  have oL1 := order_of_lssW HL1.out
                  go_wp2_with fail
                  refine ⟨⟨3, by omega, by go_num, by rw [HNX.out] <;> rfl, ⟨_, rfl, ?_⟩, _, rfl⟩, by simp [intOf]⟩
                  rw [HNX.out]; exact Lib.hid (fun b h => by cases h; exact HR.out)
    · obtain rfl : m = 3 := by omega
      go_wp2_with fail
      go_ret
      exact ⟨rfl, Dr.mk _ _⟩

end Go.Proofs.Ytnhenklopigfnaa
