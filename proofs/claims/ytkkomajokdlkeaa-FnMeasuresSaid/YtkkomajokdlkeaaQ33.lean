/- Contracts: what is told of one miss, by the program (the closures of MeanMiss, SizeMiss, ShareMiss, QuantileMiss). -/
import Derived.Test.YtkkomajokdlkeaaQ11
import Derived.Test.YtkkomajokdlkeaaQ19
import Derived.Test.YtkkomajokdlkeaaQ23
import Derived.Test.YtkkomajokdlkeaaQ32
namespace Go.Proofs.Ytkkomajokdlkeaa
set_option linter.unusedSimpArgs false
set_option linter.unusedVariables false
set_option maxRecDepth 100000
set_option maxHeartbeats 4000000
set_option linter.unusedSimpArgs false
set_option linter.unusedVariables false
open Go.RowKit
attribute [local go_sem] run_store_float run_store_complex alloc_drewN setCell_drewN
theorem run_ng3 {P : Program} (x : Nat) (w : World) : (Op.unary .neg (.float .f32 x)).run P w = .ok (.float .f32 (Op.negFloat .f32 x)) w := rfl
/-- The opposite. -/
theorem neg_val3 {x : Nat} (h : x < 4294967296) : Op.negFloat .f32 x = if x < 2147483648 then x + 2147483648 else x - 2147483648 := by
  show x ^^^ 2 ^ 31 = _
  have e : (2 : Nat) ^ 31 = 2147483648 := by decide
  by_cases hx : x < 2147483648
  · rw [if_pos hx]
    have h1 := Nat.two_pow_add_eq_or_of_lt (i := 31) (b := x) (by omega) 1
    rw [Nat.mul_one] at h1
    have h2 : x ^^^ 2 ^ 31 = 2 ^ 31 ||| x := by
      apply Nat.eq_of_testBit_eq
      intro i
      rw [Nat.testBit_xor, Nat.testBit_or, Nat.testBit_two_pow]
      by_cases hi : 31 = i
      · subst hi
        rw [Nat.testBit_lt_two_pow (by omega)]; simp
      · simp [hi]
    rw [h2, ← h1]; omega
  · rw [if_neg hx]
    obtain ⟨r, hr⟩ : ∃ r, r = x - 2147483648 := ⟨_, rfl⟩
    have hxr : x = 2 ^ 31 + r := by omega
    have h1 := Nat.two_pow_add_eq_or_of_lt (i := 31) (b := r) (by omega) 1
    rw [Nat.mul_one] at h1
    rw [hxr, h1, show ((2 : Nat) ^ 31 ||| r) ^^^ 2 ^ 31 = r from ?_]
    · rw [← h1, e]; exact (Nat.add_sub_cancel_left (n := 2147483648) (m := r)).symm
    · apply Nat.eq_of_testBit_eq
      intro i
      rw [Nat.testBit_xor, Nat.testBit_or, Nat.testBit_two_pow]
      by_cases hi : 31 = i
      · subst hi
        rw [Nat.testBit_lt_two_pow (show r < 2 ^ 31 by omega)]; simp
      · simp [hi]
theorem neg_notNaN3 {x : Nat} (h : x < 4294967296) (hn : (S.read x).isNaN = false) : (S.read (Op.negFloat .f32 x)).isNaN = false := by
  rw [neg_val3 h, read_single]
  rw [read_single] at hn
  have e : (if x < 2147483648 then x + 2147483648 else x - 2147483648) % 2147483648 = x % 2147483648 := by split <;> omega
  rw [e]
  revert hn
  split
  · intro _; rfl
  · split
    · intro _; rfl
    · split
      · intro _; rfl
      · intro hn; exact hn
def absW (x : Nat) : Nat := mx x (Op.negFloat .f32 x)
theorem qv_neg {c : Nat} {x : Rat} (h : QV S c x) (hlt : c < 4294967296) : QV S (Op.negFloat .f32 c) (-x) := by
  obtain ⟨s, m, p, e, rfl⟩ := h
  refine ⟨!s, m, p, ?_, (sg_not s _).symm⟩
  rw [neg_val3 hlt, read_single]
  rw [read_single] at e
  have e1 : (if c < 2147483648 then c + 2147483648 else c - 2147483648) % 2147483648 = c % 2147483648 := by split <;> omega
  have e2 : ((if c < 2147483648 then c + 2147483648 else c - 2147483648) / 2147483648 % 2 == 1) = !(c / 2147483648 % 2 == 1) := by
    by_cases hc : c < 2147483648
    · rw [if_pos hc, show (c + 2147483648) / 2147483648 = 1 by omega, show c / 2147483648 = 0 by omega]; rfl
    · rw [if_neg hc, show (c - 2147483648) / 2147483648 = 0 by omega, show c / 2147483648 = 1 by omega]; rfl
  rw [e1, e2]
  generalize (c / 2147483648 % 2 == 1) = b at *
  by_cases h1 : c % 2147483648 < 8388608
  · rw [if_pos h1] at e ⊢
    simp only [Ieee.Datum.number.injEq] at e ⊢
    exact ⟨by rw [e.1], e.2⟩
  · rw [if_neg h1] at e ⊢
    by_cases h2 : c % 2147483648 < 2139095040
    · rw [if_pos h2] at e ⊢
      simp only [Ieee.Datum.number.injEq] at e ⊢
      exact ⟨by rw [e.1], e.2⟩
    · rw [if_neg h2] at e
      split at e <;> cases e
theorem abs_qv {c : Nat} {x : Rat} (h : QV S c x) (hlt : c < 4294967296) : ∃ z, QV S (absW c) z ∧ x ≤ z ∧ -x ≤ z ∧ (z = x ∨ z = -x) := by
  have hn := qv_neg h hlt
  unfold absW mx
  rw [show S.order c (Op.negFloat .f32 c) = _ from h.order hn]
  by_cases h1 : x < -x
  · rw [if_pos h1]; exact ⟨_, hn, by grind, by grind, .inr rfl⟩
  · rw [if_neg h1]
    by_cases h2 : x = -x
    · rw [if_pos h2]
      dsimp only
      split
      · exact ⟨_, hn, by grind, by grind, .inr rfl⟩
      · exact ⟨_, h, by grind, by grind, .inl rfl⟩
    · rw [if_neg h2]; exact ⟨_, h, by grind, by grind, .inl rfl⟩

theorem i_absoluteW (x : Nat) (ho : (S.read x).isNaN = false) (hlt : x < 4294967296) (w : World) :
    Calls Try.prog 101 #[.float .f32 x] w fun e w' => e = .returned (.float .f32 (absW x)) ∧ Dr w w' := by
  have ho3 := neg_notNaN3 hlt ho
  have RN := fun w => run_ng3 (P := Try.prog) x w
  have RM := fun ts t w => run_mx (P := Try.prog) ts t x (Op.negFloat .f32 x) ho ho3 w
  go_enter Try.func101, Try.ntmps101
  go_wp2_with fail
  go_ret
  exact ⟨rfl, Dr.refl _⟩

theorem i_MeanMiss1 (d x g : Nat) (w : World) :
    Calls Try.prog 99 #[.float .f32 d, .float .f32 x, .float .f32 g] w fun e w' => e = .returned (.float .f32 d) ∧ Dr w w' := by
  go_enter Try.func99, Try.ntmps99
  go_wp2_with fail
  go_ret
  exact ⟨rfl, Dr.refl _⟩

theorem i_SizeMiss1 (d x g : Nat) (hd : (S.read d).isNaN = false) (hlt : d < 4294967296) (w : World) :
    Calls Try.prog 100 #[.float .f32 d, .float .f32 x, .float .f32 g] w fun e w' => e = .returned (.float .f32 (absW d)) ∧ Dr w w' := by
  go_enter Try.func100, Try.ntmps100
  go_wp2_with fail
  refine (i_absoluteW d hd hlt _).mono ?_; rintro e w1 ⟨rfl, n, rfl⟩
  go_wp2_with fail
  go_ret
  exact ⟨rfl, Dr.mk _ _⟩
/-- What is told of a share. -/
def shW (d x g : Nat) : Nat := if fc .eql .f32 (addF (absW x) (absW g)) 0 then 0 else divF (mulF 1073741824 (absW d)) (addF (absW x) (absW g))

theorem i_ShareMiss1 (d x g : Nat) (hd : (S.read d).isNaN = false) (hdl : d < 4294967296) (hx : (S.read x).isNaN = false) (hxl : x < 4294967296) (hg : (S.read g).isNaN = false) (hgl : g < 4294967296)
    (n1 : (S.read (absW d)).isNaN = false) (n2 : (S.read (absW x)).isNaN = false) (n3 : (S.read (absW g)).isNaN = false) (n4 : (S.read (addF (absW x) (absW g))).isNaN = false) (n5 : (S.read (mulF 1073741824 (absW d))).isNaN = false) (n6 : fc .eql .f32 (addF (absW x) (absW g)) 0 = false → (S.read (divF (mulF 1073741824 (absW d)) (addF (absW x) (absW g)))).isNaN = false) (w : World) :
    Calls Try.prog 103 #[.float .f32 d, .float .f32 x, .float .f32 g] w fun e w' => e = .returned (.float .f32 (shW d x g)) ∧ Dr w w' := by
  have RA := fun t w => run_arxT (P := Try.prog) .add (absW x) (absW g) (addF (absW x) (absW g)) (by rw [cn_of_not (k := .f32) n2, cn_of_not (k := .f32) n3]; rfl) n4 t w
  have RM := fun t w => run_arxT (P := Try.prog) .mul 1073741824 (absW d) (mulF 1073741824 (absW d)) (by rw [cn_of_not (k := .f32) n1, show cn .f32 1073741824 = 1073741824 by decide +kernel]; rfl) n5 t w
  cases h : fc .eql .f32 (addF (absW x) (absW g)) 0
  · have RD := fun t w => run_arxT (P := Try.prog) .quo (mulF 1073741824 (absW d)) (addF (absW x) (absW g)) (divF (mulF 1073741824 (absW d)) (addF (absW x) (absW g))) (by rw [cn_of_not (k := .f32) n5, cn_of_not (k := .f32) n4]; rfl) (n6 h) t w
    have HS := Lib.hid (show shW d x g = divF (mulF 1073741824 (absW d)) (addF (absW x) (absW g)) by rw [shW, h]; rfl)
    have ho : (FloatKind.f32.format.order (addF (absW x) (absW g)) 0 == some .eq) = false := h
    have C1 := Lib.hid (i_absoluteW x hx hxl)
    have C2 := Lib.hid (i_absoluteW g hg hgl)
    have C3 := Lib.hid (i_absoluteW d hd hdl)
    clear n1 n2 n3 n4 n5 n6 hd hx hg h
    rw [HS.out]
    generalize divF (mulF 1073741824 (absW d)) (addF (absW x) (absW g)) = q at *
    generalize mulF 1073741824 (absW d) = p at *
    generalize addF (absW x) (absW g) = s at *
    generalize absW x = ax at *
    generalize absW g = ag at *
    generalize absW d = ad at *
    go_enter Try.func103, Try.ntmps103
    go_wp2_with fail
    refine (C1.out _).mono ?_; rintro e w1 ⟨rfl, k1, rfl⟩
    go_wp2_with fail
    refine (C2.out _).mono ?_; rintro e w2 ⟨rfl, k2, rfl⟩
    go_wp2_with fail
    refine (C3.out _).mono ?_; rintro e w3 ⟨rfl, k3, rfl⟩
    go_wp2_with fail
    go_ret
    exact ⟨rfl, by first | exact Dr.mk _ _ | (simp only [World.drewN_drewN]; exact Dr.mk _ _)⟩
  · have HS := Lib.hid (show shW d x g = 0 by rw [shW, h]; rfl)
    have ho : (FloatKind.f32.format.order (addF (absW x) (absW g)) 0 == some .eq) = true := h
    have C1 := Lib.hid (i_absoluteW x hx hxl)
    have C2 := Lib.hid (i_absoluteW g hg hgl)
    clear n1 n2 n3 n4 n5 n6 hd hx hg h RM
    rw [HS.out]
    generalize addF (absW x) (absW g) = s at *
    generalize absW x = ax at *
    generalize absW g = ag at *
    go_enter Try.func103, Try.ntmps103
    go_wp2_with fail
    refine (C1.out _).mono ?_; rintro e w1 ⟨rfl, k1, rfl⟩
    go_wp2_with fail
    refine (C2.out _).mono ?_; rintro e w2 ⟨rfl, k2, rfl⟩
    go_wp2_with fail
    go_ret
    exact ⟨rfl, by first | exact Dr.mk _ _ | (simp only [World.drewN_drewN]; exact Dr.mk _ _)⟩

end Go.Proofs.Ytkkomajokdlkeaa

namespace Go.Proofs.Ytkkomajokdlkeaa
set_option linter.unusedSimpArgs false
set_option linter.unusedVariables false
set_option maxRecDepth 100000
set_option maxHeartbeats 4000000
set_option linter.unusedSimpArgs false
set_option linter.unusedVariables false
open Go.RowKit
attribute [local go_sem] run_store_float run_store_complex alloc_drewN setCell_drewN
/-- What is told of a miss on one side of a share. -/
def qmW (sh d : Nat) : Nat := if fc .geq .f32 d 0 then mulF sh d else mulF (subF sh 1065353216) d
theorem below_one {w w' : World} {o : Obj} (hd : Dr (w.alloc o) w') : Below w.heap.size w w' := by
  have h1 : Below w.heap.size w (w.alloc o) := (Below.refl _ _).alloc (Nat.le_refl _) _
  exact h1.trans ((hd.below _).mono h1.size)

theorem i_QuantileMiss1 (d x g pb sh : Nat) (hd : (S.read d).isNaN = false) (hs : (S.read sh).isNaN = false) (n1 : (S.read (mulF sh d)).isNaN = false) (n2 : (S.read (subF sh 1065353216)).isNaN = false) (n3 : (S.read (mulF (subF sh 1065353216) d)).isNaN = false) (w : World) (hc : w.cell? ⟨pb, 0, none⟩ = some (.float .f32 sh)) :
    Calls Try.prog 105 #[.float .f32 d, .float .f32 x, .float .f32 g, .pointer (some ⟨pb, 0, none⟩)] w fun e w' => e = .returned (.float .f32 (qmW sh d)) ∧ Dr w w' := by
  have R1 := fun t w => run_arxT (P := Try.prog) .mul sh d (mulF sh d) (by rw [cn_of_not (k := .f32) hs, cn_of_not (k := .f32) hd]; rfl) n1 t w
  have R2 := fun t w => run_arxT (P := Try.prog) .sub sh 1065353216 (subF sh 1065353216) (by rw [cn_of_not (k := .f32) hs, show cn .f32 1065353216 = 1065353216 by decide +kernel]; rfl) n2 t w
  have R3 := fun t w => run_arxT (P := Try.prog) .mul (subF sh 1065353216) d (mulF (subF sh 1065353216) d) (by rw [cn_of_not (k := .f32) n2, cn_of_not (k := .f32) hd]; rfl) n3 t w
  cases h : fc .geq .f32 d 0
  · have ho : (FloatKind.f32.format.order d 0 == some .gt || FloatKind.f32.format.order d 0 == some .eq) = false := h
    have HQ := Lib.hid (show qmW sh d = mulF (subF sh 1065353216) d by rw [qmW, h]; rfl)
    rw [HQ.out]
    clear hd hs n1 n2 n3 h R1
    generalize mulF (subF sh 1065353216) d = p at *
    generalize subF sh 1065353216 = q at *
    go_enter Try.func105, Try.ntmps105
    go_wp2_with fail
    go_ret
    exact ⟨rfl, Dr.refl _⟩
  · have ho : (FloatKind.f32.format.order d 0 == some .gt || FloatKind.f32.format.order d 0 == some .eq) = true := h
    have HQ := Lib.hid (show qmW sh d = mulF sh d by rw [qmW, h]; rfl)
    rw [HQ.out]
    clear hd hs n1 n2 n3 h R2 R3
    generalize mulF sh d = p at *
    go_enter Try.func105, Try.ntmps105
    go_wp2_with fail
    go_ret
    exact ⟨rfl, Dr.refl _⟩

theorem i_isShareW (x : Nat) (h0 : fc .geq .f32 x 0 = true) (h1 : fc .leq .f32 x 1065353216 = true) (w : World) :
    Calls Try.prog 104 #[.float .f32 x] w fun e w' => e = .returned (.bool true) ∧ Dr w w' := by
  have o1 : (FloatKind.f32.format.order x 0 == some .gt || FloatKind.f32.format.order x 0 == some .eq) = true := h0
  have o2 : (FloatKind.f32.format.order x 1065353216 == some .lt || FloatKind.f32.format.order x 1065353216 == some .eq) = true := h1
  go_enter Try.func104, Try.ntmps104
  go_wp2_with fail
  go_ret
  exact ⟨rfl, Dr.refl _⟩
theorem i_QuantileMiss (u v : Value) (cs ds : List Nat) (w : World) (hu : SB w u cs) (hv : SB w v ds) (sh : Nat) (h0 : fc .geq .f32 sh 0 = true) (h1 : fc .leq .f32 sh 1065353216 = true) {F SS : Nat → Nat} (hm : MS cs ds F SS)
    (hC : ∀ k, k < cs.length → ∀ (pb : Nat) (W : World), W.cell? ⟨pb, 0, none⟩ = some (.float .f32 sh) → Calls Try.prog 105 #[.float .f32 (subF (cs.getD k 0) (ds.getD k 0)), .float .f32 (cs.getD k 0), .float .f32 (ds.getD k 0), .pointer (some ⟨pb, 0, none⟩)] W fun e w' => e = .returned (.float .f32 (F k)) ∧ Dr W w') :
    Calls Try.prog 44 #[u, v, .float .f32 sh] w fun e w' => NB e (msV SS cs.length) ∧ Below w.heap.size w w' := by
  have HU := Lib.hid hu
  have HV := Lib.hid hv
  have HC := Lib.hid hC
  clear hC
  go_enter Try.func44, Try.ntmps44
  go_wp2_with fail
  refine (i_isShareW sh h0 h1 _).mono ?_; rintro e w1 ⟨rfl, hd⟩
  have HB1 := Lib.hid (below_one hd)
  obtain ⟨n1, rfl⟩ := hd
  go_wp2_with fail
  have hcc := i_meanMissQuantileMiss u v cs ds _ (HU.out.keep HB1.out) (HV.out.keep HB1.out) w.heap.size sh (by simp) (by simp) hm (fun k hk W hW => HC.out k hk w.heap.size W hW)
  refine hcc.mono ?_; rintro e w5 ⟨⟨r2, b2, rfl, hr2, hr3, hb2⟩, hd5⟩
  have HB5 := Lib.hid (HB1.out.trans ((hd5.below _).mono HB1.out.size))
  go_wp2_with fail
  go_ret2
  exact ⟨⟨_, _, rfl, hr2, hr3, by first | exact hb2 | rfl⟩, HB5.out⟩

end Go.Proofs.Ytkkomajokdlkeaa

namespace Go.Proofs.Ytkkomajokdlkeaa
set_option linter.unusedSimpArgs false
set_option linter.unusedVariables false
set_option maxRecDepth 100000
set_option maxHeartbeats 4000000
set_option linter.unusedSimpArgs false
set_option linter.unusedVariables false
open Go.RowKit
attribute [local go_sem] run_store_float run_store_complex alloc_drewN setCell_drewN
theorem order_selfC {c : Nat} (h : fin c = true) : S.order c c = some .eq := by
  have hn := fin_notNaN h
  unfold Ieee.Format.order
  cases e : S.read c with
  | nan s t => rw [e] at hn; cases hn
  | infinity s =>
    exfalso
    have h1 : fc .eql .f32 (ar .sub .f32 c c) 0 = true := h
    have h2 : (FloatKind.f32.format.sub c c) = none := by
      show S.sub c c = none
      rw [Ieee.Format.sub, e]
      cases s <;> rfl
    have h3 : ar .sub .f32 c c = qnan .f32 := by unfold ar; show (FloatKind.f32.format.sub c c).getD _ = _; rw [h2]; rfl
    rw [h3] at h1
    revert h1
    decide +kernel
  | number s m p =>
    unfold Ieee.Datum.order
    simp only [Int.min_self, Int.sub_self]
    generalize Ieee.signed s m (0 : Int).toNat = z
    simp [compare, compareOfLessAndEq]
theorem cover_all : ((List.range 97).all fun n => decide (n = 0 ∨ divF (fI (n : Int)) (fI (n : Int)) = 1065353216)) = true := by decide +kernel

theorem i_CoverOfSame (u : Value) (cs : List Nat) (w : World) (hu : SB w u cs) (hok : twoOk cs cs = true) :
    Calls Try.prog 45 #[u, u, u] w fun e w' => e = .returned (.tuple #[.float .f32 1065353216, .bool true]) ∧ Dr w w' := by
  have HU := Lib.hid hu
  obtain ⟨-, hn96, hn1⟩ := two_len hok
  have hfin : allFin cs = true := by
    simp only [twoOk, series, Bool.and_eq_true] at hok
    exact hok.1.1.2
  have HOK := Lib.hid hok
  obtain ⟨ao, c, rfl, -, -, hg1⟩ := hu.get rfl
  have HG1 := Lib.hid hg1
  have HF := Lib.hid hfin
  clear hu hg1 hfin hok
  go_enter Try.func45, Try.ntmps45
  go_wp2_with fail
  refine (i_areTwo _ _ cs cs _ HU.out.sl HU.out.sl).mono ?_; rintro e w1 ⟨rfl, n1, rfl⟩
  rw [HOK.out]
  go_wp2_with fail
  refine (i_areTwo _ _ cs cs _ (SB.drewN HU.out _).sl (SB.drewN HU.out _).sl).mono ?_; rintro e w1 ⟨rfl, n2, rfl⟩
  rw [HOK.out]
  go_wp2_with fail
  go_loopw [8, 23] (fun s i wr => ∃ k : Nat, k ≤ cs.length ∧ i = .int .i64 (k : Int) ∧ s = .int .i64 (k : Int) ∧ ∃ n, wr = w.drewN n) (fun _ i _ => cs.length - (intOf i).toNat)
  case atStart => exact ⟨0, Nat.zero_le _, rfl, rfl, _, rfl⟩
  case round =>
    obtain ⟨k, hk, rfl, rfl, dn, rfl⟩ := hrel
    by_cases hlt : k < cs.length
    · obtain ⟨b1, o1, x, rfl, hbl1, hc1, hx, hcx⟩ := HG1.out k hlt
      have fx := fin_getD182 HF.out k
      obtain ⟨rfl, -⟩ := raw_of hcx fx
      have ho : FloatKind.f32.format.order (cs.getD k 0) (cs.getD k 0) = some .eq := order_selfC fx
      generalize cs.getD k 0 = xx at *
      clear hcx fx
      have hji : (k : Int) < (cs.length : Int) := by omega
      go_wp2_with fail
      exact ⟨⟨k + 1, by omega, by go_num, by go_num, _, rfl⟩, by simp [intOf]; omega⟩
    · obtain rfl : k = cs.length := by omega
      have hdv := of_decide_eq_true (List.all_eq_true.1 cover_all cs.length (List.mem_range.2 (by omega)))
      have hq : divF (fI (cs.length : Int)) (fI (cs.length : Int)) = 1065353216 := by rcases hdv with h | h; · omega
                                                                                      · exact h
      have RQ := fun t w => run_arxT (P := Try.prog) .quo (floatOfInt .f32 (cs.length : Int)) (floatOfInt .f32 (cs.length : Int)) 1065353216 (by rw [show cn .f32 (floatOfInt .f32 (cs.length : Int)) = fI (cs.length : Int) from cn_fI _]; exact hq) (by decide +kernel) t w
      clear hdv hq
      go_wp2_with fail
      go_ret2
      exact ⟨rfl, Dr.mk _ _⟩

end Go.Proofs.Ytkkomajokdlkeaa

namespace Go.Proofs.Ytkkomajokdlkeaa
set_option linter.unusedSimpArgs false
set_option linter.unusedVariables false
set_option maxRecDepth 100000
set_option maxHeartbeats 4000000
set_option linter.unusedSimpArgs false
set_option linter.unusedVariables false
open Go.RowKit
def h2E (n : Nat) : Bool := evB (h2r ((n : Int) - 152)) (4 * ((n : Int) - 152))
theorem h2_all : ∀ i : Fin 305, h2E i.val = true := by decide +kernel
theorem h2_ev {x : Int} (h1 : -152 ≤ x) (h2 : x ≤ 152) : Ev (h2r x) (4 * x) := by
  have h := h2_all ⟨(x + 152).toNat, by omega⟩
  unfold h2E at h
  rw [show (((x + 152).toNat : Nat) : Int) - 152 = x by omega] at h
  exact ev_of h
theorem h2s_all : ∀ i : Fin 77, ∀ j : Fin 77, Nat.beq (subF (h2r ((i.val : Int) - 38)) (h2r ((j.val : Int) - 38))) (h2r ((i.val : Int) - (j.val : Int))) = true := by decide +kernel
theorem h2_sub {x y : Int} (x1 : -38 ≤ x) (x2 : x ≤ 38) (y1 : -38 ≤ y) (y2 : y ≤ 38) : subF (h2r x) (h2r y) = h2r (x - y) := by
  have h := h2s_all ⟨(x + 38).toNat, by omega⟩ ⟨(y + 38).toNat, by omega⟩
  have h := Nat.eq_of_beq_eq_true h
  rw [show (((x + 38).toNat : Nat) : Int) - 38 = x by omega, show (((y + 38).toNat : Nat) : Int) - 38 = y by omega, show (((x + 38).toNat : Nat) : Int) - (((y + 38).toNat : Nat) : Int) = x - y by omega] at h
  exact h
def h2A (n : Nat) : Bool := Nat.beq (absW (h2r ((n : Int) - 76))) (h2r (((n : Int) - 76).natAbs : Int)) && evB (mulF (h2r ((n : Int) - 76)) (h2r ((n : Int) - 76))) (2 * (((n : Int) - 76) * ((n : Int) - 76)))
theorem h2a_all : ∀ i : Fin 153, h2A i.val = true := by decide +kernel
theorem h2_abs {x : Int} (h1 : -76 ≤ x) (h2 : x ≤ 76) : absW (h2r x) = h2r (x.natAbs : Int) ∧ Ev (mulF (h2r x) (h2r x)) (2 * (x * x)) := by
  have h := h2a_all ⟨(x + 76).toNat, by omega⟩
  unfold h2A at h
  rw [Bool.and_eq_true] at h
  rw [show (((x + 76).toNat : Nat) : Int) - 76 = x by omega] at h
  exact ⟨Nat.eq_of_beq_eq_true h.1, ev_of h.2⟩
def nnB (c : Nat) : Bool := !(S.read c).isNaN
theorem nnB_not {c : Nat} (h : nnB c = true) : (S.read c).isNaN = false := by unfold nnB at h; simpa using h
/-- What is told of a miss on one side of a share, in eighths. -/
def h2Q (n : Nat) : Bool :=
  let x : Int := (n : Int) - 76
  evB (qmW 1056964608 (h2r x)) (2 * (x.natAbs : Int)) && evB (qmW 1061158912 (h2r x)) (if 0 ≤ x then 3 * x else -x) && evB (qmW 1048576000 (h2r x)) (if 0 ≤ x then x else -3 * x) &&
  nnB (mulF 1056964608 (h2r x)) && nnB (mulF 1061158912 (h2r x)) && nnB (mulF 1048576000 (h2r x)) &&
  nnB (mulF (subF 1056964608 1065353216) (h2r x)) && nnB (mulF (subF 1061158912 1065353216) (h2r x)) && nnB (mulF (subF 1048576000 1065353216) (h2r x))
theorem h2q_all : ∀ i : Fin 153, h2Q i.val = true := by decide +kernel
structure QmOk (sh d : Nat) : Prop where
  n1 : (S.read (mulF sh d)).isNaN = false
  n3 : (S.read (mulF (subF sh 1065353216) d)).isNaN = false
theorem h2_qm {x : Int} (h1 : -76 ≤ x) (h2 : x ≤ 76) :
    Ev (qmW 1056964608 (h2r x)) (2 * (x.natAbs : Int)) ∧ Ev (qmW 1061158912 (h2r x)) (if 0 ≤ x then 3 * x else -x) ∧ Ev (qmW 1048576000 (h2r x)) (if 0 ≤ x then x else -3 * x) ∧
    QmOk 1056964608 (h2r x) ∧ QmOk 1061158912 (h2r x) ∧ QmOk 1048576000 (h2r x) := by
  have h := h2q_all ⟨(x + 76).toNat, by omega⟩
  unfold h2Q at h
  simp only [Bool.and_eq_true] at h
  rw [show (((x + 76).toNat : Nat) : Int) - 76 = x by omega] at h
  obtain ⟨⟨⟨⟨⟨⟨⟨⟨a1, a2⟩, a3⟩, a4⟩, a5⟩, a6⟩, a7⟩, a8⟩, a9⟩ := h
  exact ⟨ev_of a1, ev_of a2, ev_of a3, ⟨nnB_not a4, nnB_not a7⟩, ⟨nnB_not a5, nnB_not a8⟩, ⟨nnB_not a6, nnB_not a9⟩⟩

end Go.Proofs.Ytkkomajokdlkeaa

namespace Go.Proofs.Ytkkomajokdlkeaa
set_option linter.unusedSimpArgs false
set_option linter.unusedVariables false
set_option maxRecDepth 100000
set_option maxHeartbeats 4000000
set_option linter.unusedSimpArgs false
set_option linter.unusedVariables false
open Go.RowKit
attribute [local go_sem] run_store_float run_store_complex alloc_drewN setCell_drewN
def past4 : List Nat := [0, 1073741824, 0, 1073741824]
def diff3 : List Nat := [1073741824, 3221225472, 1073741824]
theorem lag4 : lagQ past4 1 = (diff3, true) := by decide +kernel
/-- Sums of the differences' sizes. -/
def sum3 : Nat → Nat
  | 0 => 0
  | 1 => 1073741824
  | 2 => 1082130432
  | _ => 1086324736
theorem sum3_step : ((List.range 3).all fun k => decide (addF (sum3 k) (absW (diff3.getD k 0)) = sum3 (k + 1)) && decide (cn .f32 (sum3 k) = sum3 k) && decide (cn .f32 (absW (diff3.getD k 0)) = absW (diff3.getD k 0)) && !(S.read (sum3 (k + 1))).isNaN && !(S.read (diff3.getD k 0)).isNaN && decide (diff3.getD k 0 < 4294967296) && fin (diff3.getD k 0)) = true := by decide +kernel
theorem SL.drewN187 {w : World} {v : Value} {cs : List Nat} (h : SL w v cs) (n : Nat) : SL (w.drewN n) v cs := h
theorem below_two187 {w0 w w' : World} {n : Nat} {o : Obj} (h : Dr ((w.alloc o).drewN n) w') (hb : Below w0.heap.size w0 w) : Below w0.heap.size w0 w' := by
  have h1 : Below w0.heap.size w0 ((w.alloc o).drewN n) := below_drewN (hb.alloc hb.size _) _
  exact h1.trans ((h.below _).mono h1.size)

theorem i_ScaledMiss (p u v : Value) (cs ds : List Nat) (w : World) (hp : SB w p past4) (hu : SB w u cs) (hv : SB w v ds) {F SS : Nat → Nat} (hm : MS cs ds F SS) (hC : ∀ k, k < cs.length → ∀ W : World, Calls Try.prog 100 #[.float .f32 (subF (cs.getD k 0) (ds.getD k 0)), .float .f32 (cs.getD k 0), .float .f32 (ds.getD k 0)] W fun e w' => e = .returned (.float .f32 (F k)) ∧ Dr W w') {sz : Nat} (hsz : msV SS cs.length = (sz, true)) (hsn : cn .f32 sz = sz) :
    Calls Try.prog 48 #[p, u, v, .int .i64 1] w fun e w' => NB e (numB (divF sz 1073741824)) ∧ Below w.heap.size w w' := by
  have HP := Lib.hid hp
  have HU := Lib.hid hu
  have HV := Lib.hid hv
  have HSN := Lib.hid hsn
  clear hp hu hv hsn
  have hcc := i_SizeMiss u v cs ds w HU.out HV.out hm hC
  rw [hsz] at hcc
  have HCC := Lib.hid hcc
  clear hcc hsz hC
  go_enter Try.func48, Try.ntmps48
  go_wp2_with fail
  refine HCC.out.mono ?_; rintro e w1 ⟨⟨r1, b1, rfl, hr1, hc1, hb1⟩, n1, rfl⟩
  obtain rfl : b1 = true := hb1
  have HR1 := Lib.hid (hc1.trans rfl : cn .f32 r1 = sz)
  clear hc1
  go_wp2_with fail
  have hl := i_LagDifferences p past4 1 (w.drewN n1) (HP.out.drewN _)
  rw [lag4] at hl
  refine hl.mono ?_; rintro e w2 ⟨⟨dv, db, rfl, ho, hb2⟩, hb⟩
  obtain rfl : db = true := hb2
  have HO := Lib.hid (show ∀ W, Below w2.heap.size w2 W → OW 33 w.heap.size W dv diff3 from fun W h => ho.keep h)
  have HB := Lib.hid (show Below w.heap.size w w2 from (below_drewN (Below.refl _ _) n1).trans (hb.mono (by simp)))
  obtain ⟨ao, ac, hdv, -⟩ := ho.sb.sl.slice
  have hdv : dv = .slice ao 3 ac := hdv
  subst hdv
  clear hl hb ho
  go_wp2_with fail
  go_loopw [14, 38] (fun s i wr => ∃ k : Nat, k ≤ 3 ∧ i = .int .i64 (k : Int) ∧ s = .float .f32 (sum3 k) ∧ ∃ n, wr = w2.drewN n) (fun _ i _ => 3 - (intOf i).toNat)
  case atStart => exact ⟨0, Nat.zero_le _, rfl, rfl, 0, rfl⟩
  case round =>
    obtain ⟨k, hk, rfl, rfl, dn, rfl⟩ := hrel
    by_cases hlt : k < 3
    · have hji : (k : Int) < 3 := by omega
      have hst := List.all_eq_true.1 sum3_step k (List.mem_range.2 hlt)
      simp only [Bool.and_eq_true, decide_eq_true_eq, Bool.not_eq_true'] at hst
      obtain ⟨⟨⟨⟨⟨⟨g1, g2⟩, g3⟩, g4⟩, g5⟩, g6⟩, g7⟩ := hst
      obtain ⟨av, cc, hv1, -, -, hget⟩ := (HO.out (w2.drewN dn) (below_drewN (Below.refl _ _) dn)).sb.get (show diff3.length = 3 from rfl)
      obtain ⟨b1, o1, x, hao, hbl, hc1, hx, hcx⟩ := hget k hlt
      obtain rfl : ao = some ⟨b1, o1, none⟩ := by injection hv1 with q1; rw [q1]; exact hao
      obtain ⟨rfl, -⟩ := raw_of hcx g7
      have CA := Lib.hid (i_absoluteW (diff3.getD k 0) g5 g6)
      have RA := fun t w => run_arxT (P := Try.prog) .add (sum3 k) (absW (diff3.getD k 0)) (sum3 (k + 1)) (by rw [g2, g3]; exact g1) g4 t w
      generalize hS1 : sum3 (k + 1) = s1 at *
      have HS1 := Lib.hid hS1
      clear hS1
      generalize sum3 k = s0 at *
      generalize absW (diff3.getD k 0) = aa at *
      generalize diff3.getD k 0 = dd at *
      clear hv1 hget hao hx hcx g1 g2 g3 g4 g5 g6 g7
      have hc1' : w2.cell? ⟨b1, o1 + k, none⟩ = some (.float .f32 dd) := hc1
      clear hc1
      go_wp2_with fail
      refine (CA.out _).mono ?_; rintro z w3 ⟨rfl, n3, rfl⟩
      go_wp2_with fail
      exact ⟨⟨k + 1, by omega, by go_num, by rw [HS1.out], _, rfl⟩, by simp [intOf]; omega⟩
    · obtain rfl : k = 3 := by omega
      have RQ := fun t w => run_arxT (P := Try.prog) .quo (sum3 3) (floatOfInt .f32 3) 1073741824 (by decide +kernel) (by decide +kernel) t w
      generalize sum3 3 = s3 at *
      go_wp2_with fail
      refine (i_areMore _ [cn .f32 1073741824] _ (SL.drewN187 (SL.lit w2 [1073741824] 33 (0, 0) (by simp) rfl rfl) dn)).mono ?_; rintro z w3 ⟨rfl, hd3⟩
      rw [show allAbove [cn .f32 1073741824] = true by decide +kernel]
      have HB3 := Lib.hid (below_two187 hd3 HB.out)
      clear hd3
      go_wp2_with (first | (refine wpList_ar .f32 _ _ rfl rfl rfl ?_; intro r2 n2 hr2 hlt2))
      refine (i_ifFinite r2 hlt2 _).mono ?_; rintro e w5 ⟨⟨r3, b3, rfl, hr3, hc3, hb3⟩, n5, rfl⟩
      rw [HR1.out, show cn .f32 1073741824 = 1073741824 by decide +kernel] at hr2
      rw [hr2] at hc3 hb3
      have HC3 := Lib.hid hc3
      have HB4 := Lib.hid hb3
      clear hc3 hb3
      go_wp2_with fail
      go_ret2
      exact ⟨⟨_, _, rfl, hr3, HC3.out, HB4.out⟩, below_drewN HB3.out _⟩

end Go.Proofs.Ytkkomajokdlkeaa
