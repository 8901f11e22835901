/- Contracts: what the laws of chapter 6 read and compare: r8Long, r8At, r8Gap. -/
import Derived.Test.YtkkomajokdlkeaaQ11
import Derived.Test.YtkkomajokdlkeaaQ15
import Derived.Test.YtkkomajokdlkeaaQ39
import Derived.Test.YtkkomajokdlkeaaQ42
namespace Go.Proofs.Ytkkomajokdlkeaa
set_option linter.unusedSimpArgs false
set_option linter.unusedVariables false
set_option maxRecDepth 100000
set_option maxHeartbeats 4000000
set_option linter.unusedSimpArgs false
set_option linter.unusedVariables false
open Go.RowKit
attribute [local go_sem] run_store_float run_store_complex alloc_drewN setCell_drewN

/-- The greater one in 64 bits. -/
def mxD (x y : Nat) : Nat :=
  match Ieee.double.order x y with
  | none => 0
  | some .lt => y
  | some .gt => x
  | some .eq => if (Ieee.double.read x).neg then y else x
theorem run_mxD {P : Program} (ts : Array TypeId) (t : TypeId) (x y : Nat) (hx : (Ieee.double.read x).isNaN = false) (hy : (Ieee.double.read y).isNaN = false) (w : World) :
    (Builtin.max_ ts t #[.float .f64 x, .float .f64 y]).run P w = .ok (.float .f64 (mxD x y)) w := by
  have ho : Ieee.double.order x y ≠ none := by
    unfold Ieee.Format.order
    cases h1 : Ieee.double.read x <;> cases h2 : Ieee.double.read y <;> rw [h1] at hx <;> rw [h2] at hy <;> simp [Ieee.Datum.isNaN] at hx hy <;> simp [Ieee.Datum.order]
  have ho2 : FloatKind.f64.format.order x y = Ieee.double.order x y := rfl
  unfold mxD
  cases h : Ieee.double.order x y with
  | none => exact absurd h ho
  | some o =>
    cases o <;> simp [Builtin.max_, Builtin.max2, ho2, h]
    rfl
theorem mxD_qv {a b : Nat} {x y : Rat} (ha : QV D a x) (hb : QV D b y) : ∃ z, QV D (mxD a b) z ∧ x ≤ z ∧ y ≤ z ∧ (z = x ∨ z = y) := by
  unfold mxD
  rw [show Ieee.double.order a b = _ from ha.order hb]
  by_cases h : x < y
  · rw [if_pos h]; exact ⟨y, hb, by grind, by grind, .inr rfl⟩
  · rw [if_neg h]
    by_cases h2 : x = y
    · rw [if_pos h2]
      dsimp only
      split
      · exact ⟨y, hb, by grind, by grind, .inr rfl⟩
      · exact ⟨x, ha, by grind, by grind, .inl rfl⟩
    · rw [if_neg h2]; exact ⟨x, ha, by grind, by grind, .inl rfl⟩
/-- How far two numbers are apart, as the laws of chapter 6 reckon it. -/
def r8G (a b : Nat) : Nat := mxD (ar .sub .f64 (wd a) (wd b)) (ar .sub .f64 (wd b) (wd a))
theorem r8G_qv {a b : Nat} {x y : Rat} (ha : QV S a x) (hb : QV S b y) (x1 : -999 ≤ x) (x2 : x ≤ 999) (y1 : -999 ≤ y) (y2 : y ≤ 999) :
    (Ieee.double.read (wd a)).isNaN = false ∧ (Ieee.double.read (wd b)).isNaN = false ∧ (Ieee.double.read (ar .sub .f64 (wd a) (wd b))).isNaN = false ∧ (Ieee.double.read (ar .sub .f64 (wd b) (wd a))).isNaN = false ∧
    ∃ z, QV D (r8G a b) z ∧ x - y ≤ z + 1 / 100000 ∧ y - x ≤ z + 1 / 100000 ∧ (z ≤ x - y + 1 / 100000 ∨ z ≤ y - x + 1 / 100000) := by
  obtain ⟨x', w1, w2, w3⟩ := wd_nr ha (Nr.refl x) (by grind) (by grind) (by decide +kernel) (f := 1 / 1000000) (by decide +kernel)
  obtain ⟨y', w4, w5, w6⟩ := wd_nr hb (Nr.refl y) (by grind) (by grind) (by decide +kernel) (f := 1 / 1000000) (by decide +kernel)
  obtain ⟨p, p1, p2⟩ := subD_qv w1 w4 (by unfold big; grind) (by unfold big; grind)
  obtain ⟨q, q1, q2⟩ := subD_qv w4 w1 (by unfold big; grind) (by unfold big; grind)
  have p3 := p2.2.2 2000 (by grind) (by grind)
  have q3 := q2.2.2 2000 (by grind) (by grind)
  obtain ⟨z, z1, z2, z3, z4⟩ := mxD_qv p1 q1
  refine ⟨w1.notNaN, w4.notNaN, p1.notNaN, q1.notNaN, z, z1, by grind, by grind, ?_⟩
  rcases z4 with h | h
  · left; grind
  · right; grind

theorem l_r8Long (u v : Value) (cs ds : List Int) (w : World) (hu : GL (Value.int .u8) w u cs) (hv : GL (Value.int .u8) w v ds) :
    Calls Try.prog 37 #[u, v] w fun e w' => e = .returned (.bool (decide (48 < cs.length) || decide (48 < ds.length))) ∧ Dr w w' := by
  obtain ⟨ao, c, rfl, hc1, hc2⟩ := hu.slice
  obtain ⟨bo, d, rfl, hd1, hd2⟩ := hv.slice
  clear hu hv
  by_cases h1 : (48 : Int) < (cs.length : Int) <;> by_cases h2 : (48 : Int) < (ds.length : Int)
  all_goals
    go_enter Try.func37, Try.ntmps37
    go_wp2
    go_ret
    refine ⟨ret_bool ?_, Dr.refl _⟩
    have h3 : decide (48 < cs.length) = decide ((48 : Int) < (cs.length : Int)) := by apply decide_eq_decide.2; omega
    have h4 : decide (48 < ds.length) = decide ((48 : Int) < (ds.length : Int)) := by apply decide_eq_decide.2; omega
    rw [h3, h4]
    simp [h1, h2]
theorem l_r8At (v : Value) (cs : List Int) (i n : Nat) (hi : i ≤ 1000) (hn : 1 < n) (hn2 : n ≤ 100000) (w : World) (hv : GL (Value.int .u8) w v cs) (hw : allU8 cs) :
    Calls Try.prog 38 #[v, .int .i64 (i : Int), .int .i64 (n : Int)] w fun e w' => (∃ x : Nat, x < n ∧ e = .returned (.int .i64 (x : Int))) ∧ Dr w w' := by
  obtain ⟨ao, c, rfl, hc1, hc2⟩ := hv.slice
  have z0 : (0 : Int) ≤ (i : Int) := by omega
  have z2 : ((i : Int)).toNat = i := by omega
  have z3 : (1 : Int) < (n : Int) := by omega
  by_cases h : i < cs.length
  · obtain ⟨b, off, rfl, hbl, hcell⟩ := hv.getU i h
    have hx := hw.get i
    have z1 : (i : Int) < (cs.length : Int) := by omega
    clear hv hw
    generalize cs.getD i 0 = x at *
    obtain ⟨xn, rfl⟩ := Int.eq_ofNat_of_zero_le hx.1
    have hlt : xn % n < n := Nat.mod_lt _ (by omega)
    have HM := Lib.hid (show (xn : Int) % (n : Int) = ((xn % n : Nat) : Int) by omega)
    go_enter Try.func38, Try.ntmps38
    go_wp2_with fail
    go_ret
    refine ⟨⟨xn % n, hlt, ?_⟩, Dr.refl _⟩
    exact congrArg (fun z => Ending.returned (Value.int .i64 z)) HM.out
  · have z1 : ¬ (i : Int) < (cs.length : Int) := by omega
    clear hv hw
    go_enter Try.func38, Try.ntmps38
    go_wp2_with fail
    go_ret
    exact ⟨⟨0, by omega, rfl⟩, Dr.refl _⟩
theorem l_r8Gap (a b : Nat) (ha : (S.read a).isNaN = false) (hb : (S.read b).isNaN = false) (h1 : (Ieee.double.read (wd a)).isNaN = false) (h2 : (Ieee.double.read (wd b)).isNaN = false) (h3 : (Ieee.double.read (ar .sub .f64 (wd a) (wd b))).isNaN = false) (h4 : (Ieee.double.read (ar .sub .f64 (wd b) (wd a))).isNaN = false) (w : World) :
    Calls Try.prog 47 #[.float .f32 a, .float .f32 b] w fun e w' => e = .returned (.float .f64 (r8G a b)) ∧ Dr w w' := by
  have RC1 := fun w => run_wdxT (P := Try.prog) w 33 45 a (by kernel_rfl) (by kernel_rfl) ha
  have RC2 := fun w => run_wdxT (P := Try.prog) w 33 45 b (by kernel_rfl) (by kernel_rfl) hb
  have RA1 := fun t w => run_arx64T (P := Try.prog) .sub (wd a) (wd b) _ (by rw [cn_of_not (k := .f64) h1, cn_of_not (k := .f64) h2]) h3 t w
  have RA2 := fun t w => run_arx64T (P := Try.prog) .sub (wd b) (wd a) _ (by rw [cn_of_not (k := .f64) h1, cn_of_not (k := .f64) h2]) h4 t w
  have RM := fun ts t w => run_mxD (P := Try.prog) ts t _ _ h3 h4 w
  have HG := Lib.hid (show mxD (ar .sub .f64 (wd a) (wd b)) (ar .sub .f64 (wd b) (wd a)) = r8G a b from rfl)
  generalize ar .sub .f64 (wd a) (wd b) = p at *
  generalize ar .sub .f64 (wd b) (wd a) = q at *
  generalize mxD p q = m at *
  go_enter Try.func47, Try.ntmps47
  go_wp2_with fail
  go_ret
  exact ⟨by rw [HG.out]; rfl, Dr.refl _⟩

end Go.Proofs.Ytkkomajokdlkeaa

namespace Go.Proofs.Ytkkomajokdlkeaa
set_option linter.unusedSimpArgs false
set_option linter.unusedVariables false
set_option maxRecDepth 100000
set_option maxHeartbeats 4000000
set_option linter.unusedSimpArgs false
set_option linter.unusedVariables false
open Go.RowKit
def kM6 : Nat := 4562254508917369340
theorem kM6_qv : ∃ x, QV D kM6 x ∧ 99 / 100000 ≤ x ∧ x ≤ 101 / 100000 := by
  refine ⟨_, ⟨false, 4611686018427388, -62, by decide +kernel, rfl⟩, by decide +kernel, by decide +kernel⟩
structure GapOk (a b : Nat) : Prop where
  ha : (S.read a).isNaN = false
  hb : (S.read b).isNaN = false
  h1 : (Ieee.double.read (wd a)).isNaN = false
  h2 : (Ieee.double.read (wd b)).isNaN = false
  h3 : (Ieee.double.read (ar .sub .f64 (wd a) (wd b))).isNaN = false
  h4 : (Ieee.double.read (ar .sub .f64 (wd b) (wd a))).isNaN = false
theorem gap_ok6 {a b : Nat} {x y : Rat} (ha : QV S a x) (hb : QV S b y) (x1 : -900 ≤ x) (x2 : x ≤ 900) (y1 : -900 ≤ y) (y2 : y ≤ 900) :
    GapOk a b ∧ ∃ z, QV D (r8G a b) z ∧ x - y ≤ z + 1 / 100000 ∧ y - x ≤ z + 1 / 100000 ∧ (z ≤ x - y + 1 / 100000 ∨ z ≤ y - x + 1 / 100000) := by
  obtain ⟨h1, h2, h3, h4, h5⟩ := r8G_qv ha hb (by grind) (by grind) (by grind) (by grind)
  exact ⟨⟨ha.notNaN, hb.notNaN, h1, h2, h3, h4⟩, h5⟩
theorem gap_small6 {a b : Nat} {x y : Rat} (ha : QV S a x) (hb : QV S b y) (x1 : -900 ≤ x) (x2 : x ≤ 900) (y1 : -900 ≤ y) (y2 : y ≤ 900) (h1 : x - y ≤ 9 / 10000) (h2 : y - x ≤ 9 / 10000) :
    GapOk a b ∧ fc .gtr .f64 (r8G a b) kM6 = false := by
  obtain ⟨g, z, hz, z1, z2, z3⟩ := gap_ok6 ha hb x1 x2 y1 y2
  obtain ⟨k, hk, k1, k2⟩ := kM6_qv
  refine ⟨g, ?_⟩
  rw [gtrD_qv hz hk, decide_eq_false]
  rcases z3 with h | h <;> grind
section
variable {n : Nat} {cs ds : List Nat} {X Y : Nat → Int}
def wM (cs ds : List Nat) (n : Nat) : Nat := mzW (fMean cs ds) n
def wZ (cs ds : List Nat) (n : Nat) : Nat := mzW (fSize cs ds) n
def wR (cs ds : List Nat) : Nat := rootF (msMean cs ds)
def wH (cs ds : List Nat) (n : Nat) : Nat := mzW (fSh cs ds) n
def wQ (sh : Nat) (cs ds : List Nat) (n : Nat) : Nat := mzW (fQ sh cs ds) n
def w2 (x : Nat) : Nat := divF x 1073741824
structure FmA (cs ds : List Nat) (n : Nat) : Prop where
  fM : fin (wM cs ds n) = true
  fZ : fin (wZ cs ds n) = true
  fH : fin (wH cs ds n) = true
  fA : fin (wQ 1056964608 cs ds n) = true
  fB : fin (wQ 1061158912 cs ds n) = true
  fC : fin (wQ 1048576000 cs ds n) = true
  fR : rmsQ cs ds = (wR cs ds, true) ∧ (S.read (wR cs ds)).isNaN = false
  z0 : fc .lss .f32 (wZ cs ds n) 0 = false
  g1 : GapOk (wM cs ds n) 0
  a1 : (D.read (ar .add .f64 (wd (wZ cs ds n)) kM6)).isNaN = false
  t1 : fc .gtr .f64 (r8G (wM cs ds n) 0) (ar .add .f64 (wd (wZ cs ds n)) kM6) = false
  zw : (D.read (wd (wZ cs ds n))).isNaN = false
  rw' : (D.read (wd (wR cs ds))).isNaN = false
  a2 : (D.read (ar .add .f64 (wd (wR cs ds)) kM6)).isNaN = false
  t2 : fc .gtr .f64 (wd (wZ cs ds n)) (ar .add .f64 (wd (wR cs ds)) kM6) = false
  h0 : fc .lss .f32 (wH cs ds n) 0 = false
  h2 : fc .gtr .f32 (wH cs ds n) 1073746018 = false
  z2 : fin (w2 (wZ cs ds n)) = true
  g3 : GapOk (wQ 1056964608 cs ds n) (w2 (wZ cs ds n))
  t3 : fc .gtr .f64 (r8G (wQ 1056964608 cs ds n) (w2 (wZ cs ds n))) kM6 = false
  bc : (S.read (addF (wQ 1061158912 cs ds n) (wQ 1048576000 cs ds n))).isNaN = false
  g4 : GapOk (addF (wQ 1061158912 cs ds n) (wQ 1048576000 cs ds n)) (wZ cs ds n)
  t4 : fc .gtr .f64 (r8G (addF (wQ 1061158912 cs ds n) (wQ 1048576000 cs ds n)) (wZ cs ds n)) kM6 = false
  g5 : GapOk (w2 (wZ cs ds n)) (w2 (wZ cs ds n))
  t5 : fc .gtr .f64 (r8G (w2 (wZ cs ds n)) (w2 (wZ cs ds n))) kM6 = false
theorem Hz.fmA (h : Hz n cs ds X Y) : FmA cs ds n := by
  obtain ⟨m, z, a, b, c, qm, qz, qa, qb, qc, f1, f2, f3, f4, f5, z0, z39, mz1, mz2, az1, az2, bc1, bc2, a0, a39, b0, b39, c0, c39, u2, hu, hu0, hu38, hzu⟩ := h.vals
  obtain ⟨r, hr, qr, r0, r1, r2, -⟩ := h.root hu hu0 hu38
  obtain ⟨s, qs, fs, s0, s1⟩ := h.share
  obtain ⟨k, hk, k1, k2⟩ := kM6_qv
  have q2 : QV S 1073741824 2 := qv_of_B (by decide +kernel)
  have qK : QV S 1073746018 (8392802 / 4194304) := qv_of_B (by decide +kernel)
  obtain ⟨g1, y1, hy1, -, -, y1c⟩ := gap_ok6 qm zero_qv (by grind) (by grind) (by grind) (by grind)
  obtain ⟨zw, hzw, -, -, zw1⟩ := wd_qv qz (by unfold big; grind) (by unfold big; grind)
  have zw2 := zw1 40 (by grind) (by grind)
  obtain ⟨rw0, hrw, -, -, rw1⟩ := wd_qv qr (by unfold big; grind) (by unfold big; grind)
  have rw2 := rw1 2048 (by grind) (by grind)
  have hE : e64 = 1 / 4503599627370496 := rfl
  rw [hE] at zw2 rw2
  obtain ⟨p1, hp1, -, -, p1a⟩ := addD_qv hzw hk (by unfold big; grind) (by unfold big; grind)
  have p1b := p1a 50 (by grind) (by grind)
  obtain ⟨p2, hp2, -, -, p2a⟩ := addD_qv hrw hk (by unfold big; grind) (by unfold big; grind)
  have p2b := p2a 3000 (by grind) (by grind)
  rw [hE] at p1b p2b
  obtain ⟨v, hv, -, -, va⟩ := divF_qv qz q2 (by grind) (show z / 2 * 2 = z by grind) (by grind) (by grind)
  have vb := va 40 (by grind) (by grind)
  obtain ⟨t, ht, -, -, ta⟩ := addF_qv qb qc (by unfold big; grind) (by unfold big; grind)
  have tb := ta 80 (by grind) (by grind)
  have hE4 : (4 : Rat) * e32 = 1 / 2097152 := by decide +kernel
  have hE1 : e32 = 1 / 8388608 := rfl
  rw [hE4] at vb
  rw [hE1] at tb
  obtain ⟨g3, t3⟩ := gap_small6 qa hv (by grind) (by grind) (by grind) (by grind) (by grind) (by grind)
  obtain ⟨g4, t4⟩ := gap_small6 ht qz (by grind) (by grind) (by grind) (by grind) (by grind) (by grind)
  obtain ⟨g5, t5⟩ := gap_small6 hv hv (by grind) (by grind) (by grind) (by grind) (by grind) (by grind)
  exact {
    fM := f1, fZ := f2, fH := fs, fA := f3, fB := f4, fC := f5, fR := ⟨hr, qr.notNaN⟩
    z0 := by show fc .lss .f32 (mzW (fSize cs ds) n) 0 = false; rw [qz.lss zero_qv, decide_eq_false (by grind)]
    g1 := g1
    a1 := hp1.notNaN
    t1 := by
      show fc .gtr .f64 (r8G (mzW (fMean cs ds) n) 0) (ar .add .f64 (wd (mzW (fSize cs ds) n)) kM6) = false
      rw [gtrD_qv hy1 hp1, decide_eq_false]
      rcases y1c with h | h <;> grind
    zw := hzw.notNaN
    rw' := hrw.notNaN
    a2 := hp2.notNaN
    t2 := by
      show fc .gtr .f64 (wd (mzW (fSize cs ds) n)) (ar .add .f64 (wd (rootF (msMean cs ds))) kM6) = false
      rw [gtrD_qv hzw hp2, decide_eq_false (by grind)]
    h0 := by show fc .lss .f32 (mzW (fSh cs ds) n) 0 = false; rw [qs.lss zero_qv, decide_eq_false (by grind)]
    h2 := by show fc .gtr .f32 (mzW (fSh cs ds) n) 1073746018 = false; rw [qs.gtr qK, decide_eq_false (by grind)]
    z2 := qv_finB hv (by grind) (by grind)
    g3 := g3, t3 := t3, bc := ht.notNaN, g4 := g4, t4 := t4, g5 := g5, t5 := t5 }
end

end Go.Proofs.Ytkkomajokdlkeaa

namespace Go.Proofs.Ytkkomajokdlkeaa
set_option linter.unusedSimpArgs false
set_option linter.unusedVariables false
set_option maxRecDepth 100000
set_option maxHeartbeats 4000000
set_option linter.unusedSimpArgs false
set_option linter.unusedVariables false
open Go.RowKit
theorem half_all : ∀ i : Fin 77, evB (mulF 1056964608 (h2r ((i.val : Int) - 38))) (2 * ((i.val : Int) - 38)) = true := by decide +kernel
theorem half_ev {x : Int} (h1 : -38 ≤ x) (h2 : x ≤ 38) : Ev (mulF 1056964608 (h2r x)) (2 * x) := by
  have h := half_all ⟨(x + 38).toNat, by omega⟩
  rw [show (((x + 38).toNat : Nat) : Int) - 38 = x by omega] at h
  exact ev_of h
def wHalf : List Nat := [1056964608, 1056964608]
theorem rank_three (R Z : Nat) (h1 : fc .lss .f32 R Z = false) (h2 : fc .lss .f32 R R = false) (h3 : fc .gtr .f32 R R = false) (h4 : fc .lss .f32 Z R = true) :
    isortI (rkCmp [R, Z, R]) (numsI 3) 2 = [1, 0, 2] := by
  have e0 : numsI 3 = [0, 1, 2] := rfl
  have c10 : rkCmp [R, Z, R] 1 0 = -1 := by show sgnF Z R = -1; rw [sgnF, h4]; rfl
  have c20 : rkCmp [R, Z, R] 2 0 = 0 := by show sgnF R R = 0; rw [sgnF, h2, h3]; rfl
  have s1 : isortI (rkCmp [R, Z, R]) (numsI 3) 1 = [1, 0, 2] := by
    rw [e0]
    show insI (rkCmp [R, Z, R]) [0, 1, 2] 1 = _
    show (if rkCmp [R, Z, R] 1 0 < 0 then insI (rkCmp [R, Z, R]) (swapI [0, 1, 2] 0) 0 else [0, 1, 2]) = _
    rw [c10]; rfl
  show insI (rkCmp [R, Z, R]) (isortI (rkCmp [R, Z, R]) (numsI 3) 1) 2 = _
  rw [s1]
  show (if rkCmp [R, Z, R] 2 0 < 0 then insI (rkCmp [R, Z, R]) (swapI [1, 0, 2] 1) 1 else [1, 0, 2]) = _
  rw [c20]; rfl
def wmW : List Nat := shL ([1065353216, 1077936128].map fun x => divF 1065353216 x)
structure FmB (cs ds : List Nat) (n : Nat) : Prop where
  ways : waysOk [cs, ds] = true
  bf : allFin (blL (fun i => dotL wHalf (numsAt [cs, ds] i) 2) n) = true
  md : ∀ i, i < n → allFin (numsAt [cs, ds] i) = true ∧ MedOk (sort19 (numsAt [cs, ds] i))
  mf : allFin (blL (fun i => medV (sort19 (numsAt [cs, ds] i))) n) = true
  s : ∀ i, i < n → (S.read (addF (cs.getD i 0) (ds.getD i 0))).isNaN = false
  q : ∀ i, i < n → (S.read (w2 (addF (cs.getD i 0) (ds.getD i 0)))).isNaN = false
  g1 : ∀ i, i < n → GapOk (dotL wHalf (numsAt [cs, ds] i) 2) (medV (sort19 (numsAt [cs, ds] i)))
  t1 : ∀ i, i < n → fc .gtr .f64 (r8G (dotL wHalf (numsAt [cs, ds] i) 2) (medV (sort19 (numsAt [cs, ds] i)))) kM6 = false
  g2 : ∀ i, i < n → GapOk (dotL wHalf (numsAt [cs, ds] i) 2) (w2 (addF (cs.getD i 0) (ds.getD i 0)))
  t2 : ∀ i, i < n → fc .gtr .f64 (r8G (dotL wHalf (numsAt [cs, ds] i) 2) (w2 (addF (cs.getD i 0) (ds.getD i 0)))) kM6 = false
  rk : ∃ l, rkQ [ds, cs, ds] cs = (l, true) ∧ l.length = 3 ∧ (fc .gtr .f32 (wR cs ds) 0 = true → l = [1, 0, 2])
  lw : ∃ a b, lwW cs ds n = [a, b] ∧ fin a = true ∧ fin b = true ∧ (S.read (addF a b)).isNaN = false ∧ GapOk (addF a b) 1065353216 ∧ fc .gtr .f64 (r8G (addF a b) 1065353216) kM6 = false ∧
    (D.read (wd a)).isNaN = false ∧ (D.read (wd b)).isNaN = false ∧ (D.read (ar .sub .f64 (wd b) kM6)).isNaN = false ∧ fc .lss .f64 (wd a) (ar .sub .f64 (wd b) kM6) = false
section
variable {n : Nat} {cs ds : List Nat} {X Y : Nat → Int}
theorem Hz.mid (h : Hz n cs ds X Y) {i : Nat} (hi : i < n) : allFin (numsAt [cs, ds] i) = true ∧ ∃ o0 o1 : Nat, ∃ x y : Int, sort19 (numsAt [cs, ds] i) = [o0, o1] ∧ Ev o0 (4 * x) ∧ Ev o1 (4 * y) ∧ x + y = X i + Y i ∧ -38 ≤ x ∧ x ≤ 38 ∧ -38 ≤ y ∧ y ≤ 38 := by
  have hx := h.x i
  have hy := h.y i
  have e : numsAt [cs, ds] i = [h2r (X i), h2r (Y i)] := by show [cs.getD i 0, ds.getD i 0] = _; rw [h.c i hi, h.d i hi]
  have vx := h2_ev (x := X i) (by omega) (by omega)
  have vy := h2_ev (x := Y i) (by omega) (by omega)
  rw [e]
  refine ⟨allFin_two vx.fin vy.fin, ?_⟩
  have hs : sort19 [h2r (X i), h2r (Y i)] = if ltC sgnW (h2r (Y i)) (h2r (X i)) then [h2r (Y i), h2r (X i)] else [h2r (X i), h2r (Y i)] := rfl
  rw [hs]
  split
  · exact ⟨_, _, Y i, X i, rfl, vy, vx, by omega, by omega, by omega, by omega, by omega⟩
  · exact ⟨_, _, X i, Y i, rfl, vx, vy, by omega, by omega, by omega, by omega, by omega⟩
/-- Half of the sum of two halves of whole numbers. -/
theorem half_sum {a b : Nat} {x y : Int} (ha : Ev a (4 * x)) (hb : Ev b (4 * y)) (x1 : -38 ≤ x) (x2 : x ≤ 38) (y1 : -38 ≤ y) (y2 : y ≤ 38) :
    (S.read (addF a b)).isNaN = false ∧ ∃ z, QV S (divF (addF a b) 1073741824) z ∧ z ≤ ((2 * (x + y) : Int) : Rat) / 8 + 1 / 10000 ∧ ((2 * (x + y) : Int) : Rat) / 8 ≤ z + 1 / 10000 ∧ -20 ≤ z ∧ z ≤ 20 := by
  have hs := ha.add hb (by omega)
  have e : 4 * x + 4 * y = 2 * (2 * (x + y)) := by omega
  rw [e] at hs
  have q := hs.qv
  rw [Rat.intCast_mul (a := 2)] at q
  have a2 : ((2 : Int) : Rat) = 2 := rfl
  rw [a2] at q
  have q2 : QV S 1073741824 2 := qv_of_B (by decide +kernel)
  have c1 : ((-152 : Int) : Rat) ≤ ((2 * (x + y) : Int) : Rat) := Rat.intCast_le_intCast.2 (by omega)
  have c2 : ((2 * (x + y) : Int) : Rat) ≤ ((152 : Int) : Rat) := Rat.intCast_le_intCast.2 (by omega)
  have a3 : ((-152 : Int) : Rat) = -152 := rfl
  have a4 : ((152 : Int) : Rat) = 152 := rfl
  rw [a3] at c1
  rw [a4] at c2
  generalize ((2 * (x + y) : Int) : Rat) = t at *
  obtain ⟨z, hz, -, -, za⟩ := divF_qv q q2 (by grind) (show t / 8 * 2 = 2 * t / 8 by grind) (by grind) (by grind)
  have zb := za 20 (by grind) (by grind)
  have hE4 : (4 : Rat) * e32 = 1 / 2097152 := by decide +kernel
  rw [hE4] at zb
  exact ⟨hs.notNaN, z, hz, by grind, by grind, by grind, by grind⟩
theorem Hz.blend (h : Hz n cs ds X Y) {i : Nat} (hi : i < n) : Ev (dotL wHalf (numsAt [cs, ds] i) 2) (2 * (X i + Y i)) := by
  have hx := h.x i
  have hy := h.y i
  have e : dotL wHalf (numsAt [cs, ds] i) 2 = addF (addF 0 (mulF 1056964608 (h2r (X i)))) (mulF 1056964608 (h2r (Y i))) := by
    show addF (addF 0 (mulF 1056964608 (cs.getD i 0))) (mulF 1056964608 (ds.getD i 0)) = _; rw [h.c i hi, h.d i hi]
  rw [e]
  have h1 := (ev_zero.add (half_ev hx.1 hx.2) (by omega)).add (half_ev hy.1 hy.2) (by omega)
  rw [show 0 + 2 * X i + 2 * Y i = 2 * (X i + Y i) by omega] at h1
  exact h1
theorem allFin_bl {G : Nat → Nat} {n : Nat} (h : ∀ i, i < n → fin (G i) = true) : allFin (blL G n) = true := by
  refine List.all_eq_true.2 fun y hy => ?_
  simp only [blL, List.mem_map, List.mem_range] at hy
  obtain ⟨i, hi, rfl⟩ := hy
  exact h i hi
theorem Hz.fmB (h : Hz n cs ds X Y) : FmB cs ds n := by
  have hmid : ∀ i, i < n → MedOk (sort19 (numsAt [cs, ds] i)) ∧ ∃ z, QV S (medV (sort19 (numsAt [cs, ds] i))) z ∧ z ≤ ((2 * (X i + Y i) : Int) : Rat) / 8 + 1 / 10000 ∧ ((2 * (X i + Y i) : Int) : Rat) / 8 ≤ z + 1 / 10000 ∧ -20 ≤ z ∧ z ≤ 20 := by
    intro i hi
    obtain ⟨-, o0, o1, x, y, e, v0, v1, hxy, b1, b2, b3, b4⟩ := h.mid hi
    obtain ⟨s1, z, hz, z1, z2, z3, z4⟩ := half_sum v0 v1 b1 b2 b3 b4
    rw [hxy] at z1 z2
    have em : medV (sort19 (numsAt [cs, ds] i)) = divF (addF o0 o1) 1073741824 := by rw [e]; simp [medV]
    rw [em]
    rw [e] at em ⊢
    exact ⟨⟨allFin_two v0.fin v1.fin, by simp, by simp, fun _ => by simpa using s1, fun _ => by rw [em]; exact hz.notNaN⟩, z, hz, z1, z2, z3, z4⟩
  have hhalf : ∀ i, i < n → (S.read (addF (cs.getD i 0) (ds.getD i 0))).isNaN = false ∧ ∃ z, QV S (w2 (addF (cs.getD i 0) (ds.getD i 0))) z ∧ z ≤ ((2 * (X i + Y i) : Int) : Rat) / 8 + 1 / 10000 ∧ ((2 * (X i + Y i) : Int) : Rat) / 8 ≤ z + 1 / 10000 ∧ -20 ≤ z ∧ z ≤ 20 := by
    intro i hi
    have hx := h.x i
    have hy := h.y i
    rw [h.c i hi, h.d i hi]
    exact half_sum (h2_ev (x := X i) (by omega) (by omega)) (h2_ev (x := Y i) (by omega) (by omega)) hx.1 hx.2 hy.1 hy.2
  have hbl : ∀ i, i < n → QV S (dotL wHalf (numsAt [cs, ds] i) 2) (((2 * (X i + Y i) : Int) : Rat) / 8) ∧ -20 ≤ ((2 * (X i + Y i) : Int) : Rat) / 8 ∧ ((2 * (X i + Y i) : Int) : Rat) / 8 ≤ 20 := by
    intro i hi
    have hx := h.x i
    have hy := h.y i
    have c1 : ((-152 : Int) : Rat) ≤ ((2 * (X i + Y i) : Int) : Rat) := Rat.intCast_le_intCast.2 (by omega)
    have c2 : ((2 * (X i + Y i) : Int) : Rat) ≤ ((152 : Int) : Rat) := Rat.intCast_le_intCast.2 (by omega)
    have a3 : ((-152 : Int) : Rat) = -152 := rfl
    have a4 : ((152 : Int) : Rat) = 152 := rfl
    rw [a3] at c1
    rw [a4] at c2
    exact ⟨(h.blend hi).qv, by grind, by grind⟩
  obtain ⟨m, z, a, b, c, qm, qz, qa, qb, qc, f1, f2, f3, f4, f5, z0, z39, mz1, mz2, az1, az2, bc1, bc2, a0, a39, b0, b39, c0, c39, u2, hu, hu0, hu38, hzu⟩ := h.vals
  obtain ⟨r, hr, qr, r0, r1, r2, -⟩ := h.root hu hu0 hu38
  obtain ⟨-, z', -, -, -, -, qz', -, -, -, -, -, -, -, -, -, -, -, -, -, -, -, -, -, -, -, -, -, -, u2', hu', hu0', hu38', -⟩ := h.self.vals
  obtain ⟨r', hr', qr', -, -, -, r0'⟩ := h.self.root hu' hu0' hu38'
  have r0'' := r0' (fun _ _ => rfl)
  subst r0''
  have hlw := h.lw_at n (Nat.le_refl _)
  obtain ⟨wa, wb, p, q, ew, qwa, qwb, hwt⟩ := hlw
  obtain ⟨p1, p2⟩ := hwt.p0
  obtain ⟨w1, w2', w3, w4, w5, w6⟩ := hwt
  have hcp := Rat.mul_nonneg (show 0 ≤ 1 / 5000 - (n : Rat) / 100000 by grind) (show 0 ≤ p by grind)
  obtain ⟨k, hk, k1, k2⟩ := kM6_qv
  obtain ⟨s, hs, -, -, sa⟩ := addF_qv qwa qwb (by unfold big; grind) (by unfold big; grind)
  have sb := sa 2 (by grind) (by grind)
  have hE1 : e32 = 1 / 8388608 := rfl
  rw [hE1] at sb
  have h1q : QV S 1065353216 1 := qv_of_B (by decide +kernel)
  obtain ⟨ga, ta⟩ := gap_small6 hs h1q (by grind) (by grind) (by grind) (by grind) (by grind) (by grind)
  obtain ⟨xa, hxa, -, -, xa1⟩ := wd_qv qwa (by unfold big; grind) (by unfold big; grind)
  obtain ⟨xb, hxb, -, -, xb1⟩ := wd_qv qwb (by unfold big; grind) (by unfold big; grind)
  have xa2 := xa1 2 (by grind) (by grind)
  have xb2 := xb1 2 (by grind) (by grind)
  have hE : e64 = 1 / 4503599627370496 := rfl
  rw [hE] at xa2 xb2
  obtain ⟨xs, hxs, -, -, xs1⟩ := subD_qv hxb hk (by unfold big; grind) (by unfold big; grind)
  have xs2 := xs1 3 (by grind) (by grind)
  rw [hE] at xs2
  exact {
    ways := h.ways2
    bf := allFin_bl fun i hi => qv_finB (hbl i hi).1 (by have := (hbl i hi).2.1; grind) (by have := (hbl i hi).2.2; grind)
    md := fun i hi => ⟨(h.mid hi).1, (hmid i hi).1⟩
    mf := allFin_bl fun i hi => by
      obtain ⟨-, z, hz, -, -, z3, z4⟩ := hmid i hi
      exact qv_finB hz (by grind) (by grind)
    s := fun i hi => (hhalf i hi).1
    q := fun i hi => by
      obtain ⟨-, z, hz, -⟩ := hhalf i hi
      exact hz.notNaN
    g1 := fun i hi => by
      obtain ⟨-, z, hz, z1, z2, z3, z4⟩ := hmid i hi
      obtain ⟨hb, b1, b2⟩ := hbl i hi
      exact (gap_small6 hb hz (by grind) (by grind) (by grind) (by grind) (by grind) (by grind)).1
    t1 := fun i hi => by
      obtain ⟨-, z, hz, z1, z2, z3, z4⟩ := hmid i hi
      obtain ⟨hb, b1, b2⟩ := hbl i hi
      exact (gap_small6 hb hz (by grind) (by grind) (by grind) (by grind) (by grind) (by grind)).2
    g2 := fun i hi => by
      obtain ⟨-, z, hz, z1, z2, z3, z4⟩ := hhalf i hi
      obtain ⟨hb, b1, b2⟩ := hbl i hi
      exact (gap_small6 hb hz (by grind) (by grind) (by grind) (by grind) (by grind) (by grind)).1
    t2 := fun i hi => by
      obtain ⟨-, z, hz, z1, z2, z3, z4⟩ := hhalf i hi
      obtain ⟨hb, b1, b2⟩ := hbl i hi
      exact (gap_small6 hb hz (by grind) (by grind) (by grind) (by grind) (by grind) (by grind)).2
    rk := by
      have hw3 : waysOk [ds, cs, ds] = true := by
        have h1 := h.two
        have h2 := h.swap.self.two
        simp [waysOk, headL, h1, h2]
      have hal : rkAll cs [ds, cs, ds] 3 = true := by
        show ((rmsQ cs ds).2 && ((rmsQ cs cs).2 && ((rmsQ cs ds).2 && true))) = true
        rw [hr, hr']; rfl
      have hR : rkR cs [ds, cs, ds] 3 = [wR cs ds, wR cs cs, wR cs ds] := by
        show [(rmsQ cs ds).1, (rmsQ cs cs).1, (rmsQ cs ds).1] = _
        rw [hr, hr']; rfl
      have hq : rkQ [ds, cs, ds] cs = (isortI (rkCmp [wR cs ds, wR cs cs, wR cs ds]) (numsI 3) 2, true) := by
        show (if waysOk [ds, cs, ds] && rkAll cs [ds, cs, ds] 3 then (isortI (rkCmp (rkR cs [ds, cs, ds] 3)) (numsI 3) 2, true) else ([], false)) = _
        rw [hw3, hal, hR]; rfl
      refine ⟨_, hq, by rw [isortI_length]; rfl, fun hpos => ?_⟩
      have hp : (0 : Rat) < r := by
        have h1 : fc .gtr .f32 (rootF (msMean cs ds)) 0 = true := hpos
        rw [qr.gtr zero_qv] at h1
        exact of_decide_eq_true h1
      refine rank_three _ _ ?_ ?_ ?_ ?_
      · show fc .lss .f32 (rootF (msMean cs ds)) (rootF (msMean cs cs)) = false; rw [qr.lss qr', decide_eq_false (by grind)]
      · show fc .lss .f32 (rootF (msMean cs ds)) (rootF (msMean cs ds)) = false; rw [qr.lss qr, decide_eq_false (by grind)]
      · show fc .gtr .f32 (rootF (msMean cs ds)) (rootF (msMean cs ds)) = false; rw [qr.gtr qr, decide_eq_false (by grind)]
      · show fc .lss .f32 (rootF (msMean cs cs)) (rootF (msMean cs ds)) = true; rw [qr'.lss qr, decide_eq_true hp]
    lw := ⟨wa, wb, ew, qv_finB qwa (by grind) (by grind), qv_finB qwb (by grind) (by grind), hs.notNaN, ga, ta, hxa.notNaN, hxb.notNaN, hxs.notNaN, by rw [lssD_qv hxa hxs, decide_eq_false (by grind)]⟩ }
end
theorem wm_fin : allFin wmW = true := by decide +kernel
def wm0 : Nat := wmW.getD 0 0
theorem wm_two : wmW.length = 2 := rfl
theorem wm_gap : GapOk wm0 1061158912 ∧ fc .gtr .f64 (r8G wm0 1061158912) kM6 = false := by
  refine ⟨⟨?_, ?_, ?_, ?_, ?_, ?_⟩, ?_⟩ <;> decide +kernel

end Go.Proofs.Ytkkomajokdlkeaa
