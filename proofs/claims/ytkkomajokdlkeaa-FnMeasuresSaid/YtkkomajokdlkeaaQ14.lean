/- A filter of a line: bounds on the gains and on what is missed, by integers. Plain: no program. -/
import Derived.Test.YtkkomajokdlkeaaQ13
namespace Go.Proofs.Ytkkomajokdlkeaa
set_option linter.unusedSimpArgs false
set_option linter.unusedVariables false
set_option maxRecDepth 100000
set_option maxHeartbeats 4000000
open Go.RowKit
set_option linter.unusedSimpArgs false
set_option linter.unusedVariables false

theorem mul_bd {x y X Y : Rat} (h1 : -X ≤ x) (h2 : x ≤ X) (h3 : -Y ≤ y) (h4 : y ≤ Y) : -(X * Y) ≤ x * y ∧ x * y ≤ X * Y := by
  have a1 : 0 ≤ (X - x) * (Y - y) := Rat.mul_nonneg (by grind) (by grind)
  have a2 : 0 ≤ (X + x) * (Y + y) := Rat.mul_nonneg (by grind) (by grind)
  have a3 : 0 ≤ (X - x) * (Y + y) := Rat.mul_nonneg (by grind) (by grind)
  have a4 : 0 ≤ (X + x) * (Y - y) := Rat.mul_nonneg (by grind) (by grind)
  constructor <;> grind
theorem nn_of_mul {F x : Rat} (hF : 0 < F) (h : 0 ≤ F * x) : 0 ≤ x := by
  rcases Rat.le_total (a := 0) (b := x) with h1 | h1
  · exact h1
  · have h2 : 0 ≤ F * (-x) := Rat.mul_nonneg (by grind) (by grind)
    have h3 : F * x = 0 := by grind
    rcases Rat.mul_eq_zero.1 h3 with h4 | h4 <;> grind
theorem sq_nn (x : Rat) : 0 ≤ x * x := by
  rcases Rat.le_total (a := 0) (b := x) with h | h
  · exact Rat.mul_nonneg h h
  · have := Rat.mul_nonneg (a := -x) (b := -x) (by grind) (by grind)
    grind
/-- A linear form over a rectangle. -/
theorem lin_box {c b g B C bl bh cl ch : Rat} (h1 : bl ≤ B) (h2 : B ≤ bh) (h3 : cl ≤ C) (h4 : C ≤ ch) (v1 : 0 ≤ c + b * bl + g * cl) (v2 : 0 ≤ c + b * bl + g * ch) (v3 : 0 ≤ c + b * bh + g * cl) (v4 : 0 ≤ c + b * bh + g * ch) : 0 ≤ c + b * B + g * C := by
  have k1 : b * bl ≤ b * B ∨ b * bh ≤ b * B := by
    rcases Rat.le_total (a := 0) (b := b) with h | h
    · left; have := Rat.mul_nonneg h (show 0 ≤ B - bl by grind); grind
    · right; have := Rat.mul_nonneg (show 0 ≤ -b by grind) (show 0 ≤ bh - B by grind); grind
  have k2 : g * cl ≤ g * C ∨ g * ch ≤ g * C := by
    rcases Rat.le_total (a := 0) (b := g) with h | h
    · left; have := Rat.mul_nonneg h (show 0 ≤ C - cl by grind); grind
    · right; have := Rat.mul_nonneg (show 0 ≤ -g by grind) (show 0 ≤ ch - C by grind); grind
  rcases k1 with k1 | k1 <;> rcases k2 with k2 | k2 <;> grind
/-- A trend's spreads between bounds, in 65536ths, and how far level and slope are from a line's. -/
structure TB where
  al : Int
  ah : Int
  bl : Int
  bh : Int
  cl : Int
  ch : Int
  U : Int
  T : Int
structure TG where
  kl : Int
  kh : Int
  hl : Int
  hh : Int
  M1 : Int
  M2 : Int
def tbNext (n : Int) (β : TB) : TB × TG :=
  let pl := β.al + 2 * β.bl + β.cl + 16384
  let ph := β.ah + 2 * β.bh + β.ch + 16384
  let kl := 65536 * pl / (pl + n)
  let kh := 65536 * ph / (ph + n) + 1
  let hl := 65536 * (β.bl + β.cl) / (ph + n)
  let hh := 65536 * (β.bh + β.ch) / (pl + n) + 1
  let lo := fun B C => (B + C) * n / (β.ah + 2 * B + C + 16384 + n)
  let hi := fun B C => (B + C) * n / (β.al + 2 * B + C + 16384 + n) + 1
  let gl := 2 * hl + 65536 - kh
  let gh := 2 * hh + 65536 - kl
  let M1 := max (131072 - gl) (gh - 131072)
  let M2 := max (131072 - 3 * gl) (3 * gh - 131072)
  (⟨pl * n / (pl + n) - 64, ph * n / (ph + n) + 65,
    min (min (lo β.bl β.cl) (lo β.bl β.ch)) (min (lo β.bh β.cl) (lo β.bh β.ch)) - 64,
    max (max (hi β.bl β.cl) (hi β.bl β.ch)) (max (hi β.bh β.cl) (hi β.bh β.ch)) + 64,
    β.cl + 16384 - (β.bh + β.cl) * (β.bh + β.cl) / (β.al + 2 * β.bh + β.cl + 16384 + n) - 65,
    β.ch + 16384 - (β.bl + β.ch) * (β.bl + β.ch) / (β.ah + 2 * β.bl + β.ch + 16384 + n) + 64,
    (65536 - kl) * (3 * β.U + 2 * β.T) / 131072 + 257,
    (2 * M1 * β.T + M2 * β.U) / 262144 + 257⟩, ⟨kl, kh, hl, hh, M1, M2⟩)
/-- What is asked of a step's bounds. -/
def tbOk (n : Int) (β δ : TB) (γ : TG) : Prop :=
  (0 ≤ β.al ∧ 0 ≤ β.cl ∧ -16384 ≤ β.bl ∧ 0 ≤ β.bl + β.cl ∧ 0 ≤ β.al + 2 * β.bl + β.cl ∧ β.ah + 2 * β.bh + β.ch ≤ 409600 ∧ β.ah + β.bh ≤ 327680 ∧ β.bh + β.ch ≤ 147456 ∧ 0 ≤ β.U ∧ β.U ≤ 2621440 ∧ 0 ≤ β.T ∧ 3 * β.U + 2 * β.T ≤ 11796480) ∧
  (0 ≤ γ.kl ∧ γ.kl ≤ 65536 ∧ γ.kh ≤ 65536 ∧ 0 ≤ γ.hl ∧ γ.kl * (β.al + 2 * β.bl + β.cl + 16384 + n) ≤ 65536 * (β.al + 2 * β.bl + β.cl + 16384) ∧ 65536 * (β.ah + 2 * β.bh + β.ch + 16384) ≤ γ.kh * (β.ah + 2 * β.bh + β.ch + 16384 + n) ∧
    γ.hl * (β.ah + 2 * β.bh + β.ch + 16384 + n) ≤ 65536 * (β.bl + β.cl) ∧ 65536 * (β.bh + β.ch) ≤ γ.hh * (β.al + 2 * β.bl + β.cl + 16384 + n)) ∧
  (0 ≤ δ.al ∧ δ.al + 64 ≤ n ∧ (δ.al + 64) * (β.al + 2 * β.bl + β.cl + 16384 + n) ≤ (β.al + 2 * β.bl + β.cl + 16384) * n ∧ δ.ah - 64 ≤ n ∧ (β.ah + 2 * β.bh + β.ch + 16384) * n ≤ (δ.ah - 64) * (β.ah + 2 * β.bh + β.ch + 16384 + n)) ∧
  (0 ≤ δ.bl + 64 ∧ (δ.bl + 64) * (β.ah + 2 * β.bl + β.cl + 16384 + n) ≤ (β.bl + β.cl) * n ∧ (δ.bl + 64) * (β.ah + 2 * β.bl + β.ch + 16384 + n) ≤ (β.bl + β.ch) * n ∧ (δ.bl + 64) * (β.ah + 2 * β.bh + β.cl + 16384 + n) ≤ (β.bh + β.cl) * n ∧ (δ.bl + 64) * (β.ah + 2 * β.bh + β.ch + 16384 + n) ≤ (β.bh + β.ch) * n) ∧
  (0 ≤ δ.bh - 64 ∧ (β.bl + β.cl) * n ≤ (δ.bh - 64) * (β.al + 2 * β.bl + β.cl + 16384 + n) ∧ (β.bl + β.ch) * n ≤ (δ.bh - 64) * (β.al + 2 * β.bl + β.ch + 16384 + n) ∧ (β.bh + β.cl) * n ≤ (δ.bh - 64) * (β.al + 2 * β.bh + β.cl + 16384 + n) ∧ (β.bh + β.ch) * n ≤ (δ.bh - 64) * (β.al + 2 * β.bh + β.ch + 16384 + n)) ∧
  (0 ≤ δ.cl ∧ (β.bh + β.cl) * (β.bh + β.cl) ≤ (β.cl + 16384 - (δ.cl + 64)) * (β.al + 2 * β.bh + β.cl + 16384 + n) ∧ (β.ch + 16384 - (δ.ch - 64)) * (β.ah + 2 * β.bl + β.ch + 16384 + n) ≤ (β.bl + β.ch) * (β.bl + β.ch)) ∧
  ((65536 - γ.kl) * (3 * β.U + 2 * β.T) ≤ 131072 * (δ.U - 256) ∧ 131072 - (2 * γ.hl + 65536 - γ.kh) ≤ γ.M1 ∧ 2 * γ.hh + 65536 - γ.kl - 131072 ≤ γ.M1 ∧ 131072 - 3 * (2 * γ.hl + 65536 - γ.kh) ≤ γ.M2 ∧ 3 * (2 * γ.hh + 65536 - γ.kl) - 131072 ≤ γ.M2 ∧ 0 ≤ γ.M1 ∧ 0 ≤ γ.M2 ∧ 2 * γ.M1 * β.T + γ.M2 * β.U ≤ 262144 * (δ.T - 256))
instance (n : Int) (β δ : TB) (γ : TG) : Decidable (tbOk n β δ γ) := by unfold tbOk; exact inferInstance
def tbRun (n : Int) : Nat → TB → Option TB
  | 0, β => some β
  | k + 1, β => match tbNext n β with
    | (δ, γ) => if tbOk n β δ γ then tbRun n k δ else none
def tb0 : TB := ⟨32768, 294912, -8192, 8192, 16384, 81920, 458752, 360448⟩
def tbEnd (o : Option TB) : Bool := match o with
  | some β => decide (β.U ≤ 6000 ∧ β.T + β.U / 2 ≤ 3000)
  | none => false
theorem tbAll : ((List.range 8).all fun i => tbEnd (tbRun (16384 * ((i : Int) + 1)) 60 tb0)) = true := by decide +kernel
/-- Numbers between the bounds, in 65536ths. -/
def InB (β : TB) (A B C u t : Rat) : Prop := ((β.al : Rat) ≤ A ∧ A ≤ β.ah ∧ (β.bl : Rat) ≤ B ∧ B ≤ β.bh ∧ (β.cl : Rat) ≤ C ∧ C ≤ β.ch) ∧ (-(β.U : Rat) ≤ u ∧ u ≤ β.U ∧ -(β.T : Rat) ≤ t ∧ t ≤ β.T)
theorem ile {a b : Int} (h : a ≤ b) : (a : Rat) ≤ (b : Rat) := Rat.intCast_le_intCast.2 h
/-- One step of the spreads. -/
theorem tb_core {al ah bl bh cl ch kl kh hl hh dal dah dbl dbh dcl dch A B C N K H : Rat}
    (i1 : 0 ≤ al) (i2 : 0 ≤ cl) (i3 : -16384 ≤ bl) (i4 : 0 ≤ bl + cl) (i5 : 0 ≤ al + 2 * bl + cl)
    (j1 : 0 ≤ kl) (j2 : kl ≤ 65536) (j3 : kh ≤ 65536) (j4 : 0 ≤ hl)
    (j5 : kl * (al + 2 * bl + cl + 16384 + N) ≤ 65536 * (al + 2 * bl + cl + 16384)) (j6 : 65536 * (ah + 2 * bh + ch + 16384) ≤ kh * (ah + 2 * bh + ch + 16384 + N))
    (j7 : hl * (ah + 2 * bh + ch + 16384 + N) ≤ 65536 * (bl + cl)) (j8 : 65536 * (bh + ch) ≤ hh * (al + 2 * bl + cl + 16384 + N))
    (l0 : dal + 64 ≤ N) (l1 : (dal + 64) * (al + 2 * bl + cl + 16384 + N) ≤ (al + 2 * bl + cl + 16384) * N)
    (l2 : dah - 64 ≤ N) (l3 : (ah + 2 * bh + ch + 16384) * N ≤ (dah - 64) * (ah + 2 * bh + ch + 16384 + N))
    (m1 : 0 ≤ dbl + 64) (m2 : (dbl + 64) * (ah + 2 * bl + cl + 16384 + N) ≤ (bl + cl) * N) (m3 : (dbl + 64) * (ah + 2 * bl + ch + 16384 + N) ≤ (bl + ch) * N) (m4 : (dbl + 64) * (ah + 2 * bh + cl + 16384 + N) ≤ (bh + cl) * N) (m5 : (dbl + 64) * (ah + 2 * bh + ch + 16384 + N) ≤ (bh + ch) * N)
    (n1 : 0 ≤ dbh - 64) (n2 : (bl + cl) * N ≤ (dbh - 64) * (al + 2 * bl + cl + 16384 + N)) (n3 : (bl + ch) * N ≤ (dbh - 64) * (al + 2 * bl + ch + 16384 + N)) (n4 : (bh + cl) * N ≤ (dbh - 64) * (al + 2 * bh + cl + 16384 + N)) (n5 : (bh + ch) * N ≤ (dbh - 64) * (al + 2 * bh + ch + 16384 + N))
    (o1 : (bh + cl) * (bh + cl) ≤ (cl + 16384 - (dcl + 64)) * (al + 2 * bh + cl + 16384 + N)) (o2 : (ch + 16384 - (dch - 64)) * (ah + 2 * bl + ch + 16384 + N) ≤ (bl + ch) * (bl + ch))
    (hn0 : 0 < N) (hA : al ≤ A) (hA' : A ≤ ah) (hB : bl ≤ B) (hB' : B ≤ bh) (hC : cl ≤ C) (hC' : C ≤ ch) (hK : K * (A + 2 * B + C + 16384 + N) = A + 2 * B + C + 16384) (hH : H * (A + 2 * B + C + 16384 + N) = B + C) :
    (16384 + N ≤ A + 2 * B + C + 16384 + N ∧ kl ≤ 65536 * K ∧ 65536 * K ≤ kh ∧ hl ≤ 65536 * H ∧ 65536 * H ≤ hh ∧ 0 ≤ K ∧ K ≤ 1 ∧ 0 ≤ H ∧ H ≤ 1) ∧
    dal + 64 ≤ K * N ∧ K * N ≤ dah - 64 ∧
    dbl + 64 ≤ (1 - K) * (B + C) ∧ (1 - K) * (B + C) ≤ dbh - 64 ∧
    dcl + 64 ≤ C + 16384 - H * (B + C) ∧ C + 16384 - H * (B + C) ≤ dch - 64 := by
  have hF0 : 0 < A + 2 * B + C + 16384 + N := by grind
  have e1 : kl ≤ 65536 * K := by
    have p := Rat.mul_nonneg (show 0 ≤ (A + 2 * B + C + 16384) - (al + 2 * bl + cl + 16384) by grind) (show 0 ≤ 65536 - kl by grind)
    have := nn_of_mul (x := 65536 * K - kl) hF0 (by grind)
    grind
  have e2 : 65536 * K ≤ kh := by
    have p := Rat.mul_nonneg (show 0 ≤ (ah + 2 * bh + ch + 16384) - (A + 2 * B + C + 16384) by grind) (show 0 ≤ 65536 - kh by grind)
    have := nn_of_mul (x := kh - 65536 * K) hF0 (by grind)
    grind
  have e3 : hl ≤ 65536 * H := by
    have p := Rat.mul_nonneg (show 0 ≤ (ah + 2 * bh + ch + 16384) - (A + 2 * B + C + 16384) by grind) (show 0 ≤ hl by grind)
    have := nn_of_mul (x := 65536 * H - hl) hF0 (by grind)
    grind
  have hh0 : 0 ≤ hh := nn_of_mul (F := al + 2 * bl + cl + 16384 + N) (by grind) (by grind)
  have e4 : 65536 * H ≤ hh := by
    have p := Rat.mul_nonneg (show 0 ≤ (A + 2 * B + C + 16384) - (al + 2 * bl + cl + 16384) by grind) hh0
    have := nn_of_mul (x := hh - 65536 * H) hF0 (by grind)
    grind
  have e5 : 0 ≤ K := by grind
  have e6 : K ≤ 1 := by grind
  have e7 : 0 ≤ H := by grind
  have e8 : H ≤ 1 := by
    have := nn_of_mul (x := 1 - H) hF0 (by grind)
    grind
  have hKN : (A + 2 * B + C + 16384 + N) * (K * N) = (A + 2 * B + C + 16384) * N := by
    rw [← hK]; grind
  have hKB : (A + 2 * B + C + 16384 + N) * ((1 - K) * (B + C)) = N * (B + C) := by
    have : K * (A + 2 * B + C + 16384 + N) * (B + C) = (A + 2 * B + C + 16384) * (B + C) := by rw [hK]
    grind
  have hHF : H * H * (A + 2 * B + C + 16384 + N) = H * (B + C) := by
    rw [← hH]; grind
  refine ⟨⟨by grind, e1, e2, e3, e4, e5, e6, e7, e8⟩, ?_, ?_, ?_, ?_, ?_, ?_⟩
  · have p := Rat.mul_nonneg (show 0 ≤ (A + 2 * B + C + 16384) - (al + 2 * bl + cl + 16384) by grind) (show 0 ≤ N - (dal + 64) by grind)
    have := nn_of_mul (x := K * N - (dal + 64)) hF0 (by grind)
    grind
  · have p := Rat.mul_nonneg (show 0 ≤ (ah + 2 * bh + ch + 16384) - (A + 2 * B + C + 16384) by grind) (show 0 ≤ N - (dah - 64) by grind)
    have := nn_of_mul (x := (dah - 64) - K * N) hF0 (by grind)
    grind
  · have p := Rat.mul_nonneg (show 0 ≤ ah - A by grind) (show 0 ≤ dbl + 64 by grind)
    have q := lin_box (c := -(dbl + 64) * (ah + 16384 + N)) (b := N - 2 * (dbl + 64)) (g := N - (dbl + 64)) hB hB' hC hC' (by grind) (by grind) (by grind) (by grind)
    have := nn_of_mul (x := (1 - K) * (B + C) - (dbl + 64)) hF0 (by grind)
    grind
  · have p := Rat.mul_nonneg (show 0 ≤ A - al by grind) (show 0 ≤ dbh - 64 by grind)
    have q := lin_box (c := (dbh - 64) * (al + 16384 + N)) (b := 2 * (dbh - 64) - N) (g := (dbh - 64) - N) hB hB' hC hC' (by grind) (by grind) (by grind) (by grind)
    have := nn_of_mul (x := (dbh - 64) - (1 - K) * (B + C)) hF0 (by grind)
    grind
  · have s1 := sq_nn H
    have s2 := sq_nn (1 - H)
    have s3 := Rat.mul_nonneg e7 (show 0 ≤ 1 - H by grind)
    have p1 := Rat.mul_nonneg s1 (show 0 ≤ A - al by grind)
    have p2 := Rat.mul_nonneg s2 (show 0 ≤ C - cl by grind)
    have p3 := Rat.mul_nonneg s3 (show 0 ≤ bh - B by grind)
    have p5 := sq_nn (H * (al + 2 * bh + cl + 16384 + N) - (bh + cl))
    have := nn_of_mul (F := al + 2 * bh + cl + 16384 + N) (x := cl + 16384 - 2 * H * (bh + cl) + H * H * (al + 2 * bh + cl + 16384 + N) - (dcl + 64)) (by grind) (by grind)
    grind
  · have hF2 : 0 < ah + 2 * bl + ch + 16384 + N := by grind
    obtain ⟨H0, hH0⟩ : ∃ x : Rat, x * (ah + 2 * bl + ch + 16384 + N) = bl + ch := ⟨(bl + ch) / (ah + 2 * bl + ch + 16384 + N), Rat.div_mul_cancel (by grind)⟩
    have t1 : 0 ≤ H0 := nn_of_mul hF2 (by grind)
    have t2 : H0 ≤ 1 := by
      have := nn_of_mul (x := 1 - H0) hF2 (by grind)
      grind
    have s1 := sq_nn H0
    have s2 := sq_nn (1 - H0)
    have s3 := Rat.mul_nonneg t1 (show 0 ≤ 1 - H0 by grind)
    have p1 := Rat.mul_nonneg s1 (show 0 ≤ ah - A by grind)
    have p2 := Rat.mul_nonneg s2 (show 0 ≤ ch - C by grind)
    have p3 := Rat.mul_nonneg s3 (show 0 ≤ B - bl by grind)
    have p4 := Rat.mul_nonneg (Rat.le_of_lt hF0) (sq_nn (H - H0))
    have q1 : (ah + 2 * bl + ch + 16384 + N) * (H0 * (bl + ch)) = (bl + ch) * (bl + ch) := by rw [← hH0]; grind
    have q2 : H * H0 * (A + 2 * B + C + 16384 + N) = H0 * (B + C) := by rw [← hH]; grind
    have q3 : H0 * H0 * (ah + 2 * bl + ch + 16384 + N) = H0 * (bl + ch) := by rw [← hH0]; grind
    have p5 := nn_of_mul (x := (dch - 64) - (ch + 16384 - H0 * (bl + ch))) hF2 (by grind)
    grind
/-- One step of what is missed. -/
theorem tb_miss {kl kh hl hh M1 M2 U T dU dT K H u t : Rat} (k1 : kl ≤ 65536 * K) (k2 : 65536 * K ≤ kh) (k3 : hl ≤ 65536 * H) (k4 : 65536 * H ≤ hh) (k5 : 0 ≤ K) (k6 : K ≤ 1) (hU : 0 ≤ U) (hT : 0 ≤ T)
    (c1 : (65536 - kl) * (3 * U + 2 * T) ≤ 131072 * (dU - 256)) (c2 : 131072 - (2 * hl + 65536 - kh) ≤ M1) (c3 : 2 * hh + 65536 - kl - 131072 ≤ M1) (c4 : 131072 - 3 * (2 * hl + 65536 - kh) ≤ M2) (c5 : 3 * (2 * hh + 65536 - kl) - 131072 ≤ M2) (c6 : 0 ≤ M1) (c7 : 0 ≤ M2) (c8 : 2 * M1 * T + M2 * U ≤ 262144 * (dT - 256))
    (u1 : -U ≤ u) (u2 : u ≤ U) (t1 : -T ≤ t) (t2 : t ≤ T) :
    -(dU - 256) ≤ (1 - K) * (3 / 2 * u + t) ∧ (1 - K) * (3 / 2 * u + t) ≤ dU - 256 ∧
    -(dT - 256) ≤ t + u / 2 - (H + (1 - K) / 2) * (3 / 2 * u + t) ∧ t + u / 2 - (H + (1 - K) / 2) * (3 / 2 * u + t) ≤ dT - 256 := by
  have a := mul_bd (x := 65536 * (1 - K)) (X := 65536 - kl) (y := 3 * u + 2 * t) (Y := 3 * U + 2 * T) (by grind) (by grind) (by grind) (by grind)
  obtain ⟨g, hg⟩ : ∃ g, g = 131072 * (H + (1 - K) / 2) := ⟨_, rfl⟩
  have b := mul_bd (x := 131072 - g) (X := M1) (y := t) (Y := T) (by grind) (by grind) (by grind) (by grind)
  have c := mul_bd (x := 131072 - 3 * g) (X := M2) (y := u) (Y := U) (by grind) (by grind) (by grind) (by grind)
  have e : t + u / 2 - (H + (1 - K) / 2) * (3 / 2 * u + t) = ((131072 - g) * t) / 131072 + ((131072 - 3 * g) * u) / 262144 := by rw [hg]; grind
  refine ⟨by grind, by grind, ?_, ?_⟩
  · rw [e]; clear hg e a; grind
  · rw [e]; clear hg e a; grind

end Go.Proofs.Ytkkomajokdlkeaa
