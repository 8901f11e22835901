/- The exponential of what small misses give is there and lies from 0 to 1. Plain. -/
import Derived.Test.YtkkomajokdlkeaaQ9
import Derived.Test.YtkkomajokdlkeaaQ17
import Derived.Test.YtkkomajokdlkeaaQ33
import Derived.Test.YtkkomajokdlkeaaQ40
import Derived.Test.YtkkomajokdlkeaaQ41
namespace Go.Proofs.Ytkkomajokdlkeaa
set_option linter.unusedSimpArgs false
set_option linter.unusedVariables false
set_option maxRecDepth 100000
set_option maxHeartbeats 4000000
set_option linter.unusedSimpArgs false
set_option linter.unusedVariables false
open Go.RowKit
def exLP (t : Nat) : Nat → Nat → Nat → (Nat → Bool) → Bool
  | 0, _, p, K => K p
  | n + 1, i, p, K => seqN (ar .mul .f64 t p) fun m => nn64 m && seqN (ar .quo .f64 m (k64 i)) fun q => nn64 q && seqN (ar .add .f64 4607182418800017408 q) fun p' => nn64 p' && exLP t n (i + 1) p' K
theorem exLP_ok {t : Nat} {K : Nat → Bool} : ∀ n i, exLP t n i (exP t i) K = true →
    (∀ j, i ≤ j → j < i + n → nn64 (ar .mul .f64 t (exP t j)) = true ∧ nn64 (ar .quo .f64 (ar .mul .f64 t (exP t j)) (k64 j)) = true ∧ nn64 (exP t (j + 1)) = true) ∧ K (exP t (i + n)) = true
  | 0, i, h => ⟨fun j h1 h2 => by omega, h⟩
  | n + 1, i, h => by
    simp only [exLP, seqN_eq, Bool.and_eq_true] at h
    obtain ⟨h1, h2, h3, h4⟩ := h
    obtain ⟨h5, h6⟩ := exLP_ok n (i + 1) h4
    refine ⟨fun j hj hj2 => ?_, by rw [show i + (n + 1) = i + 1 + n by omega]; exact h6⟩
    rcases Nat.eq_or_lt_of_le hj with rfl | hl
    · exact ⟨h1, h2, h3⟩
    · exact h5 j hl (by omega)
def exLS : Nat → Nat → (Nat → Bool) → Bool
  | 0, s, K => K s
  | n + 1, s, K => seqN (ar .mul .f64 s s) fun s' => nn64 s' && exLS n s' K
theorem exLS_ok {p : Nat} {K : Nat → Bool} : ∀ n i, exLS n (exS p i) K = true → (∀ j, i ≤ j → j < i + n → nn64 (exS p (j + 1)) = true) ∧ K (exS p (i + n)) = true
  | 0, i, h => ⟨fun j h1 h2 => by omega, h⟩
  | n + 1, i, h => by
    simp only [exLS, seqN_eq, Bool.and_eq_true] at h
    obtain ⟨h1, h2⟩ := h
    obtain ⟨h5, h6⟩ := exLS_ok (p := p) n (i + 1) h2
    refine ⟨fun j hj hj2 => ?_, by rw [show i + (n + 1) = i + 1 + n by omega]; exact h6⟩
    rcases Nat.eq_or_lt_of_le hj with rfl | hl
    · exact h1
    · exact h5 j hl (by omega)
def nwB (c : Nat) : Bool := !(S.read (S.write (D.read c))).isInfinity
/-- Finite, from 0 to 1. -/
def unitB (c : Nat) : Bool := match S.read c with
  | .number s m p => (!s || m == 0) && (match S.order c 1065353216 with | some .gt => false | _ => true)
  | _ => false
def exChk (x : Nat) : Bool := nnB x && !(S.order x 1128792064 == some .gt) && !(S.order x 3276275712 == some .lt) && seqN (wd x) fun a => nn64 a && seqN (ar .quo .f64 a 4643211215818981376) fun t => nn64 t &&
  exLP t 12 0 4607182418800017408 fun p => exLS 8 p fun s => nwB s && seqN (nwD s) fun e => unitB e && nnB e
theorem exChk_ok {x : Nat} (h : exChk x = true) : ExOk x ∧ unitB (expW x) = true ∧ nnB (expW x) = true := by
  simp only [exChk, seqN_eq, Bool.and_eq_true, Bool.not_eq_true'] at h
  obtain ⟨⟨⟨a1, a2⟩, a3⟩, a4, a5, a6⟩ := h
  have h1 := exLP_ok (t := exT x) 12 0 a6
  obtain ⟨b1, b2⟩ := h1
  rw [Nat.zero_add] at b2
  have h2 := exLS_ok (p := exP (exT x) 12) 8 0 b2
  obtain ⟨c1, c2⟩ := h2
  rw [Nat.zero_add] at c2
  simp only [seqN_eq, Bool.and_eq_true] at c2
  obtain ⟨d1, d2, d3⟩ := c2
  refine ⟨⟨nnB_not a1, a2, a3, a4, a5, fun i hi => (b1 i (by omega) (by omega)).1, fun i hi => (b1 i (by omega) (by omega)).2.1, fun i hi => ?_, fun i hi => ?_, .inr (.inr (by unfold nwB at d1; simpa using d1))⟩, d2, d3⟩
  · rcases i with _ | i
    · show nn64 4607182418800017408 = true
      decide +kernel
    · exact (b1 i (by omega) (by omega)).2.2
  · rcases i with _ | i
    · exact (b1 11 (by omega) (by omega)).2.2
    · exact c1 i (by omega) (by omega)
theorem unit_qv {c : Nat} (h : unitB c = true) : ∃ y, QV S c y ∧ 0 ≤ y ∧ y ≤ 1 := by
  unfold unitB at h
  split at h
  · rename_i s m p e
    rw [Bool.and_eq_true] at h
    obtain ⟨h1, h2⟩ := h
    have hq : QV S c (sg s ((m : Rat) * pw p)) := ⟨s, m, p, e, rfl⟩
    have h1q : QV S 1065353216 1 := qv_of_B (by decide +kernel)
    have hm : 0 ≤ (m : Rat) * pw p := Rat.mul_nonneg Rat.natCast_nonneg (Rat.le_of_lt (pw_pos p))
    have h0 : 0 ≤ sg s ((m : Rat) * pw p) := by
      rcases s with _ | _
      · exact hm
      · have : m = 0 := by simpa using h1
        subst this
        have : ((0 : Nat) : Rat) = 0 := rfl
        unfold sg; simp only [if_true, this]; grind
    refine ⟨_, hq, h0, ?_⟩
    rw [hq.order h1q] at h2
    rcases Classical.em (sg s ((m : Rat) * pw p) ≤ 1) with hh | hh
    · exact hh
    · rw [if_neg (by grind), if_neg (by grind)] at h2
      cases h2
  · cases h
/-- What the exponential is taken of. -/
def xW (d : Nat) : Nat := subF 0 (mulF 1040187392 (mulF d d))
def exD (n : Nat) : Bool := let x : Int := (n : Int) - 76
  Nat.beq (mulF (h2r x) (h2r x)) (mulF (h2r (x.natAbs : Int)) (h2r (x.natAbs : Int)))
theorem exD_all : ∀ i : Fin 153, exD i.val = true := by decide +kernel
theorem xW_abs {x : Int} (h1 : -76 ≤ x) (h2 : x ≤ 76) : xW (h2r x) = xW (h2r (x.natAbs : Int)) := by
  have h := exD_all ⟨(x + 76).toNat, by omega⟩
  unfold exD at h
  rw [show (((x + 76).toNat : Nat) : Int) - 76 = x by omega] at h
  rw [xW, xW, Nat.eq_of_beq_eq_true h]
def exN (n : Nat) : Bool := nnB (mulF (h2r (n : Int)) (h2r (n : Int))) && nnB (mulF 1040187392 (mulF (h2r (n : Int)) (h2r (n : Int)))) && seqN (xW (h2r (n : Int))) fun x => exChk x
theorem exN_all : ∀ i : Fin 77, exN i.val = true := by decide +kernel
theorem exW_zero : expW (xW (h2r 0)) = 1065353216 := by decide +kernel
theorem ex_all {x : Int} (h1 : -76 ≤ x) (h2 : x ≤ 76) : (S.read (mulF (h2r x) (h2r x))).isNaN = false ∧ (S.read (mulF 1040187392 (mulF (h2r x) (h2r x)))).isNaN = false ∧ ExOk (xW (h2r x)) ∧ (S.read (expW (xW (h2r x)))).isNaN = false ∧ ∃ y, QV S (expW (xW (h2r x))) y ∧ 0 ≤ y ∧ y ≤ 1 := by
  have hd := exD_all ⟨(x + 76).toNat, by omega⟩
  unfold exD at hd
  rw [show (((x + 76).toNat : Nat) : Int) - 76 = x by omega] at hd
  rw [xW_abs h1 h2, Nat.eq_of_beq_eq_true hd]
  have h := exN_all ⟨x.natAbs, by omega⟩
  simp only [exN, seqN_eq, Bool.and_eq_true] at h
  obtain ⟨⟨a1, a2⟩, a3⟩ := h
  obtain ⟨b1, b2, b3⟩ := exChk_ok a3
  exact ⟨nnB_not a1, nnB_not a2, b1, nnB_not b3, unit_qv b2⟩

end Go.Proofs.Ytkkomajokdlkeaa

namespace Go.Proofs.Ytkkomajokdlkeaa
set_option linter.unusedSimpArgs false
set_option linter.unusedVariables false
set_option maxRecDepth 100000
set_option maxHeartbeats 4000000
set_option linter.unusedSimpArgs false
set_option linter.unusedVariables false
open Go.RowKit
/-- Two weights. -/
structure Wt (c p q : Rat) : Prop where
  c0 : 0 ≤ c
  c1 : c ≤ 1 / 5000
  q0 : 0 ≤ q
  qp : q ≤ p + c * p
  s1 : p + q ≤ 1 + 1 / 100000
  s0 : 1 - 1 / 100000 ≤ p + q
theorem Wt.p0 {c p q : Rat} (h : Wt c p q) : 49 / 100 ≤ p ∧ p ≤ 2 := by
  obtain ⟨c0, c1, q0, qp, s1, s0⟩ := h
  have h2 : p ≤ 2 := by grind
  refine ⟨?_, h2⟩
  rcases Classical.em (49 / 100 ≤ p) with hh | hh
  · exact hh
  · exfalso
    have hh := Rat.not_le.1 hh
    rcases Classical.em (0 ≤ p) with h3 | h3
    · have := Rat.mul_nonneg h3 (show 0 ≤ 1 / 5000 - c by grind)
      grind
    · have h3 := Rat.not_le.1 h3
      have := Rat.mul_nonneg (show 0 ≤ -p by grind) c0
      grind
theorem lw_step {a b e : Nat} {c p q y : Rat} (ha : QV S a p) (hb : QV S b q) (h : Wt c p q) (he : QV S e y) (y0 : 0 ≤ y) (y1 : y ≤ 1) (hc : c + 1 / 100000 ≤ 1 / 5000) :
    ∃ p1 q1 s p2 q2 : Rat, QV S (mulF a 1065353216) p1 ∧ 0 ≤ p1 ∧ p1 ≤ 3 ∧ QV S (mulF b e) q1 ∧ 0 ≤ q1 ∧ q1 ≤ 3 ∧ QV S (addF (addF 0 (mulF a 1065353216)) (mulF b e)) s ∧ 0 < s ∧ s ≤ 7 ∧
      QV S (divF (mulF a 1065353216) (addF (addF 0 (mulF a 1065353216)) (mulF b e))) p2 ∧ QV S (divF (mulF b e) (addF (addF 0 (mulF a 1065353216)) (mulF b e))) q2 ∧ Wt (c + 1 / 100000) p2 q2 := by
  obtain ⟨g1, g2⟩ := h.p0
  obtain ⟨c0, c1, q0, qp, s1, s0⟩ := h
  have h1q : QV S 1065353216 1 := qv_of_B (by decide +kernel)
  have hqy : q * y ≤ q := by
    have := Rat.mul_nonneg q0 (show 0 ≤ 1 - y by grind)
    grind
  have hqy0 : 0 ≤ q * y := Rat.mul_nonneg q0 y0
  obtain ⟨p1, i1, -, -, i2⟩ := mulF_qv ha h1q (by unfold big; grind) (by unfold big; grind)
  obtain ⟨q1, j1, j0, -, j2⟩ := mulF_qv hb he (by unfold big; grind) (by unfold big; grind)
  have i3 := i2 2 (by grind) (by grind)
  have j3 := j2 2 (by grind) (by grind)
  have j4 := j0 hqy0
  have hE : e32 = 1 / 8388608 := rfl
  rw [hE] at i3 j3
  obtain ⟨r, k1, -, -, k2⟩ := addF_qv zero_qv i1 (by unfold big; grind) (by unfold big; grind)
  have k3 := k2 3 (by grind) (by grind)
  rw [hE] at k3
  obtain ⟨s, l1, -, -, l2⟩ := addF_qv k1 j1 (by unfold big; grind) (by unfold big; grind)
  have l3 := l2 4 (by grind) (by grind)
  rw [hE] at l3
  have hs : 48 / 100 ≤ s := by grind
  have hs0 : 0 < s := by grind
  have hu : p1 / s * s = p1 := Rat.div_mul_cancel (by grind)
  have hv : q1 / s * s = q1 := Rat.div_mul_cancel (by grind)
  generalize p1 / s = u at *
  generalize q1 / s = v at *
  have u0 : 0 ≤ u := div_cancel hs0 (by grind)
  have v0 : 0 ≤ v := div_cancel hs0 (by grind)
  have u1 : u ≤ 2 := div_cancel hs0 (by grind)
  have v1 : v ≤ 2 := div_cancel hs0 (by grind)
  have u3 : 3 / 10 ≤ u := div_cancel hs0 (by grind)
  have uv1 : u + v ≤ 1 + 1 / 200000 := div_cancel hs0 (by grind)
  have uv0 : 1 - 1 / 200000 ≤ u + v := div_cancel hs0 (by grind)
  -- v ≤ u (1 + c + 1/300000)
  have hpc : q1 ≤ p1 + c * p1 + p1 / 300000 := by
    have := Rat.mul_nonneg c0 (show 0 ≤ p1 - p + 1 / 1000000 by grind)
    grind
  have huv : v ≤ u + c * u + u / 300000 := by
    refine div_cancel hs0 ?_
    have : (u + c * u + u / 300000) * s = u * s + c * (u * s) + u * s / 300000 := by grind
    rw [this, hu, hv]
    exact hpc
  obtain ⟨p2, m1, -, -, m2⟩ := divF_qv i1 l1 (by grind) hu (by grind) (by grind)
  obtain ⟨q2, n1, n0, -, n2⟩ := divF_qv j1 l1 (by grind) hv (by grind) (by grind)
  have m3 := m2 2 (by grind) (by grind)
  have n3 := n2 2 (by grind) (by grind)
  have n4 := n0 v0
  rw [hE] at m3 n3
  refine ⟨p1, q1, s, p2, q2, i1, by grind, by grind, j1, j4, by grind, l1, hs0, by grind, m1, n1, ⟨by grind, hc, n4, ?_, by grind, by grind⟩⟩
  have := Rat.mul_nonneg c0 (show 0 ≤ p2 - u + 1 / 1000000 by grind)
  grind

end Go.Proofs.Ytkkomajokdlkeaa

namespace Go.Proofs.Ytkkomajokdlkeaa
set_option linter.unusedSimpArgs false
set_option linter.unusedVariables false
set_option maxRecDepth 100000
set_option maxHeartbeats 4000000
set_option linter.unusedSimpArgs false
set_option linter.unusedVariables false
open Go.RowKit
def lwW (cs ds : List Nat) : Nat → List Nat
  | 0 => [divF 1065353216 (fI 2), divF 1065353216 (fI 2)]
  | i + 1 => shL (lwV cs [cs, ds] 1040187392 (lwW cs ds i) i)
theorem lwV_two (cs ds : List Nat) (a b i : Nat) : lwV cs [cs, ds] 1040187392 [a, b] i = [mulF a (expW (lwX cs [cs, ds] 1040187392 i 0)), mulF b (expW (lwX cs [cs, ds] 1040187392 i 1))] := rfl
theorem shL_two (a b : Nat) : shL [a, b] = [divF a (addF (addF 0 a) b), divF b (addF (addF 0 a) b)] := rfl
section
variable {n : Nat} {cs ds : List Nat} {X Y : Nat → Int}
theorem Hz.lx0 (h : Hz n cs ds X Y) {i : Nat} (hi : i < n) : subF (cs.getD i 0) (cs.getD i 0) = h2r 0 ∧ lwX cs [cs, ds] 1040187392 i 0 = xW (h2r 0) := by
  have e := (h.self.dw hi).1
  rw [dW, show X i - X i = 0 by omega] at e
  exact ⟨e, by show subF 0 (mulF 1040187392 (mulF (subF (cs.getD i 0) (cs.getD i 0)) (subF (cs.getD i 0) (cs.getD i 0)))) = _; rw [e]; rfl⟩
theorem Hz.lx1 (h : Hz n cs ds X Y) {i : Nat} (hi : i < n) : subF (cs.getD i 0) (ds.getD i 0) = h2r (X i - Y i) ∧ lwX cs [cs, ds] 1040187392 i 1 = xW (h2r (X i - Y i)) := by
  have e := (h.dw hi).1
  rw [dW] at e
  exact ⟨e, by show subF 0 (mulF 1040187392 (mulF (subF (cs.getD i 0) (ds.getD i 0)) (subF (cs.getD i 0) (ds.getD i 0)))) = _; rw [e]; rfl⟩
/-- One round of learning, and where the weights stand. -/
theorem Hz.lw_at (h : Hz n cs ds X Y) : ∀ i, i ≤ n → ∃ a b : Nat, ∃ p q : Rat, lwW cs ds i = [a, b] ∧ QV S a p ∧ QV S b q ∧ Wt ((i : Rat) / 100000) p q
  | 0, _ => by
    refine ⟨_, _, 1 / 2, 1 / 2, rfl, qv_of_B (by decide +kernel), qv_of_B (by decide +kernel), ?_⟩
    have : ((0 : Nat) : Rat) = 0 := rfl
    rw [this]
    constructor <;> grind
  | i + 1, hi => by
    obtain ⟨a, b, p, q, e, qa, qb, hw⟩ := h.lw_at i (by omega)
    obtain ⟨-, h1, h2⟩ := h.dw (k := i) (by omega)
    obtain ⟨-, -, -, -, y, qe, y0, y1⟩ := ex_all h1 h2
    have i12 : (i : Rat) ≤ ((11 : Nat) : Rat) := Rat.natCast_le_natCast.2 (by have := h.n12; omega)
    have i12' : (i : Rat) ≤ 11 := i12
    obtain ⟨p1, q1, s, p2, q2, -, -, -, -, -, -, -, -, -, m1, m2, m3⟩ := lw_step qa qb hw qe y0 y1 (by grind)
    refine ⟨_, _, p2, q2, ?_, m1, m2, ?_⟩
    · rw [lwW, e, lwV_two, shL_two, (h.lx0 (i := i) (by omega)).2, (h.lx1 (i := i) (by omega)).2, exW_zero]
    · rw [cast_succ, show ((i : Rat) + 1) / 100000 = (i : Rat) / 100000 + 1 / 100000 by grind]
      exact m3
theorem Hz.lw_mid (h : Hz n cs ds X Y) {i : Nat} (hi : i < n) : ∃ a b : Nat, ∃ p1 q1 s : Rat, lwV cs [cs, ds] 1040187392 (lwW cs ds i) i = [a, b] ∧ QV S a p1 ∧ 0 ≤ p1 ∧ p1 ≤ 3 ∧ QV S b q1 ∧ 0 ≤ q1 ∧ q1 ≤ 3 ∧ QV S (addF (addF 0 a) b) s ∧ 0 < s := by
  obtain ⟨a, b, p, q, e, qa, qb, hw⟩ := h.lw_at i (by omega)
  obtain ⟨-, h1, h2⟩ := h.dw (k := i) (by omega)
  obtain ⟨-, -, -, -, y, qe, y0, y1⟩ := ex_all h1 h2
  have i12 : (i : Rat) ≤ ((11 : Nat) : Rat) := Rat.natCast_le_natCast.2 (by have := h.n12; omega)
  have i12' : (i : Rat) ≤ 11 := i12
  obtain ⟨p1, q1, s, p2, q2, k1, k2, k3, k4, k5, k6, k7, k8, -⟩ := lw_step qa qb hw qe y0 y1 (by grind)
  refine ⟨_, _, p1, q1, s, ?_, k1, k2, k3, k4, k5, k6, k7, k8⟩
  rw [e, lwV_two, (h.lx0 (i := i) (by omega)).2, (h.lx1 (i := i) (by omega)).2, exW_zero]
theorem allFin_two {a b : Nat} (ha : fin a = true) (hb : fin b = true) : allFin [a, b] = true := by simp [allFin, ha, hb]
theorem QV.gtr {a b : Nat} {x y : Rat} (ha : QV S a x) (hb : QV S b y) : fc .gtr .f32 a b = decide (y < x) := by
  show (S.order a b == some .gt) = _
  rw [ha.order hb]
  by_cases h : x < y
  · rw [if_pos h, decide_eq_false (by grind)]; rfl
  · rw [if_neg h]
    by_cases h2 : x = y
    · rw [if_pos h2, decide_eq_false (by grind)]; rfl
    · rw [if_neg h2, decide_eq_true (by grind)]; rfl
theorem Hz.ways2 (h : Hz n cs ds X Y) : waysOk [cs, ds] = true := by
  have h1 := h.self.two
  have h2 := h.swap.two
  simp [waysOk, headL, h1, h2]
theorem Hz.lwOk (h : Hz n cs ds X Y) : LwOk [cs, ds] cs 1040187392 (lwW cs ds) where
  ways := h.ways2
  two := h.self.two
  rt := by decide +kernel
  rtn := by decide +kernel
  rlt := by decide
  w0 := rfl
  wf := fun i hi => by
    obtain ⟨a, b, p, q, e, qa, qb, hw⟩ := h.lw_at i (by rw [h.lc] at hi; exact hi)
    obtain ⟨g1, g2⟩ := hw.p0
    obtain ⟨c0, c1, q0, qp, s1, s0⟩ := hw
    rw [e]
    exact allFin_two (qv_finB qa (by grind) (by grind)) (qv_finB qb (by grind) (by grind))
  wl := fun i hi => by
    obtain ⟨a, b, p, q, e, -⟩ := h.lw_at i (by rw [h.lc] at hi; exact hi)
    rw [e]; rfl
  vf := fun i hi => by
    obtain ⟨a, b, p1, q1, s, e, qa, a1, a2, qb, b1, b2, -⟩ := h.lw_mid (i := i) (by rw [h.lc] at hi; exact hi)
    rw [e]
    exact allFin_two (qv_finB qa (by grind) (by grind)) (qv_finB qb (by grind) (by grind))
  vg := fun i hi => by
    obtain ⟨a, b, p1, q1, s, e, qa, a1, a2, qb, b1, b2, qs, hs⟩ := h.lw_mid (i := i) (by rw [h.lc] at hi; exact hi)
    rw [e]
    show fc .gtr .f32 (addF (addF 0 a) b) 0 = true
    rw [qs.gtr zero_qv, decide_eq_true hs]
  ws := fun _ _ => rfl
  n1 := fun i k hi hk => by
    rw [h.lc] at hi
    have hk2 : k = 0 ∨ k = 1 := by simp at hk; omega
    rcases hk2 with rfl | rfl
    · show (S.read (subF (cs.getD i 0) (cs.getD i 0))).isNaN = false
      exact (h.self.dw_no hi).1
    · show (S.read (subF (cs.getD i 0) (ds.getD i 0))).isNaN = false
      exact (h.dw_no hi).1
  n2 := fun i k hi hk => by
    rw [h.lc] at hi
    have hk2 : k = 0 ∨ k = 1 := by simp at hk; omega
    rcases hk2 with rfl | rfl
    · show (S.read (mulF (subF (cs.getD i 0) (cs.getD i 0)) (subF (cs.getD i 0) (cs.getD i 0)))).isNaN = false
      rw [(h.lx0 hi).1]; exact (ex_all (x := 0) (by omega) (by omega)).1
    · show (S.read (mulF (subF (cs.getD i 0) (ds.getD i 0)) (subF (cs.getD i 0) (ds.getD i 0)))).isNaN = false
      rw [(h.lx1 hi).1]; exact (ex_all (h.dw hi).2.1 (h.dw hi).2.2).1
  n3 := fun i k hi hk => by
    rw [h.lc] at hi
    have hk2 : k = 0 ∨ k = 1 := by simp at hk; omega
    rcases hk2 with rfl | rfl
    · show (S.read (mulF 1040187392 (mulF (subF (cs.getD i 0) (cs.getD i 0)) (subF (cs.getD i 0) (cs.getD i 0))))).isNaN = false
      rw [(h.lx0 hi).1]; exact (ex_all (x := 0) (by omega) (by omega)).2.1
    · show (S.read (mulF 1040187392 (mulF (subF (cs.getD i 0) (ds.getD i 0)) (subF (cs.getD i 0) (ds.getD i 0))))).isNaN = false
      rw [(h.lx1 hi).1]; exact (ex_all (h.dw hi).2.1 (h.dw hi).2.2).2.1
  ex := fun i k hi hk => by
    rw [h.lc] at hi
    have hk2 : k = 0 ∨ k = 1 := by simp at hk; omega
    rcases hk2 with rfl | rfl
    · rw [(h.lx0 hi).2]; exact (ex_all (x := 0) (by omega) (by omega)).2.2.1
    · rw [(h.lx1 hi).2]; exact (ex_all (h.dw hi).2.1 (h.dw hi).2.2).2.2.1
  en := fun i k hi hk => by
    rw [h.lc] at hi
    have hk2 : k = 0 ∨ k = 1 := by simp at hk; omega
    rcases hk2 with rfl | rfl
    · rw [(h.lx0 hi).2]; exact (ex_all (x := 0) (by omega) (by omega)).2.2.2.1
    · rw [(h.lx1 hi).2]; exact (ex_all (h.dw hi).2.1 (h.dw hi).2.2).2.2.2.1
end

end Go.Proofs.Ytkkomajokdlkeaa
