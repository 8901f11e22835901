/- What the law FnTrends asks, plainly: trends not seen, told ahead, and behind a line. -/
import Derived.Test.YtkkomajokdlkeaaTo
import Derived.Test.YtkkomajokdlkeaaTq
import Derived.Test.YtkkomajokdlkeaaK7
namespace Go.Proofs.Ytkkomajokdlkeaa
set_option linter.unusedSimpArgs false
set_option linter.unusedVariables false
set_option maxRecDepth 100000
set_option maxHeartbeats 4000000
open Go.RowKit
set_option linter.unusedSimpArgs false
set_option linter.unusedVariables false
theorem QV.cnT {c : Nat} {x : Rat} (h : QV S c x) : cn .f32 c = c := cn_of_not h.notNaN
theorem trendOk_DT {l v a b c n d t j : Nat} {L V A B C D E : Rat} (h : DT2 l v a b c n d t j L V A B C D E) : TW l v a b c n d t L V A B C (((j : Rat) + 1) / 4) D E ∧ (0 : Rat) < ((j : Rat) + 1) / 4 ∧ ((j : Rat) + 1) / 4 ≤ 2 ∧ trendOk l v a b c n d t = true := by
  obtain ⟨h0, h1, h2, h3, h4, h5, h6, h7, hj, ⟨a1, a2⟩, ⟨a3, a4⟩, ⟨a5, a6⟩, ⟨a7, a8⟩, ⟨a9, a10⟩, ⟨a11, a12⟩, ⟨a13, a14⟩⟩ := h
  have hw : TW l v a b c n d t L V A B C (((j : Rat) + 1) / 4) D E := ⟨h0, h1, h2, h3, h4, h5, h6, h7⟩
  obtain ⟨j1, j2⟩ := rb (show j < 7 + 1 by omega)
  rw [show ((7 : Nat) : Rat) = 7 from rfl] at j2
  exact ⟨hw, by grind, by grind, hw.ok (by grind) (by grind) (by grind) (by grind) (by grind) (by grind) (by grind) (by grind) (by grind) (by grind) (by grind) (by grind) (by grind) (by grind) (by grind) (by grind)⟩
theorem cnl {l v a b c n d t : Nat} {L V A B C N D E : Rat} (h : TW l v a b c n d t L V A B C N D E) : [cn .f32 l, cn .f32 v, cn .f32 a, cn .f32 b, cn .f32 c, cn .f32 n, cn .f32 d, cn .f32 t] = [l, v, a, b, c, n, d, t] := by
  rw [h.hl.cnT, h.hv.cnT, h.ha.cnT, h.hb.cnT, h.hc.cnT, h.hn.cnT, h.hd.cnT, h.ht.cnT]
/-- Trends that are not seen. -/
theorem blind_trQ {l v a b c n d t j m : Nat} {L V A B C D E : Rat} (h : DT2 l v a b c n d t j L V A B C D E) (m1 : 1 ≤ m) (m2 : m ≤ 8) :
    ∃ T es, trQ [l, v, a, b, c, n, d, t] (List.replicate m 0) (List.replicate m false) = (T, es, true) ∧ es.length = m ∧ ∀ i, i < m → ∃ X, QV S (es.getD i 0) X ∧ Nr (1 / 4096) (L + ((i + 1 : Nat) : Rat) * V) X := by
  obtain ⟨hw, n1, n2, hok⟩ := trendOk_DT h
  obtain ⟨-, -, -, -, -, -, -, -, -, ⟨a1, a2⟩, ⟨a3, a4⟩, ⟨a5, a6⟩, ⟨a7, a8⟩, ⟨a9, a10⟩, ⟨a11, a12⟩, ⟨a13, a14⟩⟩ := h
  obtain ⟨li, ai, bi, ci, Li, Ai, Bi, Ci, es, e0, -, e1, e2, -⟩ := blind (xs := List.replicate m 0) (ss := List.replicate m false) m2 (fun i hi => by
    have e1 : (List.replicate m 0).getD i 0 = 0 := by simp [List.getD_eq_getElem?_getD, List.getElem?_replicate]; split <;> rfl
    have e2 : (List.replicate m false).getD i false = false := by simp [List.getD_eq_getElem?_getD, List.getElem?_replicate]; split <;> rfl
    exact ⟨by rw [e1]; decide +kernel, e2⟩) hw a1 a2 a3 a4 a5 a6 a7 a8 a9 a10 n1 n2 a11 a12 a13 a14 m (Nat.le_refl _)
  refine ⟨[li, v, ai, bi, ci, n, d, t], es, ?_, e1, e2⟩
  have hs : series (List.replicate m 0) = true := by
    rw [series, List.length_replicate, decide_eq_true m1, decide_eq_true (show m ≤ 96 by omega)]
    have : allFin (List.replicate m 0) = true := List.all_eq_true.2 fun x hx => by rw [List.eq_of_mem_replicate hx]; decide +kernel
    rw [this]; rfl
  rw [trQ_yes]
  · rw [List.length_replicate]; exact e0
  · rw [show trendOkL [l, v, a, b, c, n, d, t] = true from hok, hs, List.length_replicate, List.length_replicate, e0, decide_eq_true rfl]; rfl
theorem fI8 : ((List.range 8).all fun i => qvB (fI ((i : Int) + 1)) ((i : Rat) + 1)) = true := by decide +kernel
/-- What is told ahead. -/
theorem ahead_n {l v a b c n d t j m : Nat} {L V A B C D E : Rat} (h : DT2 l v a b c n d t j L V A B C D E) (m1 : 1 ≤ m) (m2 : m ≤ 8) :
    aheadQ (trendOk l v a b c n d t) l v (m : Int) = (taL l v m, true) ∧ ∀ i, i < m → ∃ X, QV S ((taL l v m).getD i 0) X ∧ Nr (1 / 4096) (L + ((i + 1 : Nat) : Rat) * V) X := by
  obtain ⟨hw, n1, n2, hok⟩ := trendOk_DT h
  obtain ⟨hl, hv, -, -, -, -, -, -, -, ⟨a1, a2⟩, ⟨a3, a4⟩, -⟩ := h
  have key : ∀ i : Nat, i < 8 → ∃ X, QV S (addF l (mulF (fI ((i : Int) + 1)) v)) X ∧ Nr (1 / 4096) (L + ((i + 1 : Nat) : Rat) * V) X := by
    intro i hi
    obtain ⟨j1, j2⟩ := rb (show i < 7 + 1 by omega)
    rw [show ((7 : Nat) : Rat) = 7 from rfl] at j2
    have q := qv_of_B (List.all_eq_true.1 fI8 i (List.mem_range.2 hi))
    obtain ⟨_, p1, p2⟩ := nr_mul q hv (Nr.refl ((i : Rat) + 1)) (Nr.refl V) (X := 8) (Y := 1) (by grind) (by grind) a3 a4 (f := 1 / 100000) (by decide +kernel) (by decide +kernel)
    have b := mul_bd (x := (i : Rat) + 1) (X := 8) (y := V) (Y := 1) (by grind) (by grind) a3 a4
    obtain ⟨X, p3, p4⟩ := nr_add hl p1 (Nr.refl L) p2 (M := 20) (f := 1 / 4096) (by grind) (by grind) (by decide +kernel) (by decide +kernel)
    refine ⟨X, p3, ?_⟩
    rw [show ((i + 1 : Nat) : Rat) = (i : Rat) + 1 by rw [Rat.natCast_add]; rfl]; exact p4
  have hg : ∀ i, i < m → (taL l v m).getD i 0 = addF l (mulF (fI ((i : Int) + 1)) v) := by
    intro i hi; simp [taL, hi]
  constructor
  · have ha : allFin (taL l v m) = true := List.all_eq_true.2 fun x hx => by
      obtain ⟨i, hi, rfl⟩ := List.mem_map.1 hx
      obtain ⟨X, p1, p2, p3⟩ := key i (by have := List.mem_range.1 hi; omega)
      obtain ⟨j1, j2⟩ := rb (show i < 7 + 1 by have := List.mem_range.1 hi; omega)
      rw [show ((7 : Nat) : Rat) = 7 from rfl] at j2
      rw [show ((i + 1 : Nat) : Rat) = (i : Rat) + 1 by rw [Rat.natCast_add]; rfl] at p2 p3
      have b := mul_bd (x := (i : Rat) + 1) (X := 8) (y := V) (Y := 1) (by grind) (by grind) a3 a4
      exact qv_fin p1 (by grind) (by grind)
    rw [aheadQ, hok, inB, decide_eq_true (show (0 : Int) ≤ (m : Int) by omega), decide_eq_true (show (m : Int) ≤ 32 by omega), Int.toNat_natCast, given, ha]; rfl
  · intro i hi
    rw [hg i hi]; exact key i (by omega)
def qvBD (c : Nat) (x : Rat) : Bool := match D.read c with
  | .number s m p => decide (x ≤ sg s ((m : Rat) * pw p))
  | _ => false
theorem qvD_of_B {c : Nat} {x : Rat} (h : qvBD c x = true) : ∃ y, QV D c y ∧ x ≤ y := by
  unfold qvBD at h
  split at h
  · rename_i s m p e
    exact ⟨_, ⟨s, m, p, e, rfl⟩, of_decide_eq_true h⟩
  · cases h
theorem c001 : ∃ y, QV D 4562254508917369340 y ∧ 1 / 1001 ≤ y := qvD_of_B (by decide +kernel)
theorem c05 : ∃ y, QV D 4587366580439587226 y ∧ 4999 / 100000 ≤ y := qvD_of_B (by decide +kernel)
theorem c1 : ∃ y, QV D 4591870180066957722 y ∧ 999 / 10000 ≤ y := qvD_of_B (by decide +kernel)
/-- Two numbers that are near are not far apart in 64 bits. -/
theorem gap_no {a e : Nat} {x y z : Rat} (ha : QV S a x) (he : QV S e y) (h1 : Nr (1 / 4096) z x) (h2 : Nr (1 / 4096) z y) (z1 : -100 ≤ z) (z2 : z ≤ 100) : (∃ g, QV D (gapF (wd a) (wd e)) g) ∧ FloatKind.f64.format.order (gapF (wd a) (wd e)) 4562254508917369340 = some .lt := by
  obtain ⟨p, q⟩ := h1
  obtain ⟨r, s⟩ := h2
  obtain ⟨_, w1, w2, w3⟩ := wd_nr ha (Nr.refl x) (by grind) (by grind) (by decide +kernel) (f := 1 / 1000000) (by decide +kernel)
  obtain ⟨_, w4, w5, w6⟩ := wd_nr he (Nr.refl y) (by grind) (by grind) (by decide +kernel) (f := 1 / 1000000) (by decide +kernel)
  obtain ⟨g, hg, hb⟩ := gap_qv w1 w4 (e := 1 / 2000) (by grind) (by grind) (by constructor <;> grind) (by decide +kernel)
  obtain ⟨k, hk, hk2⟩ := c001
  exact ⟨⟨g, hg⟩, by show Ieee.double.order _ _ = _; rw [hg.order hk, if_pos (by grind)]⟩
theorem one_qv : QV S 1065353216 1 := qv_of_B (by decide +kernel)
theorem quarter_qv : QV S 1048576000 (1 / 4) := qv_of_B (by decide +kernel)
/-- One step that is seen. -/
theorem step_n {l v a b c n d t j : Nat} {L V A B C D E : Rat} (h : DT2 l v a b c n d t j L V A B C D E) :
    (∃ T, tsQ l v a b c n d t 1065353216 true = (T, addF l v, true)) ∧ (S.read (addF l v)).isNaN = false ∧ (Ieee.double.read (wd (addF l v))).isNaN = false ∧ (Ieee.double.read (wd l)).isNaN = false ∧ (Ieee.double.read (wd v)).isNaN = false ∧ (Ieee.double.read (ar .add .f64 (wd l) (wd v))).isNaN = false ∧ (Ieee.double.read (gapF (wd (addF l v)) (ar .add .f64 (wd l) (wd v)))).isNaN = false ∧ FloatKind.f64.format.order (gapF (wd (addF l v)) (ar .add .f64 (wd l) (wd v))) 4562254508917369340 = some .lt := by
  obtain ⟨hw, n1, n2, hok⟩ := trendOk_DT h
  obtain ⟨hl, hv, ha, hb, hc, hn, hd, ht, hj, ⟨a1, a2⟩, ⟨a3, a4⟩, ⟨a5, a6⟩, ⟨a7, a8⟩, ⟨a9, a10⟩, ⟨a11, a12⟩, ⟨a13, a14⟩⟩ := h
  obtain ⟨j1, -⟩ := rb (show j < 7 + 1 by omega)
  generalize hN : ((j : Rat) + 1) / 4 = N at *
  have n3 : 1 / 4 ≤ N := by grind
  obtain ⟨K, hK⟩ : ∃ K : Rat, K * (A + 2 * B + C + D + N) = A + 2 * B + C + D := ⟨(A + 2 * B + C + D) / (A + 2 * B + C + D + N), Rat.div_mul_cancel (by grind)⟩
  obtain ⟨H, hH⟩ : ∃ H : Rat, H * (A + 2 * B + C + D + N) = B + C := ⟨(B + C) / (A + 2 * B + C + D + N), Rat.div_mul_cancel (by grind)⟩
  have hF0 : 0 < A + 2 * B + C + D + N := by grind
  have k1 : 0 ≤ K := nn_of_mul hF0 (by grind)
  have k2 : K ≤ 1 := by have := nn_of_mul (x := 1 - K) hF0 (by grind); grind
  have k3 : 0 ≤ H := nn_of_mul hF0 (by grind)
  have k4 : H ≤ 1 := by have := nn_of_mul (x := 1 - H) hF0 (by grind); grind
  have b9 : 0 ≤ K * N := Rat.mul_nonneg k1 (by grind)
  have b10 : 0 ≤ C + E - H * (B + C) := by
    have p1 := Rat.mul_nonneg (show 0 ≤ C - 1 / 4 by grind) (show 0 ≤ A - 1 / 2 by grind)
    have p2 := Rat.mul_nonneg (show 0 ≤ C - 1 / 4 by grind) (show 0 ≤ N - 1 / 4 by grind)
    have p3 := Rat.mul_nonneg (show 0 ≤ 1 / 8 - B by grind) (show 0 ≤ 1 / 8 + B by grind)
    have p4 := Rat.mul_nonneg (show 0 ≤ C by grind) a11
    have p5 := Rat.mul_nonneg a13 (Rat.le_of_lt hF0)
    have e : (A + 2 * B + C + D + N) * (H * (B + C)) = (B + C) * (B + C) := by rw [← hH]; grind
    exact nn_of_mul hF0 (by grind)
  obtain ⟨l', v', a', b', c', L', V', A', B', C', e0, y1, y2, y3, y4, y5, ⟨x1, x2⟩, ⟨x3, x4⟩, ⟨x5, x6⟩, x7, ⟨x8, x9⟩, ⟨x10, x11⟩, x12⟩ := ts_step hl hv ha hb hc hn hd ht one_qv hK hH a11 a12 a13 a14 (by grind) k1 k2 k3 k4 n3 n2 (by grind) (by grind) (by grind) (by grind) (by grind) (by grind) (by grind) (by grind) b9 b10 (by grind) (by grind) (by grind) (by grind) (by grind) (by grind) (by grind) (by grind)
  obtain ⟨X, f1, f2, f3⟩ := nr_add hl hv (Nr.refl L) (Nr.refl V) (M := 4) (by grind) (by grind) (f := 1 / 100000) (by decide +kernel) (by decide +kernel)
  have w1 := mul_bd (x := K) (X := 1) (y := N) (Y := 2) (by grind) k2 (by grind) (by grind)
  have w2 := mul_bd (x := 1 - K) (X := 1) (y := B + C) (Y := 9 / 4) (by grind) (by grind) (by grind) (by grind)
  have w3 := mul_bd (x := H) (X := 1) (y := B + C) (Y := 9 / 4) (by grind) k4 (by grind) (by grind)
  have w4 := mul_bd (x := K) (X := 1) (y := 1 - L - V) (Y := 90) (by grind) k2 (by grind) (by grind)
  have w5 := mul_bd (x := H) (X := 1) (y := 1 - L - V) (Y := 90) (by grind) k4 (by grind) (by grind)
  obtain ⟨_, g1, g2, g3⟩ := wd_nr f1 (Nr.refl X) (by grind) (by grind) (by decide +kernel) (f := 1 / 1000000) (by decide +kernel)
  obtain ⟨_, g4, g5, g6⟩ := wd_nr hl (Nr.refl L) (by grind) (by grind) (by decide +kernel) (f := 1 / 1000000) (by decide +kernel)
  obtain ⟨_, g7, g8, g9⟩ := wd_nr hv (Nr.refl V) (by grind) (by grind) (by decide +kernel) (f := 1 / 1000000) (by decide +kernel)
  obtain ⟨Z, z1, z2⟩ := addD_qv g4 g7 (by unfold big; grind) (by unfold big; grind)
  have z3 := z2.2.2 10 (by grind) (by grind)
  obtain ⟨g, hg, hb⟩ := gap_qv g1 z1 (e := 1 / 2000) (by grind) (by grind) (by constructor <;> grind) (by decide +kernel)
  obtain ⟨k, hk, hk2⟩ := c001
  refine ⟨⟨_, tsQ_yes ?_⟩, f1.notNaN, g1.notNaN, g4.notNaN, g7.notNaN, z1.notNaN, hg.notNaN, by show Ieee.double.order _ _ = _; rw [hg.order hk, if_pos (by grind)]⟩
  rw [e0, hok, qv_fin one_qv (by grind) (by grind), qv_fin f1 (by grind) (by grind)]
  show (true && true && trendOk l' v' a' b' c' n d t && true) = true
  rw [(TW.mk y1 y2 y3 y4 y5 hn hd ht).ok (by grind) (by grind) (by grind) (by grind) (by grind) (by grind) (by grind) (by grind) (by grind) (by grind) (by grind) (by grind) (by grind) (by grind) (by grind) (by grind)]; rfl
/-- A line's numbers. -/
def lineW (x y i : Nat) : Nat := addF (fI ((x : Int) - 4)) (mulF (qf ((y : Int) - 4) 1082130432) (fI (i : Int)))
theorem lineAll : ((List.range 9).all fun x => (List.range 9).all fun y => (List.range 60).all fun i => qvB (lineW x y i) (((x : Rat) - 4) + ((y : Rat) - 4) / 4 * (i : Rat))) = true := by decide +kernel

end Go.Proofs.Ytkkomajokdlkeaa
