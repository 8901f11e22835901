/- Behind sixty numbers of a line. Plain. -/
import Derived.Test.YtkkomajokdlkeaaTt
namespace Go.Proofs.Ytkkomajokdlkeaa
set_option linter.unusedSimpArgs false
set_option linter.unusedVariables false
set_option maxRecDepth 100000
set_option maxHeartbeats 4000000
open Go.RowKit
set_option linter.unusedSimpArgs false
set_option linter.unusedVariables false
def lineL (x y m : Nat) : List Nat := (List.range m).map (lineW x y)
theorem lineL_length (x y m : Nat) : (lineL x y m).length = m := by simp [lineL]
theorem lineL_succ (x y m : Nat) : lineL x y (m + 1) = lineL x y m ++ [lineW x y m] := by simp [lineL, List.range_succ]
theorem lineL_get (x y : Nat) {m i : Nat} (h : i < m) : (lineL x y m).getD i 0 = lineW x y i := by simp [lineL, h]
theorem rep_get {n i : Nat} (h : i < n) : (List.replicate n true).getD i false = true := by simp [List.getD_eq_getElem?_getD, List.getElem?_replicate, h]
theorem lineW_qv {x y i : Nat} (hx : x < 9) (hy : y < 9) (hi : i < 60) : QV S (lineW x y i) (((x : Rat) - 4) + ((y : Rat) - 4) / 4 * (i : Rat)) :=
  qv_of_B (List.all_eq_true.1 (List.all_eq_true.1 (List.all_eq_true.1 lineAll x (List.mem_range.2 hx)) y (List.mem_range.2 hy)) i (List.mem_range.2 hi))
theorem slope_qv {y : Nat} (hy : y < 9) : QV S (qf ((y : Int) - 4) 1082130432) (((y : Rat) - 4) / 4) := qv_of_B (List.all_eq_true.1 slo_all y (List.mem_range.2 hy))
theorem base_all : ((List.range 9).all fun x => qvB (fI ((x : Int) - 4)) ((x : Rat) - 4)) = true := by decide +kernel
theorem base_qv {x : Nat} (hx : x < 9) : QV S (fI ((x : Int) - 4)) ((x : Rat) - 4) := qv_of_B (List.all_eq_true.1 base_all x (List.mem_range.2 hx))
theorem int_all : ((List.range 60).all fun i => qvB (fI (i : Int)) (i : Rat)) = true := by decide +kernel
theorem int_qv {i : Nat} (hi : i < 60) : QV S (fI (i : Int)) (i : Rat) := qv_of_B (List.all_eq_true.1 int_all i (List.mem_range.2 hi))
theorem follow_trQ {l v a b c n d t j x y : Nat} {L V A B C D E : Rat} (h : DT2 l v a b c n d t j L V A B C D E) (hx : x < 9) (hy : y < 9) :
    ∃ l' v' a' b' c' n' d' t' es, trQ [l, v, a, b, c, n, 1048576000, 1048576000] (lineL x y 60) (List.replicate 60 true) = ([l', v', a', b', c', n', d', t'], es, true) ∧
      (S.read l').isNaN = false ∧ (S.read v').isNaN = false ∧ ((Ieee.double.read (wd l')).isNaN = false ∧ (Ieee.double.read (wd v')).isNaN = false ∧ (Ieee.double.read (wd (qf ((y : Int) - 4) 1082130432))).isNaN = false ∧ (Ieee.double.read (wd (lineW x y 59))).isNaN = false) ∧ (Ieee.double.read (gapF (wd v') (wd (qf ((y : Int) - 4) 1082130432)))).isNaN = false ∧ fc .lss .f64 (gapF (wd v') (wd (qf ((y : Int) - 4) 1082130432))) 4587366580439587226 = true ∧
      (Ieee.double.read (gapF (wd l') (wd (lineW x y 59)))).isNaN = false ∧ fc .lss .f64 (gapF (wd l') (wd (lineW x y 59))) 4591870180066957722 = true := by
  obtain ⟨hw, n1, n2, hok⟩ := trendOk_DT h
  obtain ⟨hl, hv, ha, hb, hc, hn, hd, ht, hj, ⟨a1, a2⟩, ⟨a3, a4⟩, ⟨a5, a6⟩, ⟨a7, a8⟩, ⟨a9, a10⟩, ⟨a11, a12⟩, ⟨a13, a14⟩⟩ := h
  obtain ⟨x1, x2⟩ := rb (show x < 8 + 1 by omega)
  obtain ⟨y1, y2⟩ := rb (show y < 8 + 1 by omega)
  rw [show ((8 : Nat) : Rat) = 8 from rfl] at x2 y2
  have hw2 : TW l v a b c n 1048576000 1048576000 L V A B C (((j : Rat) + 1) / 4) (1 / 4) (1 / 4) := ⟨hl, hv, ha, hb, hc, hn, quarter_qv, quarter_qv⟩
  have hX : ∀ i, i < 60 → QV S ((lineL x y 60).getD i 0) (((x : Rat) - 4 - ((y : Rat) - 4) / 4) + ((i + 1 : Nat) : Rat) * (((y : Rat) - 4) / 4)) ∧ (List.replicate 60 true).getD i false = true := by
    intro i hi
    rw [lineL_get x y hi]
    refine ⟨?_, rep_get hi⟩
    have h := lineW_qv hx hy hi
    have e : (((x : Rat) - 4 - ((y : Rat) - 4) / 4) + ((i + 1 : Nat) : Rat) * (((y : Rat) - 4) / 4)) = ((x : Rat) - 4) + ((y : Rat) - 4) / 4 * (i : Rat) := by
      rw [show ((i + 1 : Nat) : Rat) = (i : Rat) + 1 by rw [Rat.natCast_add]; rfl]; grind
    rw [e]; exact h
  obtain ⟨ho, l', v', a', b', c', n', d', t', L', V', e0, q1, q2, ⟨q3, q4⟩, q5, q6⟩ := follow hj (q := (x : Rat) - 4 - ((y : Rat) - 4) / 4) (m := ((y : Rat) - 4) / 4) (by grind) (by grind) (by grind) (by grind) hX hw2 a1 a2 a3 a4 a5 a6 a7 a8 a9 a10
  have hs : series (lineL x y 60) = true := by
    have hf : allFin (lineL x y 60) = true := List.all_eq_true.2 fun c hc => by
      obtain ⟨i, hi, rfl⟩ := List.mem_map.1 hc
      have hi := List.mem_range.1 hi
      obtain ⟨i1, i2⟩ := rb (show i < 59 + 1 by omega)
      rw [show ((59 : Nat) : Rat) = 59 from rfl] at i2
      have m := mul_bd (x := ((y : Rat) - 4) / 4) (X := 1) (y := (i : Rat)) (Y := 59) (by grind) (by grind) (by grind) (by grind)
      exact qv_fin (lineW_qv hx hy hi) (by grind) (by grind)
    rw [series, lineL_length, hf]; rfl
  have hok2 : trendOkL [l, v, a, b, c, n, 1048576000, 1048576000] = true := hw2.ok (by grind) (by grind) (by grind) (by grind) (by grind) (by grind) (by grind) (by grind) (by grind) (by grind) (by grind) (by grind) (by grind) (by grind) (by grind) (by grind)
  have hz : (trAt [l, v, a, b, c, n, 1048576000, 1048576000] (lineL x y 60) (List.replicate 60 true) 60) = ([l', v', a', b', c', n', d', t'], (trAt [l, v, a, b, c, n, 1048576000, 1048576000] (lineL x y 60) (List.replicate 60 true) 60).2.1, true) := Prod.ext e0 (Prod.ext rfl ho)
  obtain ⟨_, w1, w2, w3⟩ := wd_nr q1 (Nr.refl L') (by grind) (by grind) (by decide +kernel) (f := 1 / 1000000) (by decide +kernel)
  obtain ⟨_, w4, w5, w6⟩ := wd_nr q2 (Nr.refl V') (by grind) (by grind) (by decide +kernel) (f := 1 / 1000000) (by decide +kernel)
  obtain ⟨_, w7, w8, w9⟩ := wd_nr (slope_qv hy) (Nr.refl _) (by grind) (by grind) (by decide +kernel) (f := 1 / 1000000) (by decide +kernel)
  have l59 := lineW_qv hx hy (show 59 < 60 by omega)
  rw [show ((59 : Nat) : Rat) = 59 from rfl] at l59
  obtain ⟨_, w10, w11, w12⟩ := wd_nr l59 (Nr.refl _) (by grind) (by grind) (by decide +kernel) (f := 1 / 1000000) (by decide +kernel)
  obtain ⟨g, hg, hgb⟩ := gap_qv w4 w7 (e := 49 / 1000) (by grind) (by grind) (by constructor <;> grind) (by decide +kernel)
  obtain ⟨k, hk, hk2⟩ := c05
  obtain ⟨g', hg', hgb'⟩ := gap_qv w1 w10 (e := 99 / 1000) (by grind) (by grind) (by constructor <;> grind) (by decide +kernel)
  obtain ⟨k', hk', hk2'⟩ := c1
  refine ⟨l', v', a', b', c', n', d', t', (trAt [l, v, a, b, c, n, 1048576000, 1048576000] (lineL x y 60) (List.replicate 60 true) 60).2.1, ?_, q1.notNaN, q2.notNaN, ⟨w1.notNaN, w4.notNaN, w7.notNaN, w10.notNaN⟩, hg.notNaN, by rw [lssD_qv hg hk]; exact decide_eq_true (by grind), hg'.notNaN, by rw [lssD_qv hg' hk']; exact decide_eq_true (by grind)⟩
  rw [trQ_yes]
  · rw [lineL_length]; exact hz
  · rw [hok2, hs, lineL_length, List.length_replicate, ho]; rfl

end Go.Proofs.Ytkkomajokdlkeaa
