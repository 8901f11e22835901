/- Operations that yield no NaN, at every world; gaps. -/
import Derived.Test.YtkkomajokdlkeaaTu
namespace Go.Proofs.Ytkkomajokdlkeaa
set_option linter.unusedSimpArgs false
set_option linter.unusedVariables false
set_option maxRecDepth 100000
set_option maxHeartbeats 4000000
open Go.RowKit
set_option linter.unusedSimpArgs false
set_option linter.unusedVariables false
theorem cn64_raw {r c : Nat} (h : cn .f64 r = c) (hc : (Ieee.double.read c).isNaN = false) : r = c := by
  cases hr : (FloatKind.f64.format.read r).isNaN
  · rw [← h, cn_of_not hr]
  · rw [cn_of_nan hr] at h
    rw [← h] at hc
    have h2 : (Ieee.double.read (qnan .f64)).isNaN = true := qnan_isNaN .f64
    rw [h2] at hc; cases hc
theorem run_wdx {P : Program} (w : World) (src dst : TypeId) (b : Nat) (hs : (P.underlying src).isSome = true) (hd : P.underlying dst = some (.float .f64)) (hn : (S.read b).isNaN = false) :
    (convert src dst (.float .f32 b)).run P w = .ok (.float .f64 (wd b)) w := by
  have e : wd b = Ieee.double.write (S.read b) := by unfold wd; rw [if_neg (by simp [hn])]
  rw [e]
  refine run_convert_float_float (P := P) w src dst .f32 .f64 b _ hs hd ?_
  unfold floatToFloatBits
  rw [if_neg (by decide)]
  show (match S.read b with | .nan _ _ => none | .infinity s => some (FloatKind.f64.encode (.infinity s)) | .number s m e => if (FloatKind.f64.decode (FloatKind.f64.encode (.number s m e))).isInfinity = true then none else some (FloatKind.f64.encode (.number s m e))) = _
  obtain ⟨r, hr, hw, hi⟩ := wide_ok b hn
  cases hd : S.read b with
  | nan s t => rw [hd] at hn; simp [Ieee.Datum.isNaN] at hn
  | infinity s => rfl
  | number s m e =>
    rw [hd] at hw hi
    have h1 : FloatKind.f64.encode (.number s m e) = Ieee.double.word s r := hw
    have h2 : (FloatKind.f64.decode (FloatKind.f64.encode (.number s m e))).isInfinity = false := by
      rw [h1]; exact read_word_inf Ieee.double (by decide +kernel) s (by rw [d_inf]; exact hi rfl)
    dsimp only
    rw [h2]; rfl
theorem run_arx64T {P : Program} (op : BinOp) (x y D : Nat) (hD : ar op .f64 (cn .f64 x) (cn .f64 y) = D) (hn : (Ieee.double.read D).isNaN = false) (t : TypeId) (w : World) :
    (binOp op t (.float .f64 x) (.float .f64 y)).run P w = .ok (.float .f64 D) w := by
  rw [ar_cn] at hD
  cases h : floatBits op .f64 x y with
  | some r =>
    have : r = D := by rw [← hD]; simp [ar, h]
    subst this
    exact run_float_arith w op t .f64 x y r h
  | none =>
    have : D = qnan .f64 := by rw [← hD]; simp [ar, h]
    subst this
    have h2 : (Ieee.double.read (qnan .f64)).isNaN = true := qnan_isNaN .f64
    rw [h2] at hn; cases hn
theorem run_arxT {P : Program} (op : BinOp) (x y D : Nat) (hD : ar op .f32 (cn .f32 x) (cn .f32 y) = D) (hn : (S.read D).isNaN = false) (t : TypeId) (w : World) :
    (binOp op t (.float .f32 x) (.float .f32 y)).run P w = .ok (.float .f32 D) w := by
  rw [ar_cn] at hD
  cases h : floatBits op .f32 x y with
  | some r =>
    have : r = D := by rw [← hD]; simp [ar, h]
    subst this
    exact run_float_arith w op t .f32 x y r h
  | none =>
    have : D = qnan .f32 := by rw [← hD]; simp [ar, h]
    subst this
    have h2 : (S.read (qnan .f32)).isNaN = true := qnan_isNaN .f32
    rw [h2] at hn; cases hn
theorem cn32_raw {r c : Nat} (h : cn .f32 r = c) (hc : (S.read c).isNaN = false) : r = c := by
  cases hr : (FloatKind.f32.format.read r).isNaN
  · rw [← h, cn_of_not hr]
  · rw [cn_of_nan hr] at h
    rw [← h] at hc
    have h2 : (S.read (qnan .f32)).isNaN = true := qnan_isNaN .f32
    rw [h2] at hc; cases hc
theorem lss_lt {a b : Nat} (h : fc .lss .f64 a b = true) : FloatKind.f64.format.order a b = some .lt := eq_of_beq (show (FloatKind.f64.format.order a b == some .lt) = true from h)
theorem DT2.z {l v a b c n d t j : Nat} {L V A B C D E : Rat} (h : DT2 l v a b c n d t j L V A B C D E) {i : Nat} (hi : i < 8) : -100 ≤ L + ((i + 1 : Nat) : Rat) * V ∧ L + ((i + 1 : Nat) : Rat) * V ≤ 100 := by
  obtain ⟨-, -, -, -, -, -, -, -, -, ⟨a1, a2⟩, ⟨a3, a4⟩, -⟩ := h
  obtain ⟨j1, j2⟩ := rb (show i < 7 + 1 by omega)
  rw [show ((7 : Nat) : Rat) = 7 from rfl] at j2
  rw [show ((i + 1 : Nat) : Rat) = (i : Rat) + 1 by rw [Rat.natCast_add]; rfl]
  have b := mul_bd (x := (i : Rat) + 1) (X := 8) (y := V) (Y := 1) (by grind) (by grind) a3 a4
  constructor <;> grind
theorem wd_not {a : Nat} {x : Rat} (h : QV S a x) (h1 : -999 ≤ x) (h2 : x ≤ 999) : (Ieee.double.read (wd a)).isNaN = false := by
  obtain ⟨_, w1, -⟩ := wd_nr h (Nr.refl x) h1 h2 (by decide +kernel) (f := 1 / 1000000) (by decide +kernel)
  exact w1.notNaN

theorem l_b10GapQ (a b : Nat) (ha : (Ieee.double.read a).isNaN = false) (hb : (Ieee.double.read b).isNaN = false) (h : (Ieee.double.read (gapF a b)).isNaN = false) (w : World) : Calls Try.prog 29 #[.float .f64 a, .float .f64 b] w fun e w' => e = .returned (.float .f64 (gapF a b)) ∧ Dr w w' := by
  refine (l_b10Gap a b w).mono ?_
  rintro e w' ⟨⟨r, rfl, hr⟩, hd⟩
  rw [cn_of_not (k := .f64) ha, cn_of_not (k := .f64) hb] at hr
  refine ⟨?_, hd⟩
  rw [cn64_raw hr h]

end Go.Proofs.Ytkkomajokdlkeaa
