/- A step of a trend, in numbers: how far words are from fractions. Plain. -/
import Derived.Test.YtkkomajokdlkeaaQ6
import Derived.Test.YtkkomajokdlkeaaQ14
namespace Go.Proofs.Ytkkomajokdlkeaa
set_option linter.unusedSimpArgs false
set_option linter.unusedVariables false
set_option maxRecDepth 100000
set_option maxHeartbeats 4000000
open Go.RowKit
set_option linter.unusedSimpArgs false
set_option linter.unusedVariables false

/-- Within a distance. -/
def Nr (e x y : Rat) : Prop := x - e ≤ y ∧ y ≤ x + e
theorem Nr.refl (x : Rat) : Nr 0 x x := by constructor <;> grind
theorem Nr.mono {e f x y : Rat} (h : Nr e x y) (hf : e ≤ f) : Nr f x y := by obtain ⟨h1, h2⟩ := h; constructor <;> grind
theorem Ns.nr {x y z M e f : Rat} (h : Ns e32 y z) (hx : Nr e x y) (h1 : -M ≤ x) (h2 : x ≤ M) (hf : e + (M + e) / 8388608 + 1 / 1152921504606846976 ≤ f) : Nr f x z := by
  obtain ⟨a, b⟩ := hx
  have := h.2.2 (M + e) (by grind) (by grind)
  constructor <;> grind
theorem nr_add {a b : Nat} {x y x' y' e1 e2 f M : Rat} (ha : QV S a x') (hb : QV S b y') (hx : Nr e1 x x') (hy : Nr e2 y y') (h1 : -M ≤ x + y) (h2 : x + y ≤ M) (hf : e1 + e2 + (M + (e1 + e2)) / 8388608 + 1 / 1152921504606846976 ≤ f) (hM : M + (e1 + e2) ≤ 1000) : ∃ z, QV S (addF a b) z ∧ Nr f (x + y) z := by
  obtain ⟨p1, p2⟩ := hx
  obtain ⟨q1, q2⟩ := hy
  obtain ⟨z, hz, hn⟩ := addF_qv ha hb (by unfold big; grind) (by unfold big; grind)
  exact ⟨z, hz, hn.nr (e := e1 + e2) (by constructor <;> grind) h1 h2 hf⟩
theorem nr_sub {a b : Nat} {x y x' y' e1 e2 f M : Rat} (ha : QV S a x') (hb : QV S b y') (hx : Nr e1 x x') (hy : Nr e2 y y') (h1 : -M ≤ x - y) (h2 : x - y ≤ M) (hf : e1 + e2 + (M + (e1 + e2)) / 8388608 + 1 / 1152921504606846976 ≤ f) (hM : M + (e1 + e2) ≤ 1000) : ∃ z, QV S (subF a b) z ∧ Nr f (x - y) z := by
  obtain ⟨p1, p2⟩ := hx
  obtain ⟨q1, q2⟩ := hy
  obtain ⟨z, hz, hn⟩ := subF_qv ha hb (by unfold big; grind) (by unfold big; grind)
  exact ⟨z, hz, hn.nr (e := e1 + e2) (by constructor <;> grind) h1 h2 hf⟩
theorem nr_prod {x y x' y' e1 e2 X Y : Rat} (hx : Nr e1 x x') (hy : Nr e2 y y') (h1 : -X ≤ x) (h2 : x ≤ X) (h3 : -Y ≤ y) (h4 : y ≤ Y) : Nr (e1 * (Y + e2) + X * e2) (x * y) (x' * y') := by
  obtain ⟨p1, p2⟩ := hx
  obtain ⟨q1, q2⟩ := hy
  have a := mul_bd (x := x' - x) (y := y') (X := e1) (Y := Y + e2) (by grind) (by grind) (by grind) (by grind)
  have b := mul_bd (x := x) (y := y' - y) (X := X) (Y := e2) (by grind) (by grind) (by grind) (by grind)
  constructor <;> grind
theorem nr_mul {a b : Nat} {x y x' y' e1 e2 f X Y : Rat} (ha : QV S a x') (hb : QV S b y') (hx : Nr e1 x x') (hy : Nr e2 y y') (h1 : -X ≤ x) (h2 : x ≤ X) (h3 : -Y ≤ y) (h4 : y ≤ Y)
    (hf : (e1 * (Y + e2) + X * e2) + (X * Y + (e1 * (Y + e2) + X * e2)) / 8388608 + 1 / 1152921504606846976 ≤ f) (hM : X * Y + (e1 * (Y + e2) + X * e2) ≤ 1000) : ∃ z, QV S (mulF a b) z ∧ Nr f (x * y) z := by
  have hp := nr_prod hx hy h1 h2 h3 h4
  have hxy := mul_bd h1 h2 h3 h4
  obtain ⟨p1, p2⟩ := hp
  obtain ⟨z, hz, hn⟩ := mulF_qv ha hb (by unfold big; grind) (by unfold big; grind)
  exact ⟨z, hz, hn.nr ⟨p1, p2⟩ hxy.1 hxy.2 hf⟩
/-- A quotient from 0 to 1, the divisor 1/2 at least. -/
theorem nr_div {a b : Nat} {x F x' F' K e1 e2 f : Rat} (ha : QV S a x') (hb : QV S b F') (hx : Nr e1 x x') (hF : Nr e2 F F') (hK : K * F = x) (h0 : 0 ≤ K) (h1 : K ≤ 1) (hF2 : 1 / 2 ≤ F) (he2 : e2 ≤ 1 / 16) (he0 : 0 ≤ e1) (he3 : 0 ≤ e2) (he1 : e1 ≤ 1 / 16)
    (hf : (e1 + e2) * (16 / 7) + (1 + (e1 + e2) * (16 / 7)) / 2097152 + 1 / 1152921504606846976 ≤ f) : ∃ z, QV S (divF a b) z ∧ Nr f K z := by
  obtain ⟨p1, p2⟩ := hx
  obtain ⟨q1, q2⟩ := hF
  have hF' : 0 < F' := by grind
  obtain ⟨w, hw⟩ : ∃ w : Rat, w * F' = x' := ⟨x' / F', Rat.div_mul_cancel (by grind)⟩
  have b := mul_bd (x := K) (y := F' - F) (X := 1) (Y := e2) (by grind) (by grind) (by grind) (by grind)
  have c1 : 0 ≤ (e1 + e2) * (16 / 7) - (w - K) := by
    have d := Rat.mul_nonneg (show 0 ≤ e1 + e2 by grind) (show 0 ≤ F' - 7 / 16 by grind)
    exact nn_of_mul hF' (by grind)
  have c2 : 0 ≤ (e1 + e2) * (16 / 7) + (w - K) := by
    have d := Rat.mul_nonneg (show 0 ≤ e1 + e2 by grind) (show 0 ≤ F' - 7 / 16 by grind)
    exact nn_of_mul hF' (by grind)
  obtain ⟨z, hz, hn⟩ := divF_qv ha hb (by grind) hw (by grind) (by grind)
  have h := hn.2.2 (1 + (e1 + e2) * (16 / 7)) (by grind) (by grind)
  exact ⟨z, hz, by constructor <;> grind⟩
theorem qv_zero : QV S 0 0 := ⟨false, 0, -149, by decide +kernel, by unfold sg; simp⟩
theorem qv_fin {c : Nat} {x : Rat} (h : QV S c x) (h1 : -1000 ≤ x) (h2 : x ≤ 1000) : fin c = true := by
  obtain ⟨z, hz, n1, n2, -⟩ := subF_qv h h (by unfold big; grind) (by unfold big; grind)
  have e : z = 0 := by have := n1 (by grind); have := n2 (by grind); grind
  subst e
  show (S.order (subF c c) 0 == some .eq) = true
  rw [hz.order qv_zero, if_neg (by grind), if_pos rfl]; rfl
theorem qv_least {c : Nat} {x : Rat} (h : QV S c x) (h1 : 0 ≤ x) (h2 : x ≤ 1000) : least c = true := by
  have e : fc .geq .f32 c 0 = true := by
    show (S.order c 0 == some .gt || S.order c 0 == some .eq) = true
    rw [h.order qv_zero, if_neg (by grind)]
    split <;> rfl
  rw [least, qv_fin h (by grind) h2, e]; rfl

end Go.Proofs.Ytkkomajokdlkeaa

namespace Go.Proofs.Ytkkomajokdlkeaa
set_option linter.unusedSimpArgs false
set_option linter.unusedVariables false
set_option maxRecDepth 100000
set_option maxHeartbeats 4000000
open Go.RowKit

/-- Data that are one up to their sign. -/
def us : Ieee.Datum → Ieee.Datum → Prop
  | .number _ m i, .number _ n j => m = n ∧ i = j
  | .infinity _, .infinity _ => True
  | _, _ => False
def ou : Option Ieee.Datum → Option Ieee.Datum → Prop
  | none, none => True
  | some x, some y => us x y
  | _, _ => False
theorem signed_not (s : Bool) (m k : Nat) : Ieee.signed (!s) m k = -Ieee.signed s m k := by cases s <;> simp [Ieee.signed]
theorem sub_us (x y : Ieee.Datum) : ou (x.sum y.opposite) (y.sum x.opposite) := by
  cases x <;> cases y <;> simp only [Ieee.Datum.sum, Ieee.Datum.opposite]
  case number.number s m i t n j =>
    rw [signed_not, signed_not, Int.min_comm j i]
    refine ⟨?_, rfl⟩
    have : Ieee.signed t n (j - min i j).toNat + -Ieee.signed s m (i - min i j).toNat = -(Ieee.signed s m (i - min i j).toNat + -Ieee.signed t n (j - min i j).toNat) := by omega
    rw [this, Int.natAbs_neg]
  case infinity.infinity s t =>
    cases s <;> cases t <;> first | exact trivial | (simp [ou, us])
  all_goals first | exact trivial | (simp [ou, us])
theorem cut_sign (s t : Bool) (n d : Nat) : Ieee.Toward.even.cut s n d = Ieee.Toward.even.cut t n d := rfl
theorem write_us {x y : Ieee.Datum} (h : us x y) : ∃ s t r, r ≤ S.infRung ∧ S.write x = S.word s r ∧ S.write y = S.word t r := by
  cases x <;> cases y <;> simp only [us] at h
  case number.number s m i t n j =>
    obtain ⟨rfl, rfl⟩ := h
    by_cases hm : m = 0
    · subst hm
      exact ⟨s, t, 0, Nat.zero_le _, by simp [Ieee.Format.write, Ieee.Format.nearest], by simp [Ieee.Format.write, Ieee.Format.nearest]⟩
    · refine ⟨s, t, _, ?_, by simp only [Ieee.Format.write, Ieee.Format.nearest]; rw [if_neg hm], by simp only [Ieee.Format.write, Ieee.Format.nearest]; rw [if_neg hm, cut_sign t s]⟩
      exact Nat.min_le_right _ _
  case infinity.infinity s t => exact ⟨s, t, _, Nat.le_refl _, rfl, rfl⟩
theorem read_word_us (s t : Bool) {r : Nat} (h : r ≤ S.infRung) : us (S.read (S.word s r)) (S.read (S.word t r)) := by
  have h1 := word_mod S s (Nat.lt_of_le_of_lt h S.infRung_lt)
  have h2 := word_mod S t (Nat.lt_of_le_of_lt h S.infRung_lt)
  unfold Ieee.Format.read
  dsimp only
  rw [h1, h2]
  split
  · exact ⟨rfl, rfl⟩
  · split
    · exact ⟨rfl, rfl⟩
    · rw [if_pos (by omega), if_pos (by omega)]; exact trivial
theorem square_us {x y : Ieee.Datum} (h : us x y) : x.product x = y.product y := by
  cases x <;> cases y <;> simp only [us] at h
  case number.number s m i t n j =>
    obtain ⟨rfl, rfl⟩ := h
    simp [Ieee.Datum.product]
  case infinity.infinity s t => simp [Ieee.Datum.product]
/-- The square of a difference. -/
theorem sq_sub (a b : Nat) : mulF (subF a b) (subF a b) = mulF (subF b a) (subF b a) := by
  have h := sub_us (S.read a) (S.read b)
  have e1 : subF a b = (((S.read a).sum (S.read b).opposite).map S.write).getD (qnan .f32) := rfl
  have e2 : subF b a = (((S.read b).sum (S.read a).opposite).map S.write).getD (qnan .f32) := rfl
  rw [e1, e2]
  generalize (S.read a).sum (S.read b).opposite = x at *
  generalize (S.read b).sum (S.read a).opposite = y at *
  cases x <;> cases y <;> first | rfl | (exact h.elim) | skip
  rename_i x y
  obtain ⟨s, t, r, hr, h1, h2⟩ := write_us h
  have m : ∀ c, mulF c c = (((S.read c).product (S.read c)).map S.write).getD (qnan .f32) := fun _ => rfl
  show mulF (S.write x) (S.write x) = mulF (S.write y) (S.write y)
  rw [h1, h2, m, m, square_us (read_word_us s t hr)]

/-- The greater one, as Go's built-in has it. -/
def mx (x y : Nat) : Nat :=
  match S.order x y with
  | none => 0
  | some .lt => y
  | some .gt => x
  | some .eq => if (S.read x).neg then y else x
theorem run_mx {P : Program} (ts : Array TypeId) (t : TypeId) (x y : Nat) (hx : (S.read x).isNaN = false) (hy : (S.read y).isNaN = false) (w : World) :
    (Builtin.max_ ts t #[.float .f32 x, .float .f32 y]).run P w = .ok (.float .f32 (mx x y)) w := by
  have ho : S.order x y ≠ none := by
    unfold Ieee.Format.order
    cases h1 : S.read x <;> cases h2 : S.read y <;> rw [h1] at hx <;> rw [h2] at hy <;> simp [Ieee.Datum.isNaN] at hx hy <;> simp [Ieee.Datum.order]
  have ho2 : FloatKind.f32.format.order x y = S.order x y := rfl
  unfold mx
  cases h : S.order x y with
  | none => exact absurd h ho
  | some o =>
    cases o <;> simp [Builtin.max_, Builtin.max2, ho2, h]
    rfl
theorem mx_lt {x y : Nat} (hx : x < 4294967296) (hy : y < 4294967296) : mx x y < 4294967296 := by
  unfold mx
  split <;> first | assumption | omega | (split <;> assumption)
theorem fin_notNaN {c : Nat} (h : fin c = true) : (S.read c).isNaN = false := by
  cases e : (S.read c).isNaN
  · rfl
  · have h1 : fc .eql .f32 (ar .sub .f32 c c) 0 = true := h
    have h2 : floatBits .sub .f32 c c = none := floatBits_nan_l e
    have h3 : ar .sub .f32 c c = qnan .f32 := by unfold ar; rw [h2]; rfl
    rw [h3] at h1
    revert h1
    decide +kernel
theorem raw_of {x c : Nat} (h : cn .f32 x = c) (hc : fin c = true) : x = c ∧ (S.read x).isNaN = false := by
  have h1 := fin_notNaN hc
  have h2 : (S.read x).isNaN = false := by
    have := isNaN_cn .f32 x
    rw [h] at this
    rw [show (S.read x).isNaN = (FloatKind.f32.format.read x).isNaN from rfl, ← this]; exact h1
  exact ⟨by rw [← h]; exact (cn_of_not (k := .f32) h2).symm, h2⟩
theorem mx_or (x y : Nat) : mx x y = x ∨ mx x y = y ∨ mx x y = 0 := by
  unfold mx
  split
  · exact .inr (.inr rfl)
  · exact .inr (.inl rfl)
  · exact .inl rfl
  · split
    · exact .inr (.inl rfl)
    · exact .inl rfl
theorem mx_fin {x y : Nat} (hx : fin x = true) (hy : fin y = true) : fin (mx x y) = true := by
  rcases mx_or x y with h | h | h <;> rw [h]
  · exact hx
  · exact hy
  · decide +kernel

end Go.Proofs.Ytkkomajokdlkeaa

namespace Go.Proofs.Ytkkomajokdlkeaa
set_option linter.unusedSimpArgs false
set_option linter.unusedVariables false
set_option maxRecDepth 100000
set_option maxHeartbeats 4000000
open Go.RowKit
set_option linter.unusedSimpArgs false
set_option linter.unusedVariables false
theorem cn64_rawT {r c : Nat} (h : cn .f64 r = c) (hc : (Ieee.double.read c).isNaN = false) : r = c := by
  cases hr : (FloatKind.f64.format.read r).isNaN
  · rw [← h, cn_of_not hr]
  · rw [cn_of_nan hr] at h
    rw [← h] at hc
    have h2 : (Ieee.double.read (qnan .f64)).isNaN = true := qnan_isNaN .f64
    rw [h2] at hc; cases hc
theorem run_wdxT {P : Program} (w : World) (src dst : TypeId) (b : Nat) (hs : (P.underlying src).isSome = true) (hd : P.underlying dst = some (.float .f64)) (hn : (S.read b).isNaN = false) :
    (convert src dst (.float .f32 b)).run P w = .ok (.float .f64 (wd b)) w := by
  have e : wd b = Ieee.double.write (S.read b) := by unfold wd; rw [if_neg (by simp [hn])]
  rw [e]
  refine run_convert_float_float (P := P) w src dst .f32 .f64 b _ hs hd ?_
  unfold floatToFloatBits
  rw [if_neg (by decide)]
  show (match S.read b with | .nan _ _ => none | .infinity s => some (FloatKind.f64.encode (.infinity s)) | .number s m e => if (FloatKind.f64.decode (FloatKind.f64.encode (.number s m e))).isInfinity = true then none else some (FloatKind.f64.encode (.number s m e))) = _
  obtain ⟨r, hr, hw, hi⟩ := wide_ok b hn
  cases hd : S.read b with
  | nan s t => rw [hd] at hn; simp [Ieee.Datum.isNaN] at hn
  | infinity s => rfl
  | number s m e =>
    rw [hd] at hw hi
    have h1 : FloatKind.f64.encode (.number s m e) = Ieee.double.word s r := hw
    have h2 : (FloatKind.f64.decode (FloatKind.f64.encode (.number s m e))).isInfinity = false := by
      rw [h1]; exact read_word_inf Ieee.double (by decide +kernel) s (by rw [d_inf]; exact hi rfl)
    dsimp only
    rw [h2]; rfl
theorem run_arx64T {P : Program} (op : BinOp) (x y D : Nat) (hD : ar op .f64 (cn .f64 x) (cn .f64 y) = D) (hn : (Ieee.double.read D).isNaN = false) (t : TypeId) (w : World) :
    (binOp op t (.float .f64 x) (.float .f64 y)).run P w = .ok (.float .f64 D) w := by
  rw [ar_cn] at hD
  cases h : floatBits op .f64 x y with
  | some r =>
    have : r = D := by rw [← hD]; simp [ar, h]
    subst this
    exact run_float_arith w op t .f64 x y r h
  | none =>
    have : D = qnan .f64 := by rw [← hD]; simp [ar, h]
    subst this
    have h2 : (Ieee.double.read (qnan .f64)).isNaN = true := qnan_isNaN .f64
    rw [h2] at hn; cases hn
theorem run_arxT {P : Program} (op : BinOp) (x y D : Nat) (hD : ar op .f32 (cn .f32 x) (cn .f32 y) = D) (hn : (S.read D).isNaN = false) (t : TypeId) (w : World) :
    (binOp op t (.float .f32 x) (.float .f32 y)).run P w = .ok (.float .f32 D) w := by
  rw [ar_cn] at hD
  cases h : floatBits op .f32 x y with
  | some r =>
    have : r = D := by rw [← hD]; simp [ar, h]
    subst this
    exact run_float_arith w op t .f32 x y r h
  | none =>
    have : D = qnan .f32 := by rw [← hD]; simp [ar, h]
    subst this
    have h2 : (S.read (qnan .f32)).isNaN = true := qnan_isNaN .f32
    rw [h2] at hn; cases hn
theorem cn32_rawT {r c : Nat} (h : cn .f32 r = c) (hc : (S.read c).isNaN = false) : r = c := by
  cases hr : (FloatKind.f32.format.read r).isNaN
  · rw [← h, cn_of_not hr]
  · rw [cn_of_nan hr] at h
    rw [← h] at hc
    have h2 : (S.read (qnan .f32)).isNaN = true := qnan_isNaN .f32
    rw [h2] at hc; cases hc
theorem wd_nr {a : Nat} {x x' e f : Rat} (ha : QV S a x') (h : Nr e x x') (x1 : -999 ≤ x) (x2 : x ≤ 999) (he : e ≤ 1) (hf : e + 1 / 1000000 ≤ f) : ∃ z, QV D (wd a) z ∧ Nr f x z := by
  obtain ⟨h1, h2⟩ := h
  obtain ⟨z, hz, hn⟩ := wd_qv ha (by unfold big; grind) (by unfold big; grind)
  have := hn.2.2 1000 (by grind) (by grind)
  exact ⟨z, hz, by constructor <;> grind⟩
theorem gtrD_qv {a b : Nat} {x y : Rat} (ha : QV D a x) (hb : QV D b y) : fc .gtr .f64 a b = decide (y < x) := by
  show (D.order a b == some .gt) = _
  rw [ha.order hb]
  by_cases hx : x < y
  · rw [if_pos hx, decide_eq_false (by grind)]; rfl
  · rw [if_neg hx]
    by_cases hy : x = y
    · rw [if_pos hy, decide_eq_false (by grind)]; rfl
    · rw [if_neg hy, decide_eq_true (by grind)]; rfl
theorem lssD_qv {a b : Nat} {x y : Rat} (ha : QV D a x) (hb : QV D b y) : fc .lss .f64 a b = decide (x < y) := by
  show (D.order a b == some .lt) = _
  rw [ha.order hb]
  by_cases hx : x < y
  · rw [if_pos hx, decide_eq_true hx]; rfl
  · rw [if_neg hx, decide_eq_false hx]; split <;> rfl
def qvB (c : Nat) (x : Rat) : Bool := match S.read c with
  | .number s m p => decide (x = sg s ((m : Rat) * pw p))
  | _ => false
theorem qv_of_B {c : Nat} {x : Rat} (h : qvB c x = true) : QV S c x := by
  unfold qvB at h
  split at h
  · rename_i s m p e
    exact ⟨s, m, p, e, of_decide_eq_true h⟩
  · cases h

end Go.Proofs.Ytkkomajokdlkeaa

namespace Go.Proofs.Ytkkomajokdlkeaa
set_option linter.unusedSimpArgs false
set_option linter.unusedVariables false
set_option maxRecDepth 100000
set_option maxHeartbeats 4000000
open Go.RowKit

def fM (x : Nat) : Nat := if x < 8388608 then x else 8388608 + x % 8388608
def fK (x : Nat) : Nat := if x < 8388608 then 0 else x / 8388608 - 1
def fV (x : Nat) : Nat := fM x * 2 ^ fK x
theorem fV_succ (x : Nat) : fV x < fV (x + 1) := by
  unfold fV fM fK
  by_cases h1 : x + 1 < 8388608
  · rw [if_pos (by omega), if_pos (by omega), if_pos h1, if_pos h1]; omega
  · rw [if_neg h1, if_neg h1]
    by_cases h2 : x < 8388608
    · have e : x = 8388607 := by omega
      subst e; decide
    · rw [if_neg h2, if_neg h2]
      by_cases h3 : x % 8388608 + 1 < 8388608
      · have e1 : (x + 1) / 8388608 = x / 8388608 := by omega
        have e2 : (x + 1) % 8388608 = x % 8388608 + 1 := by omega
        rw [e1, e2]
        exact Nat.mul_lt_mul_of_pos_right (by omega) (Nat.two_pow_pos _)
      · have e1 : (x + 1) / 8388608 - 1 = (x / 8388608 - 1) + 1 := by omega
        have e2 : (x + 1) % 8388608 = 0 := by omega
        have e3 : x % 8388608 = 8388607 := by omega
        rw [e1, e2, e3, Nat.pow_succ]
        have := Nat.two_pow_pos (x / 8388608 - 1)
        generalize 2 ^ (x / 8388608 - 1) = p at *
        omega
theorem fV_lt {a b : Nat} (h : a < b) : fV a < fV b := by
  induction h with
  | refl => exact fV_succ a
  | step _ ih => exact Nat.lt_trans ih (fV_succ _)
theorem fV_zero : fV 0 = 0 := rfl
/-- Where a finite number lies. -/
def fkey (x : Nat) : Int := if x < 2147483648 then (fV x : Int) else -(fV (x - 2147483648) : Int)
theorem fin_mod {c : Nat} (hc : c < 4294967296) (h : fin c = true) : c % 2147483648 < 2139095040 := by
  rcases Nat.lt_trichotomy (c % 2147483648) 2139095040 with h1 | h1 | h1
  · exact h1
  · exfalso
    have : c = 2139095040 ∨ c = 4286578688 := by omega
    rcases this with rfl | rfl <;> exact absurd h (by decide +kernel)
  · exfalso
    have h2 := fin_notNaN h
    rw [read_single] at h2
    rw [if_neg (by omega), if_neg (by omega), if_neg (by omega)] at h2
    simp [Ieee.Datum.isNaN] at h2
theorem read_fin {c : Nat} (hc : c < 4294967296) (h : c % 2147483648 < 2139095040) : S.read c = .number (decide (2147483648 ≤ c)) (fM (c % 2147483648)) (-149 + (fK (c % 2147483648) : Int)) := by
  have hs : (c / 2147483648 % 2 == 1) = decide (2147483648 ≤ c) := by
    have h1 : c / 2147483648 = 0 ∨ c / 2147483648 = 1 := by omega
    rcases h1 with e | e <;> rw [e]
    · exact (decide_eq_false (by omega)).symm
    · exact (decide_eq_true (by omega)).symm
  rw [read_single, hs]
  generalize c % 2147483648 = r at *
  unfold fM fK
  by_cases h3 : r < 8388608
  · simp [h3]
  · simp [h3, h]
theorem signed_f (m j : Nat) : Ieee.signed false m j = ((m <<< j : Nat) : Int) := rfl
theorem signed_t (m j : Nat) : Ieee.signed true m j = -((m <<< j : Nat) : Int) := rfl
theorem signed_val (s : Bool) {r k : Nat} (hk : k ≤ fK r) : Ieee.signed s (fM r) (fK r - k) * ((2 ^ k : Nat) : Int) = if s then -(fV r : Int) else (fV r : Int) := by
  have e : fM r <<< (fK r - k) * 2 ^ k = fV r := by
    rw [Nat.shiftLeft_eq, Nat.mul_assoc, ← Nat.pow_add, Nat.sub_add_cancel hk, fV]
  cases s
  · rw [signed_f, ← Int.natCast_mul, e]; simp
  · rw [signed_t, Int.neg_mul, ← Int.natCast_mul, e]; simp
theorem fkey_eq {c : Nat} (hc : c < 4294967296) : fkey c = if decide (2147483648 ≤ c) then -(fV (c % 2147483648) : Int) else (fV (c % 2147483648) : Int) := by
  unfold fkey
  by_cases h : c < 2147483648
  · rw [if_pos h, Nat.mod_eq_of_lt h, if_neg (by simp; omega)]
  · have h2 : c % 2147483648 = c - 2147483648 := by omega
    rw [if_neg h, h2, if_pos (by simp; omega)]
theorem signed_key {c k : Nat} (hc : c < 4294967296) (hk : k ≤ fK (c % 2147483648)) : Ieee.signed (decide (2147483648 ≤ c)) (fM (c % 2147483648)) (fK (c % 2147483648) - k) * ((2 ^ k : Nat) : Int) = fkey c := by
  rw [signed_val _ hk, fkey_eq hc]
theorem cmp_lt {a b : Int} (h : a < b) : compare a b = .lt := by
  show (if a < b then Ordering.lt else if a = b then .eq else .gt) = _
  rw [if_pos h]
theorem cmp_eq {a b : Int} (h : a = b) : compare a b = .eq := by
  show (if a < b then Ordering.lt else if a = b then .eq else .gt) = _
  rw [if_neg (by omega), if_pos h]
theorem cmp_gt {a b : Int} (h : b < a) : compare a b = .gt := by
  show (if a < b then Ordering.lt else if a = b then .eq else .gt) = _
  rw [if_neg (by omega), if_neg (by omega)]
theorem compare_mul (a b : Int) (p : Nat) (hp : 0 < p) : compare (a * (p : Int)) (b * (p : Int)) = compare a b := by
  have hp' : (0 : Int) < p := by omega
  rcases Int.lt_trichotomy a b with h | h | h
  · rw [cmp_lt h, cmp_lt (Int.mul_lt_mul_of_pos_right h hp')]
  · subst h; rw [cmp_eq rfl, cmp_eq rfl]
  · rw [cmp_gt h, cmp_gt (Int.mul_lt_mul_of_pos_right h hp')]
theorem order_key {a b : Nat} (ha : a < 4294967296) (hb : b < 4294967296) (h1 : a % 2147483648 < 2139095040) (h2 : b % 2147483648 < 2139095040) : S.order a b = some (compare (fkey a) (fkey b)) := by
  unfold Ieee.Format.order
  rw [read_fin ha h1, read_fin hb h2]
  simp only [Ieee.Datum.order]
  have e1 : min (-149 + (fK (a % 2147483648) : Int)) (-149 + (fK (b % 2147483648) : Int)) = -149 + ((min (fK (a % 2147483648)) (fK (b % 2147483648)) : Nat) : Int) := by omega
  rw [e1]
  have hka : min (fK (a % 2147483648)) (fK (b % 2147483648)) ≤ fK (a % 2147483648) := Nat.min_le_left _ _
  have hkb : min (fK (a % 2147483648)) (fK (b % 2147483648)) ≤ fK (b % 2147483648) := Nat.min_le_right _ _
  generalize min (fK (a % 2147483648)) (fK (b % 2147483648)) = k at *
  have e2 : (-149 + (fK (a % 2147483648) : Int) - (-149 + (k : Int))).toNat = fK (a % 2147483648) - k := by omega
  have e3 : (-149 + (fK (b % 2147483648) : Int) - (-149 + (k : Int))).toNat = fK (b % 2147483648) - k := by omega
  rw [e2, e3, ← signed_key ha hka, ← signed_key hb hkb, compare_mul _ _ _ (Nat.two_pow_pos _)]
theorem fcl_key {a b : Nat} (ha : a < 4294967296) (hb : b < 4294967296) (h1 : fin a = true) (h2 : fin b = true) : fc .lss .f32 a b = decide (fkey a < fkey b) := by
  show (S.order a b == some .lt) = _
  rw [order_key ha hb (fin_mod ha h1) (fin_mod hb h2)]
  rcases Int.lt_trichotomy (fkey a) (fkey b) with h | h | h
  · rw [cmp_lt h, decide_eq_true h]; rfl
  · rw [h, cmp_eq rfl, decide_eq_false (by omega)]; rfl
  · rw [cmp_gt h, decide_eq_false (by omega)]; rfl
theorem fce_key {a b : Nat} (ha : a < 4294967296) (hb : b < 4294967296) (h1 : fin a = true) (h2 : fin b = true) : fc .eql .f32 a b = decide (fkey a = fkey b) := by
  show (S.order a b == some .eq) = _
  rw [order_key ha hb (fin_mod ha h1) (fin_mod hb h2)]
  rcases Int.lt_trichotomy (fkey a) (fkey b) with h | h | h
  · rw [cmp_lt h, decide_eq_false (by omega)]; rfl
  · rw [h, cmp_eq rfl, decide_eq_true rfl]; rfl
  · rw [cmp_gt h, decide_eq_false (by omega)]; rfl

end Go.Proofs.Ytkkomajokdlkeaa
