/- The square of a difference is that of its opposite; the greater one of two numbers. Plain: no program. -/
import Derived.Test.YtkkomajokdlkeaaFx
namespace Go.Proofs.Ytkkomajokdlkeaa
set_option linter.unusedSimpArgs false
set_option linter.unusedVariables false
set_option maxRecDepth 100000
set_option maxHeartbeats 4000000
open Go.RowKit

/-- Data that are one up to their sign. -/
def us : Ieee.Datum → Ieee.Datum → Prop
  | .number _ m i, .number _ n j => m = n ∧ i = j
  | .infinity _, .infinity _ => True
  | _, _ => False
def ou : Option Ieee.Datum → Option Ieee.Datum → Prop
  | none, none => True
  | some x, some y => us x y
  | _, _ => False
theorem signed_not (s : Bool) (m k : Nat) : Ieee.signed (!s) m k = -Ieee.signed s m k := by cases s <;> simp [Ieee.signed]
theorem sub_us (x y : Ieee.Datum) : ou (x.sum y.opposite) (y.sum x.opposite) := by
  cases x <;> cases y <;> simp only [Ieee.Datum.sum, Ieee.Datum.opposite]
  case number.number s m i t n j =>
    rw [signed_not, signed_not, Int.min_comm j i]
    refine ⟨?_, rfl⟩
    have : Ieee.signed t n (j - min i j).toNat + -Ieee.signed s m (i - min i j).toNat = -(Ieee.signed s m (i - min i j).toNat + -Ieee.signed t n (j - min i j).toNat) := by omega
    rw [this, Int.natAbs_neg]
  case infinity.infinity s t =>
    cases s <;> cases t <;> first | exact trivial | (simp [ou, us])
  all_goals first | exact trivial | (simp [ou, us])
theorem cut_sign (s t : Bool) (n d : Nat) : Ieee.Toward.even.cut s n d = Ieee.Toward.even.cut t n d := rfl
theorem write_us {x y : Ieee.Datum} (h : us x y) : ∃ s t r, r ≤ S.infRung ∧ S.write x = S.word s r ∧ S.write y = S.word t r := by
  cases x <;> cases y <;> simp only [us] at h
  case number.number s m i t n j =>
    obtain ⟨rfl, rfl⟩ := h
    by_cases hm : m = 0
    · subst hm
      exact ⟨s, t, 0, Nat.zero_le _, by simp [Ieee.Format.write, Ieee.Format.nearest], by simp [Ieee.Format.write, Ieee.Format.nearest]⟩
    · refine ⟨s, t, _, ?_, by simp only [Ieee.Format.write, Ieee.Format.nearest]; rw [if_neg hm], by simp only [Ieee.Format.write, Ieee.Format.nearest]; rw [if_neg hm, cut_sign t s]⟩
      exact Nat.min_le_right _ _
  case infinity.infinity s t => exact ⟨s, t, _, Nat.le_refl _, rfl, rfl⟩
theorem read_word_us (s t : Bool) {r : Nat} (h : r ≤ S.infRung) : us (S.read (S.word s r)) (S.read (S.word t r)) := by
  have h1 := word_mod S s (Nat.lt_of_le_of_lt h S.infRung_lt)
  have h2 := word_mod S t (Nat.lt_of_le_of_lt h S.infRung_lt)
  unfold Ieee.Format.read
  dsimp only
  rw [h1, h2]
  split
  · exact ⟨rfl, rfl⟩
  · split
    · exact ⟨rfl, rfl⟩
    · rw [if_pos (by omega), if_pos (by omega)]; exact trivial
theorem square_us {x y : Ieee.Datum} (h : us x y) : x.product x = y.product y := by
  cases x <;> cases y <;> simp only [us] at h
  case number.number s m i t n j =>
    obtain ⟨rfl, rfl⟩ := h
    simp [Ieee.Datum.product]
  case infinity.infinity s t => simp [Ieee.Datum.product]
/-- The square of a difference. -/
theorem sq_sub (a b : Nat) : mulF (subF a b) (subF a b) = mulF (subF b a) (subF b a) := by
  have h := sub_us (S.read a) (S.read b)
  have e1 : subF a b = (((S.read a).sum (S.read b).opposite).map S.write).getD (qnan .f32) := rfl
  have e2 : subF b a = (((S.read b).sum (S.read a).opposite).map S.write).getD (qnan .f32) := rfl
  rw [e1, e2]
  generalize (S.read a).sum (S.read b).opposite = x at *
  generalize (S.read b).sum (S.read a).opposite = y at *
  cases x <;> cases y <;> first | rfl | (exact h.elim) | skip
  rename_i x y
  obtain ⟨s, t, r, hr, h1, h2⟩ := write_us h
  have m : ∀ c, mulF c c = (((S.read c).product (S.read c)).map S.write).getD (qnan .f32) := fun _ => rfl
  show mulF (S.write x) (S.write x) = mulF (S.write y) (S.write y)
  rw [h1, h2, m, m, square_us (read_word_us s t hr)]

/-- The greater one, as Go's built-in has it. -/
def mx (x y : Nat) : Nat :=
  match S.order x y with
  | none => 0
  | some .lt => y
  | some .gt => x
  | some .eq => if (S.read x).neg then y else x
theorem run_mx {P : Program} (ts : Array TypeId) (t : TypeId) (x y : Nat) (hx : (S.read x).isNaN = false) (hy : (S.read y).isNaN = false) (w : World) :
    (Builtin.max_ ts t #[.float .f32 x, .float .f32 y]).run P w = .ok (.float .f32 (mx x y)) w := by
  have ho : S.order x y ≠ none := by
    unfold Ieee.Format.order
    cases h1 : S.read x <;> cases h2 : S.read y <;> rw [h1] at hx <;> rw [h2] at hy <;> simp [Ieee.Datum.isNaN] at hx hy <;> simp [Ieee.Datum.order]
  have ho2 : FloatKind.f32.format.order x y = S.order x y := rfl
  unfold mx
  cases h : S.order x y with
  | none => exact absurd h ho
  | some o =>
    cases o <;> simp [Builtin.max_, Builtin.max2, ho2, h]
    rfl
theorem mx_lt {x y : Nat} (hx : x < 4294967296) (hy : y < 4294967296) : mx x y < 4294967296 := by
  unfold mx
  split <;> first | assumption | omega | (split <;> assumption)
theorem fin_notNaN {c : Nat} (h : fin c = true) : (S.read c).isNaN = false := by
  cases e : (S.read c).isNaN
  · rfl
  · have h1 : fc .eql .f32 (ar .sub .f32 c c) 0 = true := h
    have h2 : floatBits .sub .f32 c c = none := floatBits_nan_l e
    have h3 : ar .sub .f32 c c = qnan .f32 := by unfold ar; rw [h2]; rfl
    rw [h3] at h1
    revert h1
    decide +kernel
theorem raw_of {x c : Nat} (h : cn .f32 x = c) (hc : fin c = true) : x = c ∧ (S.read x).isNaN = false := by
  have h1 := fin_notNaN hc
  have h2 : (S.read x).isNaN = false := by
    have := isNaN_cn .f32 x
    rw [h] at this
    rw [show (S.read x).isNaN = (FloatKind.f32.format.read x).isNaN from rfl, ← this]; exact h1
  exact ⟨by rw [← h]; exact (cn_of_not (k := .f32) h2).symm, h2⟩
theorem mx_or (x y : Nat) : mx x y = x ∨ mx x y = y ∨ mx x y = 0 := by
  unfold mx
  split
  · exact .inr (.inr rfl)
  · exact .inr (.inl rfl)
  · exact .inl rfl
  · split
    · exact .inr (.inl rfl)
    · exact .inl rfl
theorem mx_fin {x y : Nat} (hx : fin x = true) (hy : fin y = true) : fin (mx x y) = true := by
  rcases mx_or x y with h | h | h <;> rw [h]
  · exact hx
  · exact hy
  · decide +kernel

end Go.Proofs.Ytkkomajokdlkeaa
