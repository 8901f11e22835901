/- Bits of float64 numbers: which two are the same. Plain. -/
import Derived.Test.YtkkomajokdlkeaaQ24
import Derived.Test.YtkkomajokdlkeaaQ28
import Derived.Test.YtkkomajokdlkeaaQ29
import Derived.Test.YtkkomajokdlkeaaQ30
import Derived.Test.YtkkomajokdlkeaaQ31
namespace Go.Proofs.Ytkkomajokdlkeaa
set_option linter.unusedSimpArgs false
set_option linter.unusedVariables false
set_option maxRecDepth 100000
set_option maxHeartbeats 4000000
open Go.RowKit
/-- What the bits below the sign stand for. -/
theorem read_double (b : Nat) : Ieee.double.read b =
    (if b % 9223372036854775808 < 4503599627370496 then .number (b / 9223372036854775808 % 2 == 1) (b % 9223372036854775808) (-1074)
     else if b % 9223372036854775808 < 9218868437227405312 then .number (b / 9223372036854775808 % 2 == 1) (4503599627370496 + b % 9223372036854775808 % 4503599627370496) (-1074 + (b % 9223372036854775808 / 4503599627370496 - 1 : Nat))
     else if b % 9223372036854775808 = 9218868437227405312 then .infinity (b / 9223372036854775808 % 2 == 1) else .nan (b / 9223372036854775808 % 2 == 1) (b % 9223372036854775808 - 9218868437227405312)) := by
  unfold Ieee.Format.read
  simp only [d_weight, d_binade, d_inf, d_least]

theorem mul_pow_injD {m n e1 e2 : Nat} (h1 : m < 9007199254740992) (h2 : n < 9007199254740992) (h1' : e1 = 0 ∨ 4503599627370496 ≤ m) (h2' : e2 = 0 ∨ 4503599627370496 ≤ n) (h : m * 2 ^ e1 = n * 2 ^ e2) : e1 = e2 ∧ m = n := by
  rcases Nat.lt_trichotomy e1 e2 with hl | rfl | hl
  · exfalso
    obtain ⟨d, rfl⟩ : ∃ d, e2 = e1 + (d + 1) := ⟨e2 - e1 - 1, by omega⟩
    rw [Nat.pow_add, ← Nat.mul_assoc, Nat.mul_right_comm] at h
    have := Nat.eq_of_mul_eq_mul_right (Nat.two_pow_pos e1) h
    have hp : 2 ≤ 2 ^ (d + 1) := by rw [Nat.pow_succ]; have := Nat.two_pow_pos d; omega
    have := Nat.mul_le_mul_left n hp
    omega
  · exact ⟨rfl, Nat.eq_of_mul_eq_mul_right (Nat.two_pow_pos e1) h⟩
  · exfalso
    obtain ⟨d, rfl⟩ : ∃ d, e1 = e2 + (d + 1) := ⟨e1 - e2 - 1, by omega⟩
    rw [Nat.pow_add, ← Nat.mul_assoc, Nat.mul_right_comm] at h
    have := Nat.eq_of_mul_eq_mul_right (Nat.two_pow_pos e2) h
    have hp : 2 ≤ 2 ^ (d + 1) := by rw [Nat.pow_succ]; have := Nat.two_pow_pos d; omega
    have := Nat.mul_le_mul_left m hp
    omega

theorem signed_eqD {s : Bool} {m n i j : Nat} (h : Ieee.signed s m i = Ieee.signed s n j) : m * 2 ^ i = n * 2 ^ j := by
  unfold Ieee.signed at h
  simp only [Nat.shiftLeft_eq] at h
  cases s <;> simp only [Bool.false_eq_true, if_false, if_true] at h <;> omega

theorem order_numD {s : Bool} {m n : Nat} {i j : Int} (h : (Ieee.Datum.number s m i).order (.number s n j) = some .eq) (hi : -1074 ≤ i) (hj : -1074 ≤ j) : m * 2 ^ (i + 1074).toNat = n * 2 ^ (j + 1074).toNat := by
  simp only [Ieee.Datum.order, Option.some.injEq] at h
  have h1 := signed_eqD (Int.compare_eq_eq.1 h)
  have e1 : (i + 1074).toNat = (i - min i j).toNat + (min i j + 1074).toNat := by omega
  have e2 : (j + 1074).toNat = (j - min i j).toNat + (min i j + 1074).toNat := by omega
  rw [e1, e2, Nat.pow_add, Nat.pow_add, ← Nat.mul_assoc, ← Nat.mul_assoc, h1]

/-- Two numbers that are equal and have one sign have the same bits. -/
theorem bits_of_eqD {a b : Nat} (ha : a < 18446744073709551616) (hb : b < 18446744073709551616) (ho : Ieee.double.order a b = some .eq) (hs : (Ieee.double.read a).neg = (Ieee.double.read b).neg) : a = b := by
  have hsa : a / 9223372036854775808 % 2 = a / 9223372036854775808 := by omega
  have hsb : b / 9223372036854775808 % 2 = b / 9223372036854775808 := by omega
  have key : a / 9223372036854775808 = b / 9223372036854775808 ∧ a % 9223372036854775808 = b % 9223372036854775808 := by
    unfold Ieee.Format.order at ho
    rw [read_double a, read_double b] at ho hs
    have sg : ∀ x y : Nat, x < 2 → y < 2 → ((x == 1) = (y == 1)) → x = y := by
      intro x y hx hy h
      rcases (by omega : x = 0 ∨ x = 1) with rfl | rfl <;> rcases (by omega : y = 0 ∨ y = 1) with rfl | rfl <;> simp_all
    have hqa : a / 9223372036854775808 < 2 := by omega
    have hqb : b / 9223372036854775808 < 2 := by omega
    rw [hsa, hsb] at ho hs
    generalize a / 9223372036854775808 = qa at *
    generalize b / 9223372036854775808 = qb at *
    have hra : a % 9223372036854775808 < 9223372036854775808 := Nat.mod_lt _ (by omega)
    have hrb : b % 9223372036854775808 < 9223372036854775808 := Nat.mod_lt _ (by omega)
    generalize a % 9223372036854775808 = ra at *
    generalize b % 9223372036854775808 = rb at *
    split at ho
    · rename_i c1
      rw [if_pos c1] at hs
      split at ho
      · rename_i c2
        rw [if_pos c2] at hs
        have e := sg _ _ hqa hqb hs
        subst e
        have := order_numD ho (by omega) (by omega)
        have := mul_pow_injD (by omega) (by omega) (.inl rfl) (.inl rfl) this
        exact ⟨rfl, this.2⟩
      · rename_i c2
        rw [if_neg c2] at hs
        split at ho
        · rename_i c3
          rw [if_pos c3] at hs
          have e := sg _ _ hqa hqb hs
          subst e
          have := order_numD ho (by omega) (by omega)
          have hm := Nat.mod_lt rb (show 0 < 4503599627370496 by omega)
          have := mul_pow_injD (by omega) (by omega) (.inl rfl) (.inr (by omega)) this
          omega
        · split at ho <;> simp [Ieee.Datum.order] at ho
          split at ho <;> simp at ho
    · rename_i c1
      rw [if_neg c1] at hs
      split at ho
      · rename_i c1'
        rw [if_pos c1'] at hs
        split at ho
        · rename_i c2
          rw [if_pos c2] at hs
          have e := sg _ _ hqa hqb hs
          subst e
          have := order_numD ho (by omega) (by omega)
          have hm := Nat.mod_lt ra (show 0 < 4503599627370496 by omega)
          have := mul_pow_injD (by omega) (by omega) (.inr (by omega)) (.inl rfl) this
          omega
        · rename_i c2
          rw [if_neg c2] at hs
          split at ho
          · rename_i c3
            rw [if_pos c3] at hs
            have e := sg _ _ hqa hqb hs
            subst e
            have := order_numD ho (by omega) (by omega)
            have hm := Nat.mod_lt ra (show 0 < 4503599627370496 by omega)
            have hm' := Nat.mod_lt rb (show 0 < 4503599627370496 by omega)
            have := mul_pow_injD (by omega) (by omega) (.inr (by omega)) (.inr (by omega)) this
            exact ⟨rfl, by omega⟩
          · split at ho <;> simp [Ieee.Datum.order] at ho
            split at ho <;> simp at ho
      · rename_i c1'
        rw [if_neg c1'] at hs
        split at ho
        · rename_i c4
          rw [if_pos c4] at hs
          split at ho
          · simp [Ieee.Datum.order] at ho
            split at ho <;> simp at ho
          · rename_i c2
            rw [if_neg c2] at hs
            split at ho
            · simp [Ieee.Datum.order] at ho
              split at ho <;> simp at ho
            · rename_i c3
              rw [if_neg c3] at hs
              split at ho
              · rename_i c5
                rw [if_pos c5] at hs
                exact ⟨sg _ _ hqa hqb hs, by omega⟩
              · simp [Ieee.Datum.order] at ho
        · simp [Ieee.Datum.order] at ho
  have h1 := Nat.div_add_mod a 9223372036854775808
  have h2 := Nat.div_add_mod b 9223372036854775808
  rw [key.1, key.2] at h1
  omega


/-- n eighths. -/
def c64 (n : Nat) : Nat := ar .quo .f64 (floatOfInt .f64 (n : Int)) 4620693217682128896
def ewB (c : Nat) (x : Int) : Bool := match Ieee.double.read c with
  | .number s m p => decide (c < 18446744073709551616) && decide (p ≤ -3) && (m == x.natAbs * 2 ^ (-3 - p).toNat) && (decide (x = 0) || (s == decide (x < 0)))
  | _ => false
theorem ew_of {c : Nat} {x : Int} (h : ewB c x = true) : Ew c x := by
  unfold ewB at h
  split at h
  · rename_i s m p hr
    simp only [Bool.and_eq_true, Bool.or_eq_true, decide_eq_true_eq, beq_iff_eq] at h
    obtain ⟨⟨⟨h1, h2⟩, h3⟩, h4⟩ := h
    refine ⟨h1, s, (-3 - p).toNat, ?_, fun h0 => ?_⟩
    · rw [hr, h3, show (-3 - (((-3 - p).toNat : Nat) : Int)) = p by omega]
    · rcases h4 with h4 | h4
      · exact absurd h4 h0
      · exact h4
  · cases h
/-- K = 0.001. -/
def kM : Nat := 4562254508917369340
def okT (n : Nat) : Bool := ewB (c64 n) (n : Int) && fc .lss .f64 0 (ar .mul .f64 kM (c64 n)) && fc .lss .f64 9223372036854775808 (ar .mul .f64 kM (c64 n)) && !(Ieee.double.read (ar .mul .f64 kM (c64 n))).isNaN
def okU (c : Nat) (n : Nat) : Bool := match Ieee.double.read (ar .add .f64 c kM) with
  | .number s m p => !s && decide (p ≤ -3) && decide (n * 2 ^ (-3 - p).toNat < m)
  | _ => false
theorem okT_all : ∀ i : Fin 2100, okT (i.val + 8) = true := by decide +kernel
theorem okU_all : ∀ i : Fin 800, okU (c64 (i.val + 1)) (i.val + 1) = true := by decide +kernel
theorem okU_zero : okU 0 0 = true ∧ okU 9223372036854775808 0 = true := by decide +kernel
theorem Ew.same {a b : Nat} {x : Int} (ha : Ew a x) (hb : Ew b x) (h0 : x ≠ 0) : a = b := by
  have ho := ha.order hb
  rw [cmpI, if_neg (by omega), if_pos rfl] at ho
  obtain ⟨h1, s, k, h2, h3⟩ := ha
  obtain ⟨h4, t, j, h5, h6⟩ := hb
  refine bits_of_eqD h1 h4 ho ?_
  rw [h2, h5]
  show s = t
  rw [h3 h0, h6 h0]
theorem Ew.zeros {a : Nat} (ha : Ew a 0) : a = 0 ∨ a = 9223372036854775808 := by
  have hz := ha
  have ho := ha.order ew_zero
  rw [cmpI, if_neg (by omega), if_pos rfl] at ho
  obtain ⟨h1, s, k, h2, -⟩ := ha
  cases s with
  | false =>
    refine .inl (bits_of_eqD h1 (by decide) ho ?_)
    rw [h2]
    show false = (Ieee.double.read 0).neg
    decide +kernel
  | true =>
    have ho2 := hz.order (show Ew 9223372036854775808 0 from ew_of (by decide +kernel))
    rw [cmpI, if_neg (by omega), if_pos rfl] at ho2
    refine .inr (bits_of_eqD h1 (by decide) ho2 ?_)
    rw [h2]
    show true = (Ieee.double.read 9223372036854775808).neg
    decide +kernel
/-- Nothing is less than a thousandth of anything. -/
theorem ew_less {g c : Nat} {n : Nat} (hg : Ew g 0) (hc : Ew c ((n : Int) + 8)) (hn : n < 2100) : fc .lss .f64 g (ar .mul .f64 kM c) = true ∧ (Ieee.double.read (ar .mul .f64 kM c)).isNaN = false := by
  have h := okT_all ⟨n, hn⟩
  simp only [okT, Bool.and_eq_true, Bool.not_eq_true'] at h
  obtain ⟨⟨⟨h1, h2⟩, h3⟩, h4⟩ := h
  have e : c = c64 (n + 8) := hc.same (by have := ew_of h1; rw [show ((n + 8 : Nat) : Int) = (n : Int) + 8 by omega] at this; exact this) (by omega)
  rw [e]
  exact ⟨by rcases hg.zeros with rfl | rfl <;> assumption, h4⟩
theorem num_less {s : Bool} {x : Int} {k j m : Nat} (h2 : x ≠ 0 → s = decide (x < 0)) {y : Nat} (hx : x ≤ (y : Int)) (hm : y * 2 ^ j < m) : (Ieee.Datum.number s (x.natAbs * 2 ^ k) (-3 - (k : Int))).order (.number false m (-3 - (j : Int))) = some .lt := by
  obtain ⟨K, hK⟩ : ∃ K, K = max k j := ⟨_, rfl⟩
  have hbase : min (-3 - (k : Int)) (-3 - (j : Int)) = -3 - (K : Int) := by omega
  unfold Ieee.Datum.order
  simp only [hbase]
  rw [show (-3 - (k : Int) - (-3 - (K : Int))).toNat = K - k by omega, show (-3 - (j : Int) - (-3 - (K : Int))).toNat = K - j by omega, signed_ev h2, show k + (K - k) = K by omega]
  congr 1
  have hs : Ieee.signed false m (K - j) = ((m * 2 ^ (K - j) : Nat) : Int) := by unfold Ieee.signed; rw [Nat.shiftLeft_eq]; rfl
  rw [hs]
  have e : (2 : Nat) ^ K = 2 ^ j * 2 ^ (K - j) := by rw [← Nat.pow_add]; congr 1; omega
  have h5 : y * 2 ^ K < m * 2 ^ (K - j) := by
    rw [e, ← Nat.mul_assoc]
    exact Nat.mul_lt_mul_of_pos_right hm (Nat.pow_pos (by decide))
  have h6 : x * ((2 ^ K : Nat) : Int) ≤ (y : Int) * ((2 ^ K : Nat) : Int) := Int.mul_le_mul_of_nonneg_right hx (by omega)
  have h7 : x * ((2 ^ K : Nat) : Int) < ((m * 2 ^ (K - j) : Nat) : Int) := by
    rw [← Int.natCast_mul] at h6
    omega
  simp only [compare, compareOfLessAndEq, if_pos h7]
/-- What is no more is less than a thousandth more. -/
theorem ew_more {g c : Nat} {x : Int} {y : Nat} (hg : Ew g x) (hc : Ew c (y : Int)) (hx : x ≤ (y : Int)) (hy : y ≤ 800) : fc .lss .f64 g (ar .add .f64 c kM) = true ∧ (Ieee.double.read (ar .add .f64 c kM)).isNaN = false := by
  have h : okU c y = true := by
    rcases Nat.eq_zero_or_pos y with h0 | h0
    · subst h0
      rcases hc.zeros with rfl | rfl
      · exact okU_zero.1
      · exact okU_zero.2
    · have h1 := okT_all
      have h2 := okU_all ⟨y - 1, by omega⟩
      have e : y - 1 + 1 = y := by omega
      simp only [e] at h2
      have e2 : c = c64 y := by
        rcases Nat.lt_or_ge y 8 with h8 | h8
        · have h9 : ∀ i : Fin 8, ewB (c64 i.val) (i.val : Int) = true := by decide +kernel
          exact hc.same (ew_of (h9 ⟨y, h8⟩)) (by omega)
        · have h9 := okT_all ⟨y - 8, by omega⟩
          have e3 : y - 8 + 8 = y := by omega
          simp only [e3, okT, Bool.and_eq_true] at h9
          exact hc.same (ew_of h9.1.1.1) (by omega)
      rw [e2]; exact h2
  obtain ⟨-, s, k, h1, h2⟩ := hg
  show (Ieee.double.order g (ar .add .f64 c kM) == some .lt) = true ∧ _
  unfold Ieee.Format.order
  rw [h1]
  unfold okU at h
  split at h
  · rename_i t m p hr
    simp only [Bool.and_eq_true, decide_eq_true_eq, Bool.not_eq_true'] at h
    obtain ⟨⟨h3, h4⟩, h5⟩ := h
    rw [hr, h3, show p = -3 - (((-3 - p).toNat : Nat) : Int) by omega, num_less h2 hx h5]
    exact ⟨rfl, rfl⟩
  · cases h

end Go.Proofs.Ytkkomajokdlkeaa

namespace Go.Proofs.Ytkkomajokdlkeaa
set_option linter.unusedSimpArgs false
set_option linter.unusedVariables false
set_option maxRecDepth 100000
set_option maxHeartbeats 4000000
open Go.RowKit
theorem QV.uniq {f : Ieee.Format} {c : Nat} {x y : Rat} (h1 : QV f c x) (h2 : QV f c y) : x = y := by
  obtain ⟨s, m, p, e1, rfl⟩ := h1
  obtain ⟨t, n, q, e2, rfl⟩ := h2
  rw [e1] at e2
  injection e2 with e3 e4 e5
  rw [e3, e4, e5]
theorem zero_qv : QV S 0 0 := by have := ev_zero.qv; rw [show ((0 : Int) : Rat) / 8 = 0 by decide +kernel] at this; exact this
theorem QV.fin {c : Nat} {x : Rat} (h : QV S c x) (h1 : -1000 ≤ x) (h2 : x ≤ 1000) : fin c = true := by
  obtain ⟨z, hz, n1, n2, -⟩ := subF_qv h h (by unfold big; grind) (by unfold big; grind)
  have e : z = 0 := by have := n1 (by grind); have := n2 (by grind); grind
  subst e
  show (S.order (subF c c) 0 == some .eq) = true
  rw [hz.order zero_qv, if_neg (by grind), if_pos rfl]; rfl
/-- Two small series. -/
structure Sm (n : Nat) (cs : List Nat) (X : Nat → Int) : Prop where
  len : cs.length = n
  at_ : ∀ i, i < n → Ev (cs.getD i 0) (X i) ∧ (X i).natAbs ≤ 32
theorem Sm.qv {n : Nat} {cs : List Nat} {X : Nat → Int} (h : Sm n cs X) {i : Nat} (hi : i < n) : QV S (cs.getD i 0) ((X i : Rat) / 8) ∧ -4 ≤ (X i : Rat) / 8 ∧ (X i : Rat) / 8 ≤ 4 := by
  obtain ⟨h1, h2⟩ := h.at_ i hi
  have a1 : (-32 : Rat) ≤ (X i : Rat) := Rat.intCast_le_intCast.2 (show (-32 : Int) ≤ X i by omega)
  have a2 : (X i : Rat) ≤ 32 := Rat.intCast_le_intCast.2 (show X i ≤ (32 : Int) by omega)
  exact ⟨h1.qv, by grind, by grind⟩
theorem sm_of {L : List Nat} (h : ∀ c ∈ L, isQ c) {n : Nat} (hn : L.length = n) : ∃ X, Sm n L X := by
  obtain ⟨q, h1, h2⟩ := isQ_get h
  refine ⟨fun i => 2 * q i, hn, fun i hi => ?_⟩
  rw [h2 i (by omega)]
  exact ⟨qz_ev (h1 i).1 (h1 i).2, by have := h1 i; omega⟩
theorem Sm.allFin {n : Nat} {cs : List Nat} {X : Nat → Int} (h : Sm n cs X) : allFin cs = true := by
  show cs.all fin = true
  rw [List.all_eq_true]
  intro c hc
  obtain ⟨i, hi, rfl⟩ := List.getElem_of_mem hc
  have := (h.at_ i (by have := h.len; omega)).1.fin
  rw [List.getD_eq_getElem?_getD, List.getElem?_eq_getElem hi] at this
  exact this
theorem Sm.series {n : Nat} {cs : List Nat} {X : Nat → Int} (h : Sm n cs X) (h1 : 1 ≤ n) (h2 : n ≤ 96) : series cs = true := by
  have := h.len
  show (decide _ && decide _ && _) = true
  rw [decide_eq_true (by omega), decide_eq_true (by omega), h.allFin]; rfl
theorem Sm.two {n : Nat} {cs ds : List Nat} {X Y : Nat → Int} (h : Sm n cs X) (g : Sm n ds Y) (h1 : 1 ≤ n) (h2 : n ≤ 96) : twoOk cs ds = true :=
  two_iff.2 ⟨h.series h1 h2, g.series h1 h2, by rw [h.len, g.len]⟩
theorem Sm.wn {n : Nat} {cs ds : List Nat} {X Y : Nat → Int} (h : Sm n cs X) (g : Sm n ds Y) (h1 : 1 ≤ n) (h2 : n ≤ 10) : Wn cs ds X Y :=
  ⟨fun i hi => h.at_ i (by have := h.len; omega), fun i hi => g.at_ i (by have := g.len; omega), by have := h.len; omega, by have := g.len; omega⟩
theorem sqs_zero {f : Nat → Nat} {n : Nat} (h : ∀ i, i < n → QV S (f i) 0) : ∀ k, k ≤ n → QV S (sqsL f k) 0
  | 0, _ => zero_qv
  | k + 1, hk => by
    have ih := sqs_zero h k (by omega)
    have hf := h k (by omega)
    obtain ⟨p, hp, p1, p2, -⟩ := mulF_qv hf hf (by decide +kernel) (by decide +kernel)
    have e : p = 0 := by have := p1 (by grind); have := p2 (by grind); grind
    subst e
    obtain ⟨z, hz, z1, z2, -⟩ := addF_qv ih hp (by decide +kernel) (by decide +kernel)
    have e : z = 0 := by have := z1 (by grind); have := z2 (by grind); grind
    subst e
    exact hz
/-- How far two are apart: a number; 0 of one to itself. -/
theorem Sm.far {n : Nat} {cs ds : List Nat} {X Y : Nat → Int} (h : Sm n cs X) (g : Sm n ds Y) (h2 : n ≤ 9) : ∃ F, QV S (farL cs ds) F ∧ 0 ≤ F ∧ F ≤ 1000 ∧ ((∀ i, i < n → X i = Y i) → F = 0) := by
  have hr : ∀ i, ∃ r : Rat, i < n → QV S (subF (cs.getD i 0) (ds.getD i 0)) r ∧ -9 ≤ r ∧ r ≤ 9 ∧ (X i = Y i → r = 0) := by
    intro i
    by_cases hi : i < n
    · obtain ⟨a1, a2, a3⟩ := h.qv hi
      obtain ⟨b1, b2, b3⟩ := g.qv hi
      obtain ⟨r, r1, n1, n2, r2⟩ := subF_qv a1 b1 (by unfold big; grind) (by unfold big; grind)
      have r3 := r2 8 (by grind) (by grind)
      refine ⟨r, fun _ => ⟨r1, by grind, by grind, fun e => ?_⟩⟩
      rw [e] at n1 n2
      have := n1 (by grind)
      have := n2 (by grind)
      grind
    · exact ⟨0, fun h => absurd h hi⟩
  obtain ⟨R, hR⟩ := Classical.skolem.1 hr
  obtain ⟨w1, V, hV, v0, v1, v2⟩ := sqs_all (f := fun i => subF (cs.getD i 0) (ds.getD i 0)) h2 (fun i hi => ⟨(hR i hi).1, (hR i hi).2.1, (hR i hi).2.2.1⟩) n (Nat.le_refl _)
  have hn9 := cast_le9 h2
  have hw := rs_nonneg (f := fun i => R i * R i) (n := n) (fun i _ => sqr_nonneg _) n (Nat.le_refl _)
  have hk9a := Rat.mul_le_mul_of_nonneg_left hn9.2 hw
  obtain ⟨F, hF, f0, f1, f2, f3, f4⟩ := rootF_qv hV v0 (by grind)
  rw [show rootF (sqsL (fun i => subF (cs.getD i 0) (ds.getD i 0)) n) = farL cs ds by rw [farL, h.len]] at hF
  refine ⟨F, hF, f1, ?_, fun he => ?_⟩
  · refine sq_le_of (by grind) ?_
    grind
  · have hz := sqs_zero (f := fun i => subF (cs.getD i 0) (ds.getD i 0)) (n := n) (fun i hi => by
      have := (hR i hi).2.2.2 (he i hi)
      have h5 := (hR i hi).1
      rw [this] at h5; exact h5) n (Nat.le_refl _)
    exact f0 (hV.uniq hz)
theorem QV.lss {a b : Nat} {x y : Rat} (ha : QV S a x) (hb : QV S b y) : fc .lss .f32 a b = decide (x < y) := by
  show (S.order a b == some .lt) = _
  rw [ha.order hb]
  by_cases h : x < y
  · rw [if_pos h, decide_eq_true h]; rfl
  · rw [if_neg h, decide_eq_false h]; split <;> rfl
/-- A list of three. -/
structure Sm3 (n : Nat) (css : List (List Nat)) (X : Nat → Nat → Int) : Prop where
  len : css.length = 3
  row : ∀ k, k < 3 → Sm n (rowL css k) (X k)
theorem Sm3.listOk {n : Nat} {css : List (List Nat)} {X : Nat → Nat → Int} (h : Sm3 n css X) (h1 : 1 ≤ n) (h2 : n ≤ 96) : listOk css = true := by
  have hl := h.len
  refine listOk_of (by show (decide _ && decide _) = true; rw [decide_eq_true (by omega), decide_eq_true (by omega)]; rfl) fun i hi => ?_
  exact ⟨(h.row i (by omega)).series h1 h2, by rw [(h.row i (by omega)).len, show headL css = rowL css 0 from rfl, (h.row 0 (by omega)).len]⟩
theorem ns_at {css : List (List Nat)} {x : List Nat} {F : Nat → Rat} {n : Nat} (hF : ∀ i, i < n → QV S (farL (rowL css i) x) (F i)) : ∀ k, k + 1 ≤ n → ∃ j : Nat, j ≤ k ∧ nsAt css x (k + 1) = ((j : Int), farL (rowL css j) x) ∧ (∀ i, i ≤ k → F j ≤ F i) ∧ ∀ i, i < j → F j < F i
  | 0, _ => ⟨0, Nat.le_refl _, nsAt_zero rfl, fun i hi => by rw [show i = 0 by omega]; grind, fun i hi => by omega⟩
  | k + 1, hk => by
    obtain ⟨j, j1, j2, j3, j4⟩ := ns_at hF k (by omega)
    have hl := (hF (k + 1) (by omega)).lss (hF j (by omega))
    by_cases h : F (k + 1) < F j
    · rw [decide_eq_true h] at hl
      refine ⟨k + 1, Nat.le_refl _, nsAt_less (by omega) (by rw [j2]; exact hl), fun i hi => ?_, fun i hi => ?_⟩
      · by_cases e : i = k + 1
        · subst e; grind
        · have := j3 i (by omega); grind
      · have := j3 i (by omega); grind
    · rw [decide_eq_false h] at hl
      refine ⟨j, by omega, by rw [nsAt_not (by omega) (by rw [j2]; exact hl), j2], fun i hi => ?_, j4⟩
      by_cases e : i = k + 1
      · subst e; grind
      · exact j3 i (by omega)
theorem nsFin_all {css : List (List Nat)} {x : List Nat} {n : Nat} (h : ∀ i, i < n → fin (farL (rowL css i) x) = true) : ∀ k, k ≤ n → nsFin css x k = true
  | 0, _ => rfl
  | k + 1, hk => nsFin_snoc (nsFin_all h k (by omega)) (h k (by omega))
/-- The nearest one to one of the list. -/
theorem Sm3.near {n : Nat} {css : List (List Nat)} {X : Nat → Nat → Int} (h : Sm3 n css X) (h1 : 1 ≤ n) (h2 : n ≤ 9) {p : Nat} (hp : p < 3) :
    ∃ j : Nat, j ≤ p ∧ nsQ css (rowL css p) = ((j : Int), farL (rowL css j) (rowL css p), true) ∧ QV S (farL (rowL css j) (rowL css p)) 0 ∧ farQ (rowL css j) (rowL css p) = (farL (rowL css j) (rowL css p), true) := by
  have hf : ∀ i, ∃ F, i < 3 → QV S (farL (rowL css i) (rowL css p)) F ∧ 0 ≤ F ∧ F ≤ 1000 ∧ (i = p → F = 0) := by
    intro i
    by_cases hi : i < 3
    · obtain ⟨F, f1, f2, f3, f4⟩ := (h.row i hi).far (h.row p hp) h2
      exact ⟨F, fun _ => ⟨f1, f2, f3, fun e => f4 (fun j _ => by rw [e])⟩⟩
    · exact ⟨0, fun h => absurd h hi⟩
  obtain ⟨F, hF⟩ := Classical.skolem.1 hf
  obtain ⟨j, j1, j2, j3, j4⟩ := ns_at (n := 3) (fun i hi => (hF i hi).1) 2 (by omega)
  have f0 := (hF p hp).2.2.2 rfl
  have fj := (hF j (by omega)).2.1
  have ejz : F j = 0 := by have := j3 p (by omega); grind
  have hjp : j ≤ p := by
    rcases Nat.lt_or_ge p j with h5 | h5
    · have := j4 p h5; grind
    · exact h5
  have hall : nsFin css (rowL css p) css.length = true := by
    rw [h.len]
    exact nsFin_all (n := 3) (fun i hi => (hF i hi).1.fin (by have := (hF i hi).2.1; grind) (hF i hi).2.2.1) 3 (Nat.le_refl _)
  have hz := (hF j (by omega)).1
  rw [ejz] at hz
  refine ⟨j, hjp, ?_, hz, ?_⟩
  · rw [nsQ_yes (by rw [h.listOk h1 (by omega), show headL css = rowL css 0 from rfl, (h.row p hp).two (h.row 0 (by omega)) h1 (by omega)]; rfl), nearL_yes hall, h.len, j2]
  · rw [farQ_two ((h.row j (by omega)).two (h.row p hp) h1 (by omega)), numB_yes (hz.fin (by decide +kernel) (by decide +kernel))]
theorem nw_least {f : Nat → Nat} {z : Nat → Int} {n : Nat} (hf : ∀ i, i < n → Ev (f i) (z i)) : ∀ k, k < n → (∀ i, i ≤ k → z (nwI f k) ≤ z i) ∧ ∀ i, i < nwI f k → z (nwI f k) < z i
  | 0, _ => ⟨fun i hi => by rw [show i = 0 by omega]; exact Int.le_refl _, fun i hi => by simp [nwI] at hi⟩
  | k + 1, hk => by
    obtain ⟨a1, a2⟩ := nw_least hf k (by omega)
    have hle := nwI_le f k
    have hl := (hf (k + 1) (by omega)).lss (hf (nwI f k) (by omega))
    rw [nwI]
    by_cases h : z (k + 1) < z (nwI f k)
    · rw [decide_eq_true h] at hl
      rw [if_pos hl]
      refine ⟨fun i hi => ?_, fun i hi => ?_⟩
      · by_cases e : i = k + 1
        · subst e; exact Int.le_refl _
        · have := a1 i (by omega); omega
      · have := a1 i (by omega); omega
    · rw [decide_eq_false h] at hl
      rw [if_neg (by rw [hl]; decide)]
      refine ⟨fun i hi => ?_, a2⟩
      by_cases e : i = k + 1
      · subst e; omega
      · exact a1 i (by omega)
/-- The nearest one by warped ways. -/
theorem Sm3.warp {n : Nat} {css : List (List Nat)} {X : Nat → Nat → Int} (h : Sm3 n css X) (h1 : 1 ≤ n) (h2 : n ≤ 9) {p : Nat} (hp : p < 3) {window : Int} (hw : 0 ≤ window) (hw2 : window ≤ 96) :
    ∃ f : Nat → Nat, (∀ i, i < css.length → wfarQ szI geI (rowL css i) (rowL css p) window = (f i, true)) ∧ nwI f (css.length - 1) ≤ p ∧ Ev (f (nwI f (css.length - 1))) 0 := by
  have hz : ∀ i, ∃ z : Nat × Int, i < 3 → wfarQ szI geI (rowL css i) (rowL css p) window = (z.1, true) ∧ Ev z.1 z.2 ∧ 0 ≤ z.2 ∧ (i = p → z.2 = 0) := by
    intro i
    by_cases hi : i < 3
    · obtain ⟨last, z, P, g1, g2, g3, g4, -⟩ := warped_all ((h.row i hi).wn (h.row p hp) h1 (by omega)) (h.row i hi).len (h.row p hp).len hw hw2
      refine ⟨(last, z), fun _ => ⟨g4, g1, g2, fun e => ?_⟩⟩
      subst e
      rw [sumD_self] at g3
      show z = 0
      omega
    · exact ⟨(0, 0), fun h => absurd h hi⟩
  obtain ⟨Z, hZ⟩ := Classical.skolem.1 hz
  obtain ⟨a1, a2⟩ := nw_least (f := fun i => (Z i).1) (z := fun i => (Z i).2) (n := 3) (fun i hi => (hZ i hi).2.1) 2 (by omega)
  have hle := nwI_le (fun i => (Z i).1) 2
  have z0 := (hZ p hp).2.2.2 rfl
  have zj := (hZ (nwI (fun i => (Z i).1) 2) (by omega)).2.2.1
  have e0 : (Z (nwI (fun i => (Z i).1) 2)).2 = 0 := by
    have := a1 p (by omega)
    omega
  refine ⟨fun i => (Z i).1, fun i hi => (hZ i (by have := h.len; omega)).1, ?_, ?_⟩
  · rw [h.len]
    rcases Nat.lt_or_ge p (nwI (fun i => (Z i).1) (3 - 1)) with h5 | h5
    · have := a2 p h5
      omega
    · exact h5
  · rw [h.len]
    have := (hZ (nwI (fun i => (Z i).1) 2) (by omega)).2.1
    rw [e0] at this
    exact this
theorem sqs_congr {f g : Nat → Nat} (h : ∀ i, mulF (f i) (f i) = mulF (g i) (g i)) : ∀ k, sqsL f k = sqsL g k
  | 0 => rfl
  | k + 1 => by rw [sqsL, sqsL, sqs_congr h k, h k]
/-- As far there as back. -/
theorem far_back {cs ds : List Nat} (h : cs.length = ds.length) : farL cs ds = farL ds cs := by
  rw [farL, farL, h, sqs_congr (fun i => sq_sub (cs.getD i 0) (ds.getD i 0))]
/-! The law's own sums in float64. -/
theorem Ew.qv {c : Nat} {x : Int} (h : Ew c x) : QV D c ((x : Rat) / 8) := by
  obtain ⟨-, s, k, h1, h2⟩ := h
  refine ⟨s, _, _, h1, ?_⟩
  have e : ((x.natAbs * 2 ^ k : Nat) : Rat) * pw (-3 - (k : Int)) = ((x.natAbs : Nat) : Rat) * pw (-3) := by
    rw [Rat.natCast_mul, ← pw_nat, Rat.mul_assoc, ← pw_add]; congr 2; omega
  rw [e, int_sg x s h2]
  rw [show pw (-3) = 1 / 8 by decide +kernel]; grind
theorem f64_all : ∀ i : Fin 20, ewB (floatOfInt .f64 (i.val : Int)) (8 * (i.val : Int)) = true := by decide +kernel
theorem f64_qv {n : Nat} (h : n < 20) : QV D (floatOfInt .f64 (n : Int)) (n : Rat) := by
  have := (ew_of (f64_all ⟨n, h⟩)).qv
  rw [Rat.intCast_mul, c8i, Rat.intCast_natCast] at this
  have e : (8 * (n : Rat)) / 8 = (n : Rat) := by grind
  rw [e] at this
  exact this
theorem zeroD_qv : QV D 0 0 := by have := ew_zero.qv; rw [show ((0 : Int) : Rat) / 8 = 0 by decide +kernel] at this; exact this
/-- Next to, within so many millionths. -/
def Mn (κ A x : Rat) : Prop := x ≤ A + κ / 1000000 ∧ A ≤ x + κ / 1000000
theorem sumD_step {s c : Nat} {x X A κ : Rat} (hs : QV D s x) (hc : QV S c X) (h1 : -1000 ≤ X) (h2 : X ≤ 1000) (h3 : -10000 ≤ A) (h4 : A ≤ 10000) (hk : 0 ≤ κ) (hk9 : κ ≤ 9) (hx : Mn κ A x) :
    ∃ y, QV D (ar .add .f64 s (wd c)) y ∧ Mn (κ + 1) (A + X) y := by
  obtain ⟨x1, x2⟩ := hx
  obtain ⟨w, hw, -, -, hw2⟩ := wd_qv hc (by unfold big; grind) (by unfold big; grind)
  have hw3 := hw2 1000 (by grind) (by grind)
  obtain ⟨y, hy, -, -, hy2⟩ := addD_qv hs hw (by unfold big; grind) (by unfold big; grind)
  have hy3 := hy2 20000 (by grind) (by grind)
  exact ⟨y, hy, by grind, by grind⟩
theorem sqD_step {s c : Nat} {x X A κ : Rat} (hs : QV D s x) (hc : QV S c X) (h1 : -1000 ≤ X) (h2 : X ≤ 1000) (h3 : 0 ≤ A) (h4 : A ≤ 10000) (hk : 0 ≤ κ) (hk9 : κ ≤ 9) (hx : Mn κ A x) :
    ∃ y, QV D (ar .add .f64 s (ar .mul .f64 (wd c) (wd c))) y ∧ Mn (κ + 1) (A + X * X) y := by
  obtain ⟨x1, x2⟩ := hx
  obtain ⟨w, hw, -, -, hw2⟩ := wd_qv hc (by unfold big; grind) (by unfold big; grind)
  have hw3 := hw2 1000 (by grind) (by grind)
  have hX0 := sqr_nonneg X
  have hX1 : X * X ≤ 1000000 := by
    have := Rat.mul_nonneg (show 0 ≤ 1000 - X by grind) (show 0 ≤ 1000 + X by grind)
    grind
  obtain ⟨d, hd⟩ : ∃ d, d = w - X := ⟨_, rfl⟩
  have d1 : -(1 / 1000000000000) ≤ d := by grind
  have d2 : d ≤ 1 / 1000000000000 := by grind
  have hww : w * w = X * X + 2 * (X * d) + d * d := by rw [show w = X + d by grind]; grind
  have a1 := Rat.mul_nonneg (show 0 ≤ 1000 - X by grind) (show 0 ≤ 1 / 1000000000000 - d by grind)
  have a2 := Rat.mul_nonneg (show 0 ≤ 1000 - X by grind) (show 0 ≤ 1 / 1000000000000 + d by grind)
  have a3 := Rat.mul_nonneg (show 0 ≤ 1000 + X by grind) (show 0 ≤ 1 / 1000000000000 - d by grind)
  have a4 := Rat.mul_nonneg (show 0 ≤ 1000 + X by grind) (show 0 ≤ 1 / 1000000000000 + d by grind)
  have a5 := sqr_nonneg d
  have a6 := Rat.mul_nonneg (show 0 ≤ 1 / 1000000000000 - d by grind) (show 0 ≤ 1 / 1000000000000 + d by grind)
  have b1 : w * w ≤ X * X + 1 / 100000000 := by grind
  have b2 : X * X ≤ w * w + 1 / 100000000 := by grind
  obtain ⟨p, hp, -, -, hp2⟩ := mulD_qv hw hw (by unfold big; grind) (by unfold big; grind)
  have hp3 := hp2 1000001 (by grind) (by grind)
  obtain ⟨y, hy, -, -, hy2⟩ := addD_qv hs hp (by unfold big; grind) (by unfold big; grind)
  have hy3 := hy2 2000000 (by grind) (by grind)
  exact ⟨y, hy, by grind, by grind⟩
theorem QV.lssD {a b : Nat} {x y : Rat} (ha : QV D a x) (hb : QV D b y) : fc .lss .f64 a b = decide (x < y) := by
  show (D.order a b == some .lt) = _
  rw [ha.order hb]
  by_cases h : x < y
  · rw [if_pos h, decide_eq_true h]; rfl
  · rw [if_neg h, decide_eq_false h]; split <;> rfl
theorem QV.gapD {a b : Nat} {x y : Rat} (ha : QV D a x) (hb : QV D b y) (h1 : -1000000 ≤ x - y) (h2 : x - y ≤ 1000000) : ∃ g, QV D (gapF a b) g ∧ 0 ≤ g ∧ (x - y ≤ g + 1 / 1000000 ∧ y - x ≤ g + 1 / 1000000) ∧ (g ≤ x - y + 1 / 1000000 ∨ g ≤ y - x + 1 / 1000000) := by
  unfold gapF
  rw [ha.lssD hb]
  by_cases h : x < y
  · rw [decide_eq_true h, if_pos rfl]
    obtain ⟨g, hg, g1, -, g2⟩ := subD_qv hb ha (by unfold big; grind) (by unfold big; grind)
    have g3 := g2 1000000 (by grind) (by grind)
    have g4 := g1 (by grind)
    exact ⟨g, hg, g4, by grind, .inr (by grind)⟩
  · rw [decide_eq_false h, if_neg (by decide)]
    obtain ⟨g, hg, g1, -, g2⟩ := subD_qv ha hb (by unfold big; grind) (by unfold big; grind)
    have g3 := g2 1000000 (by grind) (by grind)
    have g4 := g1 (by grind)
    exact ⟨g, hg, g4, by grind, .inl (by grind)⟩
/-- 0.01. -/
def kC : Nat := 4576918229304087675
theorem kC_qv : ∃ x, QV D kC x ∧ 99 / 10000 ≤ x ∧ x ≤ 101 / 10000 := by
  refine ⟨_, ⟨false, 5764607523034235, -59, by decide +kernel, rfl⟩, by decide +kernel, by decide +kernel⟩
/-- A gap is less than a hundredth of n. -/
theorem gap_hundredth {a b n : Nat} {x y : Rat} (ha : QV D a x) (hb : QV D b y) (hn : 2 ≤ n) (hn9 : n ≤ 9) (h1 : x ≤ y + 1 / 70) (h2 : y ≤ x + 1 / 70) : fc .lss .f64 (gapF a b) (ar .mul .f64 kC (floatOfInt .f64 (n : Int))) = true ∧ (D.read (gapF a b)).isNaN = false ∧ (D.read (ar .mul .f64 kC (floatOfInt .f64 (n : Int)))).isNaN = false := by
  obtain ⟨g, hg, g1, g2, g3⟩ := ha.gapD hb (by grind) (by grind)
  obtain ⟨k, hk, k1, k2⟩ := kC_qv
  have hf := f64_qv (n := n) (by omega)
  have n2 : (2 : Rat) ≤ (n : Rat) := Rat.natCast_le_natCast.2 hn
  have n9 : (n : Rat) ≤ 9 := Rat.natCast_le_natCast.2 hn9
  have m1 := Rat.mul_le_mul_of_nonneg_left n2 (show 0 ≤ k by grind)
  have m2 := Rat.mul_le_mul_of_nonneg_left n9 (show 0 ≤ k by grind)
  obtain ⟨z, hz, -, -, z1⟩ := mulD_qv hk hf (by unfold big; grind) (by unfold big; grind)
  have z2 := z1 1 (by grind) (by grind)
  refine ⟨?_, hg.notNaN, hz.notNaN⟩
  rw [hg.lssD hz, decide_eq_true]
  grind
theorem rs_size {f : Nat → Rat} {n : Nat} (h : ∀ i, i < n → -1000 ≤ f i ∧ f i ≤ 1000) : ∀ k, k ≤ n → -(1000 * (k : Rat)) ≤ rs f k ∧ rs f k ≤ 1000 * (k : Rat)
  | 0, _ => by unfold rs; have : ((0 : Nat) : Rat) = 0 := rfl
               rw [this]; grind
  | k + 1, hk => by
    have ih := rs_size h k (by omega)
    have := h k (by omega)
    unfold rs
    rw [cast_succ]
    grind
theorem rs_mono {f : Nat → Rat} {n : Nat} (h : ∀ i, i < n → 0 ≤ f i) {k : Nat} (hk : k ≤ n) : rs f k ≤ rs f n := by
  induction n with
  | zero => rw [show k = 0 by omega]; grind
  | succ n ih =>
    by_cases e : k = n + 1
    · subst e; grind
    · have h1 := ih (fun i hi => h i (by omega)) (by omega)
      have h2 := h n (by omega)
      show _ ≤ rs f n + f n
      grind
theorem QV.cnD {c : Nat} {x : Rat} (h : QV D c x) : cn .f64 c = c := cn_of_not (k := .f64) h.notNaN
theorem mn_zero : Mn ((0 : Nat) : Rat) 0 0 := by constructor <;> decide +kernel
theorem sqw_qv {c : Nat} {X : Rat} (hc : QV S c X) (h1 : -1000 ≤ X) (h2 : X ≤ 1000) : (∃ w, QV D (wd c) w) ∧ ∃ p, QV D (ar .mul .f64 (wd c) (wd c)) p := by
  obtain ⟨w, hw, -, -, hw2⟩ := wd_qv hc (by unfold big; grind) (by unfold big; grind)
  have hw3 := hw2 1000 (by grind) (by grind)
  have a1 := Rat.mul_nonneg (show 0 ≤ 1001 - w by grind) (show 0 ≤ 1001 + w by grind)
  have a2 := sqr_nonneg w
  obtain ⟨p, hp, -⟩ := mulD_qv hw hw (by unfold big; grind) (by unfold big; grind)
  exact ⟨⟨w, hw⟩, p, hp⟩

end Go.Proofs.Ytkkomajokdlkeaa
