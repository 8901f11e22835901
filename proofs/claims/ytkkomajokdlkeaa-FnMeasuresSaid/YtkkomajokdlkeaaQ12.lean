/- Eighths, exactly: sums of float32 numbers that are small eighths lose nothing. Plain. -/
import Derived.Test.YtkkomajokdlkeaaQ5
namespace Go.Proofs.Ytkkomajokdlkeaa
set_option linter.unusedSimpArgs false
set_option linter.unusedVariables false
set_option maxRecDepth 100000
set_option maxHeartbeats 4000000
open Go.RowKit
theorem log2_mulpE {n : Nat} (hn : n ≠ 0) (K : Nat) : (n * 2 ^ K).log2 = n.log2 + K := by
  have hp : 0 < 2 ^ K := Nat.pow_pos (by decide)
  rw [Nat.log2_eq_iff (by exact Nat.mul_ne_zero hn (by omega)), Nat.pow_add]
  have h := (Nat.log2_eq_iff hn).1 rfl
  refine ⟨Nat.mul_le_mul_right _ h.1, ?_⟩
  rw [show n.log2 + K + 1 = (n.log2 + 1) + K by omega, Nat.pow_add]
  exact Nat.mul_lt_mul_of_pos_right h.2 hp
theorem cut_noneE (neg : Bool) (n : Nat) : Ieee.Toward.even.cut neg n 0 = n := by
  simp [Ieee.Toward.cut, Nat.mod_one]
theorem cut_exactE (neg : Bool) (q : Nat) (hq : q ≠ 0) (d : Nat) : Ieee.Toward.even.cut neg (q * 2 ^ d) d = q := by
  have hm : min d ((q * 2 ^ d).log2 + 2) = d := by rw [log2_mulpE hq]; omega
  have hp : 0 < 2 ^ d := Nat.pow_pos (by decide)
  unfold Ieee.Toward.cut
  simp only [hm, Nat.one_shiftLeft]
  rw [Nat.mul_div_cancel _ hp, Nat.mul_mod_left]
  have h1 : ¬ 2 ^ d < 2 * 0 := by omega
  have h2 : ¬ 2 ^ d = 2 * 0 := by omega
  simp [h1, h2]
/-- What is nearest to n eighths is n eighths. -/
theorem near_read (neg : Bool) (n K : Nat) (hn : n < 16777216) : S.nearest neg (n * 2 ^ K) (-3 - (K : Int)) < 4294967296 ∧ ∃ k : Nat, S.read (S.nearest neg (n * 2 ^ K) (-3 - (K : Int))) = .number neg (n * 2 ^ k) (-3 - (k : Int)) := by
  by_cases h0 : n = 0
  · subst h0
    rw [Nat.zero_mul]
    have h1 : S.nearest neg 0 (-3 - (K : Int)) = S.word neg 0 := by unfold Ieee.Format.nearest; rw [if_pos rfl]
    rw [h1]
    cases neg
    · exact ⟨by decide, 146, by decide⟩
    · exact ⟨by decide, 146, by decide⟩
  · have hL := (Nat.log2_eq_iff h0).1 rfl
    have hLt : n.log2 < 24 := (Nat.log2_lt h0).2 hn
    obtain ⟨L, hLL⟩ : ∃ L, L = n.log2 := ⟨_, rfl⟩
    rw [← hLL] at hL hLt
    obtain ⟨q, hq⟩ : ∃ q, q = n * 2 ^ (23 - L) := ⟨_, rfl⟩
    have hp : 0 < 2 ^ (23 - L) := Nat.pow_pos (by decide)
    have e23 : (2 : Nat) ^ L * 2 ^ (23 - L) = 8388608 := by rw [← Nat.pow_add, show L + (23 - L) = 23 by omega]
    have hq1 : 8388608 ≤ q := by rw [hq, ← e23]; exact Nat.mul_le_mul_right _ hL.1
    have hq2 : q < 16777216 := by
      have : (2 : Nat) ^ (L + 1) * 2 ^ (23 - L) = 16777216 := by rw [← Nat.pow_add, show L + 1 + (23 - L) = 24 by omega]
      rw [hq, ← this]
      exact Nat.mul_lt_mul_of_pos_right hL.2 hp
    have hne : n * 2 ^ K ≠ 0 := Nat.mul_ne_zero h0 (Nat.ne_of_gt (Nat.pow_pos (by decide)))
    have hlast : max (-3 - (K : Int) + ((n * 2 ^ K).log2 : Int) - (S.fractionBits : Int)) S.leastPlace = (L : Int) - 26 := by
      rw [log2_mulpE h0, ← hLL, show (S.fractionBits : Int) = 23 from rfl, show S.leastPlace = -149 from by decide]
      omega
    have hkept : Ieee.Toward.even.cut neg ((n * 2 ^ K) <<< (-3 - (K : Int) - ((L : Int) - 26)).toNat) ((L : Int) - 26 - (-3 - (K : Int))).toNat = q := by
      by_cases hK : K ≤ 23 - L
      · rw [show ((L : Int) - 26 - (-3 - (K : Int))).toNat = 0 by omega, cut_noneE, Nat.shiftLeft_eq, show (-3 - (K : Int) - ((L : Int) - 26)).toNat = 23 - L - K by omega, Nat.mul_assoc, ← Nat.pow_add, show K + (23 - L - K) = 23 - L by omega, hq]
      · rw [show (-3 - (K : Int) - ((L : Int) - 26)).toNat = 0 by omega, Nat.shiftLeft_zero, show ((L : Int) - 26 - (-3 - (K : Int))).toNat = K - (23 - L) by omega]
        have e : n * 2 ^ K = q * 2 ^ (K - (23 - L)) := by rw [hq, Nat.mul_assoc, ← Nat.pow_add, show 23 - L + (K - (23 - L)) = K by omega]
        rw [e]
        exact cut_exactE neg q (by omega) _
    have hnear : S.nearest neg (n * 2 ^ K) (-3 - (K : Int)) = S.word neg ((L + 123) * 8388608 + q) := by
      unfold Ieee.Format.nearest
      rw [if_neg hne]
      simp only [hlast, hkept]
      rw [show S.leastPlace = -149 from by decide, show S.binade = 8388608 from by decide, show S.infRung = 2139095040 from by decide, show ((L : Int) - 26 - -149).toNat = L + 123 by omega, Nat.min_eq_left (by omega)]
    have hr : (L + 123) * 8388608 + q < 2139095040 := by omega
    have hw : S.word neg ((L + 123) * 8388608 + q) = (if neg then 2147483648 + ((L + 123) * 8388608 + q) else (L + 123) * 8388608 + q) := by
      unfold Ieee.Format.word
      rw [show S.signWeight = 2147483648 from by decide]
    rw [hnear, hw]
    refine ⟨by split <;> omega, 23 - L, ?_⟩
    have hplace : (-3 - ((23 - L : Nat) : Int)) = -149 + (((L + 123) * 8388608 + q) / 8388608 - 1 : Nat) := by omega
    have hmant : n * 2 ^ (23 - L) = 8388608 + ((L + 123) * 8388608 + q) % 8388608 := by rw [← hq]; omega
    rw [hplace, hmant]
    generalize (L + 123) * 8388608 + q = r at *
    unfold Ieee.Format.read
    rw [show S.signWeight = 2147483648 from by decide, show S.binade = 8388608 from by decide, show S.infRung = 2139095040 from by decide, show S.leastPlace = -149 from by decide]
    have hge : ¬ r < 8388608 := by omega
    cases neg
    · simp only [Bool.false_eq_true, if_false]
      rw [Nat.mod_eq_of_lt (show r < 2147483648 by omega), show r / 2147483648 = 0 by omega]
      simp only [if_neg hge, if_pos hr]
      rfl
    · simp only [if_true]
      rw [show (2147483648 + r) % 2147483648 = r by omega, show (2147483648 + r) / 2147483648 = 1 by omega]
      simp only [if_neg hge, if_pos hr]
      rfl
/-- x eighths. -/
def Ev (c : Nat) (x : Int) : Prop := c < 4294967296 ∧ ∃ (s : Bool) (k : Nat), S.read c = .number s (x.natAbs * 2 ^ k) (-3 - (k : Int)) ∧ (x ≠ 0 → s = decide (x < 0))
theorem signed_ev {s : Bool} {x : Int} (hs : x ≠ 0 → s = decide (x < 0)) (k u : Nat) : Ieee.signed s (x.natAbs * 2 ^ k) u = x * ((2 ^ (k + u) : Nat) : Int) := by
  unfold Ieee.signed
  rw [Nat.shiftLeft_eq, Nat.mul_assoc, ← Nat.pow_add]
  by_cases h0 : x = 0
  · subst h0; simp
  · rw [hs h0]
    by_cases hx : x < 0
    · simp only [hx, decide_true, if_true]
      rw [Int.natCast_mul, show ((x.natAbs : Nat) : Int) = -x by omega, Int.neg_mul, Int.neg_neg]
    · simp only [hx, decide_false, Bool.false_eq_true, if_false]
      rw [Int.natCast_mul, show ((x.natAbs : Nat) : Int) = x by omega]
theorem sum_ev {s t : Bool} {x y : Int} {k j : Nat} (hs : x ≠ 0 → s = decide (x < 0)) (ht : y ≠ 0 → t = decide (y < 0)) (hxy : (x + y).natAbs < 16777216) :
    ∃ (r : Bool) (K : Nat), (Ieee.Datum.number s (x.natAbs * 2 ^ k) (-3 - (k : Int))).sum (.number t (y.natAbs * 2 ^ j) (-3 - (j : Int))) = some (.number r ((x + y).natAbs * 2 ^ K) (-3 - (K : Int))) ∧ (x + y ≠ 0 → r = decide (x + y < 0)) := by
  obtain ⟨K, hK⟩ : ∃ K, K = max k j := ⟨_, rfl⟩
  have hbase : min (-3 - (k : Int)) (-3 - (j : Int)) = -3 - (K : Int) := by omega
  have hp : (0 : Int) < ((2 ^ K : Nat) : Int) := Int.natCast_pos.2 (Nat.pow_pos (by decide))
  unfold Ieee.Datum.sum
  simp only [hbase]
  rw [show (-3 - (k : Int) - (-3 - (K : Int))).toNat = K - k by omega, show (-3 - (j : Int) - (-3 - (K : Int))).toNat = K - j by omega, signed_ev hs, signed_ev ht, show k + (K - k) = K by omega, show j + (K - j) = K by omega, ← Int.add_mul]
  refine ⟨if (x + y) * ((2 ^ K : Nat) : Int) = 0 then s && t else decide ((x + y) * ((2 ^ K : Nat) : Int) < 0), K, ?_, ?_⟩
  · rw [Int.natAbs_mul, Int.natAbs_natCast]
  · intro h
    have h1 : (x + y) * ((2 ^ K : Nat) : Int) ≠ 0 := Int.mul_ne_zero h (by omega)
    rw [if_neg h1]
    congr 1
    rw [eq_iff_iff]
    constructor
    · intro h2
      by_cases h3 : x + y < 0
      · exact h3
      · have := Int.mul_nonneg (show 0 ≤ x + y by omega) (Int.le_of_lt hp); omega
    · intro h2
      exact Int.mul_neg_of_neg_of_pos h2 hp
theorem ev_near {r : Bool} {z : Int} {K : Nat} (hr : z ≠ 0 → r = decide (z < 0)) (hz : z.natAbs < 16777216) : Ev (S.write (.number r (z.natAbs * 2 ^ K) (-3 - (K : Int)))) z := by
  obtain ⟨h1, k, h2⟩ := near_read r z.natAbs K hz
  exact ⟨h1, r, k, h2, hr⟩
theorem Ev.add {a b : Nat} {x y : Int} (ha : Ev a x) (hb : Ev b y) (hxy : (x + y).natAbs < 16777216) : Ev (addF a b) (x + y) := by
  obtain ⟨-, s, k, h1, h2⟩ := ha
  obtain ⟨-, t, j, h3, h4⟩ := hb
  obtain ⟨r, K, h5, h6⟩ := sum_ev h2 h4 hxy (k := k) (j := j)
  have h7 : addF a b = S.write (.number r ((x + y).natAbs * 2 ^ K) (-3 - (K : Int))) := by
    show ((floatBits .add .f32 a b).getD _) = _
    show ((S.add a b).getD _) = _
    rw [Ieee.Format.add, h1, h3, h5]
    rfl
  rw [h7]
  exact ev_near h6 hxy
theorem Ev.sub {a b : Nat} {x y : Int} (ha : Ev a x) (hb : Ev b y) (hxy : (x - y).natAbs < 16777216) : Ev (subF a b) (x - y) := by
  obtain ⟨-, s, k, h1, h2⟩ := ha
  obtain ⟨-, t, j, h3, h4⟩ := hb
  have h4' : -y ≠ 0 → (!t) = decide (-y < 0) := by
    intro h
    rw [h4 (by omega)]
    by_cases h5 : y < 0
    · rw [decide_eq_true h5, decide_eq_false (by omega)]; rfl
    · rw [decide_eq_false h5, decide_eq_true (by omega)]; rfl
  obtain ⟨r, K, h5, h6⟩ := sum_ev h2 h4' (by rw [← Int.sub_eq_add_neg]; exact hxy) (k := k) (j := j)
  rw [← Int.sub_eq_add_neg, Int.natAbs_neg] at h5
  rw [← Int.sub_eq_add_neg] at h6
  have h7 : subF a b = S.write (.number r ((x - y).natAbs * 2 ^ K) (-3 - (K : Int))) := by
    show ((floatBits .sub .f32 a b).getD _) = _
    show ((S.sub a b).getD _) = _
    rw [Ieee.Format.sub, h1, h3]
    show (Option.map S.write ((Ieee.Datum.number s _ _).sum (Ieee.Datum.number (!t) _ _))).getD _ = _
    rw [h5]
    rfl
  rw [h7]
  exact ev_near h6 hxy
/-- How such numbers stand to each other. -/
theorem Ev.order {a b : Nat} {x y : Int} (ha : Ev a x) (hb : Ev b y) : S.order a b = some (compare x y) := by
  obtain ⟨-, s, k, h1, h2⟩ := ha
  obtain ⟨-, t, j, h3, h4⟩ := hb
  obtain ⟨K, hK⟩ : ∃ K, K = max k j := ⟨_, rfl⟩
  have hbase : min (-3 - (k : Int)) (-3 - (j : Int)) = -3 - (K : Int) := by omega
  show (S.read a).order (S.read b) = _
  rw [h1, h3]
  unfold Ieee.Datum.order
  simp only [hbase]
  rw [show (-3 - (k : Int) - (-3 - (K : Int))).toNat = K - k by omega, show (-3 - (j : Int) - (-3 - (K : Int))).toNat = K - j by omega, signed_ev h2, signed_ev h4, show k + (K - k) = K by omega, show j + (K - j) = K by omega]
  congr 1
  have hp : (0 : Int) < ((2 ^ K : Nat) : Int) := Int.natCast_pos.2 (Nat.pow_pos (by decide))
  rcases Int.lt_trichotomy x y with h | h | h
  · have h5 : x * ((2 ^ K : Nat) : Int) < y * ((2 ^ K : Nat) : Int) := Int.mul_lt_mul_of_pos_right h hp
    simp only [compare, compareOfLessAndEq, if_pos h, if_pos h5]
  · subst h
    simp [compare, compareOfLessAndEq]
  · have h5 : y * ((2 ^ K : Nat) : Int) < x * ((2 ^ K : Nat) : Int) := Int.mul_lt_mul_of_pos_right h hp
    have h6 : ¬ x < y := by omega
    have h7 : ¬ x = y := by omega
    have h8 : ¬ x * ((2 ^ K : Nat) : Int) < y * ((2 ^ K : Nat) : Int) := by omega
    have h9 : ¬ x * ((2 ^ K : Nat) : Int) = y * ((2 ^ K : Nat) : Int) := by omega
    simp only [compare, compareOfLessAndEq, if_neg h6, if_neg h7, if_neg h8, if_neg h9]
theorem Ev.notNaN {a : Nat} {x : Int} (ha : Ev a x) : (S.read a).isNaN = false := by
  obtain ⟨-, s, k, h1, -⟩ := ha
  rw [h1]; rfl
theorem Ev.cn {a : Nat} {x : Int} (ha : Ev a x) : cn .f32 a = a := cn_of_not ha.notNaN
theorem ev_zero : Ev 0 0 := ⟨by decide, false, 146, by decide, by simp⟩
theorem cmpI (x y : Int) : compare x y = (if x < y then .lt else if x = y then .eq else .gt) := by simp only [compare, compareOfLessAndEq]
theorem Ev.lss {a b : Nat} {x y : Int} (ha : Ev a x) (hb : Ev b y) : fc .lss .f32 a b = decide (x < y) := by
  show (S.order a b == some .lt) = _
  rw [ha.order hb, cmpI]
  by_cases h : x < y
  · rw [if_pos h, decide_eq_true h]; rfl
  · rw [if_neg h, decide_eq_false h]; split <;> rfl
theorem Ev.gtr {a b : Nat} {x y : Int} (ha : Ev a x) (hb : Ev b y) : fc .gtr .f32 a b = decide (y < x) := by
  show (S.order a b == some .gt) = _
  rw [ha.order hb, cmpI]
  by_cases h : y < x
  · rw [if_neg (by omega), if_neg (by omega), decide_eq_true h]; rfl
  · rw [decide_eq_false h]; split
    · rfl
    · rw [if_pos (by omega)]; rfl
theorem Ev.eql {a b : Nat} {x y : Int} (ha : Ev a x) (hb : Ev b y) : fc .eql .f32 a b = decide (x = y) := by
  show (S.order a b == some .eq) = _
  rw [ha.order hb, cmpI]
  by_cases h : x = y
  · rw [if_neg (by omega), if_pos h, decide_eq_true h]; rfl
  · rw [decide_eq_false h]; split
    · rfl
    · rfl
theorem Ev.fin {a : Nat} {x : Int} (ha : Ev a x) : fin a = true := by
  have h := (ha.sub ha (by rw [Int.sub_self]; decide)).eql ev_zero
  rw [Int.sub_self, decide_eq_true rfl] at h
  exact h
/-- One step of a drift. -/
theorem ev_up {s x m k : Nat} {S0 X M K : Int} (h1 : Ev s S0) (h2 : Ev x X) (h3 : Ev m M) (h4 : Ev k K) (b1 : S0.natAbs ≤ 1000000) (b2 : X.natAbs ≤ 1000) (b3 : M.natAbs ≤ 1000) (b4 : K.natAbs ≤ 1000) : Ev (subF (subF (addF s x) m) k) (S0 + X - M - K) :=
  ((h1.add h2 (by omega)).sub h3 (by omega)).sub h4 (by omega)
theorem ev_down {s x m k : Nat} {S0 X M K : Int} (h1 : Ev s S0) (h2 : Ev x X) (h3 : Ev m M) (h4 : Ev k K) (b1 : S0.natAbs ≤ 1000000) (b2 : X.natAbs ≤ 1000) (b3 : M.natAbs ≤ 1000) (b4 : K.natAbs ≤ 1000) : Ev (subF (subF (addF s m) x) k) (S0 + M - X - K) :=
  ((h1.add h3 (by omega)).sub h2 (by omega)).sub h4 (by omega)

end Go.Proofs.Ytkkomajokdlkeaa

namespace Go.Proofs.Ytkkomajokdlkeaa
set_option linter.unusedSimpArgs false
set_option linter.unusedVariables false
set_option maxRecDepth 100000
set_option maxHeartbeats 4000000
open Go.RowKit
/-- At most 2^e in size. -/
def Bd (c e : Nat) : Prop := c < 4294967296 ∧ c % 2147483648 ≤ (e + 127) * 8388608
theorem Bd.mono {c e e' : Nat} (h : Bd c e) (he : e ≤ e') : Bd c e' := ⟨h.1, Nat.le_trans h.2 (Nat.mul_le_mul_right _ (by omega))⟩
theorem cut_le_bd (neg : Bool) (n d : Nat) : Ieee.Toward.even.cut neg n d ≤ n / 2 ^ d + 1 := by
  unfold Ieee.Toward.cut
  simp only [Nat.one_shiftLeft]
  have h : ∀ b : Bool, b.toNat ≤ 1 := by decide
  refine Nat.add_le_add ?_ (h _)
  by_cases hd : d ≤ n.log2 + 2
  · rw [Nat.min_eq_left hd]; exact Nat.le_refl _
  · rw [Nat.min_eq_right (by omega)]
    have hn : n < 2 ^ (n.log2 + 2) := by
      by_cases h0 : n = 0
      · subst h0; decide
      · exact Nat.lt_trans ((Nat.log2_eq_iff h0).1 rfl).2 (Nat.pow_lt_pow_right (by decide) (by omega))
    rw [Nat.div_eq_of_lt hn]
    exact Nat.zero_le _
theorem word_bd {neg : Bool} {r e : Nat} (hr : r ≤ (e + 127) * 8388608) (he : e ≤ 120) : Bd (S.word neg r) e := by
  unfold Ieee.Format.word
  rw [show S.signWeight = 2147483648 from by decide]
  refine ⟨by split <;> omega, ?_⟩
  split
  · rw [Nat.add_mod_left]; exact Nat.le_trans (Nat.mod_le _ _) hr
  · exact Nat.le_trans (Nat.mod_le _ _) hr
theorem near_bd (neg : Bool) (mag : Nat) (place : Int) (e : Nat) (he : e ≤ 119) (k : Nat) (hk : (e : Int) - place = (k : Int)) (h : mag ≤ 2 ^ k) : Bd (S.nearest neg mag place) (e + 1) := by
  by_cases h0 : mag = 0
  · subst h0
    rw [show S.nearest neg 0 place = S.word neg 0 by unfold Ieee.Format.nearest; rw [if_pos rfl]]
    exact word_bd (by omega) (by omega)
  · unfold Ieee.Format.nearest
    rw [if_neg h0]
    have hL := (Nat.log2_eq_iff h0).1 rfl
    obtain ⟨L, hLL⟩ : ∃ L, L = mag.log2 := ⟨_, rfl⟩
    rw [← hLL] at hL ⊢
    rw [show S.leastPlace = -149 from by decide, show S.binade = 8388608 from by decide, show (S.fractionBits : Int) = 23 from rfl]
    have hLk : L ≤ k := by
      have h1 : 2 ^ L ≤ 2 ^ k := Nat.le_trans hL.1 h
      exact (Nat.pow_le_pow_iff_right (by decide)).1 h1
    obtain ⟨last, hlast⟩ : ∃ last, last = max (place + (L : Int) - 23) (-149) := ⟨_, rfl⟩
    rw [← hlast]
    dsimp only
    have hkept : Ieee.Toward.even.cut neg (mag <<< (place - last).toNat) (last - place).toNat ≤ 16777216 := by
      have hc := cut_le_bd neg (mag <<< (place - last).toNat) (last - place).toNat
      have hq : (mag <<< (place - last).toNat) / 2 ^ (last - place).toNat < 2 ^ 24 := by
        refine Nat.div_lt_of_lt_mul ?_
        rw [Nat.shiftLeft_eq, ← Nat.pow_add]
        refine Nat.lt_of_lt_of_le (Nat.mul_lt_mul_of_pos_right hL.2 (Nat.pow_pos (by decide))) ?_
        rw [← Nat.pow_add]
        exact Nat.pow_le_pow_right (by decide) (by omega)
      have h24 : (2 : Nat) ^ 24 = 16777216 := by decide
      rw [h24] at hq
      generalize (mag <<< (place - last).toNat) / 2 ^ (last - place).toNat = q at *
      omega
    generalize Ieee.Toward.even.cut neg (mag <<< (place - last).toNat) (last - place).toNat = kept at *
    obtain ⟨q, hq⟩ : ∃ q, q = (last - -149).toNat := ⟨_, rfl⟩
    have h2 : q ≤ e + 126 := by omega
    rw [← hq]
    obtain ⟨R, hR⟩ : ∃ R, R = q * 8388608 + kept := ⟨_, rfl⟩
    have h3 : R ≤ (e + 1 + 127) * 8388608 := by omega
    rw [← hR]
    exact word_bd (Nat.le_trans (Nat.min_le_left R _) h3) (by omega)
/-- What is read of such a number. -/
theorem Bd.read {c e : Nat} (h : Bd c e) (he : e ≤ 120) : ∃ (s : Bool) (m j : Nat), S.read c = .number s m (-149 + (j : Int)) ∧ m * 2 ^ j ≤ 2 ^ (e + 149) ∧ j ≤ 300 := by
  obtain ⟨h1, h2⟩ := h
  rw [read_single]
  generalize c % 2147483648 = r at *
  have h3 : r < 2139095040 := by omega
  by_cases h4 : r < 8388608
  · rw [if_pos h4]
    refine ⟨_, r, 0, rfl, ?_, by omega⟩
    rw [Nat.pow_zero, Nat.mul_one, show e + 149 = 23 + (e + 126) by omega, Nat.pow_add]
    have : 0 < 2 ^ (e + 126) := Nat.pow_pos (by decide)
    have h5 : (2 : Nat) ^ 23 = 8388608 := by decide
    rw [h5]
    exact Nat.le_trans (Nat.le_of_lt h4) (Nat.le_mul_of_pos_right _ this)
  · rw [if_neg h4, if_pos h3]
    refine ⟨_, 8388608 + r % 8388608, r / 8388608 - 1, rfl, ?_, by omega⟩
    have hd : r / 8388608 ≤ e + 127 := by omega
    by_cases h5 : r / 8388608 = e + 127
    · have h6 : r % 8388608 = 0 := by omega
      rw [h6, h5, show e + 127 - 1 = e + 126 by omega, show e + 149 = 23 + (e + 126) by omega, Nat.pow_add 2 23]
      exact Nat.le_refl _
    · have h6 : r / 8388608 - 1 ≤ e + 125 := by omega
      have h7 : 8388608 + r % 8388608 ≤ 2 ^ 24 := by have : (2 : Nat) ^ 24 = 16777216 := by decide
                                                     omega
      rw [show e + 149 = 24 + (e + 125) by omega, Nat.pow_add]
      exact Nat.mul_le_mul h7 (Nat.pow_le_pow_right (by decide) h6)
theorem signed_abs (s : Bool) (m u : Nat) : (Ieee.signed s m u).natAbs = m * 2 ^ u := by
  unfold Ieee.signed
  rw [Nat.shiftLeft_eq]
  cases s
  · show (((m * 2 ^ u : Nat)) : Int).natAbs = _
    exact Int.natAbs_natCast _
  · show (-(((m * 2 ^ u : Nat)) : Int)).natAbs = _
    rw [Int.natAbs_neg]
    exact Int.natAbs_natCast _
theorem sum_bd {s t : Bool} {m n i j e : Nat} (h1 : m * 2 ^ i ≤ 2 ^ (e + 149)) (h2 : n * 2 ^ j ≤ 2 ^ (e + 149)) (he : e ≤ 117) (hi : i ≤ 300) (hj : j ≤ 300) :
    ∃ r : Nat, (Option.map S.write ((Ieee.Datum.number s m (-149 + (i : Int))).sum (.number t n (-149 + (j : Int))))) = some r ∧ Bd r (e + 2) := by
  obtain ⟨K, hK⟩ : ∃ K, K = min i j := ⟨_, rfl⟩
  have hbase : min (-149 + (i : Int)) (-149 + (j : Int)) = -149 + (K : Int) := by omega
  unfold Ieee.Datum.sum
  simp only [hbase]
  rw [show (-149 + (i : Int) - (-149 + (K : Int))).toNat = i - K by omega, show (-149 + (j : Int) - (-149 + (K : Int))).toNat = j - K by omega]
  refine ⟨_, rfl, ?_⟩
  have ha := signed_abs s m (i - K)
  have hb := signed_abs t n (j - K)
  have hp : 0 < 2 ^ K := Nat.pow_pos (by decide)
  have e1 : m * 2 ^ (i - K) * 2 ^ K = m * 2 ^ i := by rw [Nat.mul_assoc, ← Nat.pow_add, show i - K + K = i by omega]
  have e2 : n * 2 ^ (j - K) * 2 ^ K = n * 2 ^ j := by rw [Nat.mul_assoc, ← Nat.pow_add, show j - K + K = j by omega]
  generalize Ieee.signed s m (i - K) = A at *
  generalize Ieee.signed t n (j - K) = B at *
  have hab : (A + B).natAbs ≤ m * 2 ^ (i - K) + n * 2 ^ (j - K) := by omega
  have htot : (A + B).natAbs * 2 ^ K ≤ 2 ^ (e + 150) := by
    refine Nat.le_trans (Nat.mul_le_mul_right _ hab) ?_
    rw [Nat.add_mul, e1, e2, show e + 150 = e + 149 + 1 by omega, Nat.pow_succ]
    omega
  by_cases hKe : K ≤ e + 150
  · refine near_bd _ _ _ (e + 1) (by omega) (e + 150 - K) (by omega) ?_
    have h5 : 2 ^ (e + 150) = 2 ^ (e + 150 - K) * 2 ^ K := by rw [← Nat.pow_add, show e + 150 - K + K = e + 150 by omega]
    rw [h5] at htot
    exact Nat.le_of_mul_le_mul_right htot hp
  · have h5 : (A + B).natAbs = 0 := by
      rcases Nat.eq_zero_or_pos (A + B).natAbs with h | h
      · exact h
      · have h6 : 2 ^ K ≤ (A + B).natAbs * 2 ^ K := Nat.le_mul_of_pos_left _ h
        have h7 : 2 ^ (e + 150) < 2 ^ K := Nat.pow_lt_pow_right (by decide) (by omega)
        omega
    show Bd (S.nearest _ (A + B).natAbs _) _
    rw [h5, show ∀ g p, S.nearest g 0 p = S.word g 0 from fun g p => by unfold Ieee.Format.nearest; rw [if_pos rfl]]
    exact word_bd (by omega) (by omega)
theorem Bd.add {a b e : Nat} (ha : Bd a e) (hb : Bd b e) (he : e ≤ 117) : Bd (addF a b) (e + 2) := by
  obtain ⟨s, m, i, h1, h2, h3⟩ := ha.read (by omega)
  obtain ⟨t, n, j, h4, h5, h6⟩ := hb.read (by omega)
  obtain ⟨r, h7, h8⟩ := sum_bd (s := s) (t := t) h2 h5 he h3 h6
  have e1 : addF a b = r := by
    show ((S.add a b).getD _) = _
    rw [Ieee.Format.add, h1, h4, h7]; rfl
  rw [e1]; exact h8
theorem Bd.sub {a b e : Nat} (ha : Bd a e) (hb : Bd b e) (he : e ≤ 117) : Bd (subF a b) (e + 2) := by
  obtain ⟨s, m, i, h1, h2, h3⟩ := ha.read (by omega)
  obtain ⟨t, n, j, h4, h5, h6⟩ := hb.read (by omega)
  obtain ⟨r, h7, h8⟩ := sum_bd (s := s) (t := !t) h2 h5 he h3 h6
  have e1 : subF a b = r := by
    show ((S.sub a b).getD _) = _
    rw [Ieee.Format.sub, h1, h4]
    show (Option.map S.write ((Ieee.Datum.number s m _).sum (Ieee.Datum.number (!t) n _))).getD _ = _
    rw [h7]; rfl
  rw [e1]; exact h8
/-- A quarter. -/
theorem Bd.quarter {c e : Nat} (hc : Bd c e) (he : e ≤ 117) : Bd (mulF 1048576000 c) (e + 1) := by
  obtain ⟨s, m, i, h1, h2, h3⟩ := hc.read (by omega)
  have e1 : mulF 1048576000 c = S.nearest (false ^^ s) (8388608 * m) (-25 + (-149 + (i : Int))) := by
    show ((S.mul 1048576000 c).getD _) = _
    rw [Ieee.Format.mul, h1, show S.read 1048576000 = .number false 8388608 (-25) from by decide]
    rfl
  rw [e1]
  by_cases hi : i ≤ e + 174
  · refine near_bd _ _ _ e (by omega) (e + 174 - i) (by omega) ?_
    have hp : 0 < 2 ^ i := Nat.pow_pos (by decide)
    have h5 : 2 ^ (e + 174) = 2 ^ (e + 174 - i) * 2 ^ i := by rw [← Nat.pow_add, show e + 174 - i + i = e + 174 by omega]
    have h6 : 8388608 * m * 2 ^ i ≤ 2 ^ (e + 174) := by
      rw [Nat.mul_assoc, show e + 174 = 25 + (e + 149) by omega, Nat.pow_add]
      exact Nat.mul_le_mul (by decide) h2
    rw [h5] at h6
    exact Nat.le_of_mul_le_mul_right h6 hp
  · have h5 : m = 0 := by
      rcases Nat.eq_zero_or_pos m with h | h
      · exact h
      · have h6 : 2 ^ i ≤ m * 2 ^ i := Nat.le_mul_of_pos_left _ h
        have h7 : 2 ^ (e + 149) < 2 ^ i := Nat.pow_lt_pow_right (by decide) (by omega)
        omega
    rw [h5, Nat.mul_zero, show ∀ g p, S.nearest g 0 p = S.word g 0 from fun g p => by unfold Ieee.Format.nearest; rw [if_pos rfl]]
    exact word_bd (by omega) (by omega)
theorem Bd.fin {c e : Nat} (hc : Bd c e) (he : e ≤ 110) : fin c = true := by
  have hs := hc.sub hc (by omega)
  obtain ⟨s, m, i, h1, -, -⟩ := hc.read (by omega)
  have ho : S.order (subF c c) 0 = some .eq := by
    have e1 : subF c c = S.word (if (0 : Int) = 0 then s && !s else decide ((0 : Int) < 0)) 0 := by
      show ((S.sub c c).getD _) = _
      rw [Ieee.Format.sub, h1]
      show (Option.map S.write ((Ieee.Datum.number s m _).sum (Ieee.Datum.number (!s) m _))).getD _ = _
      unfold Ieee.Datum.sum
      have hz : Ieee.signed s m (-149 + (i : Int) - min (-149 + (i : Int)) (-149 + (i : Int))).toNat + Ieee.signed (!s) m (-149 + (i : Int) - min (-149 + (i : Int)) (-149 + (i : Int))).toNat = 0 := by
        unfold Ieee.signed
        cases s <;> simp <;> omega
      simp only [hz]
      show S.nearest _ (Int.natAbs 0) (min (-149 + (i : Int)) (-149 + (i : Int))) = _
      rw [Int.natAbs_zero, show ∀ g p, S.nearest g 0 p = S.word g 0 from fun g p => by unfold Ieee.Format.nearest; rw [if_pos rfl]]
    rw [e1]
    cases s <;> decide
  show (S.order (subF c c) 0 == some .eq) = true
  rw [ho]; rfl
/-- One step of the chart. -/
theorem Bd.step {s x e : Nat} (hs : Bd s e) (hx : Bd x e) (he : e ≤ 100) : Bd (addF s (mulF 1048576000 (subF x s))) (e + 5) := by
  have h1 := hx.sub hs (by omega)
  have h2 := h1.quarter (by omega)
  exact (hs.mono (show e ≤ e + 2 + 1 by omega)).add h2 (by omega)

end Go.Proofs.Ytkkomajokdlkeaa
