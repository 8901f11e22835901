/- The numbers that words stand for, as fractions; no rounding is off by more than a step. Plain: no program. -/
import Derived.Test.YtkkomajokdlkeaaQ6
namespace Go.Proofs.Ytkkomajokdlkeaa
set_option linter.unusedSimpArgs false
set_option linter.unusedVariables false
set_option maxRecDepth 100000
set_option maxHeartbeats 4000000
open Go.RowKit

/-- Two to a power. -/
def pw (z : Int) : Rat := (2 : Rat) ^ z
theorem pw_pos (z : Int) : 0 < pw z := Rat.zpow_pos (by decide)
theorem pw_add (a b : Int) : pw (a + b) = pw a * pw b := Rat.zpow_add (by decide) a b
theorem pw_nat (n : Nat) : pw (n : Int) = ((2 ^ n : Nat) : Rat) := by
  show (2 : Rat) ^ (n : Int) = _
  rw [Rat.zpow_natCast, Rat.natCast_pow]; rfl
theorem pw_zero : pw 0 = 1 := rfl
theorem pw_mono {a b : Int} (h : a ≤ b) : pw a ≤ pw b := by
  obtain ⟨k, rfl⟩ : ∃ k : Nat, b = a + (k : Int) := ⟨(b - a).toNat, by omega⟩
  rw [pw_add, pw_nat]
  have h1 : (1 : Rat) ≤ ((2 ^ k : Nat) : Rat) := by
    have : ((1 : Nat) : Rat) ≤ ((2 ^ k : Nat) : Rat) := Rat.natCast_le_natCast.2 (Nat.two_pow_pos k)
    exact this
  have := Rat.mul_le_mul_of_nonneg_left h1 (Rat.le_of_lt (pw_pos a))
  grind
/-- What a sign and a size stand for. -/
def sg (s : Bool) (x : Rat) : Rat := if s then -x else x
/-- The word stands for the number. -/
def QV (f : Ieee.Format) (c : Nat) (x : Rat) : Prop := ∃ s m p, f.read c = .number s m p ∧ x = sg s ((m : Rat) * pw p)

theorem cut_near (s : Bool) (n d : Nat) : Ieee.Toward.even.cut s n d * 2 ^ d ≤ n + 2 ^ d ∧ n ≤ Ieee.Toward.even.cut s n d * 2 ^ d + 2 ^ d := by
  have hb : ∀ b : Bool, b.toNat ≤ 1 := by decide
  unfold Ieee.Toward.cut
  simp only [Nat.one_shiftLeft]
  generalize hm : (decide (2 ^ min d (n.log2 + 2) < 2 * (n % 2 ^ min d (n.log2 + 2))) || (2 ^ min d (n.log2 + 2) == 2 * (n % 2 ^ min d (n.log2 + 2)) && n / 2 ^ min d (n.log2 + 2) % 2 == 1)) = b
  have hb1 := hb b
  generalize b.toNat = t at *
  rcases Nat.lt_or_ge (n.log2 + 2) d with h | h
  · rw [Nat.min_eq_right (by omega)]
    have h1 : n < 2 ^ (n.log2 + 2) := Nat.lt_of_lt_of_le Nat.lt_log2_self (Nat.pow_le_pow_right (by omega) (by omega))
    have h2 : n < 2 ^ d := Nat.lt_of_lt_of_le h1 (Nat.pow_le_pow_right (by omega) (by omega))
    rw [Nat.div_eq_of_lt h1, Nat.zero_add]
    generalize 2 ^ d = p at *
    have : t * p ≤ 1 * p := Nat.mul_le_mul_right _ hb1
    omega
  · rw [Nat.min_eq_left h, Nat.add_mul]
    have h1 := Nat.div_add_mod n (2 ^ d)
    have h2 := Nat.mod_lt n (Nat.two_pow_pos d)
    rw [Nat.mul_comm] at h1
    generalize 2 ^ d = p at *
    have : t * p ≤ 1 * p := Nat.mul_le_mul_right _ hb1
    omega

/-- What the bits below the sign stand for. -/
def rv (f : Ieee.Format) (r : Nat) : Rat := if r < f.binade then (r : Rat) * pw f.leastPlace else ((f.binade + r % f.binade : Nat) : Rat) * pw (f.leastPlace + ((r / f.binade - 1 : Nat) : Int))
theorem qv_word {f : Ieee.Format} (hf : f.binade ≤ f.infRung) (s : Bool) {r : Nat} (hr : r < f.infRung) : QV f (f.word s r) (sg s (rv f r)) := by
  have hw : f.word s r % f.signWeight = r := word_mod f s (Nat.lt_trans hr f.infRung_lt)
  have hs : (f.word s r / f.signWeight % 2 == 1) = s := by
    have h1 : r < f.signWeight := Nat.lt_trans hr f.infRung_lt
    unfold Ieee.Format.word
    cases s
    · rw [if_neg (by decide), Nat.div_eq_of_lt h1]; rfl
    · rw [if_pos rfl, Nat.add_div_left _ (by omega), Nat.div_eq_of_lt h1]; rfl
  unfold QV Ieee.Format.read rv
  dsimp only
  rw [hw, hs]
  by_cases h : r < f.binade
  · rw [if_pos h, if_pos h]; exact ⟨_, _, _, rfl, rfl⟩
  · rw [if_neg h, if_neg h, if_pos hr]; exact ⟨_, _, _, rfl, rfl⟩
theorem rv_at (f : Ieee.Format) (j k : Nat) (hk : k ≤ 2 * f.binade) (h : j = 0 ∨ f.binade ≤ k) : rv f (j * f.binade + k) = (k : Rat) * pw (f.leastPlace + (j : Int)) := by
  have hb : 0 < f.binade := Nat.two_pow_pos _
  unfold rv
  by_cases h1 : j * f.binade + k < f.binade
  · have hj : j = 0 := by
      rcases h with h | h
      · exact h
      · omega
    subst hj
    rw [if_pos h1]; simp
  · rw [if_neg h1]
    have hk1 : f.binade ≤ k := by
      rcases h with h | h
      · subst h; omega
      · exact h
    by_cases h2 : k = 2 * f.binade
    · have e : j * f.binade + k = (j + 2) * f.binade := by rw [h2, Nat.add_mul]
      rw [e, Nat.mul_mod_left, Nat.mul_div_cancel _ hb, h2, show (f.leastPlace + ((j + 2 - 1 : Nat) : Int)) = f.leastPlace + (j : Int) + 1 by omega, pw_add _ 1]
      have : pw 1 = 2 := by decide
      rw [this, Nat.add_zero]
      push_cast
      grind
    · have e : j * f.binade + k = (k - f.binade) + f.binade * (j + 1) := by rw [Nat.mul_add, Nat.mul_comm]; omega
      have h3 : k - f.binade < f.binade := by omega
      rw [e, Nat.add_mul_mod_self_left, Nat.mod_eq_of_lt h3, Nat.add_mul_div_left _ _ hb, Nat.div_eq_of_lt h3, show f.binade + (k - f.binade) = k by omega, show 0 + (j + 1) - 1 = j by omega]
/-- A format with room for what is less than 2^B. -/
structure Room (f : Ieee.Format) (B : Int) : Prop where
  room : B - f.fractionBits - f.leastPlace + 2 ≤ ((2 ^ f.exponentBits - 1 : Nat) : Int)
  some : 4 ≤ 2 ^ f.exponentBits
/-- THE LAW: the nearest word is off by no more than a step. -/
theorem near_qv {f : Ieee.Format} {B : Int} (hf : Room f B) (s : Bool) (m : Nat) (p : Int) (hB : (m : Rat) * pw p < pw B) :
    ∃ y, QV f (f.nearest s m p) (sg s y) ∧ (m = 0 → y = 0) ∧ 0 ≤ y ∧ y ≤ (m : Rat) * pw p + (m : Rat) * pw p * pw (-f.fractionBits) + pw f.leastPlace ∧ (m : Rat) * pw p ≤ y + (m : Rat) * pw p * pw (-f.fractionBits) + pw f.leastPlace := by
  have hbp : 0 < f.binade := Nat.two_pow_pos _
  have hbi : 2 * f.binade ≤ f.infRung := Nat.mul_le_mul_right _ (by have := hf.some; omega)
  have hl := pw_pos f.leastPlace
  have hfb := pw_pos (-(f.fractionBits : Int))
  unfold Ieee.Format.nearest
  by_cases h0 : m = 0
  · rw [if_pos h0]
    subst h0
    refine ⟨rv f 0, qv_word (by omega) s (by omega), ?_⟩
    have e : rv f 0 = 0 := by unfold rv; rw [if_pos hbp]; simp
    rw [e]
    have e2 : ((0 : Nat) : Rat) * pw p = 0 := by simp
    rw [e2]
    exact ⟨fun _ => rfl, by grind, by grind, by grind⟩
  · rw [if_neg h0]
    dsimp only
    have hL := (Nat.log2_eq_iff h0).1 rfl
    generalize hLL : m.log2 = L at *
    have hxL : pw (p + L) ≤ (m : Rat) * pw p := by
      rw [Int.add_comm, pw_add, pw_nat]
      exact Rat.mul_le_mul_of_nonneg_right (Rat.natCast_le_natCast.2 hL.1) (Rat.le_of_lt (pw_pos p))
    generalize hlast : max (p + (L : Int) - (f.fractionBits : Int)) f.leastPlace = last
    have hlB : p + (L : Int) < B := by
      rcases Int.lt_or_le (p + (L : Int)) B with h | h
      · exact h
      · have := pw_mono h; grind
    -- the step
    have hstep : pw last ≤ (m : Rat) * pw p * pw (-f.fractionBits) + pw f.leastPlace := by
      rcases Int.le_total (p + (L : Int) - (f.fractionBits : Int)) f.leastPlace with h | h
      · have : last = f.leastPlace := by omega
        rw [this]
        have := Rat.mul_nonneg (Rat.mul_nonneg (show (0 : Rat) ≤ (m : Rat) from Rat.natCast_nonneg) (Rat.le_of_lt (pw_pos p))) (Rat.le_of_lt hfb)
        grind
      · have : last = p + (L : Int) + (-(f.fractionBits : Int)) := by omega
        rw [this, pw_add _ (-(f.fractionBits : Int))]
        have := Rat.mul_le_mul_of_nonneg_right hxL (Rat.le_of_lt hfb)
        grind
    obtain ⟨a, ha⟩ : ∃ a, a = (p - last).toNat := ⟨_, rfl⟩
    obtain ⟨d, hd⟩ : ∃ d, d = (last - p).toNat := ⟨_, rfl⟩
    rw [← ha, ← hd, Nat.shiftLeft_eq]
    have hc := cut_near s (m * 2 ^ a) d
    have hkept2 : Ieee.Toward.even.cut s (m * 2 ^ a) d ≤ 2 * f.binade := by
      refine Nat.le_trans (cut_le _ _ _) ?_
      have := shl_div_lt m a d f.fractionBits h0 (by omega) (by omega)
      rw [Nat.shiftLeft_eq] at this
      unfold Ieee.Format.binade
      rw [Nat.pow_succ] at this
      omega
    have hkept1 : last = f.leastPlace ∨ f.binade ≤ Ieee.Toward.even.cut s (m * 2 ^ a) d := by
      rcases Int.le_total (p + (L : Int) - (f.fractionBits : Int)) f.leastPlace with h | h
      · exact .inl (by omega)
      · refine .inr ?_
        have h1 : f.binade ≤ m * 2 ^ a / 2 ^ d := by
          rw [Nat.le_div_iff_mul_le (Nat.two_pow_pos _)]
          unfold Ieee.Format.binade
          rw [← Nat.pow_add]
          refine Nat.le_trans (Nat.pow_le_pow_right (by decide) (show f.fractionBits + d ≤ L + a by omega)) ?_
          rw [Nat.pow_add]
          exact Nat.mul_le_mul_right _ hL.1
        refine Nat.le_trans h1 ?_
        unfold Ieee.Toward.cut
        simp only [Nat.one_shiftLeft]
        refine Nat.le_trans ?_ (Nat.le_add_right _ _)
        exact Nat.div_le_div_left (Nat.pow_le_pow_right (by decide) (Nat.min_le_left _ _)) (Nat.two_pow_pos _)
    generalize Ieee.Toward.even.cut s (m * 2 ^ a) d = kept at *
    obtain ⟨j, hj⟩ : ∃ j, j = (last - f.leastPlace).toNat := ⟨_, rfl⟩
    rw [← hj]
    have hr : j * f.binade + kept < f.infRung := by
      have h1 : j * f.binade + kept ≤ (j + 2) * f.binade := by rw [Nat.add_mul]; omega
      have h2 : j + 2 < 2 ^ f.exponentBits - 1 := by
        have h7 := hf.room
        have h8 := hf.some
        have h9 : ((2 ^ f.exponentBits - 1 : Nat) : Int) = ((2 ^ f.exponentBits : Nat) : Int) - 1 := by omega
        generalize 2 ^ f.exponentBits = E at *
        omega
      have h3 : (j + 2) * f.binade < (2 ^ f.exponentBits - 1) * f.binade := Nat.mul_lt_mul_of_pos_right h2 hbp
      exact Nat.lt_of_le_of_lt h1 h3
    rw [Nat.min_eq_left (Nat.le_of_lt hr)]
    refine ⟨_, qv_word (by omega) s hr, ?_⟩
    rw [rv_at f j kept hkept2 (by omega), show f.leastPlace + (j : Int) = last by omega]
    have hpl := pw_pos last
    -- all in steps of 2^(last - d)
    have e1 : pw last = pw (last - (d : Int)) * ((2 ^ d : Nat) : Rat) := by rw [← pw_nat, ← pw_add]; congr 1; omega
    have e2 : (m : Rat) * pw p = ((m * 2 ^ a : Nat) : Rat) * pw (last - (d : Int)) := by
      rw [Rat.natCast_mul, ← pw_nat, show p = (a : Int) + (last - (d : Int)) by omega, pw_add]
      grind
    have hq := pw_pos (last - (d : Int))
    have h1 : ((kept * 2 ^ d : Nat) : Rat) ≤ ((m * 2 ^ a + 2 ^ d : Nat) : Rat) := Rat.natCast_le_natCast.2 hc.1
    have h2 : ((m * 2 ^ a : Nat) : Rat) ≤ ((kept * 2 ^ d + 2 ^ d : Nat) : Rat) := Rat.natCast_le_natCast.2 hc.2
    have h3 := Rat.mul_le_mul_of_nonneg_right h1 (Rat.le_of_lt hq)
    have h4 := Rat.mul_le_mul_of_nonneg_right h2 (Rat.le_of_lt hq)
    rw [Rat.natCast_mul, Rat.natCast_add] at h3
    rw [Rat.natCast_add, Rat.natCast_mul kept] at h4
    have h5 := Rat.mul_nonneg (show (0 : Rat) ≤ (kept : Rat) from Rat.natCast_nonneg) (Rat.le_of_lt hpl)
    refine ⟨fun h => absurd h h0, h5, ?_, ?_⟩
    · rw [e1] at hstep ⊢
      rw [e2] at hstep ⊢
      grind
    · rw [e1] at hstep ⊢
      rw [e2] at hstep ⊢
      grind

/-! The two formats. -/
theorem room_S : Room S 127 := ⟨by decide +kernel, by decide +kernel⟩
theorem room_D : Room D 1023 := ⟨by decide +kernel, by decide +kernel⟩
/-- 2^60. -/
def big : Rat := 1152921504606846976
/-- Next to a number: a step of e at most, and 2^-60. -/
def Ns (e x y : Rat) : Prop := (0 ≤ x → 0 ≤ y) ∧ (x ≤ 0 → y ≤ 0) ∧ ∀ B : Rat, -B ≤ x → x ≤ B → x - B * e - 1 / 1152921504606846976 ≤ y ∧ y ≤ x + B * e + 1 / 1152921504606846976
/-- What a format makes of a number. -/
def Rd (f : Ieee.Format) (e : Rat) : Prop := 0 ≤ e ∧ e ≤ 1 / 8388608 ∧ pw (-(f.fractionBits + 2 : Int)) ≤ e ∧ ∀ (s : Bool) (m : Nat) (p : Int), (m : Rat) * pw p ≤ big → ∃ y, QV f (f.nearest s m p) y ∧ Ns e (sg s ((m : Rat) * pw p)) y
theorem rd_of {f : Ieee.Format} {e : Rat} {B : Int} (hr : Room f B) (hB : big < pw B) (h1 : pw (-(f.fractionBits : Int)) ≤ e) (h2 : e ≤ 1 / 8388608) (h3 : pw f.leastPlace ≤ 1 / 1152921504606846976) : Rd f e := by
  have h0 := pw_pos (-(f.fractionBits : Int))
  have h00 : pw (-(f.fractionBits + 2 : Int)) ≤ pw (-(f.fractionBits : Int)) := pw_mono (by omega)
  refine ⟨by grind, h2, by grind, fun s m p hx => ?_⟩
  obtain ⟨y, hy, hz, hy0, h4, h5⟩ := near_qv hr s m p (by grind)
  refine ⟨_, hy, ?_⟩
  have hm : 0 ≤ (m : Rat) * pw p := Rat.mul_nonneg Rat.natCast_nonneg (Rat.le_of_lt (pw_pos p))
  have hz2 : (m : Rat) * pw p = 0 → y = 0 := fun h => by
    refine hz ?_
    rcases Rat.mul_eq_zero.1 h with h | h
    · exact Rat.natCast_eq_zero_iff.1 h
    · have := pw_pos p; grind
  clear hz
  generalize (m : Rat) * pw p = x at *
  have h6 := Rat.mul_le_mul_of_nonneg_left h1 hm
  unfold sg
  cases s
  · simp only [Bool.false_eq_true, if_false]
    refine ⟨fun _ => hy0, fun h => ?_, fun B hb1 hb2 => ?_⟩
    · rw [hz2 (by grind)]; grind
    · have h7 := Rat.mul_le_mul_of_nonneg_right hb2 (show 0 ≤ e by grind)
      grind
  · simp only [if_true]
    refine ⟨fun h => ?_, fun h => by grind, fun B hb1 hb2 => ?_⟩
    · rw [hz2 (by grind)]; grind
    · have h7 := Rat.mul_le_mul_of_nonneg_right (show x ≤ B by grind) (show 0 ≤ e by grind)
      grind
theorem rd_S : Rd S (1 / 8388608) := rd_of room_S (by decide +kernel) (by decide +kernel) (by decide +kernel) (by decide +kernel)
theorem rd_D : Rd D (1 / 4503599627370496) := rd_of room_D (by decide +kernel) (by decide +kernel) (by decide +kernel) (by decide +kernel)
theorem QV.notNaN {f : Ieee.Format} {c : Nat} {x : Rat} (h : QV f c x) : (f.read c).isNaN = false := by
  obtain ⟨s, m, p, h1, -⟩ := h
  rw [h1]; rfl
theorem signed_pw (s : Bool) (m k : Nat) (p : Int) : ((Ieee.signed s m k : Int) : Rat) * pw p = sg s ((m : Rat) * pw (p + (k : Int))) := by
  unfold Ieee.signed sg
  rw [Nat.shiftLeft_eq, pw_add, pw_nat]
  cases s
  · simp only [Bool.false_eq_true, if_false]
    rw [Rat.intCast_natCast, Rat.natCast_mul]; grind
  · simp only [if_true]
    rw [Rat.intCast_neg, Rat.intCast_natCast, Rat.natCast_mul]; grind
/-- The order of words is that of their numbers. -/
theorem QV.order {f : Ieee.Format} {a b : Nat} {x y : Rat} (ha : QV f a x) (hb : QV f b y) : f.order a b = some (if x < y then .lt else if x = y then .eq else .gt) := by
  obtain ⟨s, m, i, h1, rfl⟩ := ha
  obtain ⟨t, n, j, h2, rfl⟩ := hb
  unfold Ieee.Format.order
  rw [h1, h2]
  simp only [Ieee.Datum.order]
  have e1 := signed_pw s m (i - min i j).toNat (min i j)
  have e2 := signed_pw t n (j - min i j).toNat (min i j)
  rw [show min i j + ((i - min i j).toNat : Int) = i by omega] at e1
  rw [show min i j + ((j - min i j).toNat : Int) = j by omega] at e2
  rw [← e1, ← e2]
  have hp := pw_pos (min i j)
  generalize Ieee.signed s m (i - min i j).toNat = A
  generalize Ieee.signed t n (j - min i j).toNat = C
  congr 1
  show (if A < C then Ordering.lt else if A = C then .eq else .gt) = _
  rcases Int.lt_trichotomy A C with h | h | h
  · have h3 : (A : Rat) < (C : Rat) := Rat.intCast_lt_intCast.2 h
    have h4 := Rat.mul_lt_mul_of_pos_right h3 hp
    rw [if_pos h, if_pos h4]
  · subst h
    rw [if_neg (by omega), if_pos rfl, if_neg (by grind), if_pos rfl]
  · have h3 : (C : Rat) < (A : Rat) := Rat.intCast_lt_intCast.2 h
    have h4 := Rat.mul_lt_mul_of_pos_right h3 hp
    rw [if_neg (by omega), if_neg (by omega), if_neg (by grind), if_neg (by grind)]
theorem int_sg (a : Int) (s : Bool) (hs : a ≠ 0 → s = decide (a < 0)) (p : Int) : sg s ((a.natAbs : Rat) * pw p) = (a : Rat) * pw p := by
  unfold sg
  by_cases h0 : a = 0
  · subst h0; simp
  · rw [hs h0]
    by_cases h : a < 0
    · rw [if_pos (decide_eq_true h)]
      have : (a : Rat) = -((a.natAbs : Nat) : Rat) := by
        rw [← Rat.intCast_natCast, ← Rat.intCast_neg]; congr 1; omega
      rw [this]; grind
    · rw [if_neg (by simp; omega)]
      have : (a : Rat) = ((a.natAbs : Nat) : Rat) := by
        rw [← Rat.intCast_natCast]; congr 1; omega
      rw [this]
theorem sg_size {s : Bool} {x : Rat} (h0 : 0 ≤ x) (h1 : -big ≤ sg s x) (h2 : sg s x ≤ big) : x ≤ big := by
  unfold sg at h1 h2
  cases s <;> simp only [Bool.false_eq_true, if_false, if_true] at h1 h2 <;> grind
/-- The sum of two data. -/
theorem sum_qv {f : Ieee.Format} {e : Rat} (hr : Rd f e) {s t : Bool} {m n : Nat} {i j : Int} {x y : Rat} (hx : x = sg s ((m : Rat) * pw i)) (hy : y = sg t ((n : Rat) * pw j)) (h1 : -big ≤ x + y) (h2 : x + y ≤ big) :
    ∃ c z, (((Ieee.Datum.number s m i).sum (.number t n j)).map f.write) = some c ∧ QV f c z ∧ Ns e (x + y) z := by
  simp only [Ieee.Datum.sum, Option.map_some]
  have e1 := signed_pw s m (i - min i j).toNat (min i j)
  have e2 := signed_pw t n (j - min i j).toNat (min i j)
  rw [show min i j + ((i - min i j).toNat : Int) = i by omega, ← hx] at e1
  rw [show min i j + ((j - min i j).toNat : Int) = j by omega, ← hy] at e2
  have e3 : x + y = ((Ieee.signed s m (i - min i j).toNat + Ieee.signed t n (j - min i j).toNat : Int) : Rat) * pw (min i j) := by rw [Rat.intCast_add]; grind
  generalize Ieee.signed s m (i - min i j).toNat + Ieee.signed t n (j - min i j).toNat = T at *
  have e4 := int_sg T (if T = 0 then s && t else decide (T < 0)) (fun h => by rw [if_neg h]) (min i j)
  rw [← e3] at e4
  have hm : 0 ≤ ((T.natAbs : Nat) : Rat) * pw (min i j) := Rat.mul_nonneg Rat.natCast_nonneg (Rat.le_of_lt (pw_pos _))
  obtain ⟨z, hz1, hz2⟩ := hr.2.2.2 (if T = 0 then s && t else decide (T < 0)) T.natAbs (min i j) (sg_size hm (by rw [e4]; exact h1) (by rw [e4]; exact h2))
  rw [e4] at hz2
  exact ⟨_, z, rfl, hz1, hz2⟩
theorem sg_not (s : Bool) (x : Rat) : sg (!s) x = -sg s x := by unfold sg; cases s <;> simp <;> grind
theorem QV.add {f : Ieee.Format} {e : Rat} (hr : Rd f e) {a b : Nat} {x y : Rat} (ha : QV f a x) (hb : QV f b y) (h1 : -big ≤ x + y) (h2 : x + y ≤ big) : ∃ c z, f.add a b = some c ∧ QV f c z ∧ Ns e (x + y) z := by
  obtain ⟨s, m, i, h3, hx⟩ := ha
  obtain ⟨t, n, j, h4, hy⟩ := hb
  unfold Ieee.Format.add
  rw [h3, h4]
  exact sum_qv hr hx hy h1 h2
theorem QV.sub {f : Ieee.Format} {e : Rat} (hr : Rd f e) {a b : Nat} {x y : Rat} (ha : QV f a x) (hb : QV f b y) (h1 : -big ≤ x - y) (h2 : x - y ≤ big) : ∃ c z, f.sub a b = some c ∧ QV f c z ∧ Ns e (x - y) z := by
  obtain ⟨s, m, i, h3, hx⟩ := ha
  obtain ⟨t, n, j, h4, hy⟩ := hb
  unfold Ieee.Format.sub
  rw [h3, h4]
  rw [show x - y = x + -y by grind] at h1 h2 ⊢
  exact sum_qv (t := !t) hr hx (by rw [sg_not, hy]) h1 h2
theorem QV.mul {f : Ieee.Format} {e : Rat} (hr : Rd f e) {a b : Nat} {x y : Rat} (ha : QV f a x) (hb : QV f b y) (h1 : -big ≤ x * y) (h2 : x * y ≤ big) : ∃ c z, f.mul a b = some c ∧ QV f c z ∧ Ns e (x * y) z := by
  obtain ⟨s, m, i, h3, hx⟩ := ha
  obtain ⟨t, n, j, h4, hy⟩ := hb
  unfold Ieee.Format.mul
  rw [h3, h4]
  simp only [Ieee.Datum.product, Option.map_some]
  have e4 : sg (s ^^ t) (((m * n : Nat) : Rat) * pw (i + j)) = x * y := by
    rw [hx, hy, pw_add, Rat.natCast_mul]
    unfold sg
    cases s <;> cases t <;> simp <;> grind
  have hm : 0 ≤ ((m * n : Nat) : Rat) * pw (i + j) := Rat.mul_nonneg Rat.natCast_nonneg (Rat.le_of_lt (pw_pos _))
  obtain ⟨z, hz1, hz2⟩ := hr.2.2.2 (s ^^ t) (m * n) (i + j) (sg_size hm (by rw [e4]; exact h1) (by rw [e4]; exact h2))
  rw [e4] at hz2
  exact ⟨_, z, rfl, hz1, hz2⟩
/-- The quotient. -/
theorem QV.div {f : Ieee.Format} {e : Rat} (hr : Rd f e) {a b : Nat} {x y w : Rat} (ha : QV f a x) (hb : QV f b y) (h0 : y ≠ 0) (hw : w * y = x) (h1 : -1073741824 ≤ w) (h2 : w ≤ 1073741824) : ∃ c z, f.div a b = some c ∧ QV f c z ∧ Ns (4 * e) w z := by
  obtain ⟨s, m, i, h3, hx⟩ := ha
  obtain ⟨t, n, j, h4, hy⟩ := hb
  unfold Ieee.Format.div
  rw [h3, h4]
  have hn : n ≠ 0 := by
    rintro rfl
    apply h0; rw [hy]; unfold sg; cases t <;> simp
  simp only [Ieee.Datum.quotient, if_neg hn, Option.map_some]
  generalize hmore : f.fractionBits + 2 + n.log2 - m.log2 = more
  rw [Nat.shiftLeft_eq]
  -- sizes
  obtain ⟨W, hW⟩ : ∃ W, W = sg (s ^^ t) w := ⟨_, rfl⟩
  have hwW : w = sg (s ^^ t) W := by rw [hW]; unfold sg; cases (s ^^ t) <;> simp
  have hpi := pw_pos i
  have hpj := pw_pos j
  have hm0 : (0 : Rat) ≤ (m : Rat) := Rat.natCast_nonneg
  have hn0 : (0 : Rat) < (n : Rat) := Rat.natCast_pos.2 (by omega)
  have hWn : W * ((n : Rat) * pw j) = (m : Rat) * pw i := by
    rw [hW]
    rw [hx, hy] at hw
    unfold sg at hw ⊢
    cases s <;> cases t <;> simp at hw ⊢ <;> grind
  generalize hpl : i - j - (more : Int) - 1 = pl
  have hpp := pw_pos pl
  have hpm : pw i = pw pl * pw j * (2 * ((2 ^ more : Nat) : Rat)) := by
    rw [← pw_nat, show (2 : Rat) = pw 1 by decide, ← pw_add, ← pw_add, ← pw_add]; congr 1; omega
  have hd := Nat.div_add_mod (m * 2 ^ more) n
  have hdm := Nat.mod_lt (m * 2 ^ more) (by omega : n > 0)
  -- W n = 2 (m 2^more) unit
  have hWn2 : W * (n : Rat) = 2 * ((m * 2 ^ more : Nat) : Rat) * pw pl := by
    rw [Rat.natCast_mul]
    have h5 : (W * (n : Rat) - 2 * ((m : Rat) * ((2 ^ more : Nat) : Rat)) * pw pl) * pw j = 0 := by grind
    rcases Rat.mul_eq_zero.1 h5 with h | h <;> grind
  have hlow : m = 0 ∨ 2 ^ (f.fractionBits + 1) * n ≤ m * 2 ^ more := by
    by_cases hm : m = 0
    · exact .inl hm
    · refine .inr ?_
      have h5 := ((Nat.log2_eq_iff hm).1 rfl).1
      have h6 : n < 2 ^ (n.log2 + 1) := Nat.lt_log2_self
      refine Nat.le_trans (Nat.mul_le_mul_left _ (Nat.le_of_lt h6)) ?_
      rw [← Nat.pow_add]
      refine Nat.le_trans (Nat.pow_le_pow_right (by decide) (show f.fractionBits + 1 + (n.log2 + 1) ≤ m.log2 + more by omega)) ?_
      rw [Nat.pow_add]
      exact Nat.mul_le_mul_right _ h5
  have hbit : (m * 2 ^ more % n != 0).toNat ≤ 1 ∧ (m * 2 ^ more % n = 0 → (m * 2 ^ more % n != 0).toNat = 0) ∧ (m * 2 ^ more % n ≠ 0 → (m * 2 ^ more % n != 0).toNat = 1) := by
    refine ⟨by cases (m * 2 ^ more % n != 0) <;> decide, fun h => by rw [h]; rfl, fun h => ?_⟩
    have : (m * 2 ^ more % n != 0) = true := by simpa using h
    rw [this]; rfl
  generalize hmg : 2 * (m * 2 ^ more / n) + (m * 2 ^ more % n != 0).toNat = mg
  have hA : n * mg ≤ 2 * (m * 2 ^ more) + n ∧ 2 * (m * 2 ^ more) ≤ n * mg + n ∧ (m * 2 ^ more = 0 → mg = 0) := by
    obtain ⟨g1, g2, g3⟩ := hbit
    generalize (m * 2 ^ more % n != 0).toNat = bit at *
    generalize m * 2 ^ more % n = r at *
    generalize hq : m * 2 ^ more / n = q at *
    rw [← hmg, Nat.mul_add, show n * (2 * q) = 2 * (n * q) by rw [Nat.mul_left_comm]]
    by_cases hr0 : r = 0
    · rw [g2 hr0, Nat.mul_zero]
      refine ⟨by omega, by omega, fun h => ?_⟩
      rw [h, Nat.zero_div] at hq
      omega
    · rw [g3 hr0, Nat.mul_one]
      refine ⟨by omega, by omega, fun h => ?_⟩
      omega
  clear hmg hbit hd hdm
  have hW0 : 0 ≤ W := by
    rcases Rat.le_total (a := 0) (b := W) with h | h
    · exact h
    · have h5 : W * (n : Rat) ≤ 0 := by have := Rat.mul_le_mul_of_nonneg_right h (Rat.le_of_lt hn0); grind
      have h6 : 0 ≤ 2 * ((m * 2 ^ more : Nat) : Rat) * pw pl := Rat.mul_nonneg (Rat.mul_nonneg (by decide) Rat.natCast_nonneg) (Rat.le_of_lt hpp)
      have h7 : W * (n : Rat) = 0 := by grind
      rcases Rat.mul_eq_zero.1 h7 with h | h <;> grind
  have hWb : W ≤ 1073741824 := by
    rw [hW]; unfold sg; cases (s ^^ t) <;> simp <;> grind
  -- the written number
  have hmgW : (mg : Rat) * pw pl ≤ W + pw pl ∧ W ≤ (mg : Rat) * pw pl + pw pl := by
    have g1 : ((n * mg : Nat) : Rat) ≤ ((2 * (m * 2 ^ more) + n : Nat) : Rat) := Rat.natCast_le_natCast.2 hA.1
    have g2 : ((2 * (m * 2 ^ more) : Nat) : Rat) ≤ ((n * mg + n : Nat) : Rat) := Rat.natCast_le_natCast.2 hA.2.1
    have g3 := Rat.mul_le_mul_of_nonneg_right g1 (Rat.le_of_lt hpp)
    have g4 := Rat.mul_le_mul_of_nonneg_right g2 (Rat.le_of_lt hpp)
    rw [Rat.natCast_mul n, Rat.natCast_add, Rat.natCast_mul 2] at g3
    rw [Rat.natCast_mul 2, Rat.natCast_add, Rat.natCast_mul n] at g4
    have c2 : ((2 : Nat) : Rat) = 2 := rfl
    rw [c2] at g3 g4
    constructor
    · refine Rat.le_of_mul_le_mul_left ?_ hn0
      grind
    · refine Rat.le_of_mul_le_mul_left ?_ hn0
      grind
  have hunit : m = 0 ∧ W = 0 ∧ mg = 0 ∨ pw pl ≤ W * e := by
    rcases hlow with h | h
    · left
      have h5 : m * 2 ^ more = 0 := by rw [h, Nat.zero_mul]
      refine ⟨h, ?_, hA.2.2 h5⟩
      rw [h5] at hWn2
      have h7 : W * (n : Rat) = 0 := by rw [hWn2]; simp
      rcases Rat.mul_eq_zero.1 h7 with h | h
      · exact h
      · grind
    · right
      have g1 : ((2 ^ (f.fractionBits + 1) * n : Nat) : Rat) ≤ ((m * 2 ^ more : Nat) : Rat) := Rat.natCast_le_natCast.2 h
      rw [Rat.natCast_mul] at g1
      have g2 : 2 * ((2 ^ (f.fractionBits + 1) : Nat) : Rat) * (n : Rat) * pw pl ≤ W * (n : Rat) := by
        rw [hWn2]
        have := Rat.mul_le_mul_of_nonneg_right g1 (Rat.le_of_lt hpp)
        grind
      have g3 : 2 * ((2 ^ (f.fractionBits + 1) : Nat) : Rat) * pw pl ≤ W := by
        refine Rat.le_of_mul_le_mul_left ?_ hn0
        grind
      have g4 : pw (-(f.fractionBits + 2 : Int)) * (2 * ((2 ^ (f.fractionBits + 1) : Nat) : Rat)) = 1 := by
        rw [← pw_nat, show (2 : Rat) = pw 1 by decide, ← pw_add, ← pw_add, ← pw_zero]; congr 1; omega
      have g5 := Rat.mul_le_mul_of_nonneg_left g3 (Rat.le_of_lt (pw_pos (-(f.fractionBits + 2 : Int))))
      have g6 := Rat.mul_le_mul_of_nonneg_left hr.2.2.1 hW0
      have g7 : pw (-(f.fractionBits + 2 : Int)) * (2 * ((2 ^ (f.fractionBits + 1) : Nat) : Rat) * pw pl) = pw pl := by
        rw [← Rat.mul_assoc, g4]; grind
      grind
  have he0 := hr.1
  have he1 := hr.2.1
  have hWe : W * e ≤ W := by
    have := Rat.mul_le_mul_of_nonneg_left he1 hW0
    grind
  have hmg0 : 0 ≤ (mg : Rat) * pw pl := Rat.mul_nonneg Rat.natCast_nonneg (Rat.le_of_lt hpp)
  have hQ : (mg : Rat) * pw pl ≤ W + W * e ∧ W ≤ (mg : Rat) * pw pl + W * e ∧ (W = 0 → (mg : Rat) * pw pl = 0) := by
    rcases hunit with ⟨-, g1, g2⟩ | h
    · rw [g1, g2]; simp; grind
    · refine ⟨by grind, by grind, fun h0 => ?_⟩
      rw [h0] at h; grind
  obtain ⟨z, hz1, hz2, hz3, hz4⟩ := hr.2.2.2 (s ^^ t) mg pl (by unfold big; grind)
  refine ⟨_, z, rfl, hz1, ?_⟩
  generalize (mg : Rat) * pw pl = Q at *
  rw [hwW]
  have hWe2 : W * e * e ≤ W * e := by
    have := Rat.mul_le_mul_of_nonneg_left (show e ≤ 1 by grind) (Rat.mul_nonneg hW0 he0)
    grind
  have hWe3 : 0 ≤ W * e := Rat.mul_nonneg hW0 he0
  have hq2 := hz4 (W + W * e)
  clear hz4 hwW hW hunit hmgW hWb hlow hA hWn2 hpm hWn hy hx h3 h4 hw h0
  generalize (s ^^ t) = st at *
  clear hz1
  cases st
  · simp only [sg, Bool.false_eq_true, if_false] at *
    refine ⟨fun _ => hz2 hmg0, fun h => hz3 (by have := hQ.2.2 (by grind); grind), fun B hb1 hb2 => ?_⟩
    have g1 := hq2 (by grind) hQ.1
    have g2 := Rat.mul_le_mul_of_nonneg_right hb2 he0
    grind
  · simp only [sg, if_true] at *
    refine ⟨fun h => hz2 (by have := hQ.2.2 (by grind); grind), fun h => hz3 (by grind), fun B hb1 hb2 => ?_⟩
    have g1 := hq2 (by grind) (by grind)
    have g2 := Rat.mul_le_mul_of_nonneg_right (show W ≤ B by grind) he0
    grind
theorem rootFrom_hi (n todo root : Nat) (h : n < (root + 2 ^ todo) * (root + 2 ^ todo)) : n < (Ieee.Datum.rootFrom n todo root + 1) * (Ieee.Datum.rootFrom n todo root + 1) := by
  induction todo generalizing root with
  | zero => exact h
  | succ k ih =>
    unfold Ieee.Datum.rootFrom
    dsimp only
    rw [Nat.one_shiftLeft]
    split
    · refine ih _ ?_
      rw [show root + 2 ^ k + 2 ^ k = root + 2 ^ (k + 1) by rw [Nat.pow_succ]; omega]
      exact h
    · rename_i h1
      exact ih _ (by omega)
theorem sq_le_of {a b : Rat} (hb : 0 ≤ b) (h : a * a ≤ b * b) : a ≤ b := by
  rcases Rat.le_total (a := a) (b := b) with h1 | h1
  · exact h1
  · have h2 := Rat.mul_le_mul_of_nonneg_left h1 hb
    have h3 := Rat.mul_le_mul_of_nonneg_right h1 (show 0 ≤ a by grind)
    have h4 : (a - b) * b ≤ 0 := by grind
    by_cases hb0 : b = 0
    · subst hb0
      have : a * a ≤ 0 := by grind
      by_cases ha : a = 0
      · grind
      · have := Rat.mul_pos (show 0 < a by grind) (show 0 < a by grind)
        grind
    · by_cases he : a = b
      · grind
      · have := Rat.mul_pos (show 0 < a - b by grind) (show 0 < b by grind)
        grind
/-- The root. -/
theorem QV.sqrt {f : Ieee.Format} {e : Rat} (hr : Rd f e) {a : Nat} {x : Rat} (ha : QV f a x) (h0 : 0 ≤ x) (hx2 : x ≤ 1073741824) : ∃ c z Y, f.sqrt a = some c ∧ QV f c z ∧ Ns e Y z ∧ 0 ≤ Y ∧ (x = 0 → Y = 0) ∧ Y * Y ≤ x + 2 * (x * e) ∧ x ≤ Y * Y + 2 * (x * e) := by
  obtain ⟨s, m, i, h3, hx⟩ := ha
  unfold Ieee.Format.sqrt
  rw [h3]
  simp only [Ieee.Datum.root]
  have hpi := pw_pos i
  have he0 := hr.1
  by_cases hm : m = 0
  · rw [if_pos hm]
    subst hm
    have hz0 : ((0 : Nat) : Rat) * pw i = 0 := by simp
    obtain ⟨z, hz1, hz2⟩ := hr.2.2.2 s 0 i (by rw [hz0]; decide)
    rw [hz0] at hz2 hx
    have e1 : sg s 0 = 0 := by unfold sg; cases s <;> simp
    rw [e1] at hz2 hx
    subst hx
    exact ⟨_, z, 0, rfl, hz1, hz2, by grind, by grind, by grind, by grind⟩
  · rw [if_neg hm]
    have hm0 : (0 : Rat) < (m : Rat) := Rat.natCast_pos.2 (by omega)
    have hmp := Rat.mul_pos hm0 hpi
    have hs : s = false := by
      cases s
      · rfl
      · unfold sg at hx; simp at hx; grind
    subst hs
    simp only [Bool.false_eq_true, if_false, Option.map_some]
    generalize hmore : 2 * (f.fractionBits + 2) - m.log2 + ((i - ((2 * (f.fractionBits + 2) - m.log2 : Nat) : Int)) % 2).toNat = more
    generalize hh : (i - (more : Int)) / 2 = h
    have hih : i = (more : Int) + h + h := by omega
    have hxN : x = ((m * 2 ^ more : Nat) : Rat) * (pw h * pw h) := by
      rw [hx, hih, pw_add, pw_add, pw_nat, Rat.natCast_mul]; unfold sg; simp; grind
    rw [Nat.shiftLeft_eq]
    have hbig : 2 ^ (f.fractionBits + 2) * 2 ^ (f.fractionBits + 2) ≤ m * 2 ^ more := by
      have h5 := ((Nat.log2_eq_iff hm).1 rfl).1
      rw [← Nat.pow_add]
      refine Nat.le_trans (Nat.pow_le_pow_right (by decide) (show f.fractionBits + 2 + (f.fractionBits + 2) ≤ m.log2 + more by omega)) ?_
      rw [Nat.pow_add]
      exact Nat.mul_le_mul_right _ h5
    generalize m * 2 ^ more = n at *
    have hlo := rootFrom_sq n (n.log2 / 2 + 1) 0 (Nat.zero_le _)
    have hhi := rootFrom_hi n (n.log2 / 2 + 1) 0 (by
      rw [Nat.zero_add, ← Nat.pow_add]
      exact Nat.lt_of_lt_of_le Nat.lt_log2_self (Nat.pow_le_pow_right (by decide) (by omega)))
    generalize Ieee.Datum.rootFrom n (n.log2 / 2 + 1) 0 = r at *
    have hrb : 2 ^ (f.fractionBits + 2) ≤ r := by
      rcases Nat.lt_or_ge r (2 ^ (f.fractionBits + 2)) with h5 | h5
      · have := Nat.mul_le_mul (show r + 1 ≤ 2 ^ (f.fractionBits + 2) from h5) (show r + 1 ≤ 2 ^ (f.fractionBits + 2) from h5)
        omega
      · exact h5
    generalize hmg : 2 * r + (r * r != n).toNat = mg
    have hA : mg * mg ≤ 4 * n + 4 * (r + 1) ∧ 4 * n ≤ mg * mg + 4 * (r + 1) := by
      by_cases h5 : r * r = n
      · have : mg = 2 * r := by rw [← hmg, h5]; simp
        rw [this, show 2 * r * (2 * r) = 4 * (r * r) by rw [Nat.mul_mul_mul_comm]]
        omega
      · have h6 : (r * r != n) = true := by simpa using h5
        have : mg = 2 * r + 1 := by rw [← hmg, h6]; rfl
        have h7 : (r + 1) * (r + 1) = r * r + 2 * r + 1 := by grind
        have h8 : (2 * r + 1) * (2 * r + 1) = 4 * (r * r) + 4 * r + 1 := by grind
        rw [this, h8]
        omega
    clear hmg hmore hh hm0 hmp
    have hph := pw_pos h
    have hpp := Rat.mul_pos hph hph
    obtain ⟨Y, hY⟩ : ∃ Y, Y = (mg : Rat) * pw (h - 1) := ⟨_, rfl⟩
    have hY0 : 0 ≤ Y := by rw [hY]; exact Rat.mul_nonneg Rat.natCast_nonneg (Rat.le_of_lt (pw_pos _))
    have hp1 : pw h = 2 * pw (h - 1) := by rw [show (2 : Rat) = pw 1 by decide, ← pw_add]; congr 1; omega
    have hYY : Y * Y * 4 = ((mg * mg : Nat) : Rat) * (pw h * pw h) := by
      rw [hY, hp1, Rat.natCast_mul]; grind
    have hrr : ((r + 1 : Nat) : Rat) * (pw h * pw h) ≤ 2 * (x * e) := by
      have g1 : (2 ^ (f.fractionBits + 2)) * (r + 1) ≤ 2 * n := by
        have g2 := Nat.mul_le_mul_right r hrb
        have g3 : 2 ^ (f.fractionBits + 2) * (r + 1) = 2 ^ (f.fractionBits + 2) * r + 2 ^ (f.fractionBits + 2) := by rw [Nat.mul_add, Nat.mul_one]
        have g4 : r ≤ r * r := Nat.le_mul_self r
        omega
      have g2 : ((2 ^ (f.fractionBits + 2) * (r + 1) : Nat) : Rat) ≤ ((2 * n : Nat) : Rat) := Rat.natCast_le_natCast.2 g1
      rw [Rat.natCast_mul, Rat.natCast_mul 2, ← pw_nat] at g2
      have g3 := Rat.mul_le_mul_of_nonneg_right g2 (Rat.le_of_lt hpp)
      have g4 := Rat.mul_le_mul_of_nonneg_left g3 (Rat.le_of_lt (pw_pos (-(f.fractionBits + 2 : Int))))
      have g5 : pw (-(f.fractionBits + 2 : Int)) * pw ((f.fractionBits + 2 : Nat) : Int) = 1 := by
        rw [← pw_add, ← pw_zero]; congr 1; omega
      have g6 := Rat.mul_le_mul_of_nonneg_left hr.2.2.1 h0
      have c2 : ((2 : Nat) : Rat) = 2 := rfl
      rw [c2] at g4
      have g7 : pw (-(f.fractionBits + 2 : Int)) * (pw ((f.fractionBits + 2 : Nat) : Int) * ((r + 1 : Nat) : Rat) * (pw h * pw h)) = ((r + 1 : Nat) : Rat) * (pw h * pw h) := by
        have : ∀ a b c d : Rat, a * (b * c * d) = a * b * (c * d) := by intros; grind
        rw [this, g5]; grind
      rw [g7] at g4
      have g8 : pw (-(f.fractionBits + 2 : Int)) * (2 * (n : Rat) * (pw h * pw h)) = 2 * (x * pw (-(f.fractionBits + 2 : Int))) := by rw [hxN]; grind
      rw [g8] at g4
      grind
    have hYx : Y * Y ≤ x + 2 * (x * e) ∧ x ≤ Y * Y + 2 * (x * e) := by
      have g1 : ((mg * mg : Nat) : Rat) ≤ ((4 * n + 4 * (r + 1) : Nat) : Rat) := Rat.natCast_le_natCast.2 hA.1
      have g2 : ((4 * n : Nat) : Rat) ≤ ((mg * mg + 4 * (r + 1) : Nat) : Rat) := Rat.natCast_le_natCast.2 hA.2
      have g3 := Rat.mul_le_mul_of_nonneg_right g1 (Rat.le_of_lt hpp)
      have g4 := Rat.mul_le_mul_of_nonneg_right g2 (Rat.le_of_lt hpp)
      rw [← hYY, Rat.natCast_add, Rat.natCast_mul 4, Rat.natCast_mul 4 (r + 1)] at g3
      rw [Rat.natCast_add, Rat.natCast_mul 4, Rat.natCast_mul 4 (r + 1), Rat.add_mul, ← hYY] at g4
      have c4 : ((4 : Nat) : Rat) = 4 := rfl
      rw [c4] at g3 g4
      constructor
      · grind
      · grind
    have hxe : x * e ≤ x := by
      have := Rat.mul_le_mul_of_nonneg_left hr.2.1 h0
      grind
    have hYb : Y ≤ big := by
      refine sq_le_of (by decide) ?_
      have : (3 * 1073741824 : Rat) ≤ big * big := by decide +kernel
      grind
    obtain ⟨z, hz1, hz2⟩ := hr.2.2.2 false mg (h - 1) (by rw [← hY]; exact hYb)
    rw [← hY, show sg false Y = Y from by unfold sg; simp] at hz2
    refine ⟨_, z, Y, rfl, hz1, hz2, hY0, fun hx0 => ?_, hYx.1, hYx.2⟩
    have g1 := hYx.1
    rw [hx0] at g1
    by_cases hy : Y = 0
    · exact hy
    · have := Rat.mul_pos (show 0 < Y by grind) (show 0 < Y by grind)
      grind
/-! float32 and float64. -/
abbrev e32 : Rat := 1 / 8388608
abbrev e64 : Rat := 1 / 4503599627370496
theorem addF_qv {a b : Nat} {x y : Rat} (ha : QV S a x) (hb : QV S b y) (h1 : -big ≤ x + y) (h2 : x + y ≤ big) : ∃ z, QV S (addF a b) z ∧ Ns e32 (x + y) z := by
  obtain ⟨c, z, h, hz⟩ := ha.add rd_S hb h1 h2
  have e : addF a b = c := by show ((S.add a b).getD _) = _; rw [h]; rfl
  rw [e]; exact ⟨z, hz⟩
theorem subF_qv {a b : Nat} {x y : Rat} (ha : QV S a x) (hb : QV S b y) (h1 : -big ≤ x - y) (h2 : x - y ≤ big) : ∃ z, QV S (subF a b) z ∧ Ns e32 (x - y) z := by
  obtain ⟨c, z, h, hz⟩ := ha.sub rd_S hb h1 h2
  have e : subF a b = c := by show ((S.sub a b).getD _) = _; rw [h]; rfl
  rw [e]; exact ⟨z, hz⟩
theorem mulF_qv {a b : Nat} {x y : Rat} (ha : QV S a x) (hb : QV S b y) (h1 : -big ≤ x * y) (h2 : x * y ≤ big) : ∃ z, QV S (mulF a b) z ∧ Ns e32 (x * y) z := by
  obtain ⟨c, z, h, hz⟩ := ha.mul rd_S hb h1 h2
  have e : mulF a b = c := by show ((S.mul a b).getD _) = _; rw [h]; rfl
  rw [e]; exact ⟨z, hz⟩
theorem divF_qv {a b : Nat} {x y w : Rat} (ha : QV S a x) (hb : QV S b y) (h0 : y ≠ 0) (hw : w * y = x) (h1 : -1073741824 ≤ w) (h2 : w ≤ 1073741824) : ∃ z, QV S (divF a b) z ∧ Ns (4 * e32) w z := by
  obtain ⟨c, z, h, hz⟩ := ha.div rd_S hb h0 hw h1 h2
  have e : divF a b = c := by show ((S.div a b).getD _) = _; rw [h]; rfl
  rw [e]; exact ⟨z, hz⟩
theorem addD_qv {a b : Nat} {x y : Rat} (ha : QV D a x) (hb : QV D b y) (h1 : -big ≤ x + y) (h2 : x + y ≤ big) : ∃ z, QV D (ar .add .f64 a b) z ∧ Ns e64 (x + y) z := by
  obtain ⟨c, z, h, hz⟩ := ha.add rd_D hb h1 h2
  have e : ar .add .f64 a b = c := by show ((D.add a b).getD _) = _; rw [h]; rfl
  rw [e]; exact ⟨z, hz⟩
theorem subD_qv {a b : Nat} {x y : Rat} (ha : QV D a x) (hb : QV D b y) (h1 : -big ≤ x - y) (h2 : x - y ≤ big) : ∃ z, QV D (ar .sub .f64 a b) z ∧ Ns e64 (x - y) z := by
  obtain ⟨c, z, h, hz⟩ := ha.sub rd_D hb h1 h2
  have e : ar .sub .f64 a b = c := by show ((D.sub a b).getD _) = _; rw [h]; rfl
  rw [e]; exact ⟨z, hz⟩
theorem mulD_qv {a b : Nat} {x y : Rat} (ha : QV D a x) (hb : QV D b y) (h1 : -big ≤ x * y) (h2 : x * y ≤ big) : ∃ z, QV D (ar .mul .f64 a b) z ∧ Ns e64 (x * y) z := by
  obtain ⟨c, z, h, hz⟩ := ha.mul rd_D hb h1 h2
  have e : ar .mul .f64 a b = c := by show ((D.mul a b).getD _) = _; rw [h]; rfl
  rw [e]; exact ⟨z, hz⟩
theorem divD_qv {a b : Nat} {x y w : Rat} (ha : QV D a x) (hb : QV D b y) (h0 : y ≠ 0) (hw : w * y = x) (h1 : -1073741824 ≤ w) (h2 : w ≤ 1073741824) : ∃ z, QV D (ar .quo .f64 a b) z ∧ Ns (4 * e64) w z := by
  obtain ⟨c, z, h, hz⟩ := ha.div rd_D hb h0 hw h1 h2
  have e : ar .quo .f64 a b = c := by show ((D.div a b).getD _) = _; rw [h]; rfl
  rw [e]; exact ⟨z, hz⟩
theorem cast_qv {f g : Ieee.Format} {e : Rat} (hr : Rd g e) {a : Nat} {x : Rat} (ha : QV f a x) (h1 : -big ≤ x) (h2 : x ≤ big) : ∃ z, QV g (g.write (f.read a)) z ∧ Ns e x z := by
  obtain ⟨s, m, p, h3, hx⟩ := ha
  rw [h3]
  have hm : 0 ≤ (m : Rat) * pw p := Rat.mul_nonneg Rat.natCast_nonneg (Rat.le_of_lt (pw_pos _))
  rw [hx] at h1 h2 ⊢
  exact hr.2.2.2 s m p (sg_size hm h1 h2)
theorem wd_qv {a : Nat} {x : Rat} (ha : QV S a x) (h1 : -big ≤ x) (h2 : x ≤ big) : ∃ z, QV D (wd a) z ∧ Ns e64 x z := by
  have e : wd a = D.write (S.read a) := by unfold wd; rw [if_neg (by simp [ha.notNaN])]
  rw [e]; exact cast_qv rd_D ha h1 h2
theorem nwD_qv {a : Nat} {x : Rat} (ha : QV D a x) (h1 : -big ≤ x) (h2 : x ≤ big) : ∃ z, QV S (nwD a) z ∧ Ns e32 x z := by
  have e : nwD a = S.write (D.read a) := by unfold nwD; rw [if_neg (by simp [ha.notNaN])]
  rw [e]; exact cast_qv rd_S ha h1 h2
/-- The root of a float32 that is not great. -/
theorem rootF_qv {a : Nat} {x : Rat} (ha : QV S a x) (h0 : 0 ≤ x) (h2 : x ≤ 1048576) : ∃ z, QV S (rootF a) z ∧ (x = 0 → z = 0) ∧ 0 ≤ z ∧ z ≤ 2048 ∧ z * z ≤ x + x * (1 / 1048576) + 1 / 1099511627776 ∧ x ≤ z * z + x * (1 / 1048576) + 1 / 1099511627776 := by
  obtain ⟨x1, k1, n1, n2, n3⟩ := wd_qv ha (by unfold big; grind) (by unfold big; grind)
  have m1 := n3 x (by grind) (by grind)
  have hx1 := n1 h0
  obtain ⟨c, z, Y, k2, k3, ⟨p1, p2, p3⟩, hY0, hYz, hY1, hY2⟩ := k1.sqrt rd_D hx1 (by grind)
  have hYb : Y ≤ 1025 := by
    refine sq_le_of (by decide) ?_
    grind
  have m2 := p3 Y (by grind) (by grind)
  have hz0 := p1 hY0
  have e : rootF a = nwD c := by unfold rootF sqD; rw [k2]; rfl
  rw [e]
  obtain ⟨T, k4, q1, q2, q3⟩ := nwD_qv k3 (by unfold big; grind) (by unfold big; grind)
  have m3 := q3 z (by grind) (by grind)
  have hT0 := q1 hz0
  have hzz : x = 0 → T = 0 := by
    intro h
    have g1 : x1 = 0 := by have := n2 (by grind); grind
    have g2 := hYz g1
    have g3 : z = 0 := by have := p2 (by grind); grind
    have := q2 (by grind); grind
  refine ⟨T, k4, hzz, hT0, by grind, ?_⟩
  -- T next to Y
  obtain ⟨d, hd⟩ : ∃ d : Rat, d = Y * (1 / 4194304) + 3 / 1152921504606846976 := ⟨_, rfl⟩
  have d0 : 0 ≤ d := by grind
  have t1 : T ≤ Y + d := by grind
  have t2 : Y ≤ T + d := by grind
  have d1 : d ≤ 1 := by grind
  have f1 : T * T ≤ (Y + d) * (Y + d) := by
    have a1 := Rat.mul_le_mul_of_nonneg_left t1 hT0
    have a2 := Rat.mul_le_mul_of_nonneg_right t1 (show 0 ≤ Y + d by grind)
    grind
  have f2 : Y * Y ≤ T * T + 2 * (Y * d) + d * d := by
    have a1 := Rat.mul_le_mul_of_nonneg_left t2 hY0
    have a2 := Rat.mul_le_mul_of_nonneg_left t2 hT0
    have a3 := Rat.mul_le_mul_of_nonneg_right t1 d0
    grind
  have f3 : Y * d = Y * Y * (1 / 4194304) + Y * (3 / 1152921504606846976) := by rw [hd]; grind
  have f4 : d * d ≤ Y * d * (1 / 4194304) + d * (3 / 1152921504606846976) := by
    have : d * d = Y * d * (1 / 4194304) + d * (3 / 1152921504606846976) := by
      have : d * d = d * (Y * (1 / 4194304) + 3 / 1152921504606846976) := by rw [← hd]
      rw [this]; grind
    grind
  have f5 : x1 * e64 ≤ x1 := by grind
  constructor
  · grind
  · grind

end Go.Proofs.Ytkkomajokdlkeaa
