/- Bits of float32 numbers: which two are the same; a number as a float64. Plain: no program. -/
import Derived.Test.YtkkomajokdlkeaaQ1
namespace Go.Proofs.Ytkkomajokdlkeaa
set_option linter.unusedSimpArgs false
set_option linter.unusedVariables false
set_option maxRecDepth 100000
set_option maxHeartbeats 4000000
open Go.RowKit

abbrev S := Ieee.single
theorem s_weight : S.signWeight = 2147483648 := by decide +kernel
theorem s_binade : S.binade = 8388608 := by decide +kernel
theorem s_inf : S.infRung = 2139095040 := by decide +kernel
theorem s_least : S.leastPlace = -149 := by decide +kernel
theorem d_weight : Ieee.double.signWeight = 9223372036854775808 := by decide +kernel
theorem d_binade : Ieee.double.binade = 4503599627370496 := by decide +kernel
theorem d_inf : Ieee.double.infRung = 9218868437227405312 := by decide +kernel
theorem d_least : Ieee.double.leastPlace = -1074 := by decide +kernel

/-- What the bits below the sign stand for. -/
theorem read_single (b : Nat) : S.read b =
    (if b % 2147483648 < 8388608 then .number (b / 2147483648 % 2 == 1) (b % 2147483648) (-149)
     else if b % 2147483648 < 2139095040 then .number (b / 2147483648 % 2 == 1) (8388608 + b % 2147483648 % 8388608) (-149 + (b % 2147483648 / 8388608 - 1 : Nat))
     else if b % 2147483648 = 2139095040 then .infinity (b / 2147483648 % 2 == 1) else .nan (b / 2147483648 % 2 == 1) (b % 2147483648 - 2139095040)) := by
  unfold Ieee.Format.read
  simp only [s_weight, s_binade, s_inf, s_least]

theorem mul_pow_inj {m n e1 e2 : Nat} (h1 : m < 16777216) (h2 : n < 16777216) (h1' : e1 = 0 ∨ 8388608 ≤ m) (h2' : e2 = 0 ∨ 8388608 ≤ n) (h : m * 2 ^ e1 = n * 2 ^ e2) : e1 = e2 ∧ m = n := by
  rcases Nat.lt_trichotomy e1 e2 with hl | rfl | hl
  · exfalso
    obtain ⟨d, rfl⟩ : ∃ d, e2 = e1 + (d + 1) := ⟨e2 - e1 - 1, by omega⟩
    rw [Nat.pow_add, ← Nat.mul_assoc, Nat.mul_right_comm] at h
    have := Nat.eq_of_mul_eq_mul_right (Nat.two_pow_pos e1) h
    have hp : 2 ≤ 2 ^ (d + 1) := by rw [Nat.pow_succ]; have := Nat.two_pow_pos d; omega
    have := Nat.mul_le_mul_left n hp
    omega
  · exact ⟨rfl, Nat.eq_of_mul_eq_mul_right (Nat.two_pow_pos e1) h⟩
  · exfalso
    obtain ⟨d, rfl⟩ : ∃ d, e1 = e2 + (d + 1) := ⟨e1 - e2 - 1, by omega⟩
    rw [Nat.pow_add, ← Nat.mul_assoc, Nat.mul_right_comm] at h
    have := Nat.eq_of_mul_eq_mul_right (Nat.two_pow_pos e2) h
    have hp : 2 ≤ 2 ^ (d + 1) := by rw [Nat.pow_succ]; have := Nat.two_pow_pos d; omega
    have := Nat.mul_le_mul_left m hp
    omega

theorem signed_eq {s : Bool} {m n i j : Nat} (h : Ieee.signed s m i = Ieee.signed s n j) : m * 2 ^ i = n * 2 ^ j := by
  unfold Ieee.signed at h
  simp only [Nat.shiftLeft_eq] at h
  cases s <;> simp only [Bool.false_eq_true, if_false, if_true] at h <;> omega

theorem order_num {s : Bool} {m n : Nat} {i j : Int} (h : (Ieee.Datum.number s m i).order (.number s n j) = some .eq) (hi : -149 ≤ i) (hj : -149 ≤ j) : m * 2 ^ (i + 149).toNat = n * 2 ^ (j + 149).toNat := by
  simp only [Ieee.Datum.order, Option.some.injEq] at h
  have h1 := signed_eq (Int.compare_eq_eq.1 h)
  have e1 : (i + 149).toNat = (i - min i j).toNat + (min i j + 149).toNat := by omega
  have e2 : (j + 149).toNat = (j - min i j).toNat + (min i j + 149).toNat := by omega
  rw [e1, e2, Nat.pow_add, Nat.pow_add, ← Nat.mul_assoc, ← Nat.mul_assoc, h1]

/-- Two numbers that are equal and have one sign have the same bits. -/
theorem bits_of_eq {a b : Nat} (ha : a < 4294967296) (hb : b < 4294967296) (ho : S.order a b = some .eq) (hs : (S.read a).neg = (S.read b).neg) : a = b := by
  have hsa : a / 2147483648 % 2 = a / 2147483648 := by omega
  have hsb : b / 2147483648 % 2 = b / 2147483648 := by omega
  have key : a / 2147483648 = b / 2147483648 ∧ a % 2147483648 = b % 2147483648 := by
    unfold Ieee.Format.order at ho
    rw [read_single a, read_single b] at ho hs
    have sg : ∀ x y : Nat, x < 2 → y < 2 → ((x == 1) = (y == 1)) → x = y := by
      intro x y hx hy h
      rcases (by omega : x = 0 ∨ x = 1) with rfl | rfl <;> rcases (by omega : y = 0 ∨ y = 1) with rfl | rfl <;> simp_all
    have hqa : a / 2147483648 < 2 := by omega
    have hqb : b / 2147483648 < 2 := by omega
    rw [hsa, hsb] at ho hs
    generalize a / 2147483648 = qa at *
    generalize b / 2147483648 = qb at *
    have hra : a % 2147483648 < 2147483648 := Nat.mod_lt _ (by omega)
    have hrb : b % 2147483648 < 2147483648 := Nat.mod_lt _ (by omega)
    generalize a % 2147483648 = ra at *
    generalize b % 2147483648 = rb at *
    split at ho
    · rename_i c1
      rw [if_pos c1] at hs
      split at ho
      · rename_i c2
        rw [if_pos c2] at hs
        have e := sg _ _ hqa hqb hs
        subst e
        have := order_num ho (by omega) (by omega)
        have := mul_pow_inj (by omega) (by omega) (.inl rfl) (.inl rfl) this
        exact ⟨rfl, this.2⟩
      · rename_i c2
        rw [if_neg c2] at hs
        split at ho
        · rename_i c3
          rw [if_pos c3] at hs
          have e := sg _ _ hqa hqb hs
          subst e
          have := order_num ho (by omega) (by omega)
          have hm := Nat.mod_lt rb (show 0 < 8388608 by omega)
          have := mul_pow_inj (by omega) (by omega) (.inl rfl) (.inr (by omega)) this
          omega
        · split at ho <;> simp [Ieee.Datum.order] at ho
          split at ho <;> simp at ho
    · rename_i c1
      rw [if_neg c1] at hs
      split at ho
      · rename_i c1'
        rw [if_pos c1'] at hs
        split at ho
        · rename_i c2
          rw [if_pos c2] at hs
          have e := sg _ _ hqa hqb hs
          subst e
          have := order_num ho (by omega) (by omega)
          have hm := Nat.mod_lt ra (show 0 < 8388608 by omega)
          have := mul_pow_inj (by omega) (by omega) (.inr (by omega)) (.inl rfl) this
          omega
        · rename_i c2
          rw [if_neg c2] at hs
          split at ho
          · rename_i c3
            rw [if_pos c3] at hs
            have e := sg _ _ hqa hqb hs
            subst e
            have := order_num ho (by omega) (by omega)
            have hm := Nat.mod_lt ra (show 0 < 8388608 by omega)
            have hm' := Nat.mod_lt rb (show 0 < 8388608 by omega)
            have := mul_pow_inj (by omega) (by omega) (.inr (by omega)) (.inr (by omega)) this
            exact ⟨rfl, by omega⟩
          · split at ho <;> simp [Ieee.Datum.order] at ho
            split at ho <;> simp at ho
      · rename_i c1'
        rw [if_neg c1'] at hs
        split at ho
        · rename_i c4
          rw [if_pos c4] at hs
          split at ho
          · simp [Ieee.Datum.order] at ho
            split at ho <;> simp at ho
          · rename_i c2
            rw [if_neg c2] at hs
            split at ho
            · simp [Ieee.Datum.order] at ho
              split at ho <;> simp at ho
            · rename_i c3
              rw [if_neg c3] at hs
              split at ho
              · rename_i c5
                rw [if_pos c5] at hs
                exact ⟨sg _ _ hqa hqb hs, by omega⟩
              · simp [Ieee.Datum.order] at ho
        · simp [Ieee.Datum.order] at ho
  have h1 := Nat.div_add_mod a 2147483648
  have h2 := Nat.div_add_mod b 2147483648
  rw [key.1, key.2] at h1
  omega

/-- A float32 as a float64; a not-a-number is the one. -/
def wd (c : Nat) : Nat := if (S.read c).isNaN then qnan .f64 else Ieee.double.write (S.read c)

theorem cut_zero (s : Bool) (n : Nat) : Ieee.Toward.even.cut s n 0 = n := by
  unfold Ieee.Toward.cut
  simp [Nat.mod_one]

theorem single_range (b : Nat) {s : Bool} {m : Nat} {e : Int} (h : S.read b = .number s m e) : m < 16777216 ∧ -149 ≤ e ∧ e ≤ 104 := by
  rw [read_single] at h
  have h1 : b % 2147483648 < 2147483648 := Nat.mod_lt _ (by omega)
  generalize b % 2147483648 = r at *
  have h2 := Nat.mod_lt r (show 0 < 8388608 by omega)
  split at h
  · injection h with _ h3 h4; omega
  · split at h
    · injection h with _ h3 h4; omega
    · split at h <;> cases h

theorem shift_lt (m : Nat) (h0 : m ≠ 0) (h : m.log2 < 24) : m * 2 ^ (52 - m.log2) < 9007199254740992 := by
  have h1 : m < 2 ^ (m.log2 + 1) := Nat.lt_log2_self
  have h2 : m * 2 ^ (52 - m.log2) < 2 ^ (m.log2 + 1) * 2 ^ (52 - m.log2) := Nat.mul_lt_mul_of_pos_right h1 (Nat.two_pow_pos _)
  rw [← Nat.pow_add, show m.log2 + 1 + (52 - m.log2) = 53 by omega] at h2
  exact h2

theorem rung_lt (b k : Nat) (hb : b ≤ 1149) (hk : k < 9007199254740992) : b * 4503599627370496 + k < 9218868437227405312 := by
  have := Nat.mul_le_mul_right 4503599627370496 hb
  omega

theorem min_lt_of (x c : Nat) (h : x < c) : min x c < c := by omega

/-- No float32 is too great for a float64. -/
theorem wide_rung (s : Bool) (m : Nat) (e : Int) (hm : m < 16777216) (h1 : -149 ≤ e) (h2 : e ≤ 104) : ∃ r, r < 9218868437227405312 ∧ Ieee.double.nearest s m e = Ieee.double.word s r := by
  unfold Ieee.Format.nearest
  by_cases h0 : m = 0
  · rw [if_pos h0]; exact ⟨0, by decide, rfl⟩
  · rw [if_neg h0]
    have hf : (Ieee.double.fractionBits : Int) = 52 := by decide +kernel
    have hl : m.log2 < 24 := (Nat.log2_lt h0).2 (by omega)
    have hlast : max (e + (m.log2 : Int) - 52) (-1074) = e + (m.log2 : Int) - 52 := by omega
    have hz : (e + (m.log2 : Int) - 52 - e).toNat = 0 := by omega
    have hsh : (e - (e + (m.log2 : Int) - 52)).toNat = 52 - m.log2 := by omega
    have hb : (e + (m.log2 : Int) - 52 - -1074).toNat ≤ 1149 := by omega
    simp only [d_least, d_binade, d_inf, hf, hlast, hz, cut_zero, hsh, Nat.shiftLeft_eq]
    exact ⟨_, min_lt_of _ _ (rung_lt _ _ hb (shift_lt m h0 hl)), rfl⟩

theorem wide_ok (b : Nat) (h : (S.read b).isNaN = false) : ∃ r, r ≤ 9218868437227405312 ∧ Ieee.double.write (S.read b) = Ieee.double.word (S.read b).neg r ∧ ((S.read b).isInfinity = false → r < 9218868437227405312) := by
  cases hd : S.read b with
  | nan s t => rw [hd] at h; simp [Ieee.Datum.isNaN] at h
  | infinity s => exact ⟨Ieee.double.infRung, by rw [d_inf]; omega, rfl, fun h => by simp [Ieee.Datum.isInfinity] at h⟩
  | number s m e =>
    obtain ⟨h1, h2, h3⟩ := single_range b hd
    obtain ⟨r, hr, hw⟩ := wide_rung s m e h1 h2 h3
    exact ⟨r, by omega, hw, fun _ => hr⟩

theorem wide_not_nan (b : Nat) (h : (S.read b).isNaN = false) : (Ieee.double.read (Ieee.double.write (S.read b))).isNaN = false := write_not_nan _ _ h

/-- The sign of a number that was made wide. -/
theorem wd_sign (c : Nat) (h : (S.read c).isNaN = false) : decide (9223372036854775808 ≤ wd c) = (S.read c).neg := by
  unfold wd
  rw [if_neg (by simp [h])]
  obtain ⟨r, hr, hw, _⟩ := wide_ok c h
  rw [hw]
  unfold Ieee.Format.word
  rw [d_weight]
  cases (S.read c).neg <;> simp <;> omega

theorem wd_lt (c : Nat) : wd c < 18446744073709551616 := by
  unfold wd
  split
  · decide +kernel
  · exact Ieee.Format.write_lt Ieee.double _

theorem read_word_inf (f : Ieee.Format) (hb : f.binade ≤ f.infRung) (neg : Bool) {r : Nat} (h : r < f.infRung) : (f.read (f.word neg r)).isInfinity = false := by
  have hr := word_mod f neg (Nat.lt_trans h f.infRung_lt)
  unfold Ieee.Format.read
  dsimp only
  rw [hr]
  by_cases h1 : r < f.binade
  · rw [if_pos h1]; rfl
  · rw [if_neg h1, if_pos h]; rfl

theorem nanConv_isNaN (k : FloatKind) (x t : Nat) : (k.format.read (Question.cut (.nanConv k x) t)).isNaN = true := by
  have := nanBits_isNaN k 0 0 t
  cases k <;> exact this
theorem nanConv_lt (k : FloatKind) (x t : Nat) : Question.cut (.nanConv k x) t < 2 ^ k.format.width := by
  have := nanBits_lt k 0 0 t
  cases k <;> exact this

theorem isNaN_single (b : Nat) : (FloatKind.f32.format.read b).isNaN = (S.read b).isNaN := rfl

theorem run_wd {P : Program} (w : World) (src dst : TypeId) (b : Nat) (hs : (P.underlying src).isSome = true) (hd : P.underlying dst = some (.float .f64)) :
    ∃ r n, (convert src dst (.float .f32 b)).run P w = .ok (.float .f64 r) (w.drewN n) ∧ cn .f64 r = wd (cn .f32 b) ∧ r < 18446744073709551616 := by
  obtain ⟨u, hs'⟩ := Option.isSome_iff_exists.1 hs
  cases hn : (S.read b).isNaN with
  | true =>
    obtain ⟨s, t, hr⟩ := isNaN_cases hn
    have hr' : FloatKind.f32.decode b = .nan s t := hr
    refine ⟨Question.cut (.nanConv .f64 b) (w.tape w.drawn (.nanConv .f64 b)), 1, ?_, ?_, nanConv_lt .f64 ..⟩
    · cases u <;> simp [convert, run_underlying hs', run_underlying hd, Conv.floatToFloat, hr', choose, Sem.run, Question.forced, World.drewN]
    · rw [cn_of_nan (nanConv_isNaN ..), cn_of_nan (k := .f32) hn]
      decide +kernel
  | false =>
    have hc : cn .f32 b = b := cn_of_not hn
    refine ⟨Ieee.double.write (S.read b), 0, ?_, ?_, Ieee.Format.write_lt Ieee.double _⟩
    · refine run_convert_float_float (P := P) w src dst .f32 .f64 b _ hs hd ?_
      unfold floatToFloatBits
      rw [if_neg (by decide)]
      show (match S.read b with | .nan _ _ => none | .infinity s => some (FloatKind.f64.encode (.infinity s)) | .number s m e => if (FloatKind.f64.decode (FloatKind.f64.encode (.number s m e))).isInfinity = true then none else some (FloatKind.f64.encode (.number s m e))) = _
      obtain ⟨r, hr, hw, hi⟩ := wide_ok b hn
      cases hd : S.read b with
      | nan s t => rw [hd] at hn; simp [Ieee.Datum.isNaN] at hn
      | infinity s => rfl
      | number s m e =>
        rw [hd] at hw hi
        have h1 : FloatKind.f64.encode (.number s m e) = Ieee.double.word s r := hw
        have h2 : (FloatKind.f64.decode (FloatKind.f64.encode (.number s m e))).isInfinity = false := by
          rw [h1]; exact read_word_inf Ieee.double (by decide +kernel) s (by rw [d_inf]; exact hi rfl)
        dsimp only
        rw [h2]; rfl
    · rw [hc, cn_of_not (k := .f64) (wide_not_nan b hn)]
      unfold wd; rw [if_neg (by simp [hn])]

theorem wpList_wd {P : Program} {ops : Array Oper} {Q : Exit → Act → World → Prop} {a : Act} {w : World} {rest : List Oper} {dst : Option Tmp} {src to type : TypeId} {x : Operand} {pos : String} {after : Array Edge}
    (hs : (P.underlying src).isSome = true) (hd : P.underlying to = some (.float .f64)) (b : Nat) (hx : a.eval x = .float .f32 b)
    (hK : ∀ r n, cn .f64 r = wd (cn .f32 b) → r < 18446744073709551616 → wpList P ops Q rest (a.put dst (.float .f64 r)) (w.drewN n)) :
    wpList P ops Q ({ dst := dst, op := .convert src to x, type := type, pos := pos, after := after, guard := none } :: rest) a w := by
  refine wpList_plain rfl fun K hK' => ?_
  obtain ⟨r, n, hrun, hr, hlt⟩ := run_wd (P := P) w src to b hs hd
  unfold Oper.wp
  simp [execOp, hx, hrun, Result.andThen]
  exact hK' _ _ (hK r n hr hlt)

theorem wpList_wd_g {P : Program} {ops : Array Oper} {Q : Exit → Act → World → Prop} {a : Act} {w : World} {rest : List Oper} {dst : Option Tmp} {src to type : TypeId} {x : Operand} {pos : String} {after : Array Edge} {g : Nat × Bool}
    (hw : Region.wanted { dst := dst, op := .convert src to x, type := type, pos := pos, after := after, guard := some g } (yielded ops a.tmps) = true)
    (hs : (P.underlying src).isSome = true) (hd : P.underlying to = some (.float .f64)) (b : Nat) (hx : a.eval x = .float .f32 b)
    (hK : ∀ r n, cn .f64 r = wd (cn .f32 b) → r < 18446744073709551616 → wpList P ops Q rest (a.put dst (.float .f64 r)) (w.drewN n)) :
    wpList P ops Q ({ dst := dst, op := .convert src to x, type := type, pos := pos, after := after, guard := some g } :: rest) a w := by
  refine BigFrame.wpList_want hw fun K hK' => ?_
  obtain ⟨r, n, hrun, hr, hlt⟩ := run_wd (P := P) w src to b hs hd
  unfold Oper.wp
  simp [execOp, hx, hrun, Result.andThen]
  exact hK' _ _ (hK r n hr hlt)

theorem order_self (k : FloatKind) (x : Nat) (h : (k.format.read x).isNaN = false) : k.format.order x x = some .eq := by
  unfold Ieee.Format.order
  cases hd : k.format.read x with
  | nan s t => rw [hd] at h; simp [Ieee.Datum.isNaN] at h
  | infinity s => simp [Ieee.Datum.order]
  | number s m e => simp [Ieee.Datum.order]
theorem order_nan_l (k : FloatKind) (x y : Nat) (h : (k.format.read x).isNaN = true) : k.format.order x y = none := by
  obtain ⟨s, t, e⟩ := isNaN_cases h
  unfold Ieee.Format.order; rw [e]; rfl
/-- 'x != x'. -/
theorem fc_neq_self (k : FloatKind) (c : Nat) : fc .neq k c c = (k.format.read c).isNaN := by
  unfold fc
  cases h : (k.format.read c).isNaN
  · rw [order_self k c h]; rfl
  · rw [order_nan_l k c c h]; rfl
theorem fc_eql_self (k : FloatKind) (c : Nat) : fc .eql k c c = !(k.format.read c).isNaN := by
  unfold fc
  cases h : (k.format.read c).isNaN
  · rw [order_self k c h]; rfl
  · rw [order_nan_l k c c h]; rfl

/-- The two are the same: what 'SameNumber' tells. -/
def same (c d : Nat) : Bool := c == d

theorem same_of {a b : Nat} (ha : a < 4294967296) (hb : b < 4294967296) (h1 : (S.read a).isNaN = false) (h2 : (S.read b).isNaN = false) :
    (fc .eql .f32 a b && ((S.read a).neg == (S.read b).neg)) = same a b := by
  unfold same
  rw [Bool.eq_iff_iff]
  constructor
  · intro h
    rw [Bool.and_eq_true] at h
    have ho : FloatKind.f32.format.order a b = some .eq := by simpa [fc] using h.1
    have := bits_of_eq ha hb ho (by simpa using h.2)
    simpa using this
  · intro h
    have : a = b := by simpa using h
    subst this
    rw [fc_eql_self]
    have : (FloatKind.f32.format.read a).isNaN = false := h1
    simp [this]

theorem wd_raw {r c : Nat} (h : cn .f64 r = wd c) (hc : (S.read c).isNaN = false) : r = wd c := by
  cases hr : (FloatKind.f64.format.read r).isNaN
  · rw [← h, cn_of_not hr]
  · rw [cn_of_nan hr] at h
    have h1 : (Ieee.double.read (wd c)).isNaN = false := by
      unfold wd; rw [if_neg (by simp [hc])]; exact wide_not_nan c hc
    rw [← h] at h1
    have h2 : (Ieee.double.read (qnan .f64)).isNaN = true := qnan_isNaN .f64
    rw [h2] at h1; cases h1
theorem signs_of {r1 r2 c d : Nat} (h1 : cn .f64 r1 = wd c) (h2 : cn .f64 r2 = wd d) (hc : (S.read c).isNaN = false) (hd : (S.read d).isNaN = false) :
    (decide (9223372036854775808 ≤ r1) == decide (9223372036854775808 ≤ r2)) = ((S.read c).neg == (S.read d).neg) := by
  rw [wd_raw h1 hc, wd_raw h2 hd, wd_sign c hc, wd_sign d hd]
theorem same_nan {c d : Nat} (hc : (S.read c).isNaN = true) (hd : (S.read d).isNaN = false) : same c d = false ∧ same d c = false := by
  have : c ≠ d := by rintro rfl; rw [hc] at hd; cases hd
  exact ⟨by simp [same, this], by simp [same, Ne.symm this]⟩
theorem cn_lt {b : Nat} (h : b < 4294967296) : cn .f32 b < 4294967296 := by
  unfold cn
  split
  · decide
  · exact h

end Go.Proofs.Ytkkomajokdlkeaa

namespace Go.Proofs.Ytkkomajokdlkeaa
set_option linter.unusedSimpArgs false
set_option linter.unusedVariables false
set_option maxRecDepth 100000
set_option maxHeartbeats 4000000
open Go.RowKit
theorem log2_mulpE {n : Nat} (hn : n ≠ 0) (K : Nat) : (n * 2 ^ K).log2 = n.log2 + K := by
  have hp : 0 < 2 ^ K := Nat.pow_pos (by decide)
  rw [Nat.log2_eq_iff (by exact Nat.mul_ne_zero hn (by omega)), Nat.pow_add]
  have h := (Nat.log2_eq_iff hn).1 rfl
  refine ⟨Nat.mul_le_mul_right _ h.1, ?_⟩
  rw [show n.log2 + K + 1 = (n.log2 + 1) + K by omega, Nat.pow_add]
  exact Nat.mul_lt_mul_of_pos_right h.2 hp
theorem cut_noneE (neg : Bool) (n : Nat) : Ieee.Toward.even.cut neg n 0 = n := by
  simp [Ieee.Toward.cut, Nat.mod_one]
theorem cut_exactE (neg : Bool) (q : Nat) (hq : q ≠ 0) (d : Nat) : Ieee.Toward.even.cut neg (q * 2 ^ d) d = q := by
  have hm : min d ((q * 2 ^ d).log2 + 2) = d := by rw [log2_mulpE hq]; omega
  have hp : 0 < 2 ^ d := Nat.pow_pos (by decide)
  unfold Ieee.Toward.cut
  simp only [hm, Nat.one_shiftLeft]
  rw [Nat.mul_div_cancel _ hp, Nat.mul_mod_left]
  have h1 : ¬ 2 ^ d < 2 * 0 := by omega
  have h2 : ¬ 2 ^ d = 2 * 0 := by omega
  simp [h1, h2]
/-- What is nearest to n eighths is n eighths. -/
theorem near_read (neg : Bool) (n K : Nat) (hn : n < 16777216) : S.nearest neg (n * 2 ^ K) (-3 - (K : Int)) < 4294967296 ∧ ∃ k : Nat, S.read (S.nearest neg (n * 2 ^ K) (-3 - (K : Int))) = .number neg (n * 2 ^ k) (-3 - (k : Int)) := by
  by_cases h0 : n = 0
  · subst h0
    rw [Nat.zero_mul]
    have h1 : S.nearest neg 0 (-3 - (K : Int)) = S.word neg 0 := by unfold Ieee.Format.nearest; rw [if_pos rfl]
    rw [h1]
    cases neg
    · exact ⟨by decide, 146, by decide⟩
    · exact ⟨by decide, 146, by decide⟩
  · have hL := (Nat.log2_eq_iff h0).1 rfl
    have hLt : n.log2 < 24 := (Nat.log2_lt h0).2 hn
    obtain ⟨L, hLL⟩ : ∃ L, L = n.log2 := ⟨_, rfl⟩
    rw [← hLL] at hL hLt
    obtain ⟨q, hq⟩ : ∃ q, q = n * 2 ^ (23 - L) := ⟨_, rfl⟩
    have hp : 0 < 2 ^ (23 - L) := Nat.pow_pos (by decide)
    have e23 : (2 : Nat) ^ L * 2 ^ (23 - L) = 8388608 := by rw [← Nat.pow_add, show L + (23 - L) = 23 by omega]
    have hq1 : 8388608 ≤ q := by rw [hq, ← e23]; exact Nat.mul_le_mul_right _ hL.1
    have hq2 : q < 16777216 := by
      have : (2 : Nat) ^ (L + 1) * 2 ^ (23 - L) = 16777216 := by rw [← Nat.pow_add, show L + 1 + (23 - L) = 24 by omega]
      rw [hq, ← this]
      exact Nat.mul_lt_mul_of_pos_right hL.2 hp
    have hne : n * 2 ^ K ≠ 0 := Nat.mul_ne_zero h0 (Nat.ne_of_gt (Nat.pow_pos (by decide)))
    have hlast : max (-3 - (K : Int) + ((n * 2 ^ K).log2 : Int) - (S.fractionBits : Int)) S.leastPlace = (L : Int) - 26 := by
      rw [log2_mulpE h0, ← hLL, show (S.fractionBits : Int) = 23 from rfl, show S.leastPlace = -149 from by decide]
      omega
    have hkept : Ieee.Toward.even.cut neg ((n * 2 ^ K) <<< (-3 - (K : Int) - ((L : Int) - 26)).toNat) ((L : Int) - 26 - (-3 - (K : Int))).toNat = q := by
      by_cases hK : K ≤ 23 - L
      · rw [show ((L : Int) - 26 - (-3 - (K : Int))).toNat = 0 by omega, cut_noneE, Nat.shiftLeft_eq, show (-3 - (K : Int) - ((L : Int) - 26)).toNat = 23 - L - K by omega, Nat.mul_assoc, ← Nat.pow_add, show K + (23 - L - K) = 23 - L by omega, hq]
      · rw [show (-3 - (K : Int) - ((L : Int) - 26)).toNat = 0 by omega, Nat.shiftLeft_zero, show ((L : Int) - 26 - (-3 - (K : Int))).toNat = K - (23 - L) by omega]
        have e : n * 2 ^ K = q * 2 ^ (K - (23 - L)) := by rw [hq, Nat.mul_assoc, ← Nat.pow_add, show 23 - L + (K - (23 - L)) = K by omega]
        rw [e]
        exact cut_exactE neg q (by omega) _
    have hnear : S.nearest neg (n * 2 ^ K) (-3 - (K : Int)) = S.word neg ((L + 123) * 8388608 + q) := by
      unfold Ieee.Format.nearest
      rw [if_neg hne]
      simp only [hlast, hkept]
      rw [show S.leastPlace = -149 from by decide, show S.binade = 8388608 from by decide, show S.infRung = 2139095040 from by decide, show ((L : Int) - 26 - -149).toNat = L + 123 by omega, Nat.min_eq_left (by omega)]
    have hr : (L + 123) * 8388608 + q < 2139095040 := by omega
    have hw : S.word neg ((L + 123) * 8388608 + q) = (if neg then 2147483648 + ((L + 123) * 8388608 + q) else (L + 123) * 8388608 + q) := by
      unfold Ieee.Format.word
      rw [show S.signWeight = 2147483648 from by decide]
    rw [hnear, hw]
    refine ⟨by split <;> omega, 23 - L, ?_⟩
    have hplace : (-3 - ((23 - L : Nat) : Int)) = -149 + (((L + 123) * 8388608 + q) / 8388608 - 1 : Nat) := by omega
    have hmant : n * 2 ^ (23 - L) = 8388608 + ((L + 123) * 8388608 + q) % 8388608 := by rw [← hq]; omega
    rw [hplace, hmant]
    generalize (L + 123) * 8388608 + q = r at *
    unfold Ieee.Format.read
    rw [show S.signWeight = 2147483648 from by decide, show S.binade = 8388608 from by decide, show S.infRung = 2139095040 from by decide, show S.leastPlace = -149 from by decide]
    have hge : ¬ r < 8388608 := by omega
    cases neg
    · simp only [Bool.false_eq_true, if_false]
      rw [Nat.mod_eq_of_lt (show r < 2147483648 by omega), show r / 2147483648 = 0 by omega]
      simp only [if_neg hge, if_pos hr]
      rfl
    · simp only [if_true]
      rw [show (2147483648 + r) % 2147483648 = r by omega, show (2147483648 + r) / 2147483648 = 1 by omega]
      simp only [if_neg hge, if_pos hr]
      rfl
/-- x eighths. -/
def Ev (c : Nat) (x : Int) : Prop := c < 4294967296 ∧ ∃ (s : Bool) (k : Nat), S.read c = .number s (x.natAbs * 2 ^ k) (-3 - (k : Int)) ∧ (x ≠ 0 → s = decide (x < 0))
theorem signed_ev {s : Bool} {x : Int} (hs : x ≠ 0 → s = decide (x < 0)) (k u : Nat) : Ieee.signed s (x.natAbs * 2 ^ k) u = x * ((2 ^ (k + u) : Nat) : Int) := by
  unfold Ieee.signed
  rw [Nat.shiftLeft_eq, Nat.mul_assoc, ← Nat.pow_add]
  by_cases h0 : x = 0
  · subst h0; simp
  · rw [hs h0]
    by_cases hx : x < 0
    · simp only [hx, decide_true, if_true]
      rw [Int.natCast_mul, show ((x.natAbs : Nat) : Int) = -x by omega, Int.neg_mul, Int.neg_neg]
    · simp only [hx, decide_false, Bool.false_eq_true, if_false]
      rw [Int.natCast_mul, show ((x.natAbs : Nat) : Int) = x by omega]
theorem sum_ev {s t : Bool} {x y : Int} {k j : Nat} (hs : x ≠ 0 → s = decide (x < 0)) (ht : y ≠ 0 → t = decide (y < 0)) (hxy : (x + y).natAbs < 16777216) :
    ∃ (r : Bool) (K : Nat), (Ieee.Datum.number s (x.natAbs * 2 ^ k) (-3 - (k : Int))).sum (.number t (y.natAbs * 2 ^ j) (-3 - (j : Int))) = some (.number r ((x + y).natAbs * 2 ^ K) (-3 - (K : Int))) ∧ (x + y ≠ 0 → r = decide (x + y < 0)) := by
  obtain ⟨K, hK⟩ : ∃ K, K = max k j := ⟨_, rfl⟩
  have hbase : min (-3 - (k : Int)) (-3 - (j : Int)) = -3 - (K : Int) := by omega
  have hp : (0 : Int) < ((2 ^ K : Nat) : Int) := Int.natCast_pos.2 (Nat.pow_pos (by decide))
  unfold Ieee.Datum.sum
  simp only [hbase]
  rw [show (-3 - (k : Int) - (-3 - (K : Int))).toNat = K - k by omega, show (-3 - (j : Int) - (-3 - (K : Int))).toNat = K - j by omega, signed_ev hs, signed_ev ht, show k + (K - k) = K by omega, show j + (K - j) = K by omega, ← Int.add_mul]
  refine ⟨if (x + y) * ((2 ^ K : Nat) : Int) = 0 then s && t else decide ((x + y) * ((2 ^ K : Nat) : Int) < 0), K, ?_, ?_⟩
  · rw [Int.natAbs_mul, Int.natAbs_natCast]
  · intro h
    have h1 : (x + y) * ((2 ^ K : Nat) : Int) ≠ 0 := Int.mul_ne_zero h (by omega)
    rw [if_neg h1]
    congr 1
    rw [eq_iff_iff]
    constructor
    · intro h2
      by_cases h3 : x + y < 0
      · exact h3
      · have := Int.mul_nonneg (show 0 ≤ x + y by omega) (Int.le_of_lt hp); omega
    · intro h2
      exact Int.mul_neg_of_neg_of_pos h2 hp
theorem ev_near {r : Bool} {z : Int} {K : Nat} (hr : z ≠ 0 → r = decide (z < 0)) (hz : z.natAbs < 16777216) : Ev (S.write (.number r (z.natAbs * 2 ^ K) (-3 - (K : Int)))) z := by
  obtain ⟨h1, k, h2⟩ := near_read r z.natAbs K hz
  exact ⟨h1, r, k, h2, hr⟩
theorem Ev.add {a b : Nat} {x y : Int} (ha : Ev a x) (hb : Ev b y) (hxy : (x + y).natAbs < 16777216) : Ev (addF a b) (x + y) := by
  obtain ⟨-, s, k, h1, h2⟩ := ha
  obtain ⟨-, t, j, h3, h4⟩ := hb
  obtain ⟨r, K, h5, h6⟩ := sum_ev h2 h4 hxy (k := k) (j := j)
  have h7 : addF a b = S.write (.number r ((x + y).natAbs * 2 ^ K) (-3 - (K : Int))) := by
    show ((floatBits .add .f32 a b).getD _) = _
    show ((S.add a b).getD _) = _
    rw [Ieee.Format.add, h1, h3, h5]
    rfl
  rw [h7]
  exact ev_near h6 hxy
theorem Ev.sub {a b : Nat} {x y : Int} (ha : Ev a x) (hb : Ev b y) (hxy : (x - y).natAbs < 16777216) : Ev (subF a b) (x - y) := by
  obtain ⟨-, s, k, h1, h2⟩ := ha
  obtain ⟨-, t, j, h3, h4⟩ := hb
  have h4' : -y ≠ 0 → (!t) = decide (-y < 0) := by
    intro h
    rw [h4 (by omega)]
    by_cases h5 : y < 0
    · rw [decide_eq_true h5, decide_eq_false (by omega)]; rfl
    · rw [decide_eq_false h5, decide_eq_true (by omega)]; rfl
  obtain ⟨r, K, h5, h6⟩ := sum_ev h2 h4' (by rw [← Int.sub_eq_add_neg]; exact hxy) (k := k) (j := j)
  rw [← Int.sub_eq_add_neg, Int.natAbs_neg] at h5
  rw [← Int.sub_eq_add_neg] at h6
  have h7 : subF a b = S.write (.number r ((x - y).natAbs * 2 ^ K) (-3 - (K : Int))) := by
    show ((floatBits .sub .f32 a b).getD _) = _
    show ((S.sub a b).getD _) = _
    rw [Ieee.Format.sub, h1, h3]
    show (Option.map S.write ((Ieee.Datum.number s _ _).sum (Ieee.Datum.number (!t) _ _))).getD _ = _
    rw [h5]
    rfl
  rw [h7]
  exact ev_near h6 hxy
/-- How such numbers stand to each other. -/
theorem Ev.order {a b : Nat} {x y : Int} (ha : Ev a x) (hb : Ev b y) : S.order a b = some (compare x y) := by
  obtain ⟨-, s, k, h1, h2⟩ := ha
  obtain ⟨-, t, j, h3, h4⟩ := hb
  obtain ⟨K, hK⟩ : ∃ K, K = max k j := ⟨_, rfl⟩
  have hbase : min (-3 - (k : Int)) (-3 - (j : Int)) = -3 - (K : Int) := by omega
  show (S.read a).order (S.read b) = _
  rw [h1, h3]
  unfold Ieee.Datum.order
  simp only [hbase]
  rw [show (-3 - (k : Int) - (-3 - (K : Int))).toNat = K - k by omega, show (-3 - (j : Int) - (-3 - (K : Int))).toNat = K - j by omega, signed_ev h2, signed_ev h4, show k + (K - k) = K by omega, show j + (K - j) = K by omega]
  congr 1
  have hp : (0 : Int) < ((2 ^ K : Nat) : Int) := Int.natCast_pos.2 (Nat.pow_pos (by decide))
  rcases Int.lt_trichotomy x y with h | h | h
  · have h5 : x * ((2 ^ K : Nat) : Int) < y * ((2 ^ K : Nat) : Int) := Int.mul_lt_mul_of_pos_right h hp
    simp only [compare, compareOfLessAndEq, if_pos h, if_pos h5]
  · subst h
    simp [compare, compareOfLessAndEq]
  · have h5 : y * ((2 ^ K : Nat) : Int) < x * ((2 ^ K : Nat) : Int) := Int.mul_lt_mul_of_pos_right h hp
    have h6 : ¬ x < y := by omega
    have h7 : ¬ x = y := by omega
    have h8 : ¬ x * ((2 ^ K : Nat) : Int) < y * ((2 ^ K : Nat) : Int) := by omega
    have h9 : ¬ x * ((2 ^ K : Nat) : Int) = y * ((2 ^ K : Nat) : Int) := by omega
    simp only [compare, compareOfLessAndEq, if_neg h6, if_neg h7, if_neg h8, if_neg h9]
theorem Ev.notNaN {a : Nat} {x : Int} (ha : Ev a x) : (S.read a).isNaN = false := by
  obtain ⟨-, s, k, h1, -⟩ := ha
  rw [h1]; rfl
theorem Ev.cn {a : Nat} {x : Int} (ha : Ev a x) : cn .f32 a = a := cn_of_not ha.notNaN
theorem ev_zero : Ev 0 0 := ⟨by decide, false, 146, by decide, by simp⟩
theorem cmpI (x y : Int) : compare x y = (if x < y then .lt else if x = y then .eq else .gt) := by simp only [compare, compareOfLessAndEq]
theorem Ev.lss {a b : Nat} {x y : Int} (ha : Ev a x) (hb : Ev b y) : fc .lss .f32 a b = decide (x < y) := by
  show (S.order a b == some .lt) = _
  rw [ha.order hb, cmpI]
  by_cases h : x < y
  · rw [if_pos h, decide_eq_true h]; rfl
  · rw [if_neg h, decide_eq_false h]; split <;> rfl
theorem Ev.gtr {a b : Nat} {x y : Int} (ha : Ev a x) (hb : Ev b y) : fc .gtr .f32 a b = decide (y < x) := by
  show (S.order a b == some .gt) = _
  rw [ha.order hb, cmpI]
  by_cases h : y < x
  · rw [if_neg (by omega), if_neg (by omega), decide_eq_true h]; rfl
  · rw [decide_eq_false h]; split
    · rfl
    · rw [if_pos (by omega)]; rfl
theorem Ev.eql {a b : Nat} {x y : Int} (ha : Ev a x) (hb : Ev b y) : fc .eql .f32 a b = decide (x = y) := by
  show (S.order a b == some .eq) = _
  rw [ha.order hb, cmpI]
  by_cases h : x = y
  · rw [if_neg (by omega), if_pos h, decide_eq_true h]; rfl
  · rw [decide_eq_false h]; split
    · rfl
    · rfl
theorem Ev.fin {a : Nat} {x : Int} (ha : Ev a x) : fin a = true := by
  have h := (ha.sub ha (by rw [Int.sub_self]; decide)).eql ev_zero
  rw [Int.sub_self, decide_eq_true rfl] at h
  exact h
/-- One step of a drift. -/
theorem ev_up {s x m k : Nat} {S0 X M K : Int} (h1 : Ev s S0) (h2 : Ev x X) (h3 : Ev m M) (h4 : Ev k K) (b1 : S0.natAbs ≤ 1000000) (b2 : X.natAbs ≤ 1000) (b3 : M.natAbs ≤ 1000) (b4 : K.natAbs ≤ 1000) : Ev (subF (subF (addF s x) m) k) (S0 + X - M - K) :=
  ((h1.add h2 (by omega)).sub h3 (by omega)).sub h4 (by omega)
theorem ev_down {s x m k : Nat} {S0 X M K : Int} (h1 : Ev s S0) (h2 : Ev x X) (h3 : Ev m M) (h4 : Ev k K) (b1 : S0.natAbs ≤ 1000000) (b2 : X.natAbs ≤ 1000) (b3 : M.natAbs ≤ 1000) (b4 : K.natAbs ≤ 1000) : Ev (subF (subF (addF s m) x) k) (S0 + M - X - K) :=
  ((h1.add h3 (by omega)).sub h2 (by omega)).sub h4 (by omega)

end Go.Proofs.Ytkkomajokdlkeaa
