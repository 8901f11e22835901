/- Bits of float32 numbers: which two are the same; a number as a float64. Plain: no program. -/
import Derived.Test.YtkkomajokdlkeaaQ1
namespace Go.Proofs.Ytkkomajokdlkeaa
set_option linter.unusedSimpArgs false
set_option linter.unusedVariables false
set_option maxRecDepth 100000
set_option maxHeartbeats 4000000
open Go.RowKit

abbrev S := Ieee.single
theorem s_weight : S.signWeight = 2147483648 := by decide +kernel
theorem s_binade : S.binade = 8388608 := by decide +kernel
theorem s_inf : S.infRung = 2139095040 := by decide +kernel
theorem s_least : S.leastPlace = -149 := by decide +kernel
theorem d_weight : Ieee.double.signWeight = 9223372036854775808 := by decide +kernel
theorem d_binade : Ieee.double.binade = 4503599627370496 := by decide +kernel
theorem d_inf : Ieee.double.infRung = 9218868437227405312 := by decide +kernel
theorem d_least : Ieee.double.leastPlace = -1074 := by decide +kernel

/-- What the bits below the sign stand for. -/
theorem read_single (b : Nat) : S.read b =
    (if b % 2147483648 < 8388608 then .number (b / 2147483648 % 2 == 1) (b % 2147483648) (-149)
     else if b % 2147483648 < 2139095040 then .number (b / 2147483648 % 2 == 1) (8388608 + b % 2147483648 % 8388608) (-149 + (b % 2147483648 / 8388608 - 1 : Nat))
     else if b % 2147483648 = 2139095040 then .infinity (b / 2147483648 % 2 == 1) else .nan (b / 2147483648 % 2 == 1) (b % 2147483648 - 2139095040)) := by
  unfold Ieee.Format.read
  simp only [s_weight, s_binade, s_inf, s_least]

theorem mul_pow_inj {m n e1 e2 : Nat} (h1 : m < 16777216) (h2 : n < 16777216) (h1' : e1 = 0 ∨ 8388608 ≤ m) (h2' : e2 = 0 ∨ 8388608 ≤ n) (h : m * 2 ^ e1 = n * 2 ^ e2) : e1 = e2 ∧ m = n := by
  rcases Nat.lt_trichotomy e1 e2 with hl | rfl | hl
  · exfalso
    obtain ⟨d, rfl⟩ : ∃ d, e2 = e1 + (d + 1) := ⟨e2 - e1 - 1, by omega⟩
    rw [Nat.pow_add, ← Nat.mul_assoc, Nat.mul_right_comm] at h
    have := Nat.eq_of_mul_eq_mul_right (Nat.two_pow_pos e1) h
    have hp : 2 ≤ 2 ^ (d + 1) := by rw [Nat.pow_succ]; have := Nat.two_pow_pos d; omega
    have := Nat.mul_le_mul_left n hp
    omega
  · exact ⟨rfl, Nat.eq_of_mul_eq_mul_right (Nat.two_pow_pos e1) h⟩
  · exfalso
    obtain ⟨d, rfl⟩ : ∃ d, e1 = e2 + (d + 1) := ⟨e1 - e2 - 1, by omega⟩
    rw [Nat.pow_add, ← Nat.mul_assoc, Nat.mul_right_comm] at h
    have := Nat.eq_of_mul_eq_mul_right (Nat.two_pow_pos e2) h
    have hp : 2 ≤ 2 ^ (d + 1) := by rw [Nat.pow_succ]; have := Nat.two_pow_pos d; omega
    have := Nat.mul_le_mul_left m hp
    omega

theorem signed_eq {s : Bool} {m n i j : Nat} (h : Ieee.signed s m i = Ieee.signed s n j) : m * 2 ^ i = n * 2 ^ j := by
  unfold Ieee.signed at h
  simp only [Nat.shiftLeft_eq] at h
  cases s <;> simp only [Bool.false_eq_true, if_false, if_true] at h <;> omega

theorem order_num {s : Bool} {m n : Nat} {i j : Int} (h : (Ieee.Datum.number s m i).order (.number s n j) = some .eq) (hi : -149 ≤ i) (hj : -149 ≤ j) : m * 2 ^ (i + 149).toNat = n * 2 ^ (j + 149).toNat := by
  simp only [Ieee.Datum.order, Option.some.injEq] at h
  have h1 := signed_eq (Int.compare_eq_eq.1 h)
  have e1 : (i + 149).toNat = (i - min i j).toNat + (min i j + 149).toNat := by omega
  have e2 : (j + 149).toNat = (j - min i j).toNat + (min i j + 149).toNat := by omega
  rw [e1, e2, Nat.pow_add, Nat.pow_add, ← Nat.mul_assoc, ← Nat.mul_assoc, h1]

/-- Two numbers that are equal and have one sign have the same bits. -/
theorem bits_of_eq {a b : Nat} (ha : a < 4294967296) (hb : b < 4294967296) (ho : S.order a b = some .eq) (hs : (S.read a).neg = (S.read b).neg) : a = b := by
  have hsa : a / 2147483648 % 2 = a / 2147483648 := by omega
  have hsb : b / 2147483648 % 2 = b / 2147483648 := by omega
  have key : a / 2147483648 = b / 2147483648 ∧ a % 2147483648 = b % 2147483648 := by
    unfold Ieee.Format.order at ho
    rw [read_single a, read_single b] at ho hs
    have sg : ∀ x y : Nat, x < 2 → y < 2 → ((x == 1) = (y == 1)) → x = y := by
      intro x y hx hy h
      rcases (by omega : x = 0 ∨ x = 1) with rfl | rfl <;> rcases (by omega : y = 0 ∨ y = 1) with rfl | rfl <;> simp_all
    have hqa : a / 2147483648 < 2 := by omega
    have hqb : b / 2147483648 < 2 := by omega
    rw [hsa, hsb] at ho hs
    generalize a / 2147483648 = qa at *
    generalize b / 2147483648 = qb at *
    have hra : a % 2147483648 < 2147483648 := Nat.mod_lt _ (by omega)
    have hrb : b % 2147483648 < 2147483648 := Nat.mod_lt _ (by omega)
    generalize a % 2147483648 = ra at *
    generalize b % 2147483648 = rb at *
    split at ho
    · rename_i c1
      rw [if_pos c1] at hs
      split at ho
      · rename_i c2
        rw [if_pos c2] at hs
        have e := sg _ _ hqa hqb hs
        subst e
        have := order_num ho (by omega) (by omega)
        have := mul_pow_inj (by omega) (by omega) (.inl rfl) (.inl rfl) this
        exact ⟨rfl, this.2⟩
      · rename_i c2
        rw [if_neg c2] at hs
        split at ho
        · rename_i c3
          rw [if_pos c3] at hs
          have e := sg _ _ hqa hqb hs
          subst e
          have := order_num ho (by omega) (by omega)
          have hm := Nat.mod_lt rb (show 0 < 8388608 by omega)
          have := mul_pow_inj (by omega) (by omega) (.inl rfl) (.inr (by omega)) this
          omega
        · split at ho <;> simp [Ieee.Datum.order] at ho
          split at ho <;> simp at ho
    · rename_i c1
      rw [if_neg c1] at hs
      split at ho
      · rename_i c1'
        rw [if_pos c1'] at hs
        split at ho
        · rename_i c2
          rw [if_pos c2] at hs
          have e := sg _ _ hqa hqb hs
          subst e
          have := order_num ho (by omega) (by omega)
          have hm := Nat.mod_lt ra (show 0 < 8388608 by omega)
          have := mul_pow_inj (by omega) (by omega) (.inr (by omega)) (.inl rfl) this
          omega
        · rename_i c2
          rw [if_neg c2] at hs
          split at ho
          · rename_i c3
            rw [if_pos c3] at hs
            have e := sg _ _ hqa hqb hs
            subst e
            have := order_num ho (by omega) (by omega)
            have hm := Nat.mod_lt ra (show 0 < 8388608 by omega)
            have hm' := Nat.mod_lt rb (show 0 < 8388608 by omega)
            have := mul_pow_inj (by omega) (by omega) (.inr (by omega)) (.inr (by omega)) this
            exact ⟨rfl, by omega⟩
          · split at ho <;> simp [Ieee.Datum.order] at ho
            split at ho <;> simp at ho
      · rename_i c1'
        rw [if_neg c1'] at hs
        split at ho
        · rename_i c4
          rw [if_pos c4] at hs
          split at ho
          · simp [Ieee.Datum.order] at ho
            split at ho <;> simp at ho
          · rename_i c2
            rw [if_neg c2] at hs
            split at ho
            · simp [Ieee.Datum.order] at ho
              split at ho <;> simp at ho
            · rename_i c3
              rw [if_neg c3] at hs
              split at ho
              · rename_i c5
                rw [if_pos c5] at hs
                exact ⟨sg _ _ hqa hqb hs, by omega⟩
              · simp [Ieee.Datum.order] at ho
        · simp [Ieee.Datum.order] at ho
  have h1 := Nat.div_add_mod a 2147483648
  have h2 := Nat.div_add_mod b 2147483648
  rw [key.1, key.2] at h1
  omega

/-- A float32 as a float64; a not-a-number is the one. -/
def wd (c : Nat) : Nat := if (S.read c).isNaN then qnan .f64 else Ieee.double.write (S.read c)

theorem cut_zero (s : Bool) (n : Nat) : Ieee.Toward.even.cut s n 0 = n := by
  unfold Ieee.Toward.cut
  simp [Nat.mod_one]

theorem single_range (b : Nat) {s : Bool} {m : Nat} {e : Int} (h : S.read b = .number s m e) : m < 16777216 ∧ -149 ≤ e ∧ e ≤ 104 := by
  rw [read_single] at h
  have h1 : b % 2147483648 < 2147483648 := Nat.mod_lt _ (by omega)
  generalize b % 2147483648 = r at *
  have h2 := Nat.mod_lt r (show 0 < 8388608 by omega)
  split at h
  · injection h with _ h3 h4; omega
  · split at h
    · injection h with _ h3 h4; omega
    · split at h <;> cases h

theorem shift_lt (m : Nat) (h0 : m ≠ 0) (h : m.log2 < 24) : m * 2 ^ (52 - m.log2) < 9007199254740992 := by
  have h1 : m < 2 ^ (m.log2 + 1) := Nat.lt_log2_self
  have h2 : m * 2 ^ (52 - m.log2) < 2 ^ (m.log2 + 1) * 2 ^ (52 - m.log2) := Nat.mul_lt_mul_of_pos_right h1 (Nat.two_pow_pos _)
  rw [← Nat.pow_add, show m.log2 + 1 + (52 - m.log2) = 53 by omega] at h2
  exact h2

theorem rung_lt (b k : Nat) (hb : b ≤ 1149) (hk : k < 9007199254740992) : b * 4503599627370496 + k < 9218868437227405312 := by
  have := Nat.mul_le_mul_right 4503599627370496 hb
  omega

theorem min_lt_of (x c : Nat) (h : x < c) : min x c < c := by omega

/-- No float32 is too great for a float64. -/
theorem wide_rung (s : Bool) (m : Nat) (e : Int) (hm : m < 16777216) (h1 : -149 ≤ e) (h2 : e ≤ 104) : ∃ r, r < 9218868437227405312 ∧ Ieee.double.nearest s m e = Ieee.double.word s r := by
  unfold Ieee.Format.nearest
  by_cases h0 : m = 0
  · rw [if_pos h0]; exact ⟨0, by decide, rfl⟩
  · rw [if_neg h0]
    have hf : (Ieee.double.fractionBits : Int) = 52 := by decide +kernel
    have hl : m.log2 < 24 := (Nat.log2_lt h0).2 (by omega)
    have hlast : max (e + (m.log2 : Int) - 52) (-1074) = e + (m.log2 : Int) - 52 := by omega
    have hz : (e + (m.log2 : Int) - 52 - e).toNat = 0 := by omega
    have hsh : (e - (e + (m.log2 : Int) - 52)).toNat = 52 - m.log2 := by omega
    have hb : (e + (m.log2 : Int) - 52 - -1074).toNat ≤ 1149 := by omega
    simp only [d_least, d_binade, d_inf, hf, hlast, hz, cut_zero, hsh, Nat.shiftLeft_eq]
    exact ⟨_, min_lt_of _ _ (rung_lt _ _ hb (shift_lt m h0 hl)), rfl⟩

theorem wide_ok (b : Nat) (h : (S.read b).isNaN = false) : ∃ r, r ≤ 9218868437227405312 ∧ Ieee.double.write (S.read b) = Ieee.double.word (S.read b).neg r ∧ ((S.read b).isInfinity = false → r < 9218868437227405312) := by
  cases hd : S.read b with
  | nan s t => rw [hd] at h; simp [Ieee.Datum.isNaN] at h
  | infinity s => exact ⟨Ieee.double.infRung, by rw [d_inf]; omega, rfl, fun h => by simp [Ieee.Datum.isInfinity] at h⟩
  | number s m e =>
    obtain ⟨h1, h2, h3⟩ := single_range b hd
    obtain ⟨r, hr, hw⟩ := wide_rung s m e h1 h2 h3
    exact ⟨r, by omega, hw, fun _ => hr⟩

theorem wide_not_nan (b : Nat) (h : (S.read b).isNaN = false) : (Ieee.double.read (Ieee.double.write (S.read b))).isNaN = false := write_not_nan _ _ h

/-- The sign of a number that was made wide. -/
theorem wd_sign (c : Nat) (h : (S.read c).isNaN = false) : decide (9223372036854775808 ≤ wd c) = (S.read c).neg := by
  unfold wd
  rw [if_neg (by simp [h])]
  obtain ⟨r, hr, hw, _⟩ := wide_ok c h
  rw [hw]
  unfold Ieee.Format.word
  rw [d_weight]
  cases (S.read c).neg <;> simp <;> omega

theorem wd_lt (c : Nat) : wd c < 18446744073709551616 := by
  unfold wd
  split
  · decide +kernel
  · exact Ieee.Format.write_lt Ieee.double _

theorem read_word_inf (f : Ieee.Format) (hb : f.binade ≤ f.infRung) (neg : Bool) {r : Nat} (h : r < f.infRung) : (f.read (f.word neg r)).isInfinity = false := by
  have hr := word_mod f neg (Nat.lt_trans h f.infRung_lt)
  unfold Ieee.Format.read
  dsimp only
  rw [hr]
  by_cases h1 : r < f.binade
  · rw [if_pos h1]; rfl
  · rw [if_neg h1, if_pos h]; rfl

theorem nanConv_isNaN (k : FloatKind) (x t : Nat) : (k.format.read (Question.cut (.nanConv k x) t)).isNaN = true := by
  have := nanBits_isNaN k 0 0 t
  cases k <;> exact this
theorem nanConv_lt (k : FloatKind) (x t : Nat) : Question.cut (.nanConv k x) t < 2 ^ k.format.width := by
  have := nanBits_lt k 0 0 t
  cases k <;> exact this

theorem isNaN_single (b : Nat) : (FloatKind.f32.format.read b).isNaN = (S.read b).isNaN := rfl

theorem run_wd {P : Program} (w : World) (src dst : TypeId) (b : Nat) (hs : (P.underlying src).isSome = true) (hd : P.underlying dst = some (.float .f64)) :
    ∃ r n, (convert src dst (.float .f32 b)).run P w = .ok (.float .f64 r) (w.drewN n) ∧ cn .f64 r = wd (cn .f32 b) ∧ r < 18446744073709551616 := by
  obtain ⟨u, hs'⟩ := Option.isSome_iff_exists.1 hs
  cases hn : (S.read b).isNaN with
  | true =>
    obtain ⟨s, t, hr⟩ := isNaN_cases hn
    have hr' : FloatKind.f32.decode b = .nan s t := hr
    refine ⟨Question.cut (.nanConv .f64 b) (w.tape w.drawn (.nanConv .f64 b)), 1, ?_, ?_, nanConv_lt .f64 ..⟩
    · cases u <;> simp [convert, run_underlying hs', run_underlying hd, Conv.floatToFloat, hr', choose, Sem.run, Question.forced, World.drewN]
    · rw [cn_of_nan (nanConv_isNaN ..), cn_of_nan (k := .f32) hn]
      decide +kernel
  | false =>
    have hc : cn .f32 b = b := cn_of_not hn
    refine ⟨Ieee.double.write (S.read b), 0, ?_, ?_, Ieee.Format.write_lt Ieee.double _⟩
    · refine run_convert_float_float (P := P) w src dst .f32 .f64 b _ hs hd ?_
      unfold floatToFloatBits
      rw [if_neg (by decide)]
      show (match S.read b with | .nan _ _ => none | .infinity s => some (FloatKind.f64.encode (.infinity s)) | .number s m e => if (FloatKind.f64.decode (FloatKind.f64.encode (.number s m e))).isInfinity = true then none else some (FloatKind.f64.encode (.number s m e))) = _
      obtain ⟨r, hr, hw, hi⟩ := wide_ok b hn
      cases hd : S.read b with
      | nan s t => rw [hd] at hn; simp [Ieee.Datum.isNaN] at hn
      | infinity s => rfl
      | number s m e =>
        rw [hd] at hw hi
        have h1 : FloatKind.f64.encode (.number s m e) = Ieee.double.word s r := hw
        have h2 : (FloatKind.f64.decode (FloatKind.f64.encode (.number s m e))).isInfinity = false := by
          rw [h1]; exact read_word_inf Ieee.double (by decide +kernel) s (by rw [d_inf]; exact hi rfl)
        dsimp only
        rw [h2]; rfl
    · rw [hc, cn_of_not (k := .f64) (wide_not_nan b hn)]
      unfold wd; rw [if_neg (by simp [hn])]

theorem wpList_wd {P : Program} {ops : Array Oper} {Q : Exit → Act → World → Prop} {a : Act} {w : World} {rest : List Oper} {dst : Option Tmp} {src to type : TypeId} {x : Operand} {pos : String} {after : Array Edge}
    (hs : (P.underlying src).isSome = true) (hd : P.underlying to = some (.float .f64)) (b : Nat) (hx : a.eval x = .float .f32 b)
    (hK : ∀ r n, cn .f64 r = wd (cn .f32 b) → r < 18446744073709551616 → wpList P ops Q rest (a.put dst (.float .f64 r)) (w.drewN n)) :
    wpList P ops Q ({ dst := dst, op := .convert src to x, type := type, pos := pos, after := after, guard := none } :: rest) a w := by
  refine wpList_plain rfl fun K hK' => ?_
  obtain ⟨r, n, hrun, hr, hlt⟩ := run_wd (P := P) w src to b hs hd
  unfold Oper.wp
  simp [execOp, hx, hrun, Result.andThen]
  exact hK' _ _ (hK r n hr hlt)

theorem wpList_wd_g {P : Program} {ops : Array Oper} {Q : Exit → Act → World → Prop} {a : Act} {w : World} {rest : List Oper} {dst : Option Tmp} {src to type : TypeId} {x : Operand} {pos : String} {after : Array Edge} {g : Nat × Bool}
    (hw : Region.wanted { dst := dst, op := .convert src to x, type := type, pos := pos, after := after, guard := some g } (yielded ops a.tmps) = true)
    (hs : (P.underlying src).isSome = true) (hd : P.underlying to = some (.float .f64)) (b : Nat) (hx : a.eval x = .float .f32 b)
    (hK : ∀ r n, cn .f64 r = wd (cn .f32 b) → r < 18446744073709551616 → wpList P ops Q rest (a.put dst (.float .f64 r)) (w.drewN n)) :
    wpList P ops Q ({ dst := dst, op := .convert src to x, type := type, pos := pos, after := after, guard := some g } :: rest) a w := by
  refine BigFrame.wpList_want hw fun K hK' => ?_
  obtain ⟨r, n, hrun, hr, hlt⟩ := run_wd (P := P) w src to b hs hd
  unfold Oper.wp
  simp [execOp, hx, hrun, Result.andThen]
  exact hK' _ _ (hK r n hr hlt)

theorem order_self (k : FloatKind) (x : Nat) (h : (k.format.read x).isNaN = false) : k.format.order x x = some .eq := by
  unfold Ieee.Format.order
  cases hd : k.format.read x with
  | nan s t => rw [hd] at h; simp [Ieee.Datum.isNaN] at h
  | infinity s => simp [Ieee.Datum.order]
  | number s m e => simp [Ieee.Datum.order]
theorem order_nan_l (k : FloatKind) (x y : Nat) (h : (k.format.read x).isNaN = true) : k.format.order x y = none := by
  obtain ⟨s, t, e⟩ := isNaN_cases h
  unfold Ieee.Format.order; rw [e]; rfl
/-- 'x != x'. -/
theorem fc_neq_self (k : FloatKind) (c : Nat) : fc .neq k c c = (k.format.read c).isNaN := by
  unfold fc
  cases h : (k.format.read c).isNaN
  · rw [order_self k c h]; rfl
  · rw [order_nan_l k c c h]; rfl
theorem fc_eql_self (k : FloatKind) (c : Nat) : fc .eql k c c = !(k.format.read c).isNaN := by
  unfold fc
  cases h : (k.format.read c).isNaN
  · rw [order_self k c h]; rfl
  · rw [order_nan_l k c c h]; rfl

/-- The two are the same: what 'SameNumber' tells. -/
def same (c d : Nat) : Bool := c == d

theorem same_of {a b : Nat} (ha : a < 4294967296) (hb : b < 4294967296) (h1 : (S.read a).isNaN = false) (h2 : (S.read b).isNaN = false) :
    (fc .eql .f32 a b && ((S.read a).neg == (S.read b).neg)) = same a b := by
  unfold same
  rw [Bool.eq_iff_iff]
  constructor
  · intro h
    rw [Bool.and_eq_true] at h
    have ho : FloatKind.f32.format.order a b = some .eq := by simpa [fc] using h.1
    have := bits_of_eq ha hb ho (by simpa using h.2)
    simpa using this
  · intro h
    have : a = b := by simpa using h
    subst this
    rw [fc_eql_self]
    have : (FloatKind.f32.format.read a).isNaN = false := h1
    simp [this]

theorem wd_raw {r c : Nat} (h : cn .f64 r = wd c) (hc : (S.read c).isNaN = false) : r = wd c := by
  cases hr : (FloatKind.f64.format.read r).isNaN
  · rw [← h, cn_of_not hr]
  · rw [cn_of_nan hr] at h
    have h1 : (Ieee.double.read (wd c)).isNaN = false := by
      unfold wd; rw [if_neg (by simp [hc])]; exact wide_not_nan c hc
    rw [← h] at h1
    have h2 : (Ieee.double.read (qnan .f64)).isNaN = true := qnan_isNaN .f64
    rw [h2] at h1; cases h1
theorem signs_of {r1 r2 c d : Nat} (h1 : cn .f64 r1 = wd c) (h2 : cn .f64 r2 = wd d) (hc : (S.read c).isNaN = false) (hd : (S.read d).isNaN = false) :
    (decide (9223372036854775808 ≤ r1) == decide (9223372036854775808 ≤ r2)) = ((S.read c).neg == (S.read d).neg) := by
  rw [wd_raw h1 hc, wd_raw h2 hd, wd_sign c hc, wd_sign d hd]
theorem same_nan {c d : Nat} (hc : (S.read c).isNaN = true) (hd : (S.read d).isNaN = false) : same c d = false ∧ same d c = false := by
  have : c ≠ d := by rintro rfl; rw [hc] at hd; cases hd
  exact ⟨by simp [same, this], by simp [same, Ne.symm this]⟩
theorem cn_lt {b : Nat} (h : b < 4294967296) : cn .f32 b < 4294967296 := by
  unfold cn
  split
  · decide
  · exact h

end Go.Proofs.Ytkkomajokdlkeaa
