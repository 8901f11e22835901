/- Bounds of float32 numbers by powers of two: no rounding passes the next one. Plain (for SmoothChart). -/
import Derived.Test.YtkkomajokdlkeaaQ4
import Derived.Test.YtkkomajokdlkeaaQ5
import Derived.Test.YtkkomajokdlkeaaQ6
import Derived.Test.YtkkomajokdlkeaaQ8
import Derived.Test.YtkkomajokdlkeaaQ9
import Derived.Test.YtkkomajokdlkeaaQ10
namespace Go.Proofs.Ytkkomajokdlkeaa
set_option linter.unusedSimpArgs false
set_option linter.unusedVariables false
set_option maxRecDepth 100000
set_option maxHeartbeats 4000000
open Go.RowKit
/-- At most 2^e in size. -/
def Bd (c e : Nat) : Prop := c < 4294967296 ∧ c % 2147483648 ≤ (e + 127) * 8388608
theorem Bd.mono {c e e' : Nat} (h : Bd c e) (he : e ≤ e') : Bd c e' := ⟨h.1, Nat.le_trans h.2 (Nat.mul_le_mul_right _ (by omega))⟩
theorem cut_le_bd (neg : Bool) (n d : Nat) : Ieee.Toward.even.cut neg n d ≤ n / 2 ^ d + 1 := by
  unfold Ieee.Toward.cut
  simp only [Nat.one_shiftLeft]
  have h : ∀ b : Bool, b.toNat ≤ 1 := by decide
  refine Nat.add_le_add ?_ (h _)
  by_cases hd : d ≤ n.log2 + 2
  · rw [Nat.min_eq_left hd]; exact Nat.le_refl _
  · rw [Nat.min_eq_right (by omega)]
    have hn : n < 2 ^ (n.log2 + 2) := by
      by_cases h0 : n = 0
      · subst h0; decide
      · exact Nat.lt_trans ((Nat.log2_eq_iff h0).1 rfl).2 (Nat.pow_lt_pow_right (by decide) (by omega))
    rw [Nat.div_eq_of_lt hn]
    exact Nat.zero_le _
theorem word_bd {neg : Bool} {r e : Nat} (hr : r ≤ (e + 127) * 8388608) (he : e ≤ 120) : Bd (S.word neg r) e := by
  unfold Ieee.Format.word
  rw [show S.signWeight = 2147483648 from by decide]
  refine ⟨by split <;> omega, ?_⟩
  split
  · rw [Nat.add_mod_left]; exact Nat.le_trans (Nat.mod_le _ _) hr
  · exact Nat.le_trans (Nat.mod_le _ _) hr
theorem near_bd (neg : Bool) (mag : Nat) (place : Int) (e : Nat) (he : e ≤ 119) (k : Nat) (hk : (e : Int) - place = (k : Int)) (h : mag ≤ 2 ^ k) : Bd (S.nearest neg mag place) (e + 1) := by
  by_cases h0 : mag = 0
  · subst h0
    rw [show S.nearest neg 0 place = S.word neg 0 by unfold Ieee.Format.nearest; rw [if_pos rfl]]
    exact word_bd (by omega) (by omega)
  · unfold Ieee.Format.nearest
    rw [if_neg h0]
    have hL := (Nat.log2_eq_iff h0).1 rfl
    obtain ⟨L, hLL⟩ : ∃ L, L = mag.log2 := ⟨_, rfl⟩
    rw [← hLL] at hL ⊢
    rw [show S.leastPlace = -149 from by decide, show S.binade = 8388608 from by decide, show (S.fractionBits : Int) = 23 from rfl]
    have hLk : L ≤ k := by
      have h1 : 2 ^ L ≤ 2 ^ k := Nat.le_trans hL.1 h
      exact (Nat.pow_le_pow_iff_right (by decide)).1 h1
    obtain ⟨last, hlast⟩ : ∃ last, last = max (place + (L : Int) - 23) (-149) := ⟨_, rfl⟩
    rw [← hlast]
    dsimp only
    have hkept : Ieee.Toward.even.cut neg (mag <<< (place - last).toNat) (last - place).toNat ≤ 16777216 := by
      have hc := cut_le_bd neg (mag <<< (place - last).toNat) (last - place).toNat
      have hq : (mag <<< (place - last).toNat) / 2 ^ (last - place).toNat < 2 ^ 24 := by
        refine Nat.div_lt_of_lt_mul ?_
        rw [Nat.shiftLeft_eq, ← Nat.pow_add]
        refine Nat.lt_of_lt_of_le (Nat.mul_lt_mul_of_pos_right hL.2 (Nat.pow_pos (by decide))) ?_
        rw [← Nat.pow_add]
        exact Nat.pow_le_pow_right (by decide) (by omega)
      have h24 : (2 : Nat) ^ 24 = 16777216 := by decide
      rw [h24] at hq
      generalize (mag <<< (place - last).toNat) / 2 ^ (last - place).toNat = q at *
      omega
    generalize Ieee.Toward.even.cut neg (mag <<< (place - last).toNat) (last - place).toNat = kept at *
    obtain ⟨q, hq⟩ : ∃ q, q = (last - -149).toNat := ⟨_, rfl⟩
    have h2 : q ≤ e + 126 := by omega
    rw [← hq]
    obtain ⟨R, hR⟩ : ∃ R, R = q * 8388608 + kept := ⟨_, rfl⟩
    have h3 : R ≤ (e + 1 + 127) * 8388608 := by omega
    rw [← hR]
    exact word_bd (Nat.le_trans (Nat.min_le_left R _) h3) (by omega)
/-- What is read of such a number. -/
theorem Bd.read {c e : Nat} (h : Bd c e) (he : e ≤ 120) : ∃ (s : Bool) (m j : Nat), S.read c = .number s m (-149 + (j : Int)) ∧ m * 2 ^ j ≤ 2 ^ (e + 149) ∧ j ≤ 300 := by
  obtain ⟨h1, h2⟩ := h
  rw [read_single]
  generalize c % 2147483648 = r at *
  have h3 : r < 2139095040 := by omega
  by_cases h4 : r < 8388608
  · rw [if_pos h4]
    refine ⟨_, r, 0, rfl, ?_, by omega⟩
    rw [Nat.pow_zero, Nat.mul_one, show e + 149 = 23 + (e + 126) by omega, Nat.pow_add]
    have : 0 < 2 ^ (e + 126) := Nat.pow_pos (by decide)
    have h5 : (2 : Nat) ^ 23 = 8388608 := by decide
    rw [h5]
    exact Nat.le_trans (Nat.le_of_lt h4) (Nat.le_mul_of_pos_right _ this)
  · rw [if_neg h4, if_pos h3]
    refine ⟨_, 8388608 + r % 8388608, r / 8388608 - 1, rfl, ?_, by omega⟩
    have hd : r / 8388608 ≤ e + 127 := by omega
    by_cases h5 : r / 8388608 = e + 127
    · have h6 : r % 8388608 = 0 := by omega
      rw [h6, h5, show e + 127 - 1 = e + 126 by omega, show e + 149 = 23 + (e + 126) by omega, Nat.pow_add 2 23]
      exact Nat.le_refl _
    · have h6 : r / 8388608 - 1 ≤ e + 125 := by omega
      have h7 : 8388608 + r % 8388608 ≤ 2 ^ 24 := by have : (2 : Nat) ^ 24 = 16777216 := by decide
                                                     omega
      rw [show e + 149 = 24 + (e + 125) by omega, Nat.pow_add]
      exact Nat.mul_le_mul h7 (Nat.pow_le_pow_right (by decide) h6)
theorem signed_abs (s : Bool) (m u : Nat) : (Ieee.signed s m u).natAbs = m * 2 ^ u := by
  unfold Ieee.signed
  rw [Nat.shiftLeft_eq]
  cases s
  · show (((m * 2 ^ u : Nat)) : Int).natAbs = _
    exact Int.natAbs_natCast _
  · show (-(((m * 2 ^ u : Nat)) : Int)).natAbs = _
    rw [Int.natAbs_neg]
    exact Int.natAbs_natCast _
theorem sum_bd {s t : Bool} {m n i j e : Nat} (h1 : m * 2 ^ i ≤ 2 ^ (e + 149)) (h2 : n * 2 ^ j ≤ 2 ^ (e + 149)) (he : e ≤ 117) (hi : i ≤ 300) (hj : j ≤ 300) :
    ∃ r : Nat, (Option.map S.write ((Ieee.Datum.number s m (-149 + (i : Int))).sum (.number t n (-149 + (j : Int))))) = some r ∧ Bd r (e + 2) := by
  obtain ⟨K, hK⟩ : ∃ K, K = min i j := ⟨_, rfl⟩
  have hbase : min (-149 + (i : Int)) (-149 + (j : Int)) = -149 + (K : Int) := by omega
  unfold Ieee.Datum.sum
  simp only [hbase]
  rw [show (-149 + (i : Int) - (-149 + (K : Int))).toNat = i - K by omega, show (-149 + (j : Int) - (-149 + (K : Int))).toNat = j - K by omega]
  refine ⟨_, rfl, ?_⟩
  have ha := signed_abs s m (i - K)
  have hb := signed_abs t n (j - K)
  have hp : 0 < 2 ^ K := Nat.pow_pos (by decide)
  have e1 : m * 2 ^ (i - K) * 2 ^ K = m * 2 ^ i := by rw [Nat.mul_assoc, ← Nat.pow_add, show i - K + K = i by omega]
  have e2 : n * 2 ^ (j - K) * 2 ^ K = n * 2 ^ j := by rw [Nat.mul_assoc, ← Nat.pow_add, show j - K + K = j by omega]
  generalize Ieee.signed s m (i - K) = A at *
  generalize Ieee.signed t n (j - K) = B at *
  have hab : (A + B).natAbs ≤ m * 2 ^ (i - K) + n * 2 ^ (j - K) := by omega
  have htot : (A + B).natAbs * 2 ^ K ≤ 2 ^ (e + 150) := by
    refine Nat.le_trans (Nat.mul_le_mul_right _ hab) ?_
    rw [Nat.add_mul, e1, e2, show e + 150 = e + 149 + 1 by omega, Nat.pow_succ]
    omega
  by_cases hKe : K ≤ e + 150
  · refine near_bd _ _ _ (e + 1) (by omega) (e + 150 - K) (by omega) ?_
    have h5 : 2 ^ (e + 150) = 2 ^ (e + 150 - K) * 2 ^ K := by rw [← Nat.pow_add, show e + 150 - K + K = e + 150 by omega]
    rw [h5] at htot
    exact Nat.le_of_mul_le_mul_right htot hp
  · have h5 : (A + B).natAbs = 0 := by
      rcases Nat.eq_zero_or_pos (A + B).natAbs with h | h
      · exact h
      · have h6 : 2 ^ K ≤ (A + B).natAbs * 2 ^ K := Nat.le_mul_of_pos_left _ h
        have h7 : 2 ^ (e + 150) < 2 ^ K := Nat.pow_lt_pow_right (by decide) (by omega)
        omega
    show Bd (S.nearest _ (A + B).natAbs _) _
    rw [h5, show ∀ g p, S.nearest g 0 p = S.word g 0 from fun g p => by unfold Ieee.Format.nearest; rw [if_pos rfl]]
    exact word_bd (by omega) (by omega)
theorem Bd.add {a b e : Nat} (ha : Bd a e) (hb : Bd b e) (he : e ≤ 117) : Bd (addF a b) (e + 2) := by
  obtain ⟨s, m, i, h1, h2, h3⟩ := ha.read (by omega)
  obtain ⟨t, n, j, h4, h5, h6⟩ := hb.read (by omega)
  obtain ⟨r, h7, h8⟩ := sum_bd (s := s) (t := t) h2 h5 he h3 h6
  have e1 : addF a b = r := by
    show ((S.add a b).getD _) = _
    rw [Ieee.Format.add, h1, h4, h7]; rfl
  rw [e1]; exact h8
theorem Bd.sub {a b e : Nat} (ha : Bd a e) (hb : Bd b e) (he : e ≤ 117) : Bd (subF a b) (e + 2) := by
  obtain ⟨s, m, i, h1, h2, h3⟩ := ha.read (by omega)
  obtain ⟨t, n, j, h4, h5, h6⟩ := hb.read (by omega)
  obtain ⟨r, h7, h8⟩ := sum_bd (s := s) (t := !t) h2 h5 he h3 h6
  have e1 : subF a b = r := by
    show ((S.sub a b).getD _) = _
    rw [Ieee.Format.sub, h1, h4]
    show (Option.map S.write ((Ieee.Datum.number s m _).sum (Ieee.Datum.number (!t) n _))).getD _ = _
    rw [h7]; rfl
  rw [e1]; exact h8
/-- A quarter. -/
theorem Bd.quarter {c e : Nat} (hc : Bd c e) (he : e ≤ 117) : Bd (mulF 1048576000 c) (e + 1) := by
  obtain ⟨s, m, i, h1, h2, h3⟩ := hc.read (by omega)
  have e1 : mulF 1048576000 c = S.nearest (false ^^ s) (8388608 * m) (-25 + (-149 + (i : Int))) := by
    show ((S.mul 1048576000 c).getD _) = _
    rw [Ieee.Format.mul, h1, show S.read 1048576000 = .number false 8388608 (-25) from by decide]
    rfl
  rw [e1]
  by_cases hi : i ≤ e + 174
  · refine near_bd _ _ _ e (by omega) (e + 174 - i) (by omega) ?_
    have hp : 0 < 2 ^ i := Nat.pow_pos (by decide)
    have h5 : 2 ^ (e + 174) = 2 ^ (e + 174 - i) * 2 ^ i := by rw [← Nat.pow_add, show e + 174 - i + i = e + 174 by omega]
    have h6 : 8388608 * m * 2 ^ i ≤ 2 ^ (e + 174) := by
      rw [Nat.mul_assoc, show e + 174 = 25 + (e + 149) by omega, Nat.pow_add]
      exact Nat.mul_le_mul (by decide) h2
    rw [h5] at h6
    exact Nat.le_of_mul_le_mul_right h6 hp
  · have h5 : m = 0 := by
      rcases Nat.eq_zero_or_pos m with h | h
      · exact h
      · have h6 : 2 ^ i ≤ m * 2 ^ i := Nat.le_mul_of_pos_left _ h
        have h7 : 2 ^ (e + 149) < 2 ^ i := Nat.pow_lt_pow_right (by decide) (by omega)
        omega
    rw [h5, Nat.mul_zero, show ∀ g p, S.nearest g 0 p = S.word g 0 from fun g p => by unfold Ieee.Format.nearest; rw [if_pos rfl]]
    exact word_bd (by omega) (by omega)
theorem Bd.fin {c e : Nat} (hc : Bd c e) (he : e ≤ 110) : fin c = true := by
  have hs := hc.sub hc (by omega)
  obtain ⟨s, m, i, h1, -, -⟩ := hc.read (by omega)
  have ho : S.order (subF c c) 0 = some .eq := by
    have e1 : subF c c = S.word (if (0 : Int) = 0 then s && !s else decide ((0 : Int) < 0)) 0 := by
      show ((S.sub c c).getD _) = _
      rw [Ieee.Format.sub, h1]
      show (Option.map S.write ((Ieee.Datum.number s m _).sum (Ieee.Datum.number (!s) m _))).getD _ = _
      unfold Ieee.Datum.sum
      have hz : Ieee.signed s m (-149 + (i : Int) - min (-149 + (i : Int)) (-149 + (i : Int))).toNat + Ieee.signed (!s) m (-149 + (i : Int) - min (-149 + (i : Int)) (-149 + (i : Int))).toNat = 0 := by
        unfold Ieee.signed
        cases s <;> simp <;> omega
      simp only [hz]
      show S.nearest _ (Int.natAbs 0) (min (-149 + (i : Int)) (-149 + (i : Int))) = _
      rw [Int.natAbs_zero, show ∀ g p, S.nearest g 0 p = S.word g 0 from fun g p => by unfold Ieee.Format.nearest; rw [if_pos rfl]]
    rw [e1]
    cases s <;> decide
  show (S.order (subF c c) 0 == some .eq) = true
  rw [ho]; rfl
/-- One step of the chart. -/
theorem Bd.step {s x e : Nat} (hs : Bd s e) (hx : Bd x e) (he : e ≤ 100) : Bd (addF s (mulF 1048576000 (subF x s))) (e + 5) := by
  have h1 := hx.sub hs (by omega)
  have h2 := h1.quarter (by omega)
  exact (hs.mono (show e ≤ e + 2 + 1 by omega)).add h2 (by omega)

end Go.Proofs.Ytkkomajokdlkeaa

namespace Go.Proofs.Ytkkomajokdlkeaa
set_option linter.unusedSimpArgs false
set_option linter.unusedVariables false
set_option maxRecDepth 100000
set_option maxHeartbeats 4000000
open Go.RowKit
attribute [local go_sem] run_store_float run_store_complex alloc_drewN setCell_drewN
/-- The size of a number. -/
def absV (c : Nat) : Nat := if fc .lss .f32 c 0 then Op.negFloat .f32 c else c
/-- The smoothed series; where it is far; the places that are. -/
def scS (m : Nat) (cs : List Nat) : Nat → Nat
  | 0 => m
  | i + 1 => addF (scS m cs i) (mulF 1048576000 (subF (cs.getD i 0) (scS m cs i)))
def scFar (m k : Nat) (cs : List Nat) (i : Nat) : Bool := fc .gtr .f32 (absV (subF (scS m cs (i + 1)) m)) k
def scL (m k : Nat) (cs : List Nat) : Nat → List Int
  | 0 => []
  | i + 1 => if scFar m k cs i then scL m k cs i ++ [(i : Int)] else scL m k cs i
theorem scL_length (m k : Nat) (cs : List Nat) : ∀ n, (scL m k cs n).length ≤ n
  | 0 => Nat.le_refl _
  | n + 1 => by
    have := scL_length m k cs n
    rw [scL]
    split
    · rw [List.length_append, List.length_singleton]; omega
    · omega
theorem run_ng {P : Program} (x : Nat) (w : World) : (Op.unary .neg (.float .f32 x)).run P w = .ok (.float .f32 (Op.negFloat .f32 x)) w := rfl
/-- The opposite. -/
theorem neg_val {x : Nat} (h : x < 4294967296) : Op.negFloat .f32 x = if x < 2147483648 then x + 2147483648 else x - 2147483648 := by
  show x ^^^ 2 ^ 31 = _
  have e : (2 : Nat) ^ 31 = 2147483648 := by decide
  by_cases hx : x < 2147483648
  · rw [if_pos hx]
    have h1 := Nat.two_pow_add_eq_or_of_lt (i := 31) (b := x) (by omega) 1
    rw [Nat.mul_one] at h1
    have h2 : x ^^^ 2 ^ 31 = 2 ^ 31 ||| x := by
      apply Nat.eq_of_testBit_eq
      intro i
      rw [Nat.testBit_xor, Nat.testBit_or, Nat.testBit_two_pow]
      by_cases hi : 31 = i
      · subst hi
        rw [Nat.testBit_lt_two_pow (by omega)]; simp
      · simp [hi]
    rw [h2, ← h1]; omega
  · rw [if_neg hx]
    obtain ⟨r, hr⟩ : ∃ r, r = x - 2147483648 := ⟨_, rfl⟩
    have hxr : x = 2 ^ 31 + r := by omega
    have h1 := Nat.two_pow_add_eq_or_of_lt (i := 31) (b := r) (by omega) 1
    rw [Nat.mul_one] at h1
    rw [hxr, h1, show ((2 : Nat) ^ 31 ||| r) ^^^ 2 ^ 31 = r from ?_]
    · rw [← h1, e]; exact (Nat.add_sub_cancel_left (n := 2147483648) (m := r)).symm
    · apply Nat.eq_of_testBit_eq
      intro i
      rw [Nat.testBit_xor, Nat.testBit_or, Nat.testBit_two_pow]
      by_cases hi : 31 = i
      · subst hi
        rw [Nat.testBit_lt_two_pow (show r < 2 ^ 31 by omega)]; simp
      · simp [hi]
theorem neg_notNaN {x : Nat} (h : x < 4294967296) (hn : (S.read x).isNaN = false) : (S.read (Op.negFloat .f32 x)).isNaN = false := by
  rw [neg_val h, read_single]
  rw [read_single] at hn
  have e : (if x < 2147483648 then x + 2147483648 else x - 2147483648) % 2147483648 = x % 2147483648 := by split <;> omega
  rw [e]
  revert hn
  split
  · intro _; rfl
  · split
    · intro _; rfl
    · split
      · intro _; rfl
      · intro hn; exact hn
/-- An operation whose result is known and finite. -/
theorem wpList_arx {P : Program} {ops : Array Oper} {Q : Exit → Act → World → Prop} {a : Act} {w : World} {rest : List Oper} {dst : Option Tmp} {op : BinOp} {t ty type : TypeId} {x y : Operand} {pos : String} {after : Array Edge}
    (bx bY d : Nat) (hop : isAr op = true) (hx : a.eval x = .float .f32 bx) (hy : a.eval y = .float .f32 bY) (cx : cn .f32 bx = bx) (cy : cn .f32 bY = bY) (hd : ar op .f32 bx bY = d) (hf : fin d = true)
    (hK : ∀ n, wpList P ops Q rest (a.put dst (.float .f32 d)) (w.drewN n)) :
    wpList P ops Q ({ dst := dst, op := .binOp op t x y ty, type := type, pos := pos, after := after, guard := none } :: rest) a w := by
  refine wpList_ar .f32 bx bY hop hx hy fun r n hr _ => ?_
  rw [cx, cy, hd] at hr
  rw [(raw_of hr hf).1]
  exact hK n
theorem fin_cn {c : Nat} (h : fin c = true) : cn .f32 c = c := cn_of_not (fin_notNaN h)
/-- All that the chart reckons is finite. -/
def scOk (m : Nat) (cs : List Nat) : Prop := ∀ i, i < cs.length → fin (cs.getD i 0) = true ∧ fin (subF (cs.getD i 0) (scS m cs i)) = true ∧ fin (mulF 1048576000 (subF (cs.getD i 0) (scS m cs i))) = true ∧ fin (scS m cs (i + 1)) = true ∧ fin (subF (scS m cs (i + 1)) m) = true ∧ scS m cs (i + 1) < 4294967296 ∧ subF (scS m cs (i + 1)) m < 4294967296
theorem scS_fin {m : Nat} {cs : List Nat} (hm : fin m = true) (h : scOk m cs) : ∀ j, j ≤ cs.length → fin (scS m cs j) = true
  | 0, _ => hm
  | j + 1, hj => (h j (by omega)).2.2.2.1
theorem fin_read {c : Nat} (hc : c < 4294967296) (h : fin c = true) : ∃ (s : Bool) (m : Nat) (p : Int), S.read c = .number s m p := by
  have h1 := fin_notNaN h
  cases hr : S.read c with
  | nan => rw [hr] at h1; cases h1
  | number s m p => exact ⟨s, m, p, rfl⟩
  | infinity s =>
    have h2 : fc .eql .f32 (ar .sub .f32 c c) 0 = true := h
    have h3 : ar .sub .f32 c c = qnan .f32 := by
      show ((S.sub c c).getD _) = _
      rw [Ieee.Format.sub, hr]
      show (Option.map S.write ((Ieee.Datum.infinity s).sum (Ieee.Datum.infinity (!s)))).getD _ = _
      cases s <;> rfl
    rw [h3] at h2
    exact absurd h2 (by decide +kernel)
theorem read_neg {c : Nat} {s : Bool} {m : Nat} {p : Int} (hc : c < 4294967296) (h : S.read c = .number s m p) : S.read (Op.negFloat .f32 c) = .number (!s) m p := by
  rw [neg_val hc, read_single]
  rw [read_single] at h
  have e : (if c < 2147483648 then c + 2147483648 else c - 2147483648) % 2147483648 = c % 2147483648 := by split <;> omega
  have e2 : ((if c < 2147483648 then c + 2147483648 else c - 2147483648) / 2147483648 % 2 == 1) = !(c / 2147483648 % 2 == 1) := by
    by_cases hx : c < 2147483648
    · rw [if_pos hx, show c / 2147483648 = 0 by omega, show (c + 2147483648) / 2147483648 = 1 by omega]; rfl
    · rw [if_neg hx, show c / 2147483648 = 1 by omega, show (c - 2147483648) / 2147483648 = 0 by omega]; rfl
  rw [e, e2]
  generalize (c / 2147483648 % 2 == 1) = b at *
  generalize c % 2147483648 = r at *
  split at h
  · rename_i h1; rw [if_pos h1]; injection h with h2 h3 h4; rw [← h2, ← h3, ← h4]
  · rename_i h1
    rw [if_neg h1]
    split at h
    · rename_i h1; rw [if_pos h1]; injection h with h2 h3 h4; rw [← h2, ← h3, ← h4]
    · split at h <;> cases h
theorem abs_gtr {d k : Nat} (hd : fin d = true) (hlt : d < 4294967296) : fc .gtr .f32 (mx d (Op.negFloat .f32 d)) k = fc .gtr .f32 (absV d) k := by
  obtain ⟨s, m, p, hr⟩ := fin_read hlt hd
  have hn := read_neg hlt hr
  have ho : S.order d (Op.negFloat .f32 d) = some (compare (Ieee.signed s m 0) (Ieee.signed (!s) m 0)) := by
    show (S.read d).order (S.read _) = _
    rw [hr, hn]
    unfold Ieee.Datum.order
    simp
  have hz : S.order d 0 = some (compare (Ieee.signed s m (p - min p (-149)).toNat) 0) := by
    show (S.read d).order (S.read 0) = _
    rw [hr, show S.read 0 = .number false 0 (-149) from by decide]
    unfold Ieee.Datum.order Ieee.signed
    simp
  have hl : fc .lss .f32 d 0 = (S.order d 0 == some .lt) := rfl
  by_cases hm : m = 0
  · subst hm
    have h1 : S.order d 0 = some .eq := by rw [hz]; unfold Ieee.signed; cases s <;> simp [cmpI]
    have h2 : S.order d (Op.negFloat .f32 d) = some .eq := by rw [ho]; unfold Ieee.signed; cases s <;> simp [cmpI]
    unfold absV mx
    rw [h2, hl, h1, hr]
    show fc .gtr .f32 (if s then Op.negFloat .f32 d else d) k = fc .gtr .f32 d k
    cases s
    · rfl
    · show (S.order (Op.negFloat .f32 d) k == some .gt) = (S.order d k == some .gt)
      have h3 : S.order (Op.negFloat .f32 d) k = S.order d k := by
        show (S.read _).order (S.read k) = (S.read d).order (S.read k)
        rw [hr, hn]
        cases S.read k with
        | nan => rfl
        | infinity => rfl
        | number t n q => unfold Ieee.Datum.order Ieee.signed; simp
      rw [h3]
  · have hp : ∀ u, 0 < m * 2 ^ u := fun u => Nat.mul_pos (by omega) (Nat.pow_pos (by decide))
    unfold absV mx
    rw [ho, hl, hz]
    unfold Ieee.signed
    cases s
    · simp only [Nat.shiftLeft_eq, Bool.false_eq_true, if_false, Bool.not_false, if_true]
      have h1 := hp 0
      have h2 := hp (p - min p (-149)).toNat
      generalize m * 2 ^ 0 = A at *
      generalize m * 2 ^ (p - min p (-149)).toNat = B at *
      have c1 : compare ((A : Nat) : Int) (-((A : Nat) : Int)) = .gt := by rw [cmpI, if_neg (by omega), if_neg (by omega)]
      have c2 : compare ((B : Nat) : Int) 0 = .gt := by rw [cmpI, if_neg (by omega), if_neg (by omega)]
      rw [c1, c2]
      rfl
    · simp only [Nat.shiftLeft_eq, if_true, Bool.not_true, Bool.false_eq_true, if_false]
      have h1 := hp 0
      have h2 := hp (p - min p (-149)).toNat
      generalize m * 2 ^ 0 = A at *
      generalize m * 2 ^ (p - min p (-149)).toNat = B at *
      have c1 : compare (-((A : Nat) : Int)) ((A : Nat) : Int) = .lt := by rw [cmpI, if_pos (by omega)]
      have c2 : compare (-((B : Nat) : Int)) 0 = .lt := by rw [cmpI, if_pos (by omega)]
      rw [c1, c2]
      rfl
theorem abs_fin {d : Nat} (hd : fin d = true) (hlt : d < 4294967296) : (S.read (mx d (Op.negFloat .f32 d))).isNaN = false ∧ (S.read (absV d)).isNaN = false := by
  obtain ⟨s, m, p, hr⟩ := fin_read hlt hd
  have hn := read_neg hlt hr
  have h1 : (S.read d).isNaN = false := by rw [hr]; rfl
  have h2 : (S.read (Op.negFloat .f32 d)).isNaN = false := by rw [hn]; rfl
  constructor
  · unfold mx
    split
    · decide
    · exact h2
    · exact h1
    · split
      · exact h2
      · exact h1
  · unfold absV
    split
    · exact h2
    · exact h1

theorem i_absolute (x : Nat) (hx : fin x = true) (hlt : x < 4294967296) (w : World) :
    Calls Try.prog 101 #[.float .f32 x] w fun e w' => e = .returned (.float .f32 (mx x (Op.negFloat .f32 x))) ∧ Dr w w' := by
  have ho := fin_notNaN hx
  have ho3 := neg_notNaN hlt ho
  have RN := fun w => run_ng (P := Try.prog) x w
  have RM := fun ts t w => run_mx (P := Try.prog) ts t x (Op.negFloat .f32 x) ho ho3 w
  go_enter Try.func101, Try.ntmps101
  go_wp2_with fail
  go_ret
  exact ⟨rfl, Dr.refl _⟩

theorem i_isShareQ (w : World) : Calls Try.prog 104 #[.float .f32 1048576000] w fun e w' => e = .returned (.bool true) ∧ Dr w w' := by
  have o1 : FloatKind.f32.format.order 1048576000 0 = some .gt := by decide
  have o2 : FloatKind.f32.format.order 1048576000 1065353216 = some .lt := by decide
  go_enter Try.func104, Try.ntmps104
  go_wp2_with fail
  go_ret
  exact ⟨rfl, Dr.refl _⟩

end Go.Proofs.Ytkkomajokdlkeaa
