/- What FnDrift draws: small eighths, bounded; its charts are finite. Plain. -/
import Derived.Test.YtkkomajokdlkeaaQ9
import Derived.Test.YtkkomajokdlkeaaQ11
import Derived.Test.YtkkomajokdlkeaaQ16
namespace Go.Proofs.Ytkkomajokdlkeaa
set_option linter.unusedSimpArgs false
set_option linter.unusedVariables false
set_option maxRecDepth 100000
set_option maxHeartbeats 4000000
open Go.RowKit
def bdB (c e : Nat) : Bool := decide (c < 4294967296) && decide (c % 2147483648 ≤ (e + 127) * 8388608)
theorem bd_of {c e : Nat} (h : bdB c e = true) : Bd c e := by
  unfold bdB at h
  simp only [Bool.and_eq_true, decide_eq_true_eq] at h
  exact h
/-- The numbers that are drawn: a quarter of a number from -16 to 16. -/
theorem q4_all : ∀ i : Fin 33, (evB (q4 ((i.val : Int) - 16)) (2 * ((i.val : Int) - 16)) && bdB (q4 ((i.val : Int) - 16)) 2) = true := by decide +kernel
theorem q4_ev {x : Int} (h1 : -16 ≤ x) (h2 : x ≤ 16) : Ev (q4 x) (2 * x) ∧ Bd (q4 x) 2 := by
  have h := q4_all ⟨(x + 16).toNat, by omega⟩
  have e : (((x + 16).toNat : Nat) : Int) - 16 = x := by omega
  simp only [e, Bool.and_eq_true] at h
  exact ⟨ev_of h.1, bd_of h.2⟩
theorem scS_bd {m : Nat} {cs : List Nat} (hm : Bd m 2) (hc : ∀ i, i < cs.length → Bd (cs.getD i 0) 2) : ∀ j, j ≤ cs.length → j ≤ 19 → Bd (scS m cs j) (2 + 5 * j)
  | 0, _, _ => hm
  | j + 1, h, h1 => by
    have ih := scS_bd hm hc j (by omega) (by omega)
    exact ih.step ((hc j (by omega)).mono (by omega)) (by omega)
theorem scOk_of {m : Nat} {cs : List Nat} (hm : Bd m 2) (hc : ∀ i, i < cs.length → Bd (cs.getD i 0) 2) (hl : cs.length ≤ 19) : scOk m cs := by
  intro i hi
  have h0 := scS_bd hm hc i (by omega) (by omega)
  have h1 := scS_bd hm hc (i + 1) (by omega) (by omega)
  have hx := hc i hi
  have h2 := (hx.mono (show 2 ≤ 2 + 5 * i by omega)).sub h0 (by omega)
  have h3 := h2.quarter (by omega)
  have h4 := h1.sub (hm.mono (show 2 ≤ 2 + 5 * (i + 1) by omega)) (by omega)
  exact ⟨hx.fin (by omega), h2.fin (by omega), h3.fin (by omega), h1.fin (by omega), h4.fin (by omega), h1.1, h4.1⟩
/-- A chart of what stays at the mean: nothing is told. -/
theorem sc_steady {m : Nat} {M : Int} (hm : Ev m M) {cs : List Nat} (hc : ∀ i, i < cs.length → cs.getD i 0 = m) (hM : M.natAbs ≤ 1000) : ∀ j, j ≤ cs.length → Ev (scS m cs j) M
  | 0, _ => hm
  | j + 1, h => by
    have ih := sc_steady hm hc hM j (by omega)
    have h1 := hm.sub ih (by rw [Int.sub_self]; decide)
    rw [Int.sub_self] at h1
    have h2 : Ev (mulF 1048576000 (subF m (scS m cs j))) 0 := ev_quarter0 h1
    rw [scS, hc j (by omega)]
    have h3 := ih.add h2 (by omega)
    rw [Int.add_zero] at h3
    exact h3
where
  ev_quarter0 {d : Nat} (h : Ev d 0) : Ev (mulF 1048576000 d) 0 := by
    rcases Ev.same.ev_zeros h with rfl | rfl
    · exact ev_of (by decide +kernel)
    · exact ev_of (by decide +kernel)
theorem sc_steady_none {m k : Nat} {M : Int} (hm : Ev m M) {cs : List Nat} (hc : ∀ i, i < cs.length → cs.getD i 0 = m) (hM : M.natAbs ≤ 1000) (hk : k = 0) : ∀ n, n ≤ cs.length → scL m k cs n = []
  | 0, _ => rfl
  | n + 1, h => by
    have ih := sc_steady_none hm hc hM hk n (by omega)
    have h1 := (sc_steady hm hc hM (n + 1) h).sub hm (by rw [Int.sub_self]; decide)
    rw [Int.sub_self] at h1
    have h2 : scFar m k cs n = false := by
      unfold scFar
      rw [hk]
      rcases Ev.same.ev_zeros h1 with e | e <;> rw [e] <;> decide +kernel
    rw [scL, ih, h2]
    rfl

end Go.Proofs.Ytkkomajokdlkeaa

namespace Go.Proofs.Ytkkomajokdlkeaa
set_option linter.unusedSimpArgs false
set_option linter.unusedVariables false
set_option maxRecDepth 100000
set_option maxHeartbeats 4000000
open Go.RowKit
/-- Eighths, halves, and quarters of halves, as the law reckons them. -/
def e8v (n : Int) : Nat := divF (cn .f32 (floatOfInt .f32 n)) (cn .f32 1090519040)
def h2v (n : Int) : Nat := divF (cn .f32 (floatOfInt .f32 n)) (cn .f32 1073741824)
def wdv (n : Int) : Nat := divF (h2v n) (cn .f32 1082130432)
theorem e8v_all : ∀ i : Fin 9, (evB (e8v (i.val : Int)) (i.val : Int) && least (e8v (i.val : Int))) = true := by decide +kernel
theorem h2v_all : ∀ i : Fin 17, (evB (h2v (i.val : Int)) (4 * (i.val : Int)) && least (h2v (i.val : Int))) = true := by decide +kernel
theorem wdv_all : ∀ i : Fin 17, (evB (wdv (i.val : Int)) (i.val : Int) && least (wdv (i.val : Int))) = true := by decide +kernel
theorem e8v_ev {n : Nat} (h : n < 9) : Ev (e8v n) n ∧ least (e8v n) = true := by
  have := e8v_all ⟨n, h⟩
  simp only [Bool.and_eq_true] at this
  exact ⟨ev_of this.1, this.2⟩
theorem h2v_ev {n : Nat} (h : n < 17) : Ev (h2v n) (4 * n) ∧ least (h2v n) = true := by
  have := h2v_all ⟨n, h⟩
  simp only [Bool.and_eq_true] at this
  exact ⟨ev_of this.1, this.2⟩
theorem wdv_ev {n : Nat} (h : n < 17) : Ev (wdv n) n ∧ least (wdv n) = true := by
  have := wdv_all ⟨n, h⟩
  simp only [Bool.and_eq_true] at this
  exact ⟨ev_of this.1, this.2⟩
/-- The opposite. -/
theorem Ev.neg {c : Nat} {x : Int} (h : Ev c x) : Ev (Op.negFloat .f32 c) (-x) := by
  obtain ⟨h1, s, k, h2, h3⟩ := h
  refine ⟨by rw [neg_val h1]; split <;> omega, !s, k, ?_, fun h0 => ?_⟩
  · rw [read_neg h1 h2, Int.natAbs_neg]
  · rw [h3 (by omega)]
    by_cases hx : x < 0
    · rw [decide_eq_true hx, decide_eq_false (by omega)]; rfl
    · rw [decide_eq_false hx, decide_eq_true (by omega)]; rfl
/-- A list of quarters by integers. -/
theorem isQ_list {L : List Nat} (h : ∀ c ∈ L, isQ c) : ∃ X : Nat → Int, (∀ i, (X i).natAbs ≤ 32) ∧ ∀ i, i < L.length → Ev (L.getD i 0) (X i) ∧ Bd (L.getD i 0) 2 := by
  have h1 : ∀ i : Nat, ∃ x : Int, x.natAbs ≤ 32 ∧ (i < L.length → Ev (L.getD i 0) x ∧ Bd (L.getD i 0) 2) := by
    intro i
    by_cases hi : i < L.length
    · have hg : L.getD i 0 = L[i] := by rw [List.getD_eq_getElem?_getD, List.getElem?_eq_getElem hi]; rfl
      obtain ⟨x, h2, h3, h4⟩ := h L[i] (List.getElem_mem hi)
      refine ⟨2 * x, by omega, fun _ => ?_⟩
      rw [hg, h4]
      exact q4_ev h2 h3
    · exact ⟨0, by decide, fun h => absurd h hi⟩
  refine ⟨fun i => (h1 i).choose, fun i => (h1 i).choose_spec.1, fun i hi => (h1 i).choose_spec.2 hi⟩
/-- A drift of such numbers is told in full. -/
theorem drift_full (down : Bool) {M K : Int} {X : Nat → Int} {cm ck : Nat} {cs : List Nat} (hX : ∀ i, (X i).natAbs ≤ 100) (hM : M.natAbs ≤ 100) (hK : K.natAbs ≤ 100) (hm : Ev cm M) (hk : Ev ck K) (hl : least ck = true) (hc : ∀ i, i < cs.length → Ev (cs.getD i 0) (X i)) (h1 : 1 ≤ cs.length) (h2 : cs.length ≤ 96) :
    driftQ down cs cm ck = (dL down cm ck cs cs.length, true) := by
  have hf : allFin cs = true := by
    unfold allFin
    rw [List.all_eq_true]
    intro c hcm
    obtain ⟨i, hi, rfl⟩ := List.getElem_of_mem hcm
    have hg : cs.getD i 0 = cs[i] := by rw [List.getD_eq_getElem?_getD, List.getElem?_eq_getElem hi]; rfl
    rw [← hg]
    exact (hc i hi).fin
  have hok : driftOk cs cm ck = true := by
    unfold driftOk series
    rw [hf, hm.fin, hl, decide_eq_true h1, decide_eq_true h2]
    rfl
  rw [driftQ_yes down hok, given]
  have hall : allFin (dL down cm ck cs cs.length) = true := by
    unfold allFin dL
    rw [List.all_eq_true]
    intro c hcm
    obtain ⟨i, hi, rfl⟩ := List.mem_map.1 hcm
    have hi := List.mem_range.1 hi
    exact (dAt_ev down hX hM hK hm hk hc (i + 1) (by omega) (by omega)).fin
  rw [hall]
  rfl

end Go.Proofs.Ytkkomajokdlkeaa

namespace Go.Proofs.Ytkkomajokdlkeaa
set_option linter.unusedSimpArgs false
set_option linter.unusedVariables false
set_option maxRecDepth 100000
set_option maxHeartbeats 4000000
open Go.RowKit
theorem dFind_bound (p : Nat → Bool) : ∀ n : Nat, -1 ≤ dFind p n ∧ dFind p n < (n : Int)
  | n => by
    unfold dFind
    split
    · rename_i i h
      have := List.mem_range.1 (List.mem_of_find?_eq_some h)
      omega
    · omega
theorem dFind_succ (p : Nat → Bool) (n : Nat) : dFind p (n + 1) = if decide (dFind p n < 0) && p n then (n : Int) else dFind p n := by
  have hs : (List.range (n + 1)).find? p = ((List.range n).find? p).or (if p n then some n else none) := by
    rw [List.range_succ, List.find?_append]
    congr 1
    cases h : p n <;> simp [h]
  unfold dFind
  rw [hs]
  cases h : (List.range n).find? p with
  | some i =>
    have : ¬ ((i : Int) < 0) := by omega
    simp [this]
  | none =>
    cases hp : p n <;> simp
theorem zero64_self {X : Nat} (h1 : (Ieee.double.read X).isNaN = false) (h2 : (Ieee.double.read X).isInfinity = false) : ar .sub .f64 X X = 0 := by
  show (Ieee.double.sub X X).getD _ = 0
  unfold Ieee.Format.sub
  cases hr : Ieee.double.read X with
  | nan s t => rw [hr] at h1; simp [Ieee.Datum.isNaN] at h1
  | infinity s => rw [hr] at h2; simp [Ieee.Datum.isInfinity] at h2
  | number s m p =>
    show (Option.map Ieee.double.write (((Ieee.Datum.number s m p).sum (.number (!s) m p)))).getD _ = 0
    unfold Ieee.Datum.sum
    have e : Ieee.signed s m (p - min p p).toNat + Ieee.signed (!s) m (p - min p p).toNat = 0 := by
      unfold Ieee.signed
      cases s <;> simp <;> omega
    dsimp only
    rw [e, if_pos rfl]
    show Ieee.double.nearest (s && !s) 0 (min p p) = 0
    unfold Ieee.Format.nearest
    rw [if_pos (by rfl)]
    cases s <;> decide +kernel
theorem wd_fine {a : Nat} {x : Int} (h : Ev a x) : (Ieee.double.read (wd a)).isNaN = false ∧ (Ieee.double.read (wd a)).isInfinity = false := by
  have hn := h.notNaN
  obtain ⟨r, hr, hw, hi⟩ := wide_ok a hn
  have hf : (S.read a).isInfinity = false := by
    obtain ⟨_, s, k, h2, _⟩ := h
    rw [h2]; rfl
  have e : wd a = Ieee.double.word (S.read a).neg r := by unfold wd; rw [if_neg (by simp [hn])]; exact hw
  refine ⟨?_, ?_⟩
  · unfold wd; rw [if_neg (by simp [hn])]; exact wide_not_nan a hn
  · rw [e]; exact read_word_inf Ieee.double (by decide +kernel) _ (by rw [d_inf]; exact hi hf)
/-- The gap of two that are as many eighths is nothing. -/
theorem gap_ev {a b : Nat} {x : Int} (ha : Ev a x) (hb : Ev b x) : gapF (wd a) (wd b) = 0 ∨ gapF (wd a) (wd b) = 9223372036854775808 := by
  rcases ha.same hb with rfl | ⟨h1, h2⟩
  · have h := wd_fine ha
    have hl : fc .lss .f64 (wd a) (wd a) = false := by unfold fc; rw [order_self .f64 _ h.1]; rfl
    rw [gapF, hl]
    exact .inl (zero64_self h.1 h.2)
  · rcases h1 with rfl | rfl <;> rcases h2 with rfl | rfl
    all_goals decide +kernel
theorem cn64_raw {r c : Nat} (h : cn .f64 r = c) (hc : (Ieee.double.read c).isNaN = false) : r = c := by
  cases hr : (FloatKind.f64.format.read r).isNaN
  · rw [← h, cn_of_not hr]
  · rw [cn_of_nan hr] at h
    rw [← h] at hc
    have h2 : (Ieee.double.read (qnan .f64)).isNaN = true := qnan_isNaN .f64
    rw [h2] at hc; cases hc
theorem run_wdx {P : Program} (w : World) (src dst : TypeId) (b : Nat) (hs : (P.underlying src).isSome = true) (hd : P.underlying dst = some (.float .f64)) (hn : (S.read b).isNaN = false) :
    (convert src dst (.float .f32 b)).run P w = .ok (.float .f64 (wd b)) w := by
  have e : wd b = Ieee.double.write (S.read b) := by unfold wd; rw [if_neg (by simp [hn])]
  rw [e]
  refine run_convert_float_float (P := P) w src dst .f32 .f64 b _ hs hd ?_
  unfold floatToFloatBits
  rw [if_neg (by decide)]
  show (match S.read b with | .nan _ _ => none | .infinity s => some (FloatKind.f64.encode (.infinity s)) | .number s m e => if (FloatKind.f64.decode (FloatKind.f64.encode (.number s m e))).isInfinity = true then none else some (FloatKind.f64.encode (.number s m e))) = _
  obtain ⟨r, hr, hw, hi⟩ := wide_ok b hn
  cases hd : S.read b with
  | nan s t => rw [hd] at hn; simp [Ieee.Datum.isNaN] at hn
  | infinity s => rfl
  | number s m e =>
    rw [hd] at hw hi
    have h1 : FloatKind.f64.encode (.number s m e) = Ieee.double.word s r := hw
    have h2 : (FloatKind.f64.decode (FloatKind.f64.encode (.number s m e))).isInfinity = false := by
      rw [h1]; exact read_word_inf Ieee.double (by decide +kernel) s (by rw [d_inf]; exact hi rfl)
    dsimp only
    rw [h2]; rfl
theorem gap_small {a b : Nat} {x : Int} (ha : Ev a x) (hb : Ev b x) : FloatKind.f64.format.order (gapF (wd a) (wd b)) 4562254508917369340 = some .lt := by
  rcases gap_ev ha hb with h | h <;> rw [h] <;> decide +kernel

theorem l_b10GapEv2 (a b : Nat) (x : Int) (ha : Ev a x) (hb : Ev b x) (w : World) : Calls Try.prog 29 #[.float .f64 (wd a), .float .f64 (wd b)] w fun e w' => e = .returned (.float .f64 (gapF (wd a) (wd b))) ∧ Dr w w' := by
  have h := gap_ev ha hb
  refine (l_b10Gap (wd a) (wd b) w).mono ?_
  rintro e w' ⟨⟨r, rfl, hr⟩, hd⟩
  rw [cn_of_not (k := .f64) (wd_fine ha).1, cn_of_not (k := .f64) (wd_fine hb).1] at hr
  refine ⟨?_, hd⟩
  rw [cn64_raw hr (by rcases h with h | h <;> rw [h] <;> decide +kernel)]

end Go.Proofs.Ytkkomajokdlkeaa

namespace Go.Proofs.Ytkkomajokdlkeaa
set_option linter.unusedSimpArgs false
set_option linter.unusedVariables false
set_option maxRecDepth 100000
set_option maxHeartbeats 4000000
open Go.RowKit
/-- What is nearest to n eighths is n eighths. -/
theorem near_readD (neg : Bool) (n K : Nat) (hn : n < 16777216) : Ieee.double.nearest neg (n * 2 ^ K) (-3 - (K : Int)) < 18446744073709551616 ∧ ∃ k : Nat, Ieee.double.read (Ieee.double.nearest neg (n * 2 ^ K) (-3 - (K : Int))) = .number neg (n * 2 ^ k) (-3 - (k : Int)) := by
  by_cases h0 : n = 0
  · subst h0
    rw [Nat.zero_mul]
    have h1 : Ieee.double.nearest neg 0 (-3 - (K : Int)) = Ieee.double.word neg 0 := by unfold Ieee.Format.nearest; rw [if_pos rfl]
    rw [h1]
    cases neg
    · exact ⟨by decide +kernel, 1071, by decide +kernel⟩
    · exact ⟨by decide +kernel, 1071, by decide +kernel⟩
  · have hL := (Nat.log2_eq_iff h0).1 rfl
    have hLt : n.log2 < 24 := (Nat.log2_lt h0).2 hn
    obtain ⟨L, hLL⟩ : ∃ L, L = n.log2 := ⟨_, rfl⟩
    rw [← hLL] at hL hLt
    obtain ⟨q, hq⟩ : ∃ q, q = n * 2 ^ (52 - L) := ⟨_, rfl⟩
    have hp : 0 < 2 ^ (52 - L) := Nat.pow_pos (by decide)
    have e52 : (2 : Nat) ^ L * 2 ^ (52 - L) = 4503599627370496 := by rw [← Nat.pow_add, show L + (52 - L) = 52 by omega]
    have hq1 : 4503599627370496 ≤ q := by rw [hq, ← e52]; exact Nat.mul_le_mul_right _ hL.1
    have hq2 : q < 9007199254740992 := by
      have : (2 : Nat) ^ (L + 1) * 2 ^ (52 - L) = 9007199254740992 := by rw [← Nat.pow_add, show L + 1 + (52 - L) = 53 by omega]
      rw [hq, ← this]
      exact Nat.mul_lt_mul_of_pos_right hL.2 hp
    have hne : n * 2 ^ K ≠ 0 := Nat.mul_ne_zero h0 (Nat.ne_of_gt (Nat.pow_pos (by decide)))
    have hlast : max (-3 - (K : Int) + ((n * 2 ^ K).log2 : Int) - (Ieee.double.fractionBits : Int)) Ieee.double.leastPlace = (L : Int) - 55 := by
      rw [log2_mulpE h0, ← hLL, show (Ieee.double.fractionBits : Int) = 52 from rfl, show Ieee.double.leastPlace = -1074 from d_least]
      omega
    have hkept : Ieee.Toward.even.cut neg ((n * 2 ^ K) <<< (-3 - (K : Int) - ((L : Int) - 55)).toNat) ((L : Int) - 55 - (-3 - (K : Int))).toNat = q := by
      by_cases hK : K ≤ 52 - L
      · rw [show ((L : Int) - 55 - (-3 - (K : Int))).toNat = 0 by omega, cut_noneE, Nat.shiftLeft_eq, show (-3 - (K : Int) - ((L : Int) - 55)).toNat = 52 - L - K by omega, Nat.mul_assoc, ← Nat.pow_add, show K + (52 - L - K) = 52 - L by omega, hq]
      · rw [show (-3 - (K : Int) - ((L : Int) - 55)).toNat = 0 by omega, Nat.shiftLeft_zero, show ((L : Int) - 55 - (-3 - (K : Int))).toNat = K - (52 - L) by omega]
        have e : n * 2 ^ K = q * 2 ^ (K - (52 - L)) := by rw [hq, Nat.mul_assoc, ← Nat.pow_add, show 52 - L + (K - (52 - L)) = K by omega]
        rw [e]
        exact cut_exactE neg q (by omega) _
    have hnear : Ieee.double.nearest neg (n * 2 ^ K) (-3 - (K : Int)) = Ieee.double.word neg ((L + 1019) * 4503599627370496 + q) := by
      unfold Ieee.Format.nearest
      rw [if_neg hne]
      simp only [hlast, hkept]
      rw [show Ieee.double.leastPlace = -1074 from d_least, show Ieee.double.binade = 4503599627370496 from d_binade, show Ieee.double.infRung = 9218868437227405312 from d_inf, show ((L : Int) - 55 - -1074).toNat = L + 1019 by omega, Nat.min_eq_left (by omega)]
    have hr : (L + 1019) * 4503599627370496 + q < 9218868437227405312 := by omega
    have hw : Ieee.double.word neg ((L + 1019) * 4503599627370496 + q) = (if neg then 9223372036854775808 + ((L + 1019) * 4503599627370496 + q) else (L + 1019) * 4503599627370496 + q) := by
      unfold Ieee.Format.word
      rw [show Ieee.double.signWeight = 9223372036854775808 from d_weight]
    rw [hnear, hw]
    refine ⟨by split <;> omega, 52 - L, ?_⟩
    have hplace : (-3 - ((52 - L : Nat) : Int)) = -1074 + (((L + 1019) * 4503599627370496 + q) / 4503599627370496 - 1 : Nat) := by omega
    have hmant : n * 2 ^ (52 - L) = 4503599627370496 + ((L + 1019) * 4503599627370496 + q) % 4503599627370496 := by rw [← hq]; omega
    rw [hplace, hmant]
    generalize (L + 1019) * 4503599627370496 + q = r at *
    unfold Ieee.Format.read
    rw [show Ieee.double.signWeight = 9223372036854775808 from d_weight, show Ieee.double.binade = 4503599627370496 from d_binade, show Ieee.double.infRung = 9218868437227405312 from d_inf, show Ieee.double.leastPlace = -1074 from d_least]
    have hge : ¬ r < 4503599627370496 := by omega
    cases neg
    · simp only [Bool.false_eq_true, if_false]
      rw [Nat.mod_eq_of_lt (show r < 9223372036854775808 by omega), show r / 9223372036854775808 = 0 by omega]
      simp only [if_neg hge, if_pos hr]
      rfl
    · simp only [if_true]
      rw [show (9223372036854775808 + r) % 9223372036854775808 = r by omega, show (9223372036854775808 + r) / 9223372036854775808 = 1 by omega]
      simp only [if_neg hge, if_pos hr]
      rfl
/-- x eighths. -/
def Ew (c : Nat) (x : Int) : Prop := c < 18446744073709551616 ∧ ∃ (s : Bool) (k : Nat), Ieee.double.read c = .number s (x.natAbs * 2 ^ k) (-3 - (k : Int)) ∧ (x ≠ 0 → s = decide (x < 0))
theorem ew_near {r : Bool} {z : Int} {K : Nat} (hr : z ≠ 0 → r = decide (z < 0)) (hz : z.natAbs < 16777216) : Ew (Ieee.double.write (.number r (z.natAbs * 2 ^ K) (-3 - (K : Int)))) z := by
  obtain ⟨h1, k, h2⟩ := near_readD r z.natAbs K hz
  exact ⟨h1, r, k, h2, hr⟩
/-- A number made wide. -/
theorem Ev.wide {a : Nat} {x : Int} (h : Ev a x) (hx : x.natAbs < 16777216) : Ew (wd a) x := by
  have hn := h.notNaN
  obtain ⟨-, s, k, h2, h3⟩ := h
  have e : wd a = Ieee.double.write (S.read a) := by unfold wd; rw [if_neg (by simp [hn])]
  rw [e, h2]
  exact ew_near h3 hx
theorem Ew.add {a b : Nat} {x y : Int} (ha : Ew a x) (hb : Ew b y) (hxy : (x + y).natAbs < 16777216) : Ew (ar .add .f64 a b) (x + y) := by
  obtain ⟨-, s, k, h1, h2⟩ := ha
  obtain ⟨-, t, j, h3, h4⟩ := hb
  obtain ⟨r, K, h5, h6⟩ := sum_ev h2 h4 hxy (k := k) (j := j)
  have h7 : ar .add .f64 a b = Ieee.double.write (.number r ((x + y).natAbs * 2 ^ K) (-3 - (K : Int))) := by
    show ((Ieee.double.add a b).getD _) = _
    rw [Ieee.Format.add, h1, h3, h5]
    rfl
  rw [h7]
  exact ew_near h6 hxy
theorem Ew.sub {a b : Nat} {x y : Int} (ha : Ew a x) (hb : Ew b y) (hxy : (x - y).natAbs < 16777216) : Ew (ar .sub .f64 a b) (x - y) := by
  obtain ⟨-, s, k, h1, h2⟩ := ha
  obtain ⟨-, t, j, h3, h4⟩ := hb
  have h4' : -y ≠ 0 → (!t) = decide (-y < 0) := by
    intro h
    rw [h4 (by omega)]
    by_cases h5 : y < 0
    · rw [decide_eq_true h5, decide_eq_false (by omega)]; rfl
    · rw [decide_eq_false h5, decide_eq_true (by omega)]; rfl
  obtain ⟨r, K, h5, h6⟩ := sum_ev h2 h4' (by rw [← Int.sub_eq_add_neg]; exact hxy) (k := k) (j := j)
  rw [← Int.sub_eq_add_neg, Int.natAbs_neg] at h5
  rw [← Int.sub_eq_add_neg] at h6
  have h7 : ar .sub .f64 a b = Ieee.double.write (.number r ((x - y).natAbs * 2 ^ K) (-3 - (K : Int))) := by
    show ((Ieee.double.sub a b).getD _) = _
    rw [Ieee.Format.sub, h1, h3]
    show (Option.map Ieee.double.write ((Ieee.Datum.number s _ _).sum (Ieee.Datum.number (!t) _ _))).getD _ = _
    rw [h5]
    rfl
  rw [h7]
  exact ew_near h6 hxy
theorem num_order {s t : Bool} {x y : Int} {k j : Nat} (h2 : x ≠ 0 → s = decide (x < 0)) (h4 : y ≠ 0 → t = decide (y < 0)) : (Ieee.Datum.number s (x.natAbs * 2 ^ k) (-3 - (k : Int))).order (.number t (y.natAbs * 2 ^ j) (-3 - (j : Int))) = some (compare x y) := by
  obtain ⟨K, hK⟩ : ∃ K, K = max k j := ⟨_, rfl⟩
  have hbase : min (-3 - (k : Int)) (-3 - (j : Int)) = -3 - (K : Int) := by omega
  unfold Ieee.Datum.order
  simp only [hbase]
  rw [show (-3 - (k : Int) - (-3 - (K : Int))).toNat = K - k by omega, show (-3 - (j : Int) - (-3 - (K : Int))).toNat = K - j by omega, signed_ev h2, signed_ev h4, show k + (K - k) = K by omega, show j + (K - j) = K by omega]
  congr 1
  have hp : (0 : Int) < ((2 ^ K : Nat) : Int) := Int.natCast_pos.2 (Nat.pow_pos (by decide))
  rcases Int.lt_trichotomy x y with h | h | h
  · have h5 : x * ((2 ^ K : Nat) : Int) < y * ((2 ^ K : Nat) : Int) := Int.mul_lt_mul_of_pos_right h hp
    simp only [compare, compareOfLessAndEq, if_pos h, if_pos h5]
  · subst h
    simp [compare, compareOfLessAndEq]
  · have h5 : y * ((2 ^ K : Nat) : Int) < x * ((2 ^ K : Nat) : Int) := Int.mul_lt_mul_of_pos_right h hp
    have h6 : ¬ x < y := by omega
    have h7 : ¬ x = y := by omega
    have h8 : ¬ x * ((2 ^ K : Nat) : Int) < y * ((2 ^ K : Nat) : Int) := by omega
    have h9 : ¬ x * ((2 ^ K : Nat) : Int) = y * ((2 ^ K : Nat) : Int) := by omega
    simp only [compare, compareOfLessAndEq, if_neg h6, if_neg h7, if_neg h8, if_neg h9]
theorem Ew.order {a b : Nat} {x y : Int} (ha : Ew a x) (hb : Ew b y) : Ieee.double.order a b = some (compare x y) := by
  obtain ⟨-, s, k, h1, h2⟩ := ha
  obtain ⟨-, t, j, h3, h4⟩ := hb
  show (Ieee.double.read a).order (Ieee.double.read b) = _
  rw [h1, h3]
  exact num_order h2 h4
theorem Ew.notNaN {a : Nat} {x : Int} (ha : Ew a x) : (Ieee.double.read a).isNaN = false := by
  obtain ⟨-, s, k, h1, -⟩ := ha
  rw [h1]; rfl
theorem Ew.cn {a : Nat} {x : Int} (ha : Ew a x) : cn .f64 a = a := cn_of_not (k := .f64) ha.notNaN
theorem ew_zero : Ew 0 0 := ⟨by decide, false, 1071, by decide +kernel, by simp⟩
theorem Ew.lss {a b : Nat} {x y : Int} (ha : Ew a x) (hb : Ew b y) : fc .lss .f64 a b = decide (x < y) := by
  show (Ieee.double.order a b == some .lt) = _
  rw [ha.order hb, cmpI]
  by_cases h : x < y
  · rw [if_pos h, decide_eq_true h]; rfl
  · rw [if_neg h, decide_eq_false h]; split <;> rfl
/-- The gap of two. -/
theorem Ew.gap {a b : Nat} {x y : Int} (ha : Ew a x) (hb : Ew b y) (h1 : (x - y).natAbs < 16777216) : Ew (gapF a b) ((x - y).natAbs : Int) := by
  unfold gapF
  rw [ha.lss hb]
  by_cases h : x < y
  · rw [if_pos (decide_eq_true h)]
    have := hb.sub ha (by omega)
    rw [show ((x - y).natAbs : Int) = y - x by omega]
    exact this
  · rw [if_neg (by rw [decide_eq_false h]; decide)]
    have := ha.sub hb h1
    rw [show ((x - y).natAbs : Int) = x - y by omega]
    exact this

end Go.Proofs.Ytkkomajokdlkeaa
