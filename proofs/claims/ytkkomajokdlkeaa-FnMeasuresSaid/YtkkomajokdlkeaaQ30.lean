/- Series about 0: their mean is 0 and their width 1, nearly. Plain: no program. -/
import Derived.Test.YtkkomajokdlkeaaQ11
import Derived.Test.YtkkomajokdlkeaaQ13
import Derived.Test.YtkkomajokdlkeaaQ16
import Derived.Test.YtkkomajokdlkeaaQ20
namespace Go.Proofs.Ytkkomajokdlkeaa
set_option linter.unusedSimpArgs false
set_option linter.unusedVariables false
set_option maxRecDepth 100000
set_option maxHeartbeats 4000000
open Go.RowKit

/-- Eighths. -/
theorem Ev.qv {c : Nat} {x : Int} (h : Ev c x) : QV S c ((x : Rat) / 8) := by
  obtain ⟨-, s, k, h1, h2⟩ := h
  refine ⟨s, _, _, h1, ?_⟩
  have e : ((x.natAbs * 2 ^ k : Nat) : Rat) * pw (-3 - (k : Int)) = ((x.natAbs : Nat) : Rat) * pw (-3) := by
    rw [Rat.natCast_mul, ← pw_nat, Rat.mul_assoc, ← pw_add]; congr 2; omega
  rw [e, int_sg x s h2]
  rw [show pw (-3) = 1 / 8 by decide +kernel]; grind
theorem qz_all : ∀ i : Fin 33, evB (q4 ((i.val : Int) - 16)) (2 * ((i.val : Int) - 16)) = true := by decide +kernel
theorem qz_ev {x : Int} (h1 : -16 ≤ x) (h2 : x ≤ 16) : Ev (q4 x) (2 * x) := by
  have h := qz_all ⟨(x + 16).toNat, by omega⟩
  have e : (((x + 16).toNat : Nat) : Int) - 16 = x := by omega
  simp only [e] at h
  exact ev_of h
theorem fI_all : ∀ i : Fin 20, evB (fI (i.val : Int)) (8 * (i.val : Int)) = true := by decide +kernel
theorem fI_ev {n : Nat} (h : n < 20) : Ev (fI (n : Int)) (8 * (n : Int)) := ev_of (fI_all ⟨n, h⟩)
theorem isQ_get {L : List Nat} (h : ∀ c ∈ L, isQ c) : ∃ q : Nat → Int, (∀ i, -16 ≤ q i ∧ q i ≤ 16) ∧ ∀ i, i < L.length → L.getD i 0 = q4 (q i) := by
  refine ⟨fun i => if hi : i < L.length then Classical.choose (h L[i] (List.getElem_mem hi)) else 0, fun i => ?_, fun i hi => ?_⟩
  · by_cases hi : i < L.length
    · have := Classical.choose_spec (h L[i] (List.getElem_mem hi))
      simp only [hi, dif_pos]
      exact ⟨this.1, this.2.1⟩
    · simp [hi]
  · have := Classical.choose_spec (h L[i] (List.getElem_mem hi))
    simp only [hi, dif_pos]
    rw [List.getD_eq_getElem?_getD, List.getElem?_eq_getElem hi]
    exact this.2.2
/-- Sums of integers. -/
def si (q : Nat → Int) : Nat → Int
  | 0 => 0
  | k + 1 => si q k + q k
theorem si_size {q : Nat → Int} (h : ∀ i, -16 ≤ q i ∧ q i ≤ 16) : ∀ k : Nat, -16 * (k : Int) ≤ si q k ∧ si q k ≤ 16 * (k : Int)
  | 0 => by simp [si]
  | k + 1 => by
    have ih := si_size h k
    have := h k
    unfold si
    omega
theorem sum_take {L : List Nat} {q : Nat → Int} (hq : ∀ i, -16 ≤ q i ∧ q i ≤ 16) (hL : ∀ i, i < L.length → L.getD i 0 = q4 (q i)) (hn : L.length ≤ 96) : ∀ k, k ≤ L.length → Ev (sumL (L.take k)) (2 * si q k)
  | 0, _ => by rw [List.take_zero]; exact ev_zero
  | k + 1, hk => by
    have ih := sum_take hq hL hn k (by omega)
    have hs := si_size hq k
    have e1 : L.take (k + 1) = L.take k ++ [L.getD k 0] := by
      rw [List.take_add_one, List.getElem?_eq_getElem (by omega), List.getD_eq_getElem?_getD, List.getElem?_eq_getElem (by omega)]; rfl
    have hb : (2 * si q k + 2 * q k).natAbs < 16777216 := by have := hq k; omega
    have h2 := ih.add (qz_ev (hq k).1 (hq k).2) hb
    rw [e1, sumL_snoc, hL k (by omega)]
    have e2 : 2 * si q (k + 1) = 2 * si q k + 2 * q k := by show 2 * (si q k + q k) = _; omega
    rw [e2]; exact h2
/-- All equal: there is no width. -/
theorem flat_all : ∀ i : Fin 33, ∀ n : Fin 8, above (normRoot (List.replicate (n.val + 2) (q4 ((i.val : Int) - 16)))) = false := by decide +kernel
theorem flat_none {x : Int} (h1 : -16 ≤ x) (h2 : x ≤ 16) {n : Nat} (h3 : 2 ≤ n) (h4 : n ≤ 9) : above (normRoot (List.replicate n (q4 x))) = false := by
  have h := flat_all ⟨(x + 16).toNat, by omega⟩ ⟨n - 2, by omega⟩
  have e : (((x + 16).toNat : Nat) : Int) - 16 = x := by omega
  have e2 : n - 2 + 2 = n := by omega
  simp only [e, e2] at h
  exact h

/-! Sums of fractions. -/
def rs (f : Nat → Rat) : Nat → Rat
  | 0 => 0
  | k + 1 => rs f k + f k
theorem cast_succ (k : Nat) : ((k + 1 : Nat) : Rat) = (k : Rat) + 1 := by rw [Rat.natCast_add]; rfl
theorem rs_near {f g : Nat → Rat} {d : Rat} {n : Nat} (h : ∀ i, i < n → f i ≤ g i + d ∧ g i ≤ f i + d) : ∀ k, k ≤ n → rs f k ≤ rs g k + (k : Rat) * d ∧ rs g k ≤ rs f k + (k : Rat) * d
  | 0, _ => by unfold rs; have : ((0 : Nat) : Rat) = 0 := rfl
               rw [this]; grind
  | k + 1, hk => by
    have ih := rs_near h k (by omega)
    have := h k (by omega)
    unfold rs
    rw [cast_succ]
    grind
theorem rs_mul {f g : Nat → Rat} {c : Rat} {n : Nat} (h : ∀ i, i < n → f i = g i * c) : ∀ k, k ≤ n → rs f k = rs g k * c
  | 0, _ => by unfold rs; grind
  | k + 1, hk => by
    have ih := rs_mul h k (by omega)
    have := h k (by omega)
    unfold rs
    grind
theorem rs_nonneg {f : Nat → Rat} {n : Nat} (h : ∀ i, i < n → 0 ≤ f i) : ∀ k, k ≤ n → 0 ≤ rs f k
  | 0, _ => by unfold rs; grind
  | k + 1, hk => by
    have ih := rs_nonneg h k (by omega)
    have := h k (by omega)
    unfold rs
    grind
theorem rs_one_le {f : Nat → Rat} {n : Nat} (h : ∀ i, i < n → 0 ≤ f i) {j : Nat} : ∀ k, k ≤ n → j < k → f j ≤ rs f k
  | 0, _, hj => by omega
  | k + 1, hk, hj => by
    have h0 := rs_nonneg h k (by omega)
    have h1 := h k (by omega)
    unfold rs
    by_cases e : j = k
    · subst e; grind
    · have := rs_one_le (j := j) h k (by omega) (by omega)
      grind
theorem rs_si (q : Nat → Int) : ∀ k, rs (fun i => ((q i : Int) : Rat)) k = ((si q k : Int) : Rat)
  | 0 => rfl
  | k + 1 => by unfold rs si; rw [rs_si q k, Rat.intCast_add]
theorem rs_const (c : Rat) : ∀ k, rs (fun _ => c) k = (k : Rat) * c
  | 0 => by unfold rs; have : ((0 : Nat) : Rat) = 0 := rfl
            rw [this]; grind
  | k + 1 => by unfold rs; rw [rs_const c k, cast_succ]; grind
theorem rs_sub {f g : Nat → Rat} : ∀ k, rs (fun i => f i - g i) k = rs f k - rs g k
  | 0 => by unfold rs; grind
  | k + 1 => by
    have e := rs_sub (f := f) (g := g) k
    unfold rs; rw [e]; grind
theorem sqr_nonneg (x : Rat) : 0 ≤ x * x := by
  rcases Rat.le_total (a := 0) (b := x) with h | h
  · exact Rat.mul_nonneg h h
  · have := Rat.mul_nonneg (show 0 ≤ -x by grind) (show 0 ≤ -x by grind)
    grind
theorem cast_le9 {k : Nat} (h : k ≤ 9) : (0 : Rat) ≤ (k : Rat) ∧ (k : Rat) ≤ 9 := ⟨Rat.natCast_nonneg, Rat.natCast_le_natCast.2 h⟩
/-- One step of a sum of squares. -/
theorem sqs_step {κ a b V P V1 : Rat} (hk0 : 0 ≤ κ) (hk9 : κ ≤ 9) (ha : 0 ≤ a) (hb : 0 ≤ b) (hb2 : b ≤ 1000) (ha2 : a ≤ 10000) (hV0 : 0 ≤ V)
    (h1 : V ≤ a + a * κ * (1 / 2097152) + κ * (1 / 1125899906842624)) (h2 : a ≤ V + a * κ * (1 / 2097152) + κ * (1 / 1125899906842624))
    (hP : Ns e32 b P) (hV : Ns e32 (V + P) V1) :
    0 ≤ V1 ∧ V1 ≤ (a + b) + (a + b) * (κ + 1) * (1 / 2097152) + (κ + 1) * (1 / 1125899906842624) ∧ (a + b) ≤ V1 + (a + b) * (κ + 1) * (1 / 2097152) + (κ + 1) * (1 / 1125899906842624) := by
  have c1 := Rat.mul_le_mul_of_nonneg_left hk9 ha
  have c2 := Rat.mul_nonneg hb hk0
  have c3 := Rat.mul_nonneg ha hk0
  obtain ⟨p1, -, p3⟩ := hP
  have p4 := p1 hb
  have p5 := p3 b (by grind) (by grind)
  obtain ⟨v1, -, v3⟩ := hV
  have v4 := v1 (by grind)
  have v5 := v3 (V + P) (by grind) (by grind)
  refine ⟨v4, ?_, ?_⟩
  · grind
  · grind

theorem c2i : ((2 : Int) : Rat) = 2 := rfl
theorem c8i : ((8 : Int) : Rat) = 8 := rfl
/-- What the rounds of a norm bring: the rest of each. -/
theorem rest_all {L : List Nat} {q : Nat → Int} (hq : ∀ i, -16 ≤ q i ∧ q i ≤ 16) (hL : ∀ i, i < L.length → L.getD i 0 = q4 (q i)) (h2 : 2 ≤ L.length) (h9 : L.length ≤ 9) :
    ∃ (M : Rat) (R : Nat → Rat), QV S (meanL L) M ∧ (∀ i, i < L.length → QV S (subF (L.getD i 0) (meanL L)) (R i) ∧ -9 ≤ R i ∧ R i ≤ 9 ∧ R i ≤ (q i : Rat) / 4 - M + 1 / 524288 ∧ (q i : Rat) / 4 - M ≤ R i + 1 / 524288)
      ∧ rs R L.length ≤ 9 * (1 / 131072) ∧ -(9 * (1 / 131072)) ≤ rs R L.length := by
  obtain ⟨n, hn⟩ : ∃ n, n = L.length := ⟨_, rfl⟩
  have hsum := (sum_take hq hL (by omega) L.length (Nat.le_refl _)).qv
  rw [List.take_length] at hsum
  have hfI := (fI_ev (n := L.length) (by omega)).qv
  have hsz := si_size hq L.length
  rw [← hn] at hsum hfI hsz h2 h9 ⊢
  have n2 : (2 : Rat) ≤ (n : Rat) := Rat.natCast_le_natCast.2 h2
  have n9 : (n : Rat) ≤ 9 := Rat.natCast_le_natCast.2 h9
  have e8 : (((8 * (n : Int) : Int)) : Rat) / 8 = (n : Rat) := by rw [Rat.intCast_mul, Rat.intCast_natCast, c8i]; grind
  rw [e8] at hfI
  have eS : (((2 * si q n : Int)) : Rat) / 8 = (si q n : Rat) / 4 := by rw [Rat.intCast_mul, c2i]; grind
  rw [eS] at hsum
  have s1 : -16 * (n : Rat) ≤ (si q n : Rat) := by
    have := Rat.intCast_le_intCast.2 hsz.1
    rw [Rat.intCast_mul, Rat.intCast_natCast] at this; exact this
  have s2 : (si q n : Rat) ≤ 16 * (n : Rat) := by
    have := Rat.intCast_le_intCast.2 hsz.2
    rw [Rat.intCast_mul, Rat.intCast_natCast] at this; exact this
  obtain ⟨m, hm⟩ : ∃ m : Rat, m * (n : Rat) = (si q n : Rat) / 4 := ⟨(si q n : Rat) / 4 / (n : Rat), Rat.div_mul_cancel (by grind)⟩
  have np : (0 : Rat) < (n : Rat) := by grind
  have m1 : m ≤ 4 := Rat.le_of_mul_le_mul_right (c := (n : Rat)) (by grind) np
  have m2 : -4 ≤ m := Rat.le_of_mul_le_mul_right (c := (n : Rat)) (by grind) np
  obtain ⟨M, hM, -, -, hM3⟩ := divF_qv hsum hfI (by grind) hm (by grind) (by grind)
  have hM4 := hM3 4 (by grind) (by grind)
  have hMM : QV S (meanL L) M := by rw [meanL, ← hn]; exact hM
  have hr : ∀ i, ∃ r : Rat, i < n → QV S (subF (L.getD i 0) (meanL L)) r ∧ -9 ≤ r ∧ r ≤ 9 ∧ r ≤ (q i : Rat) / 4 - M + 1 / 524288 ∧ (q i : Rat) / 4 - M ≤ r + 1 / 524288 := by
    intro i
    by_cases hi : i < n
    · have hx := (qz_ev (hq i).1 (hq i).2).qv
      rw [← hL i (by omega)] at hx
      have eq : (((2 * q i : Int)) : Rat) / 8 = (q i : Rat) / 4 := by rw [Rat.intCast_mul, c2i]; grind
      rw [eq] at hx
      have q1 : (-16 : Rat) ≤ (q i : Rat) := Rat.intCast_le_intCast.2 (hq i).1
      have q2 : (q i : Rat) ≤ 16 := Rat.intCast_le_intCast.2 (hq i).2
      obtain ⟨r, hr1, -, -, hr2⟩ := subF_qv hx hMM (by unfold big; grind) (by unfold big; grind)
      have hr3 := hr2 8.5 (by grind) (by grind)
      exact ⟨r, fun _ => ⟨hr1, by grind, by grind, by grind, by grind⟩⟩
    · exact ⟨0, fun h => absurd h hi⟩
  obtain ⟨R, hR⟩ := Classical.skolem.1 hr
  refine ⟨M, R, hMM, hR, ?_⟩
  have hs := rs_near (f := R) (g := fun i => (q i : Rat) / 4 - M) (d := 1 / 524288) (n := n) (fun i hi => ⟨(hR i hi).2.2.2.1, (hR i hi).2.2.2.2⟩) n (Nat.le_refl _)
  have e1 : rs (fun i => (q i : Rat) / 4 - M) n = (si q n : Rat) / 4 - (n : Rat) * M := by
    rw [rs_sub, rs_const, rs_mul (g := fun i => ((q i : Int) : Rat)) (c := 1 / 4) (fun i _ => by grind) n (Nat.le_refl _), rs_si]
    grind
  rw [e1] at hs
  have k1 := Rat.mul_le_mul_of_nonneg_left (show M ≤ m + 1 / 524288 + 1 / 1152921504606846976 by grind) (Rat.le_of_lt np)
  have k2 := Rat.mul_le_mul_of_nonneg_left (show m ≤ M + 1 / 524288 + 1 / 1152921504606846976 by grind) (Rat.le_of_lt np)
  constructor
  · grind
  · grind

/-- The sum of the squares. -/
theorem sqs_all {f : Nat → Nat} {R : Nat → Rat} {n : Nat} (hn : n ≤ 9) (hR : ∀ i, i < n → QV S (f i) (R i) ∧ -9 ≤ R i ∧ R i ≤ 9) :
    ∀ k, k ≤ n → rs (fun i => R i * R i) k ≤ 1000 * (k : Rat) ∧ ∃ V, QV S (sqsL f k) V ∧ 0 ≤ V ∧ V ≤ rs (fun i => R i * R i) k + rs (fun i => R i * R i) k * (k : Rat) * (1 / 2097152) + (k : Rat) * (1 / 1125899906842624) ∧ rs (fun i => R i * R i) k ≤ V + rs (fun i => R i * R i) k * (k : Rat) * (1 / 2097152) + (k : Rat) * (1 / 1125899906842624)
  | 0, _ => by
    have c0 : ((0 : Nat) : Rat) = 0 := rfl
    unfold rs
    rw [c0]
    refine ⟨by grind, 0, (by have := ev_zero.qv; rw [show ((0 : Int) : Rat) / 8 = 0 by decide +kernel] at this; exact this), by grind, by grind, by grind⟩
  | k + 1, hk => by
    obtain ⟨w1, V, hV, v0, v1, v2⟩ := sqs_all hn hR k (by omega)
    obtain ⟨hr, r1, r2⟩ := hR k (by omega)
    have hk9 := cast_le9 (show k ≤ 9 by omega)
    have hw := rs_nonneg (f := fun i => R i * R i) (n := k) (fun i _ => sqr_nonneg _) k (Nat.le_refl _)
    have hb0 := sqr_nonneg (R k)
    have hb2 : R k * R k ≤ 1000 := by
      have := Rat.mul_nonneg (show 0 ≤ 9 - R k by grind) (show 0 ≤ 9 + R k by grind)
      grind
    obtain ⟨P, hP, hP2⟩ := mulF_qv hr hr (by unfold big; grind) (by unfold big; grind)
    have hk9a := Rat.mul_le_mul_of_nonneg_left hk9.2 hw
    have hPs := hP2.2.2 1000 (by grind) (by grind)
    have hP0 := hP2.1 hb0
    obtain ⟨V1, hV1, hV2⟩ := addF_qv hV hP (by unfold big; grind) (by unfold big; grind)
    have := sqs_step (κ := (k : Rat)) (a := rs (fun i => R i * R i) k) (b := R k * R k) hk9.1 hk9.2 hw hb0 hb2 (by grind) v0 v1 v2 hP2 hV2
    have e : rs (fun i => R i * R i) (k + 1) = rs (fun i => R i * R i) k + R k * R k := rfl
    rw [e, cast_succ]
    exact ⟨by grind, V1, hV1, this.1, this.2.1, this.2.2⟩
theorem sq_near {u X : Rat} (h : Ns (4 * e32) u X) (h1 : -1000 ≤ u) (h2 : u ≤ 1000) : X * X ≤ u * u + u * u * (1 / 262144) + 1 / 1099511627776 ∧ u * u ≤ X * X + u * u * (1 / 262144) + 1 / 1099511627776 := by
  have key : ∀ u X : Rat, 0 ≤ u → u ≤ 1000 → 0 ≤ X → X ≤ u + u * (4 * e32) + 1 / 1152921504606846976 → u ≤ X + u * (4 * e32) + 1 / 1152921504606846976 → X * X ≤ u * u + u * u * (1 / 262144) + 1 / 1099511627776 ∧ u * u ≤ X * X + u * u * (1 / 262144) + 1 / 1099511627776 := by
    intro u X h0 h1 h2 h3 h4
    obtain ⟨d, hd⟩ : ∃ d : Rat, d = u * (4 * e32) + 1 / 1152921504606846976 := ⟨_, rfl⟩
    have d0 : 0 ≤ d := by grind
    have t1 : X ≤ u + d := by grind
    have t2 : u ≤ X + d := by grind
    have f1 : X * X ≤ (u + d) * (u + d) := by
      have a1 := Rat.mul_le_mul_of_nonneg_left t1 h2
      have a2 := Rat.mul_le_mul_of_nonneg_right t1 (show 0 ≤ u + d by grind)
      grind
    have f2 : u * u ≤ X * X + 2 * (u * d) + d * d := by
      have a1 := Rat.mul_le_mul_of_nonneg_left t2 h0
      have a2 := Rat.mul_le_mul_of_nonneg_left t2 h2
      have a3 := Rat.mul_le_mul_of_nonneg_right t1 d0
      grind
    have f3 : u * d = u * u * (4 * e32) + u * (1 / 1152921504606846976) := by rw [hd]; grind
    have f4 : d * d = u * d * (4 * e32) + d * (1 / 1152921504606846976) := by
      have : d * d = d * (u * (4 * e32) + 1 / 1152921504606846976) := by rw [← hd]
      rw [this]; grind
    have f5 := sqr_nonneg u
    constructor
    · grind
    · grind
  obtain ⟨n1, n2, n3⟩ := h
  rcases Rat.le_total (a := 0) (b := u) with h | h
  · have b := n3 u (by grind) (by grind)
    exact key u X h h2 (n1 h) (by grind) (by grind)
  · have b := n3 (-u) (by grind) (by grind)
    have := key (-u) (-X) (by grind) (by grind) (by have := n2 h; grind) (by grind) (by grind)
    grind

/-- Some rest is not small. -/
theorem rest_some {L : List Nat} {q : Nat → Int} (hq : ∀ i, -16 ≤ q i ∧ q i ≤ 16) (hL : ∀ i, i < L.length → L.getD i 0 = q4 (q i)) (h2 : 2 ≤ L.length) (h9 : L.length ≤ 9) (hab : above (normRoot L) = true)
    {M : Rat} {R : Nat → Rat} (hR : ∀ i, i < L.length → R i ≤ (q i : Rat) / 4 - M + 1 / 524288 ∧ (q i : Rat) / 4 - M ≤ R i + 1 / 524288) : 1 / 70 ≤ rs (fun i => R i * R i) L.length := by
  have hne : ∃ j, j < L.length ∧ q j ≠ q 0 := by
    refine Classical.byContradiction fun hno => ?_
    have hall : ∀ j, j < L.length → q j = q 0 := fun j hj => Classical.byContradiction fun h => hno ⟨j, hj, h⟩
    have e : L = List.replicate L.length (q4 (q 0)) := by
      refine List.ext_getElem (by simp) fun i hi _ => ?_
      have := hL i hi
      rw [List.getD_eq_getElem?_getD, List.getElem?_eq_getElem hi] at this
      rw [List.getElem_replicate, ← hall i hi]
      exact this
    have := flat_none (hq 0).1 (hq 0).2 h2 h9
    rw [← e, hab] at this
    cases this
  obtain ⟨j, hj, hjq⟩ := hne
  have h0 := hR 0 (by omega)
  have h1 := hR j hj
  have big1 : ∀ r : Rat, 1 / 8 - 1 / 1000 ≤ r ∨ r ≤ -(1 / 8 - 1 / 1000) → 1 / 70 ≤ r * r := by
    intro r h
    rcases h with h | h
    · have := Rat.mul_nonneg (show 0 ≤ r - (1 / 8 - 1 / 1000) by grind) (show 0 ≤ r + (1 / 8 - 1 / 1000) by grind)
      grind
    · have := Rat.mul_nonneg (show 0 ≤ -r - (1 / 8 - 1 / 1000) by grind) (show 0 ≤ -r + (1 / 8 - 1 / 1000) by grind)
      grind
  have hd : (q 0 : Rat) + 1 ≤ (q j : Rat) ∨ (q j : Rat) + 1 ≤ (q 0 : Rat) := by
    rcases Int.lt_or_gt_of_ne hjq with h | h
    · right
      have : ((q j + 1 : Int) : Rat) ≤ (q 0 : Rat) := Rat.intCast_le_intCast.2 h
      rw [Rat.intCast_add] at this; exact this
    · left
      have : ((q 0 + 1 : Int) : Rat) ≤ (q j : Rat) := Rat.intCast_le_intCast.2 h
      rw [Rat.intCast_add] at this; exact this
  have one := fun (j k : Nat) => rs_one_le (f := fun i => R i * R i) (n := L.length) (j := j) (fun i _ => sqr_nonneg _) k
  have hor : (1 / 8 - 1 / 1000 ≤ R j ∨ R j ≤ -(1 / 8 - 1 / 1000)) ∨ (1 / 8 - 1 / 1000 ≤ R 0 ∨ R 0 ≤ -(1 / 8 - 1 / 1000)) := by
    rcases hd with h | h
    · rcases Rat.le_total (a := 1 / 8 - 1 / 1000) (b := R j) with g | g
      · exact .inl (.inl g)
      · exact .inr (.inr (by grind))
    · rcases Rat.le_total (a := 1 / 8 - 1 / 1000) (b := R 0) with g | g
      · exact .inr (.inl g)
      · exact .inl (.inr (by grind))
  rcases hor with h | h
  · exact Rat.le_trans (big1 _ h) (one j L.length (Nat.le_refl _) hj)
  · exact Rat.le_trans (big1 _ h) (one 0 L.length (Nat.le_refl _) (by omega))
theorem norm_all {L : List Nat} (hq : ∀ c ∈ L, isQ c) (h2 : 2 ≤ L.length) (h9 : L.length ≤ 9) (hab : above (normRoot L) = true) :
    ∃ X : Nat → Rat, (∀ i, i < L.length → QV S ((normL L L.length).getD i 0) (X i) ∧ -1000 ≤ X i ∧ X i ≤ 1000) ∧ -(1 / 100) ≤ rs X L.length ∧ rs X L.length ≤ 1 / 100
      ∧ rs (fun i => X i * X i) L.length ≤ (L.length : Rat) + 1 / 500 ∧ (L.length : Rat) ≤ rs (fun i => X i * X i) L.length + 1 / 500 := by
  obtain ⟨q, hq1, hq2⟩ := isQ_get hq
  obtain ⟨M, R, hM, hR, hs1, hs2⟩ := rest_all hq1 hq2 h2 h9
  have hW := rest_some hq1 hq2 h2 h9 hab (fun i hi => ⟨(hR i hi).2.2.2.1, (hR i hi).2.2.2.2⟩)
  obtain ⟨hWb, V, hV, hV0, hV1, hV2⟩ := sqs_all (f := fun i => subF (L.getD i 0) (meanL L)) h9 (fun i hi => ⟨(hR i hi).1, (hR i hi).2.1, (hR i hi).2.2.1⟩) L.length (Nat.le_refl _)
  have hfI := (fI_ev (n := L.length) (by omega)).qv
  rw [Rat.intCast_mul, Rat.intCast_natCast, c8i] at hfI
  have n2 : (2 : Rat) ≤ (L.length : Rat) := Rat.natCast_le_natCast.2 h2
  have n9 : (L.length : Rat) ≤ 9 := Rat.natCast_le_natCast.2 h9
  have hget : ∀ i, i < L.length → (normL L L.length).getD i 0 = divF (subF (L.getD i 0) (meanL L)) (normRoot L) := by
    intro i hi
    simp [normL, List.getD_eq_getElem?_getD, List.getElem?_map, List.getElem?_range hi]
  have hroot : normRoot L = rootF (divF (sqsL (fun i => subF (L.getD i 0) (meanL L)) L.length) (fI L.length)) := rfl
  generalize normRoot L = nr at *
  generalize hn : L.length = n at *
  have hN : ((8 : Rat) * (n : Rat)) / 8 = (n : Rat) := by grind
  rw [hN] at hfI
  have np : (0 : Rat) < (n : Rat) := by grind
  generalize hWW : rs (fun i => R i * R i) n = W at *
  have hW9 := Rat.mul_le_mul_of_nonneg_left n9 (show 0 ≤ W by grind)
  obtain ⟨m, hm⟩ : ∃ m : Rat, m * (n : Rat) = V := ⟨V / (n : Rat), Rat.div_mul_cancel (by grind)⟩
  have m0 : 0 ≤ m := Rat.le_of_mul_le_mul_right (c := (n : Rat)) (by grind) np
  have hmn := Rat.mul_le_mul_of_nonneg_left n2 m0
  have mb : m ≤ 10000 := by grind
  obtain ⟨d, hd, hd1, -, hd2⟩ := divF_qv hV hfI (by grind) hm (by grind) (by grind)
  have hd0 := hd1 m0
  have hd3 := hd2 m (by grind) (by grind)
  obtain ⟨T, hT, -, T0, T1, T2, T3⟩ := rootF_qv hd hd0 (by grind)
  rw [← hroot] at hT
  have TT0 := sqr_nonneg T
  -- n T^2 next to W
  have tn1 := Rat.mul_le_mul_of_nonneg_left (show T * T ≤ m + m * (1 / 65536) + 1 / 1073741824 by grind) (Rat.le_of_lt np)
  have tn2 := Rat.mul_le_mul_of_nonneg_left (show m ≤ T * T + m * (1 / 65536) + 1 / 1073741824 by grind) (Rat.le_of_lt np)
  have hnT1 : (n : Rat) * (T * T) ≤ W + W * (1 / 16384) := by grind
  have hnT2 : W ≤ (n : Rat) * (T * T) + W * (1 / 16384) := by grind
  have hTT := Rat.mul_le_mul_of_nonneg_left n9 TT0
  have hTlow : 1 / 32 ≤ T := by
    refine sq_le_of T0 ?_
    grind
  have hTpos : 0 < T := by grind
  have hu : ∀ i, ∃ p : Rat × Rat, i < n → QV S ((normL L n).getD i 0) p.1 ∧ Ns (4 * e32) p.2 p.1 ∧ p.2 * T = R i ∧ -300 ≤ p.2 ∧ p.2 ≤ 300 := by
    intro i
    by_cases hi : i < n
    · obtain ⟨r1, r2, r3, -, -⟩ := hR i hi
      obtain ⟨u, hu⟩ : ∃ u : Rat, u * T = R i := ⟨R i / T, Rat.div_mul_cancel (by grind)⟩
      have u1 : u ≤ 300 := Rat.le_of_mul_le_mul_right (c := T) (by grind) hTpos
      have u2 : -300 ≤ u := Rat.le_of_mul_le_mul_right (c := T) (by grind) hTpos
      obtain ⟨x, hx1, hx2⟩ := divF_qv r1 hT (by grind) hu (by grind) (by grind)
      exact ⟨(x, u), fun _ => ⟨by rw [hget i hi]; exact hx1, hx2, hu, u2, u1⟩⟩
    · exact ⟨(0, 0), fun h => absurd h hi⟩
  obtain ⟨XU, hXU⟩ := Classical.skolem.1 hu
  have hb : ∀ i, i < n → (XU i).1 ≤ (XU i).2 + 1 / 5000 ∧ (XU i).2 ≤ (XU i).1 + 1 / 5000 := by
    intro i hi
    obtain ⟨-, k1, -, k3, k4⟩ := hXU i hi
    have := k1.2.2 300 k3 k4
    grind
  refine ⟨fun i => (XU i).1, fun i hi => ?_, ?_⟩
  · obtain ⟨k0, k1, -, k3, k4⟩ := hXU i hi
    have := hb i hi
    exact ⟨k0, by grind, by grind⟩
  · have s1 := rs_near (f := fun i => (XU i).1) (g := fun i => (XU i).2) hb n (Nat.le_refl _)
    have s2 : rs R n = rs (fun i => (XU i).2) n * T := rs_mul (fun i hi => (hXU i hi).2.2.1.symm) n (Nat.le_refl _)
    have s3 : W = rs (fun i => (XU i).2 * (XU i).2) n * (T * T) := by
      rw [← hWW]
      refine rs_mul (fun i hi => ?_) n (Nat.le_refl _)
      have := (hXU i hi).2.2.1
      rw [← this]; grind
    have TTp : 0 < T * T := Rat.mul_pos hTpos hTpos
    have s4 := fun (j : Nat) (hj : j < n) => rs_one_le (f := fun i => (XU i).2 * (XU i).2) (n := n) (j := j) (fun i _ => sqr_nonneg _) n (Nat.le_refl _) hj
    generalize hA : rs (fun i => (XU i).2) n = A at *
    generalize hB : rs (fun i => (XU i).2 * (XU i).2) n = B at *
    have a1 : A ≤ 1 / 400 := Rat.le_of_mul_le_mul_right (c := T) (by grind) hTpos
    have a2 : -(1 / 400) ≤ A := Rat.le_of_mul_le_mul_right (c := T) (by grind) hTpos
    have b1 : B * (1 - 1 / 16384) ≤ (n : Rat) := Rat.le_of_mul_le_mul_right (c := T * T) (by grind) TTp
    have b2 : (n : Rat) ≤ B * (1 + 1 / 16384) := Rat.le_of_mul_le_mul_right (c := T * T) (by grind) TTp
    have hsq : ∀ i, i < n → (XU i).1 * (XU i).1 ≤ (XU i).2 * (XU i).2 + 1 / 20000 ∧ (XU i).2 * (XU i).2 ≤ (XU i).1 * (XU i).1 + 1 / 20000 := by
      intro i hi
      have g1 := s4 i hi
      obtain ⟨-, k1, -, k3, k4⟩ := hXU i hi
      have g2 := sq_near k1 (by grind) (by grind)
      have g3 := sqr_nonneg (XU i).2
      generalize (XU i).2 * (XU i).2 = uu at *
      generalize (XU i).1 * (XU i).1 = xx at *
      constructor <;> grind
    have s5 := rs_near (f := fun i => (XU i).1 * (XU i).1) (g := fun i => (XU i).2 * (XU i).2) hsq n (Nat.le_refl _)
    refine ⟨by grind, by grind, by grind, by grind⟩

end Go.Proofs.Ytkkomajokdlkeaa
