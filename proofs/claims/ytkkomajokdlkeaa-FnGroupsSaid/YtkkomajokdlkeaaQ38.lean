/- How far small series are apart; the nearest one of a list, straight and warped. Plain: no program. -/
import Derived.Test.YtkkomajokdlkeaaQ15
import Derived.Test.YtkkomajokdlkeaaQ22
import Derived.Test.YtkkomajokdlkeaaQ24
import Derived.Test.YtkkomajokdlkeaaQ33
import Derived.Test.YtkkomajokdlkeaaQ36
import Derived.Test.YtkkomajokdlkeaaQ37
namespace Go.Proofs.Ytkkomajokdlkeaa
set_option linter.unusedSimpArgs false
set_option linter.unusedVariables false
set_option maxRecDepth 100000
set_option maxHeartbeats 4000000
open Go.RowKit
theorem QV.uniq {f : Ieee.Format} {c : Nat} {x y : Rat} (h1 : QV f c x) (h2 : QV f c y) : x = y := by
  obtain ⟨s, m, p, e1, rfl⟩ := h1
  obtain ⟨t, n, q, e2, rfl⟩ := h2
  rw [e1] at e2
  injection e2 with e3 e4 e5
  rw [e3, e4, e5]
theorem zero_qv : QV S 0 0 := by have := ev_zero.qv; rw [show ((0 : Int) : Rat) / 8 = 0 by decide +kernel] at this; exact this
theorem QV.fin {c : Nat} {x : Rat} (h : QV S c x) (h1 : -1000 ≤ x) (h2 : x ≤ 1000) : fin c = true := by
  obtain ⟨z, hz, n1, n2, -⟩ := subF_qv h h (by unfold big; grind) (by unfold big; grind)
  have e : z = 0 := by have := n1 (by grind); have := n2 (by grind); grind
  subst e
  show (S.order (subF c c) 0 == some .eq) = true
  rw [hz.order zero_qv, if_neg (by grind), if_pos rfl]; rfl
/-- Two small series. -/
structure Sm (n : Nat) (cs : List Nat) (X : Nat → Int) : Prop where
  len : cs.length = n
  at_ : ∀ i, i < n → Ev (cs.getD i 0) (X i) ∧ (X i).natAbs ≤ 32
theorem Sm.qv {n : Nat} {cs : List Nat} {X : Nat → Int} (h : Sm n cs X) {i : Nat} (hi : i < n) : QV S (cs.getD i 0) ((X i : Rat) / 8) ∧ -4 ≤ (X i : Rat) / 8 ∧ (X i : Rat) / 8 ≤ 4 := by
  obtain ⟨h1, h2⟩ := h.at_ i hi
  have a1 : (-32 : Rat) ≤ (X i : Rat) := Rat.intCast_le_intCast.2 (show (-32 : Int) ≤ X i by omega)
  have a2 : (X i : Rat) ≤ 32 := Rat.intCast_le_intCast.2 (show X i ≤ (32 : Int) by omega)
  exact ⟨h1.qv, by grind, by grind⟩
theorem sm_of {L : List Nat} (h : ∀ c ∈ L, isQ c) {n : Nat} (hn : L.length = n) : ∃ X, Sm n L X := by
  obtain ⟨q, h1, h2⟩ := isQ_get h
  refine ⟨fun i => 2 * q i, hn, fun i hi => ?_⟩
  rw [h2 i (by omega)]
  exact ⟨qz_ev (h1 i).1 (h1 i).2, by have := h1 i; omega⟩
theorem Sm.allFin {n : Nat} {cs : List Nat} {X : Nat → Int} (h : Sm n cs X) : allFin cs = true := by
  show cs.all fin = true
  rw [List.all_eq_true]
  intro c hc
  obtain ⟨i, hi, rfl⟩ := List.getElem_of_mem hc
  have := (h.at_ i (by have := h.len; omega)).1.fin
  rw [List.getD_eq_getElem?_getD, List.getElem?_eq_getElem hi] at this
  exact this
theorem Sm.series {n : Nat} {cs : List Nat} {X : Nat → Int} (h : Sm n cs X) (h1 : 1 ≤ n) (h2 : n ≤ 96) : series cs = true := by
  have := h.len
  show (decide _ && decide _ && _) = true
  rw [decide_eq_true (by omega), decide_eq_true (by omega), h.allFin]; rfl
theorem Sm.two {n : Nat} {cs ds : List Nat} {X Y : Nat → Int} (h : Sm n cs X) (g : Sm n ds Y) (h1 : 1 ≤ n) (h2 : n ≤ 96) : twoOk cs ds = true :=
  two_iff.2 ⟨h.series h1 h2, g.series h1 h2, by rw [h.len, g.len]⟩
theorem Sm.wn {n : Nat} {cs ds : List Nat} {X Y : Nat → Int} (h : Sm n cs X) (g : Sm n ds Y) (h1 : 1 ≤ n) (h2 : n ≤ 10) : Wn cs ds X Y :=
  ⟨fun i hi => h.at_ i (by have := h.len; omega), fun i hi => g.at_ i (by have := g.len; omega), by have := h.len; omega, by have := g.len; omega⟩
theorem sqs_zero {f : Nat → Nat} {n : Nat} (h : ∀ i, i < n → QV S (f i) 0) : ∀ k, k ≤ n → QV S (sqsL f k) 0
  | 0, _ => zero_qv
  | k + 1, hk => by
    have ih := sqs_zero h k (by omega)
    have hf := h k (by omega)
    obtain ⟨p, hp, p1, p2, -⟩ := mulF_qv hf hf (by decide +kernel) (by decide +kernel)
    have e : p = 0 := by have := p1 (by grind); have := p2 (by grind); grind
    subst e
    obtain ⟨z, hz, z1, z2, -⟩ := addF_qv ih hp (by decide +kernel) (by decide +kernel)
    have e : z = 0 := by have := z1 (by grind); have := z2 (by grind); grind
    subst e
    exact hz
/-- How far two are apart: a number; 0 of one to itself. -/
theorem Sm.far {n : Nat} {cs ds : List Nat} {X Y : Nat → Int} (h : Sm n cs X) (g : Sm n ds Y) (h2 : n ≤ 9) : ∃ F, QV S (farL cs ds) F ∧ 0 ≤ F ∧ F ≤ 1000 ∧ ((∀ i, i < n → X i = Y i) → F = 0) := by
  have hr : ∀ i, ∃ r : Rat, i < n → QV S (subF (cs.getD i 0) (ds.getD i 0)) r ∧ -9 ≤ r ∧ r ≤ 9 ∧ (X i = Y i → r = 0) := by
    intro i
    by_cases hi : i < n
    · obtain ⟨a1, a2, a3⟩ := h.qv hi
      obtain ⟨b1, b2, b3⟩ := g.qv hi
      obtain ⟨r, r1, n1, n2, r2⟩ := subF_qv a1 b1 (by unfold big; grind) (by unfold big; grind)
      have r3 := r2 8 (by grind) (by grind)
      refine ⟨r, fun _ => ⟨r1, by grind, by grind, fun e => ?_⟩⟩
      rw [e] at n1 n2
      have := n1 (by grind)
      have := n2 (by grind)
      grind
    · exact ⟨0, fun h => absurd h hi⟩
  obtain ⟨R, hR⟩ := Classical.skolem.1 hr
  obtain ⟨w1, V, hV, v0, v1, v2⟩ := sqs_all (f := fun i => subF (cs.getD i 0) (ds.getD i 0)) h2 (fun i hi => ⟨(hR i hi).1, (hR i hi).2.1, (hR i hi).2.2.1⟩) n (Nat.le_refl _)
  have hn9 := cast_le9 h2
  have hw := rs_nonneg (f := fun i => R i * R i) (n := n) (fun i _ => sqr_nonneg _) n (Nat.le_refl _)
  have hk9a := Rat.mul_le_mul_of_nonneg_left hn9.2 hw
  obtain ⟨F, hF, f0, f1, f2, f3, f4⟩ := rootF_qv hV v0 (by grind)
  rw [show rootF (sqsL (fun i => subF (cs.getD i 0) (ds.getD i 0)) n) = farL cs ds by rw [farL, h.len]] at hF
  refine ⟨F, hF, f1, ?_, fun he => ?_⟩
  · refine sq_le_of (by grind) ?_
    grind
  · have hz := sqs_zero (f := fun i => subF (cs.getD i 0) (ds.getD i 0)) (n := n) (fun i hi => by
      have := (hR i hi).2.2.2 (he i hi)
      have h5 := (hR i hi).1
      rw [this] at h5; exact h5) n (Nat.le_refl _)
    exact f0 (hV.uniq hz)
theorem QV.lss {a b : Nat} {x y : Rat} (ha : QV S a x) (hb : QV S b y) : fc .lss .f32 a b = decide (x < y) := by
  show (S.order a b == some .lt) = _
  rw [ha.order hb]
  by_cases h : x < y
  · rw [if_pos h, decide_eq_true h]; rfl
  · rw [if_neg h, decide_eq_false h]; split <;> rfl
/-- A list of three. -/
structure Sm3 (n : Nat) (css : List (List Nat)) (X : Nat → Nat → Int) : Prop where
  len : css.length = 3
  row : ∀ k, k < 3 → Sm n (rowL css k) (X k)
theorem Sm3.listOk {n : Nat} {css : List (List Nat)} {X : Nat → Nat → Int} (h : Sm3 n css X) (h1 : 1 ≤ n) (h2 : n ≤ 96) : listOk css = true := by
  have hl := h.len
  refine listOk_of (by show (decide _ && decide _) = true; rw [decide_eq_true (by omega), decide_eq_true (by omega)]; rfl) fun i hi => ?_
  exact ⟨(h.row i (by omega)).series h1 h2, by rw [(h.row i (by omega)).len, show headL css = rowL css 0 from rfl, (h.row 0 (by omega)).len]⟩
theorem ns_at {css : List (List Nat)} {x : List Nat} {F : Nat → Rat} {n : Nat} (hF : ∀ i, i < n → QV S (farL (rowL css i) x) (F i)) : ∀ k, k + 1 ≤ n → ∃ j : Nat, j ≤ k ∧ nsAt css x (k + 1) = ((j : Int), farL (rowL css j) x) ∧ (∀ i, i ≤ k → F j ≤ F i) ∧ ∀ i, i < j → F j < F i
  | 0, _ => ⟨0, Nat.le_refl _, nsAt_zero rfl, fun i hi => by rw [show i = 0 by omega]; grind, fun i hi => by omega⟩
  | k + 1, hk => by
    obtain ⟨j, j1, j2, j3, j4⟩ := ns_at hF k (by omega)
    have hl := (hF (k + 1) (by omega)).lss (hF j (by omega))
    by_cases h : F (k + 1) < F j
    · rw [decide_eq_true h] at hl
      refine ⟨k + 1, Nat.le_refl _, nsAt_less (by omega) (by rw [j2]; exact hl), fun i hi => ?_, fun i hi => ?_⟩
      · by_cases e : i = k + 1
        · subst e; grind
        · have := j3 i (by omega); grind
      · have := j3 i (by omega); grind
    · rw [decide_eq_false h] at hl
      refine ⟨j, by omega, by rw [nsAt_not (by omega) (by rw [j2]; exact hl), j2], fun i hi => ?_, j4⟩
      by_cases e : i = k + 1
      · subst e; grind
      · exact j3 i (by omega)
theorem nsFin_all {css : List (List Nat)} {x : List Nat} {n : Nat} (h : ∀ i, i < n → fin (farL (rowL css i) x) = true) : ∀ k, k ≤ n → nsFin css x k = true
  | 0, _ => rfl
  | k + 1, hk => nsFin_snoc (nsFin_all h k (by omega)) (h k (by omega))
/-- The nearest one to one of the list. -/
theorem Sm3.near {n : Nat} {css : List (List Nat)} {X : Nat → Nat → Int} (h : Sm3 n css X) (h1 : 1 ≤ n) (h2 : n ≤ 9) {p : Nat} (hp : p < 3) :
    ∃ j : Nat, j ≤ p ∧ nsQ css (rowL css p) = ((j : Int), farL (rowL css j) (rowL css p), true) ∧ QV S (farL (rowL css j) (rowL css p)) 0 ∧ farQ (rowL css j) (rowL css p) = (farL (rowL css j) (rowL css p), true) := by
  have hf : ∀ i, ∃ F, i < 3 → QV S (farL (rowL css i) (rowL css p)) F ∧ 0 ≤ F ∧ F ≤ 1000 ∧ (i = p → F = 0) := by
    intro i
    by_cases hi : i < 3
    · obtain ⟨F, f1, f2, f3, f4⟩ := (h.row i hi).far (h.row p hp) h2
      exact ⟨F, fun _ => ⟨f1, f2, f3, fun e => f4 (fun j _ => by rw [e])⟩⟩
    · exact ⟨0, fun h => absurd h hi⟩
  obtain ⟨F, hF⟩ := Classical.skolem.1 hf
  obtain ⟨j, j1, j2, j3, j4⟩ := ns_at (n := 3) (fun i hi => (hF i hi).1) 2 (by omega)
  have f0 := (hF p hp).2.2.2 rfl
  have fj := (hF j (by omega)).2.1
  have ejz : F j = 0 := by have := j3 p (by omega); grind
  have hjp : j ≤ p := by
    rcases Nat.lt_or_ge p j with h5 | h5
    · have := j4 p h5; grind
    · exact h5
  have hall : nsFin css (rowL css p) css.length = true := by
    rw [h.len]
    exact nsFin_all (n := 3) (fun i hi => (hF i hi).1.fin (by have := (hF i hi).2.1; grind) (hF i hi).2.2.1) 3 (Nat.le_refl _)
  have hz := (hF j (by omega)).1
  rw [ejz] at hz
  refine ⟨j, hjp, ?_, hz, ?_⟩
  · rw [nsQ_yes (by rw [h.listOk h1 (by omega), show headL css = rowL css 0 from rfl, (h.row p hp).two (h.row 0 (by omega)) h1 (by omega)]; rfl), nearL_yes hall, h.len, j2]
  · rw [farQ_two ((h.row j (by omega)).two (h.row p hp) h1 (by omega)), numB_yes (hz.fin (by decide +kernel) (by decide +kernel))]
theorem nw_least {f : Nat → Nat} {z : Nat → Int} {n : Nat} (hf : ∀ i, i < n → Ev (f i) (z i)) : ∀ k, k < n → (∀ i, i ≤ k → z (nwI f k) ≤ z i) ∧ ∀ i, i < nwI f k → z (nwI f k) < z i
  | 0, _ => ⟨fun i hi => by rw [show i = 0 by omega]; exact Int.le_refl _, fun i hi => by simp [nwI] at hi⟩
  | k + 1, hk => by
    obtain ⟨a1, a2⟩ := nw_least hf k (by omega)
    have hle := nwI_le f k
    have hl := (hf (k + 1) (by omega)).lss (hf (nwI f k) (by omega))
    rw [nwI]
    by_cases h : z (k + 1) < z (nwI f k)
    · rw [decide_eq_true h] at hl
      rw [if_pos hl]
      refine ⟨fun i hi => ?_, fun i hi => ?_⟩
      · by_cases e : i = k + 1
        · subst e; exact Int.le_refl _
        · have := a1 i (by omega); omega
      · have := a1 i (by omega); omega
    · rw [decide_eq_false h] at hl
      rw [if_neg (by rw [hl]; decide)]
      refine ⟨fun i hi => ?_, a2⟩
      by_cases e : i = k + 1
      · subst e; omega
      · exact a1 i (by omega)
/-- The nearest one by warped ways. -/
theorem Sm3.warp {n : Nat} {css : List (List Nat)} {X : Nat → Nat → Int} (h : Sm3 n css X) (h1 : 1 ≤ n) (h2 : n ≤ 9) {p : Nat} (hp : p < 3) {window : Int} (hw : 0 ≤ window) (hw2 : window ≤ 96) :
    ∃ f : Nat → Nat, (∀ i, i < css.length → wfarQ szI geI (rowL css i) (rowL css p) window = (f i, true)) ∧ nwI f (css.length - 1) ≤ p ∧ Ev (f (nwI f (css.length - 1))) 0 := by
  have hz : ∀ i, ∃ z : Nat × Int, i < 3 → wfarQ szI geI (rowL css i) (rowL css p) window = (z.1, true) ∧ Ev z.1 z.2 ∧ 0 ≤ z.2 ∧ (i = p → z.2 = 0) := by
    intro i
    by_cases hi : i < 3
    · obtain ⟨last, z, P, g1, g2, g3, g4, -⟩ := warped_all ((h.row i hi).wn (h.row p hp) h1 (by omega)) (h.row i hi).len (h.row p hp).len hw hw2
      refine ⟨(last, z), fun _ => ⟨g4, g1, g2, fun e => ?_⟩⟩
      subst e
      rw [sumD_self] at g3
      show z = 0
      omega
    · exact ⟨(0, 0), fun h => absurd h hi⟩
  obtain ⟨Z, hZ⟩ := Classical.skolem.1 hz
  obtain ⟨a1, a2⟩ := nw_least (f := fun i => (Z i).1) (z := fun i => (Z i).2) (n := 3) (fun i hi => (hZ i hi).2.1) 2 (by omega)
  have hle := nwI_le (fun i => (Z i).1) 2
  have z0 := (hZ p hp).2.2.2 rfl
  have zj := (hZ (nwI (fun i => (Z i).1) 2) (by omega)).2.2.1
  have e0 : (Z (nwI (fun i => (Z i).1) 2)).2 = 0 := by
    have := a1 p (by omega)
    omega
  refine ⟨fun i => (Z i).1, fun i hi => (hZ i (by have := h.len; omega)).1, ?_, ?_⟩
  · rw [h.len]
    rcases Nat.lt_or_ge p (nwI (fun i => (Z i).1) (3 - 1)) with h5 | h5
    · have := a2 p h5
      omega
    · exact h5
  · rw [h.len]
    have := (hZ (nwI (fun i => (Z i).1) 2) (by omega)).2.1
    rw [e0] at this
    exact this
theorem sqs_congr {f g : Nat → Nat} (h : ∀ i, mulF (f i) (f i) = mulF (g i) (g i)) : ∀ k, sqsL f k = sqsL g k
  | 0 => rfl
  | k + 1 => by rw [sqsL, sqsL, sqs_congr h k, h k]
/-- As far there as back. -/
theorem far_back {cs ds : List Nat} (h : cs.length = ds.length) : farL cs ds = farL ds cs := by
  rw [farL, farL, h, sqs_congr (fun i => sq_sub (cs.getD i 0) (ds.getD i 0))]
/-! The law's own sums in float64. -/
theorem Ew.qv {c : Nat} {x : Int} (h : Ew c x) : QV D c ((x : Rat) / 8) := by
  obtain ⟨-, s, k, h1, h2⟩ := h
  refine ⟨s, _, _, h1, ?_⟩
  have e : ((x.natAbs * 2 ^ k : Nat) : Rat) * pw (-3 - (k : Int)) = ((x.natAbs : Nat) : Rat) * pw (-3) := by
    rw [Rat.natCast_mul, ← pw_nat, Rat.mul_assoc, ← pw_add]; congr 2; omega
  rw [e, int_sg x s h2]
  rw [show pw (-3) = 1 / 8 by decide +kernel]; grind
theorem f64_all : ∀ i : Fin 20, ewB (floatOfInt .f64 (i.val : Int)) (8 * (i.val : Int)) = true := by decide +kernel
theorem f64_qv {n : Nat} (h : n < 20) : QV D (floatOfInt .f64 (n : Int)) (n : Rat) := by
  have := (ew_of (f64_all ⟨n, h⟩)).qv
  rw [Rat.intCast_mul, c8i, Rat.intCast_natCast] at this
  have e : (8 * (n : Rat)) / 8 = (n : Rat) := by grind
  rw [e] at this
  exact this
theorem zeroD_qv : QV D 0 0 := by have := ew_zero.qv; rw [show ((0 : Int) : Rat) / 8 = 0 by decide +kernel] at this; exact this
/-- Next to, within so many millionths. -/
def Mn (κ A x : Rat) : Prop := x ≤ A + κ / 1000000 ∧ A ≤ x + κ / 1000000
theorem sumD_step {s c : Nat} {x X A κ : Rat} (hs : QV D s x) (hc : QV S c X) (h1 : -1000 ≤ X) (h2 : X ≤ 1000) (h3 : -10000 ≤ A) (h4 : A ≤ 10000) (hk : 0 ≤ κ) (hk9 : κ ≤ 9) (hx : Mn κ A x) :
    ∃ y, QV D (ar .add .f64 s (wd c)) y ∧ Mn (κ + 1) (A + X) y := by
  obtain ⟨x1, x2⟩ := hx
  obtain ⟨w, hw, -, -, hw2⟩ := wd_qv hc (by unfold big; grind) (by unfold big; grind)
  have hw3 := hw2 1000 (by grind) (by grind)
  obtain ⟨y, hy, -, -, hy2⟩ := addD_qv hs hw (by unfold big; grind) (by unfold big; grind)
  have hy3 := hy2 20000 (by grind) (by grind)
  exact ⟨y, hy, by grind, by grind⟩
theorem sqD_step {s c : Nat} {x X A κ : Rat} (hs : QV D s x) (hc : QV S c X) (h1 : -1000 ≤ X) (h2 : X ≤ 1000) (h3 : 0 ≤ A) (h4 : A ≤ 10000) (hk : 0 ≤ κ) (hk9 : κ ≤ 9) (hx : Mn κ A x) :
    ∃ y, QV D (ar .add .f64 s (ar .mul .f64 (wd c) (wd c))) y ∧ Mn (κ + 1) (A + X * X) y := by
  obtain ⟨x1, x2⟩ := hx
  obtain ⟨w, hw, -, -, hw2⟩ := wd_qv hc (by unfold big; grind) (by unfold big; grind)
  have hw3 := hw2 1000 (by grind) (by grind)
  have hX0 := sqr_nonneg X
  have hX1 : X * X ≤ 1000000 := by
    have := Rat.mul_nonneg (show 0 ≤ 1000 - X by grind) (show 0 ≤ 1000 + X by grind)
    grind
  obtain ⟨d, hd⟩ : ∃ d, d = w - X := ⟨_, rfl⟩
  have d1 : -(1 / 1000000000000) ≤ d := by grind
  have d2 : d ≤ 1 / 1000000000000 := by grind
  have hww : w * w = X * X + 2 * (X * d) + d * d := by rw [show w = X + d by grind]; grind
  have a1 := Rat.mul_nonneg (show 0 ≤ 1000 - X by grind) (show 0 ≤ 1 / 1000000000000 - d by grind)
  have a2 := Rat.mul_nonneg (show 0 ≤ 1000 - X by grind) (show 0 ≤ 1 / 1000000000000 + d by grind)
  have a3 := Rat.mul_nonneg (show 0 ≤ 1000 + X by grind) (show 0 ≤ 1 / 1000000000000 - d by grind)
  have a4 := Rat.mul_nonneg (show 0 ≤ 1000 + X by grind) (show 0 ≤ 1 / 1000000000000 + d by grind)
  have a5 := sqr_nonneg d
  have a6 := Rat.mul_nonneg (show 0 ≤ 1 / 1000000000000 - d by grind) (show 0 ≤ 1 / 1000000000000 + d by grind)
  have b1 : w * w ≤ X * X + 1 / 100000000 := by grind
  have b2 : X * X ≤ w * w + 1 / 100000000 := by grind
  obtain ⟨p, hp, -, -, hp2⟩ := mulD_qv hw hw (by unfold big; grind) (by unfold big; grind)
  have hp3 := hp2 1000001 (by grind) (by grind)
  obtain ⟨y, hy, -, -, hy2⟩ := addD_qv hs hp (by unfold big; grind) (by unfold big; grind)
  have hy3 := hy2 2000000 (by grind) (by grind)
  exact ⟨y, hy, by grind, by grind⟩
theorem QV.lssD {a b : Nat} {x y : Rat} (ha : QV D a x) (hb : QV D b y) : fc .lss .f64 a b = decide (x < y) := by
  show (D.order a b == some .lt) = _
  rw [ha.order hb]
  by_cases h : x < y
  · rw [if_pos h, decide_eq_true h]; rfl
  · rw [if_neg h, decide_eq_false h]; split <;> rfl
theorem QV.gapD {a b : Nat} {x y : Rat} (ha : QV D a x) (hb : QV D b y) (h1 : -1000000 ≤ x - y) (h2 : x - y ≤ 1000000) : ∃ g, QV D (gapF a b) g ∧ 0 ≤ g ∧ (x - y ≤ g + 1 / 1000000 ∧ y - x ≤ g + 1 / 1000000) ∧ (g ≤ x - y + 1 / 1000000 ∨ g ≤ y - x + 1 / 1000000) := by
  unfold gapF
  rw [ha.lssD hb]
  by_cases h : x < y
  · rw [decide_eq_true h, if_pos rfl]
    obtain ⟨g, hg, g1, -, g2⟩ := subD_qv hb ha (by unfold big; grind) (by unfold big; grind)
    have g3 := g2 1000000 (by grind) (by grind)
    have g4 := g1 (by grind)
    exact ⟨g, hg, g4, by grind, .inr (by grind)⟩
  · rw [decide_eq_false h, if_neg (by decide)]
    obtain ⟨g, hg, g1, -, g2⟩ := subD_qv ha hb (by unfold big; grind) (by unfold big; grind)
    have g3 := g2 1000000 (by grind) (by grind)
    have g4 := g1 (by grind)
    exact ⟨g, hg, g4, by grind, .inl (by grind)⟩
/-- 0.01. -/
def kC : Nat := 4576918229304087675
theorem kC_qv : ∃ x, QV D kC x ∧ 99 / 10000 ≤ x ∧ x ≤ 101 / 10000 := by
  refine ⟨_, ⟨false, 5764607523034235, -59, by decide +kernel, rfl⟩, by decide +kernel, by decide +kernel⟩
/-- A gap is less than a hundredth of n. -/
theorem gap_hundredth {a b n : Nat} {x y : Rat} (ha : QV D a x) (hb : QV D b y) (hn : 2 ≤ n) (hn9 : n ≤ 9) (h1 : x ≤ y + 1 / 70) (h2 : y ≤ x + 1 / 70) : fc .lss .f64 (gapF a b) (ar .mul .f64 kC (floatOfInt .f64 (n : Int))) = true ∧ (D.read (gapF a b)).isNaN = false ∧ (D.read (ar .mul .f64 kC (floatOfInt .f64 (n : Int)))).isNaN = false := by
  obtain ⟨g, hg, g1, g2, g3⟩ := ha.gapD hb (by grind) (by grind)
  obtain ⟨k, hk, k1, k2⟩ := kC_qv
  have hf := f64_qv (n := n) (by omega)
  have n2 : (2 : Rat) ≤ (n : Rat) := Rat.natCast_le_natCast.2 hn
  have n9 : (n : Rat) ≤ 9 := Rat.natCast_le_natCast.2 hn9
  have m1 := Rat.mul_le_mul_of_nonneg_left n2 (show 0 ≤ k by grind)
  have m2 := Rat.mul_le_mul_of_nonneg_left n9 (show 0 ≤ k by grind)
  obtain ⟨z, hz, -, -, z1⟩ := mulD_qv hk hf (by unfold big; grind) (by unfold big; grind)
  have z2 := z1 1 (by grind) (by grind)
  refine ⟨?_, hg.notNaN, hz.notNaN⟩
  rw [hg.lssD hz, decide_eq_true]
  grind
theorem rs_size {f : Nat → Rat} {n : Nat} (h : ∀ i, i < n → -1000 ≤ f i ∧ f i ≤ 1000) : ∀ k, k ≤ n → -(1000 * (k : Rat)) ≤ rs f k ∧ rs f k ≤ 1000 * (k : Rat)
  | 0, _ => by unfold rs; have : ((0 : Nat) : Rat) = 0 := rfl
               rw [this]; grind
  | k + 1, hk => by
    have ih := rs_size h k (by omega)
    have := h k (by omega)
    unfold rs
    rw [cast_succ]
    grind
theorem rs_mono {f : Nat → Rat} {n : Nat} (h : ∀ i, i < n → 0 ≤ f i) {k : Nat} (hk : k ≤ n) : rs f k ≤ rs f n := by
  induction n with
  | zero => rw [show k = 0 by omega]; grind
  | succ n ih =>
    by_cases e : k = n + 1
    · subst e; grind
    · have h1 := ih (fun i hi => h i (by omega)) (by omega)
      have h2 := h n (by omega)
      show _ ≤ rs f n + f n
      grind
theorem QV.cnD {c : Nat} {x : Rat} (h : QV D c x) : cn .f64 c = c := cn_of_not (k := .f64) h.notNaN
theorem mn_zero : Mn ((0 : Nat) : Rat) 0 0 := by constructor <;> decide +kernel
theorem sqw_qv {c : Nat} {X : Rat} (hc : QV S c X) (h1 : -1000 ≤ X) (h2 : X ≤ 1000) : (∃ w, QV D (wd c) w) ∧ ∃ p, QV D (ar .mul .f64 (wd c) (wd c)) p := by
  obtain ⟨w, hw, -, -, hw2⟩ := wd_qv hc (by unfold big; grind) (by unfold big; grind)
  have hw3 := hw2 1000 (by grind) (by grind)
  have a1 := Rat.mul_nonneg (show 0 ≤ 1001 - w by grind) (show 0 ≤ 1001 + w by grind)
  have a2 := sqr_nonneg w
  obtain ⟨p, hp, -⟩ := mulD_qv hw hw (by unfold big; grind) (by unfold big; grind)
  exact ⟨⟨w, hw⟩, p, hp⟩

end Go.Proofs.Ytkkomajokdlkeaa

namespace Go.Proofs.Ytkkomajokdlkeaa
set_option linter.unusedSimpArgs false
set_option linter.unusedVariables false
set_option maxRecDepth 100000
set_option maxHeartbeats 4000000
open Go.RowKit
/-- The cuts -2, -1, 0, 1, 2. -/
def cuL : List Nat := [3221225472, 3212836864, 0, 1065353216, 1073741824]
theorem cuL_ok : cutsOk cuL = true := by decide +kernel
theorem one_all : ∀ i : Fin 33, divF (addF 0 (q4 ((i.val : Int) - 16))) (fI 1) = q4 ((i.val : Int) - 16) := by decide +kernel
theorem one_mean {x : Int} (h1 : -16 ≤ x) (h2 : x ≤ 16) : meanL [q4 x] = q4 x := by
  have h := one_all ⟨(x + 16).toNat, by omega⟩
  have e : (((x + 16).toNat : Nat) : Int) - 16 = x := by omega
  simp only [e] at h
  exact h
/-- Parts of one element: the series itself. -/
theorem parts_self {L : List Nat} (h : ∀ c ∈ L, isQ c) {n : Nat} (hn : L.length = n) (h1 : 1 ≤ n) (h2 : n ≤ 96) : partsQ L (n : Int) = (L, true) := by
  obtain ⟨X, hX⟩ := sm_of h hn
  have hse := hX.series h1 h2
  have hpm : pmL L n n = L := by
    refine List.ext_getElem (by rw [pmL_length, hn]) fun i hi1 hi2 => ?_
    have hi : i < n := by rw [pmL_length] at hi1; exact hi1
    have e1 : i * n / n = i := Nat.mul_div_cancel _ (by omega)
    have e2 : (i + 1) * n / n = i + 1 := Nat.mul_div_cancel _ (by omega)
    have hp : partL L n i = [L[i]] := by
      rw [partL, hn, e1, e2, show i + 1 - i = 1 by omega, List.drop_eq_getElem_cons hi2]; rfl
    obtain ⟨x, x1, x2, x3⟩ := h L[i] (List.getElem_mem hi2)
    simp only [pmL, List.getElem_map, List.getElem_range]
    rw [hp, x3, one_mean x1 x2]
  have hin : inB (n : Int) 1 L.length = true := by rw [hn]; exact (inB_iff _ _ _).2 ⟨by omega, by omega⟩
  rw [partsQ, hse, hin, Int.toNat_natCast, hpm, given, hX.allFin]
  rfl
theorem signs_self {L : List Nat} (h : ∀ c ∈ L, isQ c) {n : Nat} (hn : L.length = n) (h1 : 1 ≤ n) (h2 : n ≤ 96) : signsQ L (n : Int) cuL = (cntL L cuL n, true) := by
  rw [signsQ, parts_self h hn h1 h2, cuL_ok, hn]; rfl
def sqB (x y : Int) : Bool := match S.read (sfD cuL (cnt cuL (q4 x) 5 : Int) (cnt cuL (q4 y) 5 : Int)) with
  | .number _ m p => decide (-149 ≤ p) && decide (p ≤ 0) && decide (m * 4 ≤ (x - y).natAbs * 2 ^ (-p).toNat)
  | _ => false
set_option maxRecDepth 100000 in
theorem sq_all : ∀ i : Fin 33, ∀ k : Fin 33, sqB ((i.val : Int) - 16) ((k.val : Int) - 16) = true := by decide +kernel
/-- Two signs are no farther apart than the numbers. -/
theorem sq_less {x y : Int} (h1 : -16 ≤ x) (h2 : x ≤ 16) (h3 : -16 ≤ y) (h4 : y ≤ 16) : ∃ d, QV S (sfD cuL (cnt cuL (q4 x) 5 : Int) (cnt cuL (q4 y) 5 : Int)) d ∧ d * d ≤ ((x : Rat) / 4 - (y : Rat) / 4) * ((x : Rat) / 4 - (y : Rat) / 4) ∧ -8 ≤ d ∧ d ≤ 8 := by
  have h := sq_all ⟨(x + 16).toNat, by omega⟩ ⟨(y + 16).toNat, by omega⟩
  have e1 : (((x + 16).toNat : Nat) : Int) - 16 = x := by omega
  have e2 : (((y + 16).toNat : Nat) : Int) - 16 = y := by omega
  simp only [e1, e2] at h
  unfold sqB at h
  split at h
  · rename_i s m p hr
    simp only [Bool.and_eq_true, decide_eq_true_eq] at h
    obtain ⟨⟨h5, h6⟩, h7⟩ := h
    refine ⟨sg s ((m : Rat) * pw p), ⟨s, m, p, hr, rfl⟩, ?_⟩
    have hm0 : 0 ≤ (m : Rat) * pw p := Rat.mul_nonneg Rat.natCast_nonneg (Rat.le_of_lt (pw_pos p))
    have hle : (m : Rat) * pw p * 4 ≤ (((x - y).natAbs : Nat) : Rat) := by
      have g1 : ((m * 4 : Nat) : Rat) ≤ (((x - y).natAbs * 2 ^ (-p).toNat : Nat) : Rat) := Rat.natCast_le_natCast.2 h7
      have g2 := Rat.mul_le_mul_of_nonneg_right g1 (Rat.le_of_lt (pw_pos p))
      rw [Rat.natCast_mul, Rat.natCast_mul (x - y).natAbs, ← pw_nat, Rat.mul_assoc (((x - y).natAbs : Nat) : Rat), ← pw_add, show (((-p).toNat : Nat) : Int) + p = 0 by omega, pw_zero] at g2
      have c4 : ((4 : Nat) : Rat) = 4 := rfl
      rw [c4] at g2
      grind
    obtain ⟨A, hA⟩ : ∃ A : Rat, A = (((x - y).natAbs : Nat) : Rat) := ⟨_, rfl⟩
    have hAd : (x : Rat) - (y : Rat) = A ∨ (x : Rat) - (y : Rat) = -A := by
      rw [hA, ← Rat.intCast_natCast, ← Rat.intCast_sub]
      rcases Int.le_total 0 (x - y) with g | g
      · left; congr 1; omega
      · right; rw [← Rat.intCast_neg]; congr 1; omega
    have hA32 : A ≤ 32 := by rw [hA]; exact Rat.natCast_le_natCast.2 (show (x - y).natAbs ≤ 32 by omega)
    rw [← hA] at hle
    generalize (m : Rat) * pw p = v at *
    have hv2 : v * v ≤ A / 4 * (A / 4) := by
      have a1 := Rat.mul_le_mul_of_nonneg_left (show v ≤ A / 4 by grind) hm0
      have a2 := Rat.mul_le_mul_of_nonneg_right (show v ≤ A / 4 by grind) (show 0 ≤ A / 4 by grind)
      grind
    have hsq : ((x : Rat) / 4 - (y : Rat) / 4) * ((x : Rat) / 4 - (y : Rat) / 4) = A / 4 * (A / 4) := by
      rcases hAd with g | g
      · rw [show (x : Rat) / 4 - (y : Rat) / 4 = A / 4 by grind]
      · rw [show (x : Rat) / 4 - (y : Rat) / 4 = -(A / 4) by grind]; grind
    rw [hsq]
    unfold sg
    cases s
    · simp only [Bool.false_eq_true, if_false]
      exact ⟨hv2, by grind, by grind⟩
    · simp only [if_true]
      exact ⟨by grind, by grind, by grind⟩
  · cases h
theorem sfAt_sqs (cuts : List Nat) (al bl : List Int) : ∀ n, sfAt cuts al bl n = sqsL (fun i => sfD cuts (al.getD i 0) (bl.getD i 0)) n
  | 0 => rfl
  | n + 1 => by rw [sfAt, sqsL, sfAt_sqs cuts al bl n]
theorem rs_le {f g : Nat → Rat} {n : Nat} (h : ∀ i, i < n → f i ≤ g i) : ∀ k, k ≤ n → rs f k ≤ rs g k
  | 0, _ => by unfold rs; grind
  | k + 1, hk => by
    have ih := rs_le h k (by omega)
    have := h k (by omega)
    unfold rs
    grind
theorem cntL_get (ms : List Nat) {n i : Nat} (h : i < n) : (cntL ms cuL n).getD i 0 = (cnt cuL (ms.getD i 0) 5 : Int) := by
  simp [cntL, List.getD_eq_getElem?_getD, List.getElem?_map, List.getElem?_range h, cuL]
/-- Signs are nearer. -/
theorem near_far {L M : List Nat} (hL : ∀ c ∈ L, isQ c) (hM : ∀ c ∈ M, isQ c) {n : Nat} (hnL : L.length = n) (hnM : M.length = n) (h1 : 1 ≤ n) (h6 : n ≤ 6) :
    ∃ N F : Rat, sfQ (cntL L cuL n) (cntL M cuL n) cuL = (rootF (sfAt cuL (cntL L cuL n) (cntL M cuL n) n), true) ∧ QV S (rootF (sfAt cuL (cntL L cuL n) (cntL M cuL n) n)) N ∧ QV S (farL L M) F ∧ 0 ≤ N ∧ N ≤ 100 ∧ 0 ≤ F ∧ F ≤ 100 ∧ N ≤ F + 1 / 2000 := by
  obtain ⟨q, q1, q2⟩ := isQ_get hL
  obtain ⟨u, u1, u2⟩ := isQ_get hM
  have hd : ∀ i, ∃ d : Rat, i < n → QV S (sfD cuL ((cntL L cuL n).getD i 0) ((cntL M cuL n).getD i 0)) d ∧ -9 ≤ d ∧ d ≤ 9 ∧ d * d ≤ ((q i : Rat) / 4 - (u i : Rat) / 4) * ((q i : Rat) / 4 - (u i : Rat) / 4) := by
    intro i
    by_cases hi : i < n
    · obtain ⟨d, d1, d2, d3, d4⟩ := sq_less (q1 i).1 (q1 i).2 (u1 i).1 (u1 i).2
      refine ⟨d, fun _ => ⟨?_, by grind, by grind, d2⟩⟩
      rw [cntL_get _ hi, cntL_get _ hi, q2 i (by omega), u2 i (by omega)]
      exact d1
    · exact ⟨0, fun h => absurd h hi⟩
  obtain ⟨d, hd⟩ := Classical.skolem.1 hd
  obtain ⟨w1, V1, hV1, v10, v11, v12⟩ := sqs_all (f := fun i => sfD cuL ((cntL L cuL n).getD i 0) ((cntL M cuL n).getD i 0)) (n := n) (by omega) (fun i hi => ⟨(hd i hi).1, (hd i hi).2.1, (hd i hi).2.2.1⟩) n (Nat.le_refl _)
  have hr : ∀ i, i < n → QV S (subF (L.getD i 0) (M.getD i 0)) ((q i : Rat) / 4 - (u i : Rat) / 4) ∧ -9 ≤ (q i : Rat) / 4 - (u i : Rat) / 4 ∧ (q i : Rat) / 4 - (u i : Rat) / 4 ≤ 9 := by
    intro i hi
    have g1 := q1 i
    have g2 := u1 i
    have hs := ((qz_ev g1.1 g1.2).sub (qz_ev g2.1 g2.2) (by omega)).qv
    rw [← q2 i (by omega), ← u2 i (by omega), Rat.intCast_sub, Rat.intCast_mul, Rat.intCast_mul, c2i] at hs
    have a1 : (-16 : Rat) ≤ (q i : Rat) := Rat.intCast_le_intCast.2 g1.1
    have a2 : (q i : Rat) ≤ 16 := Rat.intCast_le_intCast.2 g1.2
    have a3 : (-16 : Rat) ≤ (u i : Rat) := Rat.intCast_le_intCast.2 g2.1
    have a4 : (u i : Rat) ≤ 16 := Rat.intCast_le_intCast.2 g2.2
    have e : (2 * (q i : Rat) - 2 * (u i : Rat)) / 8 = (q i : Rat) / 4 - (u i : Rat) / 4 := by grind
    rw [e] at hs
    exact ⟨hs, by grind, by grind⟩
  obtain ⟨w2, V2, hV2, v20, v21, v22⟩ := sqs_all (f := fun i => subF (L.getD i 0) (M.getD i 0)) (R := fun i => (q i : Rat) / 4 - (u i : Rat) / 4) (n := n) (by omega) hr n (Nat.le_refl _)
  have hW := rs_le (f := fun i => d i * d i) (g := fun i => ((q i : Rat) / 4 - (u i : Rat) / 4) * ((q i : Rat) / 4 - (u i : Rat) / 4)) (n := n) (fun i hi => (hd i hi).2.2.2) n (Nat.le_refl _)
  have hw0 := rs_nonneg (f := fun i => d i * d i) (n := n) (fun i _ => sqr_nonneg _) n (Nat.le_refl _)
  have hn6 : (n : Rat) ≤ 6 := Rat.natCast_le_natCast.2 h6
  have hn0 : (0 : Rat) ≤ (n : Rat) := Rat.natCast_nonneg
  generalize rs (fun i => d i * d i) n = W1 at *
  generalize rs (fun i => ((q i : Rat) / 4 - (u i : Rat) / 4) * ((q i : Rat) / 4 - (u i : Rat) / 4)) n = W2 at *
  have m1 := Rat.mul_le_mul_of_nonneg_left hn6 hw0
  have m2 := Rat.mul_le_mul_of_nonneg_left hn6 (show 0 ≤ W2 by grind)
  obtain ⟨N, hN, -, N0, -, N1, N2⟩ := rootF_qv hV1 v10 (by grind)
  obtain ⟨F, hF, -, F0, -, F1, F2⟩ := rootF_qv hV2 v20 (by grind)
  have hFL : rootF (sqsL (fun i => subF (L.getD i 0) (M.getD i 0)) n) = farL L M := by rw [farL, hnL]
  rw [hFL] at hF
  have hNL : rootF (sqsL (fun i => sfD cuL ((cntL L cuL n).getD i 0) ((cntL M cuL n).getD i 0)) n) = rootF (sfAt cuL (cntL L cuL n) (cntL M cuL n) n) := by rw [sfAt_sqs]
  rw [hNL] at hN
  have F80 : F ≤ 100 := sq_le_of (by decide) (by grind)
  have N80 : N ≤ 100 := sq_le_of (by decide) (by grind)
  have hNF : N * N ≤ F * F + F * F * (1 / 110000) + 1 / 1000000000 := by grind
  have FF := Rat.mul_le_mul_of_nonneg_left F80 F0
  have hle : N ≤ F + 1 / 2000 := by
    refine sq_le_of (by grind) ?_
    have e : (F + 1 / 2000) * (F + 1 / 2000) = F * F + F * (1 / 1000) + 1 / 4000000 := by grind
    rw [e]
    grind
  have hal : ∀ K : List Nat, allIn (cntL K cuL n) 0 5 = true := fun K => by
    unfold allIn
    rw [List.all_eq_true]
    intro x hx
    obtain ⟨i, hi, rfl⟩ := List.getElem_of_mem hx
    have := cnt_le cuL (K.getD i 0) 5
    refine (inB_iff _ _ _).2 ?_
    simp only [cntL, List.getElem_map, List.getElem_range]
    show 0 ≤ ((cnt cuL (K.getD i 0) 5 : Nat) : Int) ∧ ((cnt cuL (K.getD i 0) 5 : Nat) : Int) ≤ 5
    omega
  have hso : ∀ K : List Nat, signOk cuL.length (cntL K cuL n) = true := fun K => by
    show (decide _ && decide _ && allIn (cntL K cuL n) 0 5) = true
    rw [hal K, cntL_length, decide_eq_true h1, decide_eq_true (show n ≤ 96 by omega)]; rfl
  have hok : sfOk (cntL L cuL n) (cntL M cuL n) cuL = true := by
    show (cutsOk cuL && _ && _ && decide _) = true
    rw [cuL_ok, hso L, hso M, cntL_length, cntL_length, decide_eq_true rfl]; rfl
  refine ⟨N, F, ?_, hN, hF, N0, N80, F0, F80, hle⟩
  rw [sfQ_yes hok, cntL_length, numB_yes (hN.fin (by grind) (by grind))]
theorem kM_qv : ∃ x, QV D 4562254508917369340 x ∧ 9 / 10000 ≤ x ∧ x ≤ 11 / 10000 := by
  refine ⟨_, ⟨false, 4611686018427388, -62, by decide +kernel, rfl⟩, by decide +kernel, by decide +kernel⟩
/-- What is nearly no more is less than a thousandth more. -/
theorem wd_less {a b : Nat} {x y : Rat} (ha : QV S a x) (hb : QV S b y) (h0 : 0 ≤ x) (h1 : x ≤ 100) (h2 : 0 ≤ y) (h3 : y ≤ 100) (h : x ≤ y + 1 / 2000) : fc .lss .f64 (wd a) (ar .add .f64 (wd b) 4562254508917369340) = true ∧ (D.read (wd a)).isNaN = false ∧ (D.read (wd b)).isNaN = false ∧ (D.read (ar .add .f64 (wd b) 4562254508917369340)).isNaN = false := by
  obtain ⟨u, hu, -, -, u1⟩ := wd_qv ha (by unfold big; grind) (by unfold big; grind)
  obtain ⟨v, hv, -, -, v1⟩ := wd_qv hb (by unfold big; grind) (by unfold big; grind)
  obtain ⟨k, hk, k1, k2⟩ := kM_qv
  have u2 := u1 100 (by grind) (by grind)
  have v2 := v1 100 (by grind) (by grind)
  obtain ⟨z, hz, -, -, z1⟩ := addD_qv hv hk (by unfold big; grind) (by unfold big; grind)
  have z2 := z1 200 (by grind) (by grind)
  refine ⟨?_, hu.notNaN, hv.notNaN, hz.notNaN⟩
  rw [hu.lssD hz, decide_eq_true]
  grind

end Go.Proofs.Ytkkomajokdlkeaa
