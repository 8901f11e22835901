/- Warped ways of small eighths: reckoned by integers; what a way is. Plain (for FnWarped). -/
import Derived.Test.YtkkomajokdlkeaaQ22
import Derived.Test.YtkkomajokdlkeaaQ24
import Derived.Test.YtkkomajokdlkeaaQ28
namespace Go.Proofs.Ytkkomajokdlkeaa
set_option linter.unusedSimpArgs false
set_option linter.unusedVariables false
set_option maxRecDepth 100000
set_option maxHeartbeats 4000000
open Go.RowKit
theorem ev_neg1 : Ev neg1 (-8) := ev_of (by decide +kernel)
theorem Ev.uniq {c : Nat} {x y : Int} (h1 : Ev c x) (h2 : Ev c y) : x = y := by
  have h := h1.order h2
  have h3 := h1.order h1
  rw [h] at h3
  rw [cmpI, cmpI, if_neg (by omega : ¬ x < x), if_pos rfl] at h3
  split at h3
  · cases h3
  · split at h3
    · assumption
    · cases h3
theorem Ev.size {c : Nat} {x : Int} (h : Ev c x) : Ev (szI c) (x.natAbs : Int) := by
  have hn := h.neg
  have ho := h.order hn
  rw [cmpI] at ho
  unfold szI mx
  by_cases h1 : x < -x
  · rw [if_pos h1] at ho
    rw [ho]
    rw [show (x.natAbs : Int) = -x by omega]
    exact hn
  · rw [if_neg h1] at ho
    by_cases h2 : x = -x
    · rw [if_pos h2] at ho
      rw [ho]
      have h0 : x = 0 := by omega
      subst h0
      dsimp only
      split
      · simpa using hn
      · simpa using h
    · rw [if_neg h2] at ho
      rw [ho]
      rw [show (x.natAbs : Int) = x by omega]
      exact h
theorem Ev.ge {c : Nat} {x : Int} (h : Ev c x) : geI c = decide (0 ≤ x) := by
  unfold geI
  show (S.order c 0 == some .gt || S.order c 0 == some .eq) = _
  rw [h.order ev_zero, cmpI]
  by_cases h1 : x < 0
  · rw [if_pos h1, decide_eq_false (by omega)]; rfl
  · rw [if_neg h1, decide_eq_true (by omega)]
    split <;> rfl
/-- What is best is no more than what can be. -/
theorem wThree_min {C : List Nat} {wide : Nat} {i k : Int} (hE : ∀ n, n < 3 → ∃ z, Ev (wAt C wide (candI n i) (candK n k)) z) : ∀ n, n ≤ 3 → ∀ m, m < n → geI (wAt C wide (candI m i) (candK m k)) = true →
    ∃ b z y, wThree geI C wide i k n = some b ∧ Ev b.2 z ∧ Ev (wAt C wide (candI m i) (candK m k)) y ∧ z ≤ y
  | 0, _, m, hm, _ => by omega
  | n + 1, hn, m, hm, hg => by
    obtain ⟨x, hx⟩ := hE n (by omega)
    have hst : wThree geI C wide i k (n + 1) = wUpd (wThree geI C wide i k n) n (wVal geI C wide (candI n i) (candK n k)) := rfl
    by_cases hmn : m = n
    · subst hmn
      have hv : wVal geI C wide (candI m i) (candK m k) = some (wAt C wide (candI m i) (candK m k)) := by rw [wVal, if_pos hg]
      rw [hst, hv]
      cases ho : wThree geI C wide i k m with
      | none => exact ⟨_, x, x, rfl, hx, hx, Int.le_refl _⟩
      | some b0 =>
        obtain ⟨h1, h2, h3⟩ := wThree_some ho
        obtain ⟨z0, hz0⟩ := hE b0.1 (by omega)
        rw [← h2] at hz0
        show ∃ b z y, (if fc .lss .f32 _ b0.2 = true then _ else _) = _ ∧ _
        rw [hx.lss hz0]
        by_cases hl : x < z0
        · rw [if_pos (decide_eq_true hl)]; exact ⟨_, x, x, rfl, hx, hx, Int.le_refl _⟩
        · rw [if_neg (by rw [decide_eq_false hl]; decide)]; exact ⟨_, z0, x, rfl, hz0, hx, by omega⟩
    · obtain ⟨b, z, y, h1, h2, h3, h4⟩ := wThree_min hE n (by omega) m (by omega) hg
      rw [hst, h1]
      cases hgn : geI (wAt C wide (candI n i) (candK n k))
      · rw [show wVal geI C wide (candI n i) (candK n k) = none by rw [wVal, hgn]; rfl]
        exact ⟨b, z, y, rfl, h2, h3, h4⟩
      · rw [show wVal geI C wide (candI n i) (candK n k) = some (wAt C wide (candI n i) (candK n k)) by rw [wVal, if_pos hgn]]
        show ∃ b' z y, (if fc .lss .f32 _ b.2 = true then _ else _) = _ ∧ _
        rw [hx.lss h2]
        by_cases hl : x < z
        · rw [if_pos (decide_eq_true hl)]; exact ⟨_, x, y, rfl, hx, h3, by omega⟩
        · rw [if_neg (by rw [decide_eq_false hl]; decide)]; exact ⟨_, z, y, rfl, h2, h3, h4⟩
/-- The numbers and their eighths. -/
structure Wn (cs ds : List Nat) (A B : Nat → Int) : Prop where
  a : ∀ i, i < cs.length → Ev (cs.getD i 0) (A i) ∧ (A i).natAbs ≤ 32
  b : ∀ k, k < ds.length → Ev (ds.getD k 0) (B k) ∧ (B k).natAbs ≤ 32
  n : 1 ≤ cs.length ∧ cs.length ≤ 10
  m : 1 ≤ ds.length ∧ ds.length ≤ 10
def dI (A B : Nat → Int) (i k : Nat) : Int := ((A i - B k).natAbs : Int)
theorem Wn.d {cs ds : List Nat} {A B : Nat → Int} (h : Wn cs ds A B) {i k : Nat} (hi : i < cs.length) (hk : k < ds.length) : Ev (szI (subF (cs.getD i 0) (ds.getD k 0))) (dI A B i k) ∧ dI A B i k ≤ 64 ∧ 0 ≤ dI A B i k := by
  obtain ⟨a1, a2⟩ := h.a i hi
  obtain ⟨b1, b2⟩ := h.b k hk
  exact ⟨(a1.sub b1 (by omega)).size, by unfold dI; omega, by unfold dI; omega⟩
theorem wc_ev {cs ds : List Nat} {A B : Nat → Int} (h : Wn cs ds A B) (window : Int) : ∀ t, t ≤ cs.length * ds.length → ∀ i k, k < ds.length → i * ds.length + k < t → ∃ z, Ev ((wList szI geI window cs ds t).getD (i * ds.length + k) 0) z ∧ -8 ≤ z ∧ z ≤ 64 * ((i + k : Nat) : Int) + 64
  | 0, _, _, _, _, h0 => by omega
  | t + 1, ht, i, k, hk, hlt => by
    have hm := h.m
    have hk' : t % ds.length < ds.length := Nat.mod_lt _ (by omega)
    have hte : t = (t / ds.length) * ds.length + t % ds.length := by rw [Nat.mul_comm]; exact (Nat.div_add_mod _ _).symm
    have ih := wc_ev h window t (by omega)
    rw [wList_at hte hk', getD_snoc, wList_length]
    by_cases hl : i * ds.length + k < t
    · rw [if_pos hl]; exact ih i k hk hl
    · have he : i * ds.length + k = t := by omega
      rw [if_neg hl, if_pos he]
      have hi1 : t / ds.length = i := by rw [← he, Nat.mul_comm, Nat.mul_add_div (by omega), Nat.div_eq_of_lt hk, Nat.add_zero]
      have hk1 : t % ds.length = k := by rw [← he, Nat.mul_comm, Nat.mul_add_mod, Nat.mod_eq_of_lt hk]
      rw [hi1, hk1]
      have hi : i < cs.length := by
        rcases Nat.lt_or_ge i cs.length with h1 | h1
        · exact h1
        · have := Nat.mul_le_mul_right ds.length h1
          omega
      obtain ⟨d1, d2, d3⟩ := h.d hi hk
      by_cases h0 : i + k = 0
      · rw [wCost, if_pos h0]
        exact ⟨_, d1, by omega, by omega⟩
      · cases ho : wThree geI (wList szI geI window cs ds t) ds.length i k 3 with
        | none => rw [wCost_none h0 ho]; exact ⟨_, ev_neg1, by omega, by omega⟩
        | some b =>
          by_cases hf : window < farI i k
          · rw [wCost_far h0 ho hf]; exact ⟨_, ev_neg1, by omega, by omega⟩
          · rw [wCost_near h0 ho hf]
            obtain ⟨b1, b2, b3⟩ := wThree_some ho
            obtain ⟨p1, p2, p3, p4, p5⟩ := wThree_place neg1_ge.1 ho
            have hpl := before_lt (i := i) hk _ _ p3 p4 (by omega) p1 p2
            obtain ⟨z, z1, z2, z3⟩ := ih (candI b.1 i).toNat (candK b.1 k).toNat (by omega) (by omega)
            have e : b.2 = (wList szI geI window cs ds t).getD ((candI b.1 i).toNat * ds.length + (candK b.1 k).toNat) 0 := by rw [b2, wAt, if_neg (by omega)]
            rw [← e] at z1
            rw [z1.ge] at b3
            have hz0 : 0 ≤ z := by simpa using b3
            have hn1 := h.n
            refine ⟨_, z1.add d1 (by omega), by omega, by omega⟩
/-- The costs by integers. -/
theorem wc_rec {cs ds : List Nat} {window : Int} {i k : Nat} (hi : i < cs.length) (hk : k < ds.length) : (wpC szI geI cs ds window).getD (i * ds.length + k) 0 = wCost geI window (wpC szI geI cs ds window) ds.length i k (szI (subF (cs.getD i 0) (ds.getD k 0))) := by
  have hlt : i * ds.length + k < cs.length * ds.length := by
    have : (i + 1) * ds.length ≤ cs.length * ds.length := Nat.mul_le_mul_right _ hi
    rw [Nat.add_mul] at this
    omega
  have e1 : wThree geI (wpC szI geI cs ds window) ds.length i k 3 = wThree geI (wList szI geI window cs ds (i * ds.length + k)) ds.length i k 3 := wThree_prefix _ _ _ _ _ _ (fun p q p1 q1 h1 p0 q0 => by
    have := before_lt hk p q p1 q1 h1 p0 q0
    exact wList_get this (by omega)) 3
  rw [show (wpC szI geI cs ds window).getD (i * ds.length + k) 0 = wCost geI window (wList szI geI window cs ds (i * ds.length + k)) ds.length i k (szI (subF (cs.getD i 0) (ds.getD k 0))) by
    rw [wpC, wList_get (Nat.lt_succ_self _) hlt, wList_at rfl hk, getD_snoc, wList_length, if_neg (by omega), if_pos rfl]]
  unfold wCost
  rw [e1]
/-- A way to two places, and what it costs. -/
inductive Way (n m : Nat) (window : Int) (A B : Nat → Int) : List (Nat × Nat) → Nat → Nat → Int → Prop
  | one : Way n m window A B [(0, 0)] 0 0 (dI A B 0 0)
  | step {P : List (Nat × Nat)} {p q : Nat} {z : Int} {i k : Nat} : Way n m window A B P p q z → i < n → k < m → p ≤ i → i ≤ p + 1 → q ≤ k → k ≤ q + 1 → p + q < i + k → farI i k ≤ window → Way n m window A B (P ++ [(i, k)]) i k (z + dI A B i k)
def flatW : List (Nat × Nat) → List Int
  | [] => []
  | x :: P => (x.1 : Int) :: (x.2 : Int) :: flatW P
theorem flatW_append (P Q : List (Nat × Nat)) : flatW (P ++ Q) = flatW P ++ flatW Q := by
  induction P with
  | nil => rfl
  | cons x P ih => simp [flatW, ih]
theorem way_back {cs ds : List Nat} {A B : Nat → Int} (h : Wn cs ds A B) (window : Int) : ∀ (n i k : Nat), i < cs.length → k < ds.length → i + k < n → ∀ z, Ev ((wpC szI geI cs ds window).getD (i * ds.length + k) 0) z → 0 ≤ z →
    ∃ P, wBack geI (wpC szI geI cs ds window) ds.length n i k = flatW P ∧ Way cs.length ds.length window A B P i k z
  | 0, _, _, _, _, h0, _, _, _ => by omega
  | n + 1, i, k, hi, hk, hn, z, hz, h0 => by
    have hr := wc_rec (window := window) hi hk
    obtain ⟨d1, d2, d3⟩ := h.d hi hk
    rw [wBack]
    by_cases hik : i + k = 0
    · obtain rfl : i = 0 := by omega
      obtain rfl : k = 0 := by omega
      have ho := wThree_origin geI neg1_ge.1 (wpC szI geI cs ds window) ds.length
      rw [show ((0 : Nat) : Int) = 0 from rfl, ho]
      refine ⟨[(0, 0)], rfl, ?_⟩
      rw [hr, wCost, if_pos rfl] at hz
      rw [hz.uniq d1]
      exact .one
    · cases ho : wThree geI (wpC szI geI cs ds window) ds.length i k 3 with
      | none => rw [hr, wCost_none hik ho] at hz; have := hz.uniq ev_neg1; omega
      | some b =>
        by_cases hf : window < farI i k
        · rw [hr, wCost_far hik ho hf] at hz; have := hz.uniq ev_neg1; omega
        · rw [hr, wCost_near hik ho hf] at hz
          obtain ⟨b1, b2, b3⟩ := wThree_some ho
          obtain ⟨p1, p2, p3, p4, p5⟩ := wThree_place neg1_ge.1 ho
          obtain ⟨p, hp⟩ : ∃ p : Nat, candI b.1 i = (p : Int) := ⟨(candI b.1 (i : Int)).toNat, by omega⟩
          obtain ⟨q, hq⟩ : ∃ q : Nat, candK b.1 k = (q : Int) := ⟨(candK b.1 (k : Int)).toNat, by omega⟩
          have e : b.2 = (wpC szI geI cs ds window).getD (p * ds.length + q) 0 := by rw [b2, wAt, if_neg (by omega), hp, hq]; rfl
          obtain ⟨y, y1, y2, y3⟩ := wc_ev h window (cs.length * ds.length) (Nat.le_refl _) p q (by omega) (by
            have h1 := before_lt (i := i) hk _ _ p3 p4 (by omega) p1 p2
            rw [hp, hq] at h1
            have : (i + 1) * ds.length ≤ cs.length * ds.length := Nat.mul_le_mul_right _ hi
            rw [Nat.add_mul] at this
            have h1' : p * ds.length + q < i * ds.length + k := h1
            omega)
          have y1' : Ev b.2 y := by rw [e]; exact y1
          rw [y1'.ge] at b3
          have hy0 : 0 ≤ y := by simpa using b3
          have hn1 := h.n
          have hm1 := h.m
          have hzz := hz.uniq (y1'.add d1 (by omega))
          have s1 : (i : Int) ≤ candI b.1 i + 1 := by unfold candI; split <;> omega
          have s2 : (k : Int) ≤ candK b.1 k + 1 := by unfold candK; split <;> omega
          obtain ⟨P, hP1, hP2⟩ := way_back h window n p q (by omega) (by omega) (by omega) y y1 hy0
          refine ⟨P ++ [(i, k)], ?_, ?_⟩
          · rw [flatW_append]
            show wBack _ _ _ _ (candI b.1 i) (candK b.1 k) ++ _ = _
            rw [hp, hq, hP1]
            rfl
          · rw [hzz]
            exact .step hP2 hi hk (by omega) (by omega) (by omega) (by omega) (by omega) (by omega)
/-- Straight ways. -/
def sumD (A B : Nat → Int) : Nat → Int
  | 0 => 0
  | i + 1 => sumD A B i + dI A B i i
theorem wc_diag {cs ds : List Nat} {A B : Nat → Int} (h : Wn cs ds A B) {window : Int} (hw : 0 ≤ window) : ∀ i, i < cs.length → i < ds.length → ∃ z, Ev ((wpC szI geI cs ds window).getD (i * ds.length + i) 0) z ∧ 0 ≤ z ∧ z ≤ sumD A B (i + 1)
  | 0, h1, h2 => by
    obtain ⟨d1, d2, d3⟩ := h.d h1 h2
    rw [wc_rec h1 h2, wCost, if_pos rfl]
    exact ⟨_, d1, d3, by simp [sumD]⟩
  | i + 1, h1, h2 => by
    obtain ⟨d1, d2, d3⟩ := h.d h1 h2
    obtain ⟨y, y1, y2, y3⟩ := wc_diag h hw i (by omega) (by omega)
    have e : wAt (wpC szI geI cs ds window) ds.length (candI 2 ((i + 1 : Nat) : Int)) (candK 2 ((i + 1 : Nat) : Int)) = (wpC szI geI cs ds window).getD (i * ds.length + i) 0 := by
      rw [show candI 2 ((i + 1 : Nat) : Int) = (i : Int) by show ((i + 1 : Nat) : Int) - 1 = i; omega, show candK 2 ((i + 1 : Nat) : Int) = (i : Int) by show ((i + 1 : Nat) : Int) - 1 = i; omega, wAt, if_neg (by omega)]
      rfl
    have hg : geI (wAt (wpC szI geI cs ds window) ds.length (candI 2 ((i + 1 : Nat) : Int)) (candK 2 ((i + 1 : Nat) : Int))) = true := by rw [e, y1.ge]; simpa using y2
    have hE : ∀ n, n < 3 → ∃ z, Ev (wAt (wpC szI geI cs ds window) ds.length (candI n ((i + 1 : Nat) : Int)) (candK n ((i + 1 : Nat) : Int))) z := by
      intro n hn
      unfold wAt
      by_cases hc : candI n ((i + 1 : Nat) : Int) < 0 ∨ candK n ((i + 1 : Nat) : Int) < 0
      · rw [if_pos hc]; exact ⟨_, ev_neg1⟩
      · rw [if_neg hc]
        have q1 : candI n ((i + 1 : Nat) : Int) ≤ ((i + 1 : Nat) : Int) := by unfold candI; split <;> omega
        have q2 : candK n ((i + 1 : Nat) : Int) ≤ ((i + 1 : Nat) : Int) := by unfold candK; split <;> omega
        have q3 : candI n ((i + 1 : Nat) : Int) < ((i + 1 : Nat) : Int) ∨ candK n ((i + 1 : Nat) : Int) < ((i + 1 : Nat) : Int) := by
          unfold candI candK
          by_cases x : n = 1
          · rw [if_pos x, if_neg (by omega)]; omega
          · rw [if_neg x]; omega
        have := before_lt (i := i + 1) h2 _ _ q1 q2 q3 (by omega) (by omega)
        obtain ⟨z, z1, -⟩ := wc_ev h window (cs.length * ds.length) (Nat.le_refl _) (candI n ((i + 1 : Nat) : Int)).toNat (candK n ((i + 1 : Nat) : Int)).toNat (by omega) (by
          have h5 : (i + 1 + 1) * ds.length ≤ cs.length * ds.length := Nat.mul_le_mul_right _ h1
          rw [Nat.add_mul] at h5
          omega)
        exact ⟨z, z1⟩
    obtain ⟨b, z, y', w1, w2, w3, w4⟩ := wThree_min hE 3 (Nat.le_refl _) 2 (by omega) hg
    rw [e] at w3
    have hy := w3.uniq y1
    rw [wc_rec h1 h2, wCost_near (by omega) w1 (by unfold farI; split <;> omega)]
    have hz0 : 0 ≤ z := by
      have := (wThree_some w1).2.2
      rw [w2.ge] at this
      simpa using this
    have hb : sumD A B (i + 1) ≤ 64 * ((i + 1 : Nat) : Int) := by
      have : ∀ j, j ≤ i + 1 → sumD A B j ≤ 64 * (j : Int) := by
        intro j hj
        induction j with
        | zero => simp [sumD]
        | succ j ih =>
          have := ih (by omega)
          have := (h.d (i := j) (k := j) (by omega) (by omega)).2.1
          simp only [sumD]
          omega
      exact this _ (Nat.le_refl _)
    have hn := h.n
    refine ⟨_, w2.add d1 (by omega), by omega, ?_⟩
    show _ ≤ sumD A B (i + 1) + dI A B (i + 1) (i + 1)
    omega
/-- The costs of the first steps of a way. -/
def preS (A B : Nat → Int) (P : List (Nat × Nat)) : Nat → Int
  | 0 => 0
  | j + 1 => preS A B P j + dI A B (P.getD j (0, 0)).1 (P.getD j (0, 0)).2
theorem getD_snocP (P : List (Nat × Nat)) (x : Nat × Nat) (i : Nat) : (P ++ [x]).getD i (0, 0) = if i < P.length then P.getD i (0, 0) else if i = P.length then x else (0, 0) := by
  by_cases h : i < P.length
  · rw [if_pos h]; simp [List.getElem?_append_left h]
  · rw [if_neg h]
    by_cases h2 : i = P.length
    · subst h2; simp
    · rw [if_neg h2]; simp [List.getElem?_eq_none (show (P ++ [x]).length ≤ i by simp; omega)]
theorem preS_snoc (A B : Nat → Int) (P : List (Nat × Nat)) (x : Nat × Nat) : ∀ j, j ≤ P.length → preS A B (P ++ [x]) j = preS A B P j
  | 0, _ => rfl
  | j + 1, h => by rw [preS, preS, preS_snoc A B P x j (by omega), getD_snocP, if_pos (by omega)]
structure WayI (n m : Nat) (window : Int) (A B : Nat → Int) (P : List (Nat × Nat)) (i k : Nat) (z : Int) : Prop where
  pos : 1 ≤ P.length
  few : P.length ≤ i + k + 1
  first : P.getD 0 (0, 0) = (0, 0)
  last : P.getD (P.length - 1) (0, 0) = (i, k)
  each : ∀ j, j < P.length → (P.getD j (0, 0)).1 < n ∧ (P.getD j (0, 0)).2 < m ∧ farI (P.getD j (0, 0)).1 (P.getD j (0, 0)).2 ≤ window
  steps : ∀ j, j + 1 < P.length → (P.getD j (0, 0)).1 ≤ (P.getD (j + 1) (0, 0)).1 ∧ (P.getD (j + 1) (0, 0)).1 ≤ (P.getD j (0, 0)).1 + 1 ∧ (P.getD j (0, 0)).2 ≤ (P.getD (j + 1) (0, 0)).2 ∧ (P.getD (j + 1) (0, 0)).2 ≤ (P.getD j (0, 0)).2 + 1 ∧ (P.getD j (0, 0)).1 + (P.getD j (0, 0)).2 < (P.getD (j + 1) (0, 0)).1 + (P.getD (j + 1) (0, 0)).2
  cost : preS A B P P.length = z
theorem Way.info {n m : Nat} {window : Int} {A B : Nat → Int} {P : List (Nat × Nat)} {i k : Nat} {z : Int} (h : Way n m window A B P i k z) (hn : 1 ≤ n) (hm : 1 ≤ m) (hw : 0 ≤ window) : WayI n m window A B P i k z := by
  induction h with
  | one =>
    refine ⟨by simp, by simp, rfl, rfl, fun j hj => ?_, fun j hj => ?_, by simp [preS]⟩
    · obtain rfl : j = 0 := by simp at hj; omega
      exact ⟨hn, hm, by show farI 0 0 ≤ window; unfold farI; simpa using hw⟩
    · simp at hj
  | @step P p q z i k h1 h2 h3 h4 h5 h6 h7 h8 h9 ih =>
    obtain ⟨a1, a2, a3, a4, a5, a6, a7⟩ := ih
    refine ⟨by simp, by simp; omega, ?_, ?_, fun j hj => ?_, fun j hj => ?_, ?_⟩
    · rw [getD_snocP, if_pos (by omega)]; exact a3
    · rw [getD_snocP, List.length_append, List.length_singleton, if_neg (by omega), if_pos (by omega)]
    · rw [getD_snocP]
      by_cases hl : j < P.length
      · rw [if_pos hl]; exact a5 j hl
      · rw [if_neg hl, if_pos (by simp at hj; omega)]; exact ⟨h2, h3, h9⟩
    · have hj' : j < P.length := by simp at hj; omega
      rw [getD_snocP, getD_snocP, if_pos hj']
      by_cases hl : j + 1 < P.length
      · rw [if_pos hl]; exact a6 j hl
      · rw [if_neg hl, if_pos (by omega), show j = P.length - 1 by omega, a4]
        exact ⟨h4, h5, h6, h7, h8⟩
    · rw [List.length_append, List.length_singleton, preS, preS_snoc _ _ _ _ _ (Nat.le_refl _), a7, getD_snocP, if_neg (by omega), if_pos rfl]
theorem flatW_length (P : List (Nat × Nat)) : (flatW P).length = 2 * P.length := by
  induction P with
  | nil => rfl
  | cons x P ih => simp [flatW, ih]; omega
theorem flatW_get (P : List (Nat × Nat)) : ∀ j, j < P.length → (flatW P).getD (2 * j) 0 = ((P.getD j (0, 0)).1 : Int) ∧ (flatW P).getD (2 * j + 1) 0 = ((P.getD j (0, 0)).2 : Int) := by
  induction P with
  | nil => intro j hj; cases hj
  | cons x P ih =>
    intro j hj
    cases j with
    | zero => exact ⟨rfl, rfl⟩
    | succ j =>
      have := ih j (by simp at hj; omega)
      rw [show 2 * (j + 1) = 2 * j + 1 + 1 by omega]
      exact this
theorem preS_bound {n m : Nat} {window : Int} {A B : Nat → Int} {P : List (Nat × Nat)} {i k : Nat} {z : Int} (h : WayI n m window A B P i k z) (hd : ∀ i k, i < n → k < m → 0 ≤ dI A B i k ∧ dI A B i k ≤ 64) : ∀ j, j ≤ P.length → 0 ≤ preS A B P j ∧ preS A B P j ≤ 64 * (j : Int)
  | 0, _ => ⟨Int.le_refl _, by simp [preS]⟩
  | j + 1, hj => by
    have ih := preS_bound h hd j (by omega)
    have he := h.each j (by omega)
    have := hd _ _ he.1 he.2.1
    rw [preS]
    omega
theorem sumD_bound {A B : Nat → Int} {n : Nat} (hd : ∀ i, i < n → 0 ≤ dI A B i i ∧ dI A B i i ≤ 64) : ∀ j, j ≤ n → 0 ≤ sumD A B j ∧ sumD A B j ≤ 64 * (j : Int)
  | 0, _ => ⟨Int.le_refl _, by simp [sumD]⟩
  | j + 1, hj => by
    have ih := sumD_bound hd j (by omega)
    have := hd j (by omega)
    rw [sumD]
    omega

end Go.Proofs.Ytkkomajokdlkeaa

namespace Go.Proofs.Ytkkomajokdlkeaa
set_option linter.unusedSimpArgs false
set_option linter.unusedVariables false
set_option maxRecDepth 100000
set_option maxHeartbeats 4000000
open Go.RowKit
theorem Wn.fin {cs ds : List Nat} {A B : Nat → Int} (h : Wn cs ds A B) : series cs = true ∧ series ds = true := by
  have key : ∀ (l : List Nat) (X : Nat → Int), (∀ i, i < l.length → Ev (l.getD i 0) (X i) ∧ (X i).natAbs ≤ 32) → 1 ≤ l.length → l.length ≤ 10 → series l = true := by
    intro l X hl h1 h2
    unfold series allFin
    rw [decide_eq_true h1, decide_eq_true (by omega)]
    rw [List.all_eq_true.2 fun c hc => by
      obtain ⟨i, hi, rfl⟩ := List.getElem_of_mem hc
      have h := (hl i hi).1.fin
      rwa [List.getD_eq_getElem?_getD, List.getElem?_eq_getElem hi] at h]
    rfl
  exact ⟨key cs A h.a h.n.1 h.n.2, key ds B h.b h.m.1 h.m.2⟩
theorem Wn.finC {cs ds : List Nat} {A B : Nat → Int} (h : Wn cs ds A B) (window : Int) : allFin (wpC szI geI cs ds window) = true := by
  unfold allFin
  rw [List.all_eq_true]
  intro c hc
  obtain ⟨t, ht, rfl⟩ := List.getElem_of_mem hc
  have hm := h.m
  rw [wpC_length] at ht
  have hk : t % ds.length < ds.length := Nat.mod_lt _ (by omega)
  have hte : (t / ds.length) * ds.length + t % ds.length = t := by rw [Nat.mul_comm]; exact Nat.div_add_mod _ _
  obtain ⟨z, hz, -⟩ := wc_ev h window (cs.length * ds.length) (Nat.le_refl _) (t / ds.length) (t % ds.length) hk (by omega)
  rw [hte] at hz
  have h1 := hz.fin
  have e : (wList szI geI window cs ds (cs.length * ds.length)).getD t 0 = (wpC szI geI cs ds window)[t] := by
    rw [← wpC, List.getD_eq_getElem?_getD, List.getElem?_eq_getElem (by rw [wpC_length]; exact ht)]; rfl
  rw [e] at h1
  exact h1
theorem warped_all {cs ds : List Nat} {A B : Nat → Int} (h : Wn cs ds A B) {n : Nat} (hc : cs.length = n) (hd : ds.length = n) {window : Int} (hw : 0 ≤ window) (hw2 : window ≤ 96) :
    ∃ last z P, Ev last z ∧ 0 ≤ z ∧ z ≤ sumD A B n ∧ wfarQ szI geI cs ds window = (last, true) ∧ costsQ szI geI cs ds window = (wpC szI geI cs ds window, true) ∧ (wpC szI geI cs ds window).length = n * n ∧ (wpC szI geI cs ds window).getD (n * n - 1) 0 = last ∧ wayQ szI geI cs ds window = (flatW P, true) ∧ WayI n n window A B P (n - 1) (n - 1) z := by
  have hn := h.n
  obtain ⟨f1, f2⟩ := h.fin
  have hok : wpOk cs ds window = true := by unfold wpOk; rw [f1, f2, decide_eq_true hw, decide_eq_true hw2]; rfl
  have hfc := h.finC window
  obtain ⟨z, z1, z2, z3⟩ := wc_diag h hw (n - 1) (by omega) (by omega)
  have e1 : (n - 1) * ds.length + (n - 1) = n * n - 1 := by
    obtain ⟨m, rfl⟩ : ∃ m, n = m + 1 := ⟨n - 1, by omega⟩
    rw [hd, Nat.add_sub_cancel, Nat.add_mul, Nat.mul_add]; omega
  rw [e1] at z1
  have hlss : fc .lss .f32 ((wpC szI geI cs ds window).getD (n * n - 1) 0) 0 = false := by rw [z1.lss ev_zero, decide_eq_false (by omega)]
  have hyes : wpYes szI geI cs ds window = true := by
    unfold wpYes
    rw [hok, hfc, hc, hd, hlss]; rfl
  obtain ⟨P, hP1, hP2⟩ := way_back h window (n + n) (n - 1) (n - 1) (by omega) (by omega) (by omega) z (by rw [e1]; exact z1) z2
  refine ⟨_, z, P, z1, z2, ?_, ?_, ?_, ?_, rfl, ?_, ?_⟩
  · rw [show n - 1 + 1 = n by omega] at z3; exact z3
  · rw [wfarQ, hyes, if_pos rfl, hc, hd]
  · rw [costsQ, hok, if_pos rfl, given, hfc]; rfl
  · rw [wpC_length, hc, hd]
  · rw [wayQ, hyes, if_pos rfl, hc, ← hP1, hd]
    rw [show ((n : Int) - 1) = ((n - 1 : Nat) : Int) by omega]
  · rw [hc, hd] at hP2
    exact hP2.info (by omega) (by omega) hw
theorem sumD_self (A : Nat → Int) : ∀ n, sumD A A n = 0
  | 0 => rfl
  | n + 1 => by rw [sumD, sumD_self A n, dI]; omega
theorem get_flat {P : List (Nat × Nat)} {j : Nat} (hj : j < P.length) : (flatW P)[2 * j]? = some ((P.getD j (0, 0)).1 : Int) ∧ (flatW P)[2 * j + 1]? = some ((P.getD j (0, 0)).2 : Int) := by
  obtain ⟨h1, h2⟩ := flatW_get P j hj
  have hl := flatW_length P
  have e : ∀ t, t < (flatW P).length → (flatW P)[t]? = some ((flatW P).getD t 0) := by
    intro t ht
    rw [List.getD_eq_getElem?_getD, List.getElem?_eq_getElem ht]; rfl
  exact ⟨by rw [e _ (by omega), h1], by rw [e _ (by omega), h2]⟩

end Go.Proofs.Ytkkomajokdlkeaa
