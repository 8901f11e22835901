/- Sums and means of what is told of small misses. Plain. -/
import Derived.Test.YtkkomajokdlkeaaQ33
import Derived.Test.YtkkomajokdlkeaaQ38
namespace Go.Proofs.Ytkkomajokdlkeaa
set_option linter.unusedSimpArgs false
set_option linter.unusedVariables false
set_option maxRecDepth 100000
set_option maxHeartbeats 4000000
set_option linter.unusedSimpArgs false
set_option linter.unusedVariables false
open Go.RowKit
/-- Sums of what is told, in the text's order. -/
def ssO (F : Nat → Nat) : Nat → Nat
  | 0 => 0
  | k + 1 => addF (ssO F k) (F k)
def isum (f : Nat → Int) : Nat → Int
  | 0 => 0
  | k + 1 => isum f k + f k
theorem isum_le {f : Nat → Int} {n : Nat} {B : Int} (h : ∀ i, i < n → -B ≤ f i ∧ f i ≤ B) : ∀ k, k ≤ n → -B * (k : Int) ≤ isum f k ∧ isum f k ≤ B * (k : Int)
  | 0, _ => by simp [isum]
  | k + 1, hk => by
    have h1 := isum_le h k (by omega)
    have h2 := h k (by omega)
    have e1 : B * ((k + 1 : Nat) : Int) = B * (k : Int) + B := by rw [show ((k + 1 : Nat) : Int) = (k : Int) + 1 by omega, Int.mul_add, Int.mul_one]
    have e2 : -B * ((k + 1 : Nat) : Int) = -B * (k : Int) + -B := by rw [show ((k + 1 : Nat) : Int) = (k : Int) + 1 by omega, Int.mul_add, Int.mul_one]
    rw [e1, e2, isum]
    omega
theorem ssO_ev {F : Nat → Nat} {f : Nat → Int} {n : Nat} (hn : n ≤ 12) (h : ∀ i, i < n → Ev (F i) (f i) ∧ -20000 ≤ f i ∧ f i ≤ 20000) : ∀ k, k ≤ n → Ev (ssO F k) (isum f k)
  | 0, _ => ev_zero
  | k + 1, hk => by
    have h1 := ssO_ev hn h k (by omega)
    have h2 := isum_le (B := 20000) (fun i hi => (h i hi).2) (k + 1) hk
    exact h1.add (h k (by omega)).1 (by rw [show isum f k + f k = isum f (k + 1) from rfl]; omega)
theorem isum_mul (c : Int) (f : Nat → Int) : ∀ k, isum (fun i => c * f i) k = c * isum f k
  | 0 => by simp [isum]
  | k + 1 => by rw [isum, isum, isum_mul c f k, Int.mul_add]
theorem isum_add (f g : Nat → Int) : ∀ k, isum (fun i => f i + g i) k = isum f k + isum g k
  | 0 => by simp [isum]
  | k + 1 => by rw [isum, isum, isum, isum_add f g k]; omega
theorem isum_congr {f g : Nat → Int} {n : Nat} (h : ∀ i, i < n → f i = g i) : ∀ k, k ≤ n → isum f k = isum g k
  | 0, _ => rfl
  | k + 1, hk => by rw [isum, isum, isum_congr h k (by omega), h k (by omega)]
theorem isum_abs (f : Nat → Int) : ∀ k, -(isum (fun i => ((f i).natAbs : Int)) k) ≤ isum f k ∧ isum f k ≤ isum (fun i => ((f i).natAbs : Int)) k
  | 0 => by simp [isum]
  | k + 1 => by have := isum_abs f k; rw [isum, isum]; omega
theorem isum_nonneg {f : Nat → Int} (h : ∀ i, 0 ≤ f i) : ∀ k, 0 ≤ isum f k
  | 0 => by simp [isum]
  | k + 1 => by have := isum_nonneg h k; have := h k; rw [isum]; omega
/-- The square of a sum is no more than the number of squares times their sum. -/
theorem isum_cauchy (f : Nat → Int) : ∀ k, isum f k * isum f k ≤ (k : Int) * isum (fun i => f i * f i) k
  | 0 => by simp [isum]
  | k + 1 => by
    have h := isum_cauchy f k
    rw [isum, isum]
    have h2 : 2 * (isum f k * f k) ≤ isum (fun i => f i * f i) k + (k : Int) * (f k * f k) := by
      have hq := isum_cross f (f k) k
      omega
    have e1 : (isum f k + f k) * (isum f k + f k) = isum f k * isum f k + 2 * (isum f k * f k) + f k * f k := by
      rw [Int.add_mul, Int.mul_add, Int.mul_add, Int.mul_comm (f k) (isum f k)]; omega
    have e2 : ((k + 1 : Nat) : Int) * (isum (fun i => f i * f i) k + f k * f k) = (k : Int) * isum (fun i => f i * f i) k + (k : Int) * (f k * f k) + isum (fun i => f i * f i) k + f k * f k := by
      rw [show ((k + 1 : Nat) : Int) = (k : Int) + 1 by omega, Int.add_mul, Int.mul_add, Int.one_mul]; omega
    rw [e1, e2]; omega
where
  isum_cross (f : Nat → Int) (a : Int) : ∀ k, 2 * (isum f k * a) ≤ isum (fun i => f i * f i) k + (k : Int) * (a * a)
    | 0 => by simp [isum]
    | k + 1 => by
      have h := isum_cross f a k
      rw [isum, isum]
      have h3 : 0 ≤ (f k - a) * (f k - a) := by
        rcases Int.le_total 0 (f k - a) with h | h
        · exact Int.mul_nonneg h h
        · have := Int.mul_nonneg (show 0 ≤ -(f k - a) by omega) (show 0 ≤ -(f k - a) by omega)
          rwa [Int.neg_mul_neg] at this
      have e3 : (f k - a) * (f k - a) = f k * f k - 2 * (f k * a) + a * a := by
        rw [Int.sub_mul, Int.mul_sub, Int.mul_sub, Int.mul_comm a (f k)]; omega
      have e1 : (isum f k + f k) * a = isum f k * a + f k * a := Int.add_mul ..
      have e2 : ((k + 1 : Nat) : Int) * (a * a) = (k : Int) * (a * a) + a * a := by rw [show ((k + 1 : Nat) : Int) = (k : Int) + 1 by omega, Int.add_mul, Int.one_mul]
      rw [e1, e2]; omega
theorem qv_finB {c : Nat} {x : Rat} (h : QV S c x) (h1 : -1000000 ≤ x) (h2 : x ≤ 1000000) : fin c = true := by
  obtain ⟨z, hz, n1, n2, -⟩ := subF_qv h h (by unfold big; grind) (by unfold big; grind)
  have e : z = 0 := by have := n1 (by grind); have := n2 (by grind); grind
  subst e
  show (S.order (subF c c) 0 == some .eq) = true
  rw [hz.order zero_qv, if_neg (by grind), if_pos rfl]; rfl
theorem fI12_all : ∀ i : Fin 13, evB (fI (i.val : Int)) (8 * (i.val : Int)) = true := by decide +kernel
theorem fI_qv12 {n : Nat} (h : n ≤ 12) : QV S (fI (n : Int)) (n : Rat) := by
  have := (ev_of (fI12_all ⟨n, by omega⟩)).qv
  rw [show (((8 * (n : Int) : Int)) : Rat) / 8 = (n : Rat) by rw [Rat.intCast_mul]; have : (((n : Nat) : Int) : Rat) = (n : Rat) := rfl; grind] at this
  exact this
/-- A mean of what is told, nearly. -/
theorem mean_qv {F : Nat → Nat} {f : Nat → Int} {n : Nat} {B : Int} (hB0 : 0 ≤ B) (hB : B ≤ 20000) (h1 : 1 ≤ n) (hn : n ≤ 12) (h : ∀ i, i < n → Ev (F i) (f i) ∧ -B ≤ f i ∧ f i ≤ B) :
    ∃ u z : Rat, u * (n : Rat) = ((isum f n : Int) : Rat) / 8 ∧ QV S (divF (ssO F n) (fI n)) z ∧ Ns (4 * e32) u z ∧ -((B : Int) : Rat) / 8 ≤ u ∧ u ≤ ((B : Int) : Rat) / 8 ∧ fin (divF (ssO F n) (fI n)) = true := by
  have hs := (ssO_ev hn (fun i hi => ⟨(h i hi).1, by have := (h i hi).2; omega, by have := (h i hi).2; omega⟩) n (Nat.le_refl _)).qv
  have hb := isum_le (B := B) (fun i hi => (h i hi).2) n (Nat.le_refl _)
  have hn0 : (1 : Rat) ≤ (n : Rat) := by
    have : ((1 : Nat) : Rat) ≤ (n : Rat) := Rat.natCast_le_natCast.2 h1
    exact this
  obtain ⟨b1, b2⟩ := hb
  have c1 : ((-B * (n : Int) : Int) : Rat) ≤ ((isum f n : Int) : Rat) := Rat.intCast_le_intCast.2 b1
  have c2 : ((isum f n : Int) : Rat) ≤ ((B * (n : Int) : Int) : Rat) := Rat.intCast_le_intCast.2 b2
  have b3 : ((0 : Int) : Rat) ≤ ((B : Int) : Rat) := Rat.intCast_le_intCast.2 hB0
  have b4 : ((B : Int) : Rat) ≤ ((20000 : Int) : Rat) := Rat.intCast_le_intCast.2 hB
  have b5 : ((0 : Int) : Rat) = 0 := rfl
  have b6 : ((20000 : Int) : Rat) = 20000 := rfl
  have en : (((n : Nat) : Int) : Rat) = (n : Rat) := rfl
  have e1 : ((-B * (n : Int) : Int) : Rat) = -((B : Int) : Rat) * (n : Rat) := by rw [Rat.intCast_mul, en, Rat.intCast_neg]
  have e2 : ((B * (n : Int) : Int) : Rat) = ((B : Int) : Rat) * (n : Rat) := by rw [Rat.intCast_mul, en]
  rw [e1] at c1
  rw [e2] at c2
  rw [b5] at b3
  rw [b6] at b4
  generalize ((isum f n : Int) : Rat) = T at *
  generalize ((B : Int) : Rat) = b at *
  have hw : T / 8 / (n : Rat) * (n : Rat) = T / 8 := Rat.div_mul_cancel (by grind)
  generalize T / 8 / (n : Rat) = u at *
  have u1 : -b / 8 ≤ u := by
    rcases Classical.em (-b / 8 ≤ u) with h | h
    · exact h
    · have := Rat.mul_lt_mul_of_pos_right (Rat.not_le.1 h) (show (0 : Rat) < (n : Rat) by grind)
      grind
  have u2 : u ≤ b / 8 := by
    rcases Classical.em (u ≤ b / 8) with h | h
    · exact h
    · have := Rat.mul_lt_mul_of_pos_right (Rat.not_le.1 h) (show (0 : Rat) < (n : Rat) by grind)
      grind
  obtain ⟨z, hz, hns⟩ := divF_qv hs (fI_qv12 hn) (by grind) hw (by grind) (by grind)
  have hz2 := hns.2.2 2500 (by grind) (by grind)
  exact ⟨u, z, hw, hz, hns, u1, u2, qv_finB hz (by unfold e32 at hz2; grind) (by unfold e32 at hz2; grind)⟩

end Go.Proofs.Ytkkomajokdlkeaa

namespace Go.Proofs.Ytkkomajokdlkeaa
set_option linter.unusedSimpArgs false
set_option linter.unusedVariables false
set_option maxRecDepth 100000
set_option maxHeartbeats 4000000
set_option linter.unusedSimpArgs false
set_option linter.unusedVariables false
open Go.RowKit
/-- Two small series of halves. -/
structure Hz (n : Nat) (cs ds : List Nat) (X Y : Nat → Int) : Prop where
  n1 : 1 ≤ n
  n12 : n ≤ 12
  lc : cs.length = n
  ld : ds.length = n
  c : ∀ i, i < n → cs.getD i 0 = h2r (X i)
  d : ∀ i, i < n → ds.getD i 0 = h2r (Y i)
  x : ∀ i, -38 ≤ X i ∧ X i ≤ 38
  y : ∀ i, -38 ≤ Y i ∧ Y i ≤ 38
theorem isH_fun {m : Nat} {L : List Nat} (h : ∀ c ∈ L, isH m c) (hm : m ≤ 38) : ∃ X : Nat → Int, (∀ i, -38 ≤ X i ∧ X i ≤ 38) ∧ ∀ i, i < L.length → L.getD i 0 = h2r (X i) := by
  have hall : ∀ i, ∃ x : Int, (-38 ≤ x ∧ x ≤ 38) ∧ (i < L.length → L.getD i 0 = h2r x) := by
    intro i
    by_cases hi : i < L.length
    · obtain ⟨x, h1, h2, h3⟩ := h (L.getD i 0) (by rw [List.getD_eq_getElem?_getD, List.getElem?_eq_getElem hi]; exact List.getElem_mem hi)
      exact ⟨x, ⟨by omega, by omega⟩, fun _ => h3⟩
    · exact ⟨0, ⟨by omega, by omega⟩, fun h => absurd h hi⟩
  exact ⟨fun i => Classical.choose (hall i), fun i => (Classical.choose_spec (hall i)).1, fun i hi => (Classical.choose_spec (hall i)).2 hi⟩
theorem h2_fin {x : Int} (h1 : -152 ≤ x) (h2 : x ≤ 152) : fin (h2r x) = true := (h2_ev h1 h2).fin
theorem allFin_of {n : Nat} {cs : List Nat} {X : Nat → Int} (lc : cs.length = n) (c : ∀ i, i < n → cs.getD i 0 = h2r (X i)) (x : ∀ i, -38 ≤ X i ∧ X i ≤ 38) : allFin cs = true := by
  refine List.all_eq_true.2 fun y hy => ?_
  obtain ⟨i, hi, e⟩ := List.mem_iff_getElem.1 hy
  have h := c i (by omega)
  rw [List.getD_eq_getElem?_getD, List.getElem?_eq_getElem hi, Option.getD_some, e] at h
  rw [h]; have := x i; exact h2_fin (by omega) (by omega)
section
variable {n : Nat} {cs ds : List Nat} {X Y : Nat → Int}
theorem Hz.two (h : Hz n cs ds X Y) : twoOk cs ds = true := by
  have f1 := allFin_of h.lc h.c h.x
  have f2 := allFin_of h.ld h.d h.y
  have := h.n1; have := h.n12
  simp [twoOk, series, f1, f2, h.lc, h.ld]; omega
theorem Hz.self (h : Hz n cs ds X Y) : Hz n cs cs X X := ⟨h.n1, h.n12, h.lc, h.lc, h.c, h.c, h.x, h.x⟩
theorem Hz.swap (h : Hz n cs ds X Y) : Hz n ds cs Y X := ⟨h.n1, h.n12, h.ld, h.lc, h.d, h.c, h.y, h.x⟩
def dW (cs ds : List Nat) (k : Nat) : Nat := subF (cs.getD k 0) (ds.getD k 0)
theorem Hz.dw (h : Hz n cs ds X Y) {k : Nat} (hk : k < n) : dW cs ds k = h2r (X k - Y k) ∧ -76 ≤ X k - Y k ∧ X k - Y k ≤ 76 := by
  have hx := h.x k
  have hy := h.y k
  exact ⟨by rw [dW, h.c k hk, h.d k hk, h2_sub hx.1 hx.2 hy.1 hy.2], by omega, by omega⟩
theorem Hz.dw_no (h : Hz n cs ds X Y) {k : Nat} (hk : k < n) : (S.read (dW cs ds k)).isNaN = false ∧ dW cs ds k < 4294967296 := by
  obtain ⟨e, h1, h2⟩ := h.dw hk
  rw [e]
  have := h2_ev (x := X k - Y k) (by omega) (by omega)
  exact ⟨this.notNaN, this.1⟩
theorem Hz.ms (h : Hz n cs ds X Y) {F : Nat → Nat} {f : Nat → Int} (hF : ∀ i, i < n → Ev (F i) (f i) ∧ -20000 ≤ f i ∧ f i ≤ 20000) : MS cs ds F (ssO F) where
  ok := h.two
  sub := fun k hk => (h.dw_no (by rw [h.lc] at hk; exact hk)).1
  no := fun k hk => (hF k (by rw [h.lc] at hk; exact hk)).1.notNaN
  zero := rfl
  sum := fun _ _ => rfl
  sno := fun k hk => (ssO_ev h.n12 hF k (by rw [h.lc] at hk; exact hk)).notNaN
def fMean (cs ds : List Nat) (k : Nat) : Nat := dW cs ds k
def fSize (cs ds : List Nat) (k : Nat) : Nat := absW (dW cs ds k)
def fQ (sh : Nat) (cs ds : List Nat) (k : Nat) : Nat := qmW sh (dW cs ds k)
def fSh (cs ds : List Nat) (k : Nat) : Nat := shW (dW cs ds k) (cs.getD k 0) (ds.getD k 0)
theorem Hz.evMean (h : Hz n cs ds X Y) : ∀ i, i < n → Ev (fMean cs ds i) (4 * (X i - Y i)) ∧ -304 ≤ 4 * (X i - Y i) ∧ 4 * (X i - Y i) ≤ 304 := by
  intro i hi
  obtain ⟨e, h1, h2⟩ := h.dw hi
  exact ⟨by rw [fMean, e]; exact h2_ev (by omega) (by omega), by omega, by omega⟩
theorem Hz.evSize (h : Hz n cs ds X Y) : ∀ i, i < n → Ev (fSize cs ds i) (4 * ((X i - Y i).natAbs : Int)) ∧ -304 ≤ 4 * ((X i - Y i).natAbs : Int) ∧ 4 * ((X i - Y i).natAbs : Int) ≤ 304 := by
  intro i hi
  obtain ⟨e, h1, h2⟩ := h.dw hi
  exact ⟨by rw [fSize, e, (h2_abs h1 h2).1]; exact h2_ev (by omega) (by omega), by omega, by omega⟩
theorem Hz.evHalf (h : Hz n cs ds X Y) : ∀ i, i < n → Ev (fQ 1056964608 cs ds i) (2 * ((X i - Y i).natAbs : Int)) ∧ -304 ≤ 2 * ((X i - Y i).natAbs : Int) ∧ 2 * ((X i - Y i).natAbs : Int) ≤ 304 := by
  intro i hi
  obtain ⟨e, h1, h2⟩ := h.dw hi
  exact ⟨by rw [fQ, e]; exact (h2_qm h1 h2).1, by omega, by omega⟩
def qHi (x : Int) : Int := if 0 ≤ x then 3 * x else -x
def qLo (x : Int) : Int := if 0 ≤ x then x else -3 * x
theorem qHiLo (x : Int) : qHi x + qLo x = 4 * (x.natAbs : Int) := by unfold qHi qLo; split <;> omega
theorem Hz.evHigh (h : Hz n cs ds X Y) : ∀ i, i < n → Ev (fQ 1061158912 cs ds i) (qHi (X i - Y i)) ∧ -304 ≤ qHi (X i - Y i) ∧ qHi (X i - Y i) ≤ 304 := by
  intro i hi
  obtain ⟨e, h1, h2⟩ := h.dw hi
  exact ⟨by rw [fQ, e]; exact (h2_qm h1 h2).2.1, by unfold qHi; split <;> omega, by unfold qHi; split <;> omega⟩
theorem Hz.evLow (h : Hz n cs ds X Y) : ∀ i, i < n → Ev (fQ 1048576000 cs ds i) (qLo (X i - Y i)) ∧ -304 ≤ qLo (X i - Y i) ∧ qLo (X i - Y i) ≤ 304 := by
  intro i hi
  obtain ⟨e, h1, h2⟩ := h.dw hi
  exact ⟨by rw [fQ, e]; exact (h2_qm h1 h2).2.2.1, by unfold qLo; split <;> omega, by unfold qLo; split <;> omega⟩
theorem wide {F : Nat → Nat} {f : Nat → Int} {B : Int} (hB : B ≤ 20000) (h : ∀ i, i < n → Ev (F i) (f i) ∧ -B ≤ f i ∧ f i ≤ B) : ∀ i, i < n → Ev (F i) (f i) ∧ -20000 ≤ f i ∧ f i ≤ 20000 :=
  fun i hi => ⟨(h i hi).1, by have := (h i hi).2; omega, by have := (h i hi).2; omega⟩
theorem sqsL_ssO (f : Nat → Nat) : ∀ k, sqsL f k = ssO (fun i => mulF (f i) (f i)) k
  | 0 => rfl
  | k + 1 => by rw [sqsL, ssO, sqsL_ssO f k]
theorem Hz.evSq (h : Hz n cs ds X Y) : ∀ i, i < n → Ev (mulF (dW cs ds i) (dW cs ds i)) (2 * ((X i - Y i) * (X i - Y i))) ∧ -11552 ≤ 2 * ((X i - Y i) * (X i - Y i)) ∧ 2 * ((X i - Y i) * (X i - Y i)) ≤ 11552 := by
  intro i hi
  obtain ⟨e, h1, h2⟩ := h.dw hi
  refine ⟨by rw [e]; exact (h2_abs h1 h2).2, ?_, ?_⟩
  · have : 0 ≤ (X i - Y i) * (X i - Y i) := by
      rcases Int.le_total 0 (X i - Y i) with h | h
      · exact Int.mul_nonneg h h
      · have := Int.mul_nonneg (show 0 ≤ -(X i - Y i) by omega) (show 0 ≤ -(X i - Y i) by omega)
        rwa [Int.neg_mul_neg] at this
    omega
  · have h3 := Int.mul_nonneg (show 0 ≤ 76 - (X i - Y i) by omega) (show 0 ≤ 76 + (X i - Y i) by omega)
    have e3 : (76 - (X i - Y i)) * (76 + (X i - Y i)) = 5776 - (X i - Y i) * (X i - Y i) := by
      generalize X i - Y i = q
      rw [Int.sub_mul, Int.mul_add, Int.mul_add, Int.mul_comm q 76]; omega
    omega
end

end Go.Proofs.Ytkkomajokdlkeaa

namespace Go.Proofs.Ytkkomajokdlkeaa
set_option linter.unusedSimpArgs false
set_option linter.unusedVariables false
set_option maxRecDepth 100000
set_option maxHeartbeats 4000000
set_option linter.unusedSimpArgs false
set_option linter.unusedVariables false
open Go.RowKit
/-- A mean as a word. -/
def mzW (F : Nat → Nat) (n : Nat) : Nat := divF (ssO F n) (fI n)
theorem numB_fin {c : Nat} (h : fin c = true) : numB c = (c, true) := by unfold numB; rw [h]; rfl
theorem div_cancel {u v n : Rat} (hn : 0 < n) (h : u * n ≤ v * n) : u ≤ v := Rat.le_of_mul_le_mul_right h hn
section
variable {n : Nat} {cs ds : List Nat} {X Y : Nat → Int}
theorem Hz.vals (h : Hz n cs ds X Y) : ∃ m z a b c : Rat,
    QV S (mzW (fMean cs ds) n) m ∧ QV S (mzW (fSize cs ds) n) z ∧ QV S (mzW (fQ 1056964608 cs ds) n) a ∧ QV S (mzW (fQ 1061158912 cs ds) n) b ∧ QV S (mzW (fQ 1048576000 cs ds) n) c ∧
    fin (mzW (fMean cs ds) n) = true ∧ fin (mzW (fSize cs ds) n) = true ∧ fin (mzW (fQ 1056964608 cs ds) n) = true ∧ fin (mzW (fQ 1061158912 cs ds) n) = true ∧ fin (mzW (fQ 1048576000 cs ds) n) = true ∧
    0 ≤ z ∧ z ≤ 39 ∧ m ≤ z + 1 / 2000 ∧ -m ≤ z + 1 / 2000 ∧ a ≤ z / 2 + 1 / 2000 ∧ z / 2 ≤ a + 1 / 2000 ∧ b + c ≤ z + 1 / 2000 ∧ z ≤ b + c + 1 / 2000 ∧ 0 ≤ a ∧ a ≤ 39 ∧ -39 ≤ b ∧ b ≤ 39 ∧ -39 ≤ c ∧ c ≤ 39 ∧
    ∃ u2 : Rat, u2 * (n : Rat) = ((isum (fun i => ((X i - Y i).natAbs : Int)) n : Int) : Rat) / 2 ∧ 0 ≤ u2 ∧ u2 ≤ 38 ∧ z ≤ u2 + 1 / 10000 := by
  have hn0 : (0 : Rat) < (n : Rat) := by
    have : ((0 : Nat) : Rat) < (n : Rat) := Rat.natCast_lt_natCast.2 h.n1
    exact this
  obtain ⟨u1, m, e1, q1, s1, -, -, f1⟩ := mean_qv (B := 304) (by decide) (by decide) h.n1 h.n12 h.evMean
  obtain ⟨u2, z, e2, q2, s2, g1, g2, f2⟩ := mean_qv (B := 304) (by decide) (by decide) h.n1 h.n12 h.evSize
  obtain ⟨u3, a, e3, q3, s3, -, -, f3⟩ := mean_qv (B := 304) (by decide) (by decide) h.n1 h.n12 h.evHalf
  obtain ⟨u4, b, e4, q4, s4, i1, i2, f4⟩ := mean_qv (B := 304) (by decide) (by decide) h.n1 h.n12 h.evHigh
  obtain ⟨u5, c, e5, q5, s5, i3, i4, f5⟩ := mean_qv (B := 304) (by decide) (by decide) h.n1 h.n12 h.evLow
  obtain ⟨T, hT⟩ : ∃ T : Int, T = isum (fun i => ((X i - Y i).natAbs : Int)) n := ⟨_, rfl⟩
  obtain ⟨V, hV⟩ : ∃ V : Int, V = isum (fun i => X i - Y i) n := ⟨_, rfl⟩
  have hab := isum_abs (fun i => X i - Y i) n
  have hT0 : 0 ≤ T := by rw [hT]; exact isum_nonneg (fun i => by omega) n
  rw [← hT, ← hV] at hab
  rw [isum_mul 4, ← hV] at e1
  rw [isum_mul 4, ← hT] at e2
  rw [isum_mul 2, ← hT] at e3
  have e45 : isum (fun i => qHi (X i - Y i)) n + isum (fun i => qLo (X i - Y i)) n = 4 * T := by
    rw [← isum_add, hT, ← isum_mul 4]
    exact isum_congr (fun i _ => qHiLo _) n (Nat.le_refl _)
  have r45 : ((isum (fun i => qHi (X i - Y i)) n : Int) : Rat) + ((isum (fun i => qLo (X i - Y i)) n : Int) : Rat) = ((4 * T : Int) : Rat) := by rw [← e45, Rat.intCast_add]
  have cT : ((4 * T : Int) : Rat) = 4 * ((T : Int) : Rat) := by rw [Rat.intCast_mul]; rfl
  have cT2 : ((2 * T : Int) : Rat) = 2 * ((T : Int) : Rat) := by rw [Rat.intCast_mul]; rfl
  have cV : ((4 * V : Int) : Rat) = 4 * ((V : Int) : Rat) := by rw [Rat.intCast_mul]; rfl
  have a1 : ((V : Int) : Rat) ≤ ((T : Int) : Rat) := Rat.intCast_le_intCast.2 hab.2
  have a2 : ((-T : Int) : Rat) ≤ ((V : Int) : Rat) := Rat.intCast_le_intCast.2 hab.1
  rw [Rat.intCast_neg] at a2
  have a3 : ((0 : Int) : Rat) ≤ ((T : Int) : Rat) := Rat.intCast_le_intCast.2 hT0
  have a4 : ((0 : Int) : Rat) = 0 := rfl
  have a5 : ((304 : Int) : Rat) = 304 := rfl
  rw [a4] at a3
  rw [a5] at g1 g2 i1 i2 i3 i4
  rw [cV] at e1
  rw [cT] at e2 r45
  rw [cT2] at e3
  have w1 : u1 ≤ u2 := div_cancel hn0 (by grind)
  have w2 : -u2 ≤ u1 := div_cancel hn0 (by grind)
  have w3 : u2 / 2 ≤ u3 := div_cancel hn0 (by grind)
  have w4 : u3 ≤ u2 / 2 := div_cancel hn0 (by grind)
  have w5 : u2 ≤ u4 + u5 := div_cancel hn0 (by grind)
  have w6 : u4 + u5 ≤ u2 := div_cancel hn0 (by grind)
  have w7 : 0 ≤ u2 := div_cancel hn0 (by grind)
  have y1 := s1.2.2 38 (by grind) (by grind)
  have y2 := s2.2.2 38 (by grind) (by grind)
  have y3 := s3.2.2 38 (by grind) (by grind)
  have y4 := s4.2.2 38 (by grind) (by grind)
  have y5 := s5.2.2 38 (by grind) (by grind)
  have z2 := s2.1 w7
  have z3 := s3.1 (by grind)
  have hE : (4 : Rat) * e32 = 1 / 2097152 := by decide +kernel
  rw [hE] at y1 y2 y3 y4 y5
  refine ⟨m, z, a, b, c, q1, q2, q3, q4, q5, f1, f2, f3, f4, f5, z2, by grind, by grind, by grind, by grind, by grind, by grind, by grind, z3, by grind, by grind, by grind, by grind, by grind, u2, ?_, w7, by grind, by grind⟩
  rw [← hT]; grind
/-- The root of the mean of squares. -/
theorem Hz.root (h : Hz n cs ds X Y) {u2 : Rat} (hu : u2 * (n : Rat) = ((isum (fun i => ((X i - Y i).natAbs : Int)) n : Int) : Rat) / 2) (hu0 : 0 ≤ u2) (hu38 : u2 ≤ 38) :
    ∃ r : Rat, rmsQ cs ds = (rootF (msMean cs ds), true) ∧ QV S (rootF (msMean cs ds)) r ∧ 0 ≤ r ∧ r ≤ 2048 ∧ u2 ≤ r + 1 / 2000 ∧ ((∀ i, i < n → X i = Y i) → r = 0) := by
  have hn0 : (0 : Rat) < (n : Rat) := by
    have : ((0 : Nat) : Rat) < (n : Rat) := Rat.natCast_lt_natCast.2 h.n1
    exact this
  obtain ⟨s, x, e1, q1, s1, b1, b2, f1⟩ := mean_qv (B := 11552) (by decide) (by decide) h.n1 h.n12 h.evSq
  have hmm : msMean cs ds = divF (ssO (fun i => mulF (dW cs ds i) (dW cs ds i)) n) (fI n) := by rw [msMean, h.lc, sqsL_ssO]; rfl
  rw [← hmm] at q1 f1
  have a5 : ((11552 : Int) : Rat) = 11552 := rfl
  rw [a5] at b1 b2
  obtain ⟨T, hT⟩ : ∃ T : Int, T = isum (fun i => ((X i - Y i).natAbs : Int)) n := ⟨_, rfl⟩
  obtain ⟨V, hV⟩ : ∃ V : Int, V = isum (fun i => (X i - Y i) * (X i - Y i)) n := ⟨_, rfl⟩
  have hV0 : 0 ≤ V := by
    rw [hV]; refine isum_nonneg (fun i => ?_) n
    rcases Int.le_total 0 (X i - Y i) with h | h
    · exact Int.mul_nonneg h h
    · have := Int.mul_nonneg (show 0 ≤ -(X i - Y i) by omega) (show 0 ≤ -(X i - Y i) by omega)
      rwa [Int.neg_mul_neg] at this
  have hc := isum_cauchy (fun i => ((X i - Y i).natAbs : Int)) n
  have hsq : isum (fun i => ((X i - Y i).natAbs : Int) * ((X i - Y i).natAbs : Int)) n = V := by
    rw [hV]; exact isum_congr (fun i _ => Int.natAbs_mul_self' _) n (Nat.le_refl _)
  rw [hsq, ← hT] at hc
  rw [isum_mul 2, ← hV] at e1
  rw [← hT] at hu
  have cV : ((2 * V : Int) : Rat) = 2 * ((V : Int) : Rat) := by rw [Rat.intCast_mul]; rfl
  have c1 : ((T * T : Int) : Rat) ≤ (((n : Int) * V : Int) : Rat) := Rat.intCast_le_intCast.2 hc
  have en : (((n : Nat) : Int) : Rat) = (n : Rat) := rfl
  rw [Rat.intCast_mul, Rat.intCast_mul, en] at c1
  have c2 : ((0 : Int) : Rat) ≤ ((V : Int) : Rat) := Rat.intCast_le_intCast.2 hV0
  have a4 : ((0 : Int) : Rat) = 0 := rfl
  rw [a4] at c2
  rw [cV] at e1
  have hs0 : 0 ≤ s := div_cancel hn0 (by grind)
  have hsz : (∀ i, i < n → X i = Y i) → s = 0 := by
    intro he
    have : V = 0 := by
      rw [hV, isum_congr (g := fun _ => 0) (fun i hi => by rw [he i hi]; simp) n (Nat.le_refl _)]
      have := isum_mul 0 (fun _ => 0) n
      simpa using this
    rw [this, a4] at e1
    have := div_cancel (u := s) (v := 0) hn0 (by grind)
    grind
  generalize ((T : Int) : Rat) = t at *
  generalize ((V : Int) : Rat) = v at *
  -- u2 * u2 ≤ s
  have hus : u2 * u2 ≤ s := by
    refine div_cancel hn0 (div_cancel hn0 ?_)
    have k1 : u2 * u2 * (n : Rat) * (n : Rat) = (u2 * (n : Rat)) * (u2 * (n : Rat)) := by grind
    rw [k1, hu]
    have k2 : s * (n : Rat) * (n : Rat) = (2 * v / 8) * (n : Rat) := by rw [e1]
    rw [k2]
    grind
  have y1 := s1.2.2 s (by grind) (by grind)
  have hE : (4 : Rat) * e32 = 1 / 2097152 := by decide +kernel
  rw [hE] at y1
  have x0 := s1.1 hs0
  obtain ⟨r, qr, z0, r0, r1, r2, r3⟩ := rootF_qv q1 x0 (by grind)
  have hfr : fin (rootF (msMean cs ds)) = true := qv_finB qr (by grind) (by grind)
  refine ⟨r, ?_, qr, r0, r1, ?_, ?_⟩
  · have h1 : msQ cs ds = (msMean cs ds, true) := by rw [msQ, h.two, if_pos rfl, numB_fin f1]
    rw [rmsQ, h1]
    exact numB_fin hfr
  · rcases Classical.em (u2 ≤ r + 1 / 2000) with hh | hh
    · exact hh
    · exfalso
      have hh := Rat.not_le.1 hh
      have p1 : 0 ≤ (u2 - 1 / 2000 - r) * (u2 - 1 / 2000 + r) := Rat.mul_nonneg (by grind) (by grind)
      have p2 : (u2 - 1 / 2000 - r) * (u2 - 1 / 2000 + r) = u2 * u2 - u2 / 1000 + 1 / 4000000 - r * r := by grind
      have p3 : 0 ≤ u2 * (38 - u2) := Rat.mul_nonneg hu0 (by grind)
      have p4 : u2 * (38 - u2) = 38 * u2 - u2 * u2 := by grind
      grind
  · intro he
    have hs := hsz he
    refine z0 ?_
    have h1 := s1.1 hs0
    have h2 := s1.2.1 (by grind)
    grind
end

end Go.Proofs.Ytkkomajokdlkeaa

namespace Go.Proofs.Ytkkomajokdlkeaa
set_option linter.unusedSimpArgs false
set_option linter.unusedVariables false
set_option maxRecDepth 100000
set_option maxHeartbeats 4000000
set_option linter.unusedSimpArgs false
set_option linter.unusedVariables false
open Go.RowKit
theorem m2_all : ∀ i : Fin 77, evB (mulF 1073741824 (h2r (i.val : Int))) (8 * (i.val : Int)) = true := by decide +kernel
theorem m2_ev {k : Nat} (h : k ≤ 76) : Ev (mulF 1073741824 (h2r (k : Int))) (8 * (k : Int)) := ev_of (m2_all ⟨k, by omega⟩)
structure ShOk (d x g : Nat) : Prop where
  n1 : (S.read (absW d)).isNaN = false
  n2 : (S.read (absW x)).isNaN = false
  n3 : (S.read (absW g)).isNaN = false
  n4 : (S.read (addF (absW x) (absW g))).isNaN = false
  n5 : (S.read (mulF 1073741824 (absW d))).isNaN = false
  n6 : fc .eql .f32 (addF (absW x) (absW g)) 0 = false → (S.read (divF (mulF 1073741824 (absW d)) (addF (absW x) (absW g)))).isNaN = false
theorem sh_one {x y : Int} (x1 : -38 ≤ x ∧ x ≤ 38) (y1 : -38 ≤ y ∧ y ≤ 38) : ShOk (h2r (x - y)) (h2r x) (h2r y) ∧ ∃ s, QV S (shW (h2r (x - y)) (h2r x) (h2r y)) s ∧ 0 ≤ s ∧ s ≤ 2 + 1 / 500000 := by
  have ed := (h2_abs (x := x - y) (by omega) (by omega)).1
  have ex := (h2_abs (x := x) (by omega) (by omega)).1
  have ey := (h2_abs (x := y) (by omega) (by omega)).1
  have vd := h2_ev (x := ((x - y).natAbs : Int)) (by omega) (by omega)
  have vx := h2_ev (x := (x.natAbs : Int)) (by omega) (by omega)
  have vy := h2_ev (x := (y.natAbs : Int)) (by omega) (by omega)
  have vs := vx.add vy (by omega)
  have vp := m2_ev (k := (x - y).natAbs) (by omega)
  have hz := vs.eql ev_zero
  by_cases h0 : 4 * (x.natAbs : Int) + 4 * (y.natAbs : Int) = 0
  · rw [decide_eq_true h0] at hz
    have hS : shW (h2r (x - y)) (h2r x) (h2r y) = 0 := by unfold shW; rw [ex, ey, hz]; rfl
    refine ⟨⟨by rw [ed]; exact vd.notNaN, by rw [ex]; exact vx.notNaN, by rw [ey]; exact vy.notNaN, by rw [ex, ey]; exact vs.notNaN, by rw [ed]; exact vp.notNaN, ?_⟩, ?_⟩
    · rw [ex, ey, hz]; intro h; cases h
    · rw [hS]; exact ⟨0, zero_qv, by grind, by grind⟩
  · rw [decide_eq_false h0] at hz
    have hS : shW (h2r (x - y)) (h2r x) (h2r y) = divF (mulF 1073741824 (h2r ((x - y).natAbs : Int))) (addF (h2r (x.natAbs : Int)) (h2r (y.natAbs : Int))) := by unfold shW; rw [ex, ey, hz, ed]; rfl
    have qp := vp.qv
    have qs := vs.qv
    have c1 : ((1 : Int) : Rat) ≤ (((4 * (x.natAbs : Int) + 4 * (y.natAbs : Int) : Int)) : Rat) := Rat.intCast_le_intCast.2 (by omega)
    have c2 : (((8 * ((x - y).natAbs : Int) : Int)) : Rat) ≤ ((2 * (4 * (x.natAbs : Int) + 4 * (y.natAbs : Int)) : Int) : Rat) := Rat.intCast_le_intCast.2 (by omega)
    have c3 : ((0 : Int) : Rat) ≤ (((8 * ((x - y).natAbs : Int) : Int)) : Rat) := Rat.intCast_le_intCast.2 (by omega)
    rw [Rat.intCast_mul (a := 2)] at c2
    have a1 : ((1 : Int) : Rat) = 1 := rfl
    have a2 : ((2 : Int) : Rat) = 2 := rfl
    have a0 : ((0 : Int) : Rat) = 0 := rfl
    rw [a1] at c1
    rw [a2] at c2
    rw [a0] at c3
    generalize (((4 * (x.natAbs : Int) + 4 * (y.natAbs : Int) : Int)) : Rat) = q at *
    generalize (((8 * ((x - y).natAbs : Int) : Int)) : Rat) = p at *
    have hw : p / 8 / (q / 8) * (q / 8) = p / 8 := Rat.div_mul_cancel (by grind)
    generalize p / 8 / (q / 8) = u at *
    have hq0 : 0 < q / 8 := by grind
    have u0 : 0 ≤ u := div_cancel hq0 (by grind)
    have u2 : u ≤ 2 := div_cancel hq0 (by grind)
    obtain ⟨z, hz2, hns⟩ := divF_qv qp qs (by grind) hw (by grind) (by grind)
    have z0 := hns.1 u0
    have z1 := hns.2.2 2 (by grind) (by grind)
    have hE : (4 : Rat) * e32 = 1 / 2097152 := by decide +kernel
    rw [hE] at z1
    refine ⟨⟨by rw [ed]; exact vd.notNaN, by rw [ex]; exact vx.notNaN, by rw [ey]; exact vy.notNaN, by rw [ex, ey]; exact vs.notNaN, by rw [ed]; exact vp.notNaN, ?_⟩, ?_⟩
    · intro _; rw [ex, ey, ed]; exact hz2.notNaN
    · rw [hS]; exact ⟨z, hz2, z0, by grind⟩
theorem ssO_qv {F : Nat → Nat} {n : Nat} (hn : n ≤ 12) (h : ∀ i, i < n → ∃ s, QV S (F i) s ∧ 0 ≤ s ∧ s ≤ 2 + 1 / 500000) : ∀ k, k ≤ n → ∃ s, QV S (ssO F k) s ∧ 0 ≤ s ∧ s ≤ (2 + 1 / 50000) * (k : Rat)
  | 0, _ => ⟨0, zero_qv, by grind, by have : ((0 : Nat) : Rat) = 0 := rfl; grind⟩
  | k + 1, hk => by
    obtain ⟨s, q1, s0, s1⟩ := ssO_qv hn h k (by omega)
    obtain ⟨t, q2, t0, t1⟩ := h k (by omega)
    have k12 : (k : Rat) ≤ 12 := by
      have : (k : Rat) ≤ ((12 : Nat) : Rat) := Rat.natCast_le_natCast.2 (by omega)
      exact this
    obtain ⟨z, q3, n1, -, n2⟩ := addF_qv q1 q2 (by unfold big; grind) (by unfold big; grind)
    have h2 := n2 30 (by grind) (by grind)
    refine ⟨z, q3, n1 (by grind), ?_⟩
    rw [cast_succ]
    unfold e32 at h2
    grind
section
variable {n : Nat} {cs ds : List Nat} {X Y : Nat → Int}
theorem Hz.shOk (h : Hz n cs ds X Y) {k : Nat} (hk : k < n) : ShOk (dW cs ds k) (cs.getD k 0) (ds.getD k 0) ∧ ∃ s, QV S (fSh cs ds k) s ∧ 0 ≤ s ∧ s ≤ 2 + 1 / 500000 := by
  rw [fSh, (h.dw hk).1, h.c k hk, h.d k hk]
  exact sh_one (h.x k) (h.y k)
theorem Hz.msSh (h : Hz n cs ds X Y) : MS cs ds (fSh cs ds) (ssO (fSh cs ds)) where
  ok := h.two
  sub := fun k hk => (h.dw_no (by rw [h.lc] at hk; exact hk)).1
  no := fun k hk => by
    obtain ⟨s, q, -⟩ := (h.shOk (by rw [h.lc] at hk; exact hk)).2
    exact q.notNaN
  zero := rfl
  sum := fun _ _ => rfl
  sno := fun k hk => by
    obtain ⟨s, q, -⟩ := ssO_qv h.n12 (fun i hi => (h.shOk hi).2) k (by rw [h.lc] at hk; exact hk)
    exact q.notNaN
theorem Hz.share (h : Hz n cs ds X Y) : ∃ s, QV S (mzW (fSh cs ds) n) s ∧ fin (mzW (fSh cs ds) n) = true ∧ 0 ≤ s ∧ s ≤ 2 + 1 / 10000 := by
  have hn0 : (0 : Rat) < (n : Rat) := by
    have : ((0 : Nat) : Rat) < (n : Rat) := Rat.natCast_lt_natCast.2 h.n1
    exact this
  obtain ⟨t, q, t0, t1⟩ := ssO_qv h.n12 (fun i hi => (h.shOk hi).2) n (Nat.le_refl _)
  have hw : t / (n : Rat) * (n : Rat) = t := Rat.div_mul_cancel (by grind)
  generalize t / (n : Rat) = u at *
  have u0 : 0 ≤ u := div_cancel hn0 (by grind)
  have u2 : u ≤ 2 + 1 / 50000 := div_cancel hn0 (by grind)
  obtain ⟨z, hz2, hns⟩ := divF_qv q (fI_qv12 h.n12) (by grind) hw (by grind) (by grind)
  have z0 := hns.1 u0
  have z1 := hns.2.2 3 (by grind) (by grind)
  have hE : (4 : Rat) * e32 = 1 / 2097152 := by decide +kernel
  rw [hE] at z1
  exact ⟨z, hz2, qv_finB hz2 (by grind) (by grind), z0, by grind⟩
end

end Go.Proofs.Ytkkomajokdlkeaa
