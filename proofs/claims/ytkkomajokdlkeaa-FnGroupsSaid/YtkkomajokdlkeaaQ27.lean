/- Groups that are joined, the nearest two first: the program's search and the reference's find the same. Plain: no program. -/
import Derived.Test.YtkkomajokdlkeaaQ6
namespace Go.Proofs.Ytkkomajokdlkeaa
set_option linter.unusedSimpArgs false
set_option linter.unusedVariables false
set_option maxRecDepth 100000
set_option maxHeartbeats 4000000
open Go.RowKit
/-- A pair of groups and how far they are apart, as one number. -/
def kT (t : Nat × Int × Int) : Int := ((t.1 : Int) * 16 + t.2.1) * 16 + t.2.2
def lb (gs : List Int) (i : Nat) : Int := gs.getD i 0
abbrev Bst := Option (Nat × Int × Int)
/-- The better one of what is best so far and one more. -/
def updT (st : Bst) (t : Nat × Int × Int) : Bst :=
  match st with
  | none => some t
  | some s => if t.1 < s.1 ∨ (t.1 = s.1 ∧ (t.2.1 < s.2.1 ∨ (t.2.1 = s.2.1 ∧ t.2.2 < s.2.2))) then some t else some s
def cdT (D : Nat → Nat → Nat) (gs : List Int) (i k : Nat) : Nat × Int × Int := (D i k, min (lb gs i) (lb gs k), max (lb gs i) (lb gs k))
/-- The program's search. -/
def scIn (D : Nat → Nat → Nat) (gs : List Int) (i : Nat) (st : Bst) : Nat → Bst
  | 0 => st
  | k + 1 => if i < k ∧ lb gs i ≠ lb gs k then updT (scIn D gs i st k) (cdT D gs i k) else scIn D gs i st k
def scN (D : Nat → Nat → Nat) (gs : List Int) (n : Nat) : Nat → Bst
  | 0 => none
  | i + 1 => scIn D gs i (scN D gs n i) n
theorem scIn_first (D : Nat → Nat → Nat) (gs : List Int) (i : Nat) (st : Bst) : ∀ k, k ≤ i + 1 → scIn D gs i st k = st
  | 0, _ => rfl
  | k + 1, h => by rw [scIn, if_neg (by omega)]; exact scIn_first D gs i st k (by omega)
/-- The reference's search: how far two groups are apart. -/
def fmIn (D : Nat → Nat → Nat) (gs : List Int) (i k : Int) (p : Nat) (o : Option Nat) : Nat → Option Nat
  | 0 => o
  | q + 1 => if lb gs p = i ∧ lb gs q = k then (match fmIn D gs i k p o q with | none => some (D p q) | some f => if D p q < f then some (D p q) else some f) else fmIn D gs i k p o q
def fmN (D : Nat → Nat → Nat) (gs : List Int) (i k : Int) (n : Nat) : Nat → Option Nat
  | 0 => none
  | p + 1 => fmIn D gs i k p (fmN D gs i k n p) n
def updS (st : Bst) (o : Option Nat) (i k : Int) : Bst :=
  match o with
  | none => st
  | some f => match st with
    | none => some (f, i, k)
    | some s => if f < s.1 then some (f, i, k) else some s
def spIn (D : Nat → Nat → Nat) (gs : List Int) (n i : Nat) (st : Bst) : Nat → Bst
  | 0 => st
  | k + 1 => if i < k then updS (spIn D gs n i st k) (fmN D gs (i : Int) (k : Int) n n) (i : Int) (k : Int) else spIn D gs n i st k
def spN (D : Nat → Nat → Nat) (gs : List Int) (n : Nat) : Nat → Bst
  | 0 => none
  | i + 1 => spIn D gs n i (spN D gs n i) n
theorem spIn_first (D : Nat → Nat → Nat) (gs : List Int) (n i : Nat) (st : Bst) : ∀ k, k ≤ i + 1 → spIn D gs n i st k = st
  | 0, _ => rfl
  | k + 1, h => by rw [spIn, if_neg (by omega)]; exact spIn_first D gs n i st k (by omega)

/-- The best of all that fit. -/
structure BestOf (C : Nat × Int × Int → Prop) (st : Bst) : Prop where
  none_ : st = none → ∀ t, ¬ C t
  some_ : ∀ s, st = some s → C s ∧ ∀ t, C t → kT s ≤ kT t
def Low (t : Nat × Int × Int) : Prop := 0 ≤ t.2.1 ∧ t.2.1 ≤ 15 ∧ 0 ≤ t.2.2 ∧ t.2.2 ≤ 15
theorem BestOf.uniq {C : Nat × Int × Int → Prop} (hC : ∀ t, C t → Low t) {s t : Bst} (hs : BestOf C s) (ht : BestOf C t) : s = t := by
  cases s with
  | none =>
    cases t with
    | none => rfl
    | some y => exact absurd (ht.some_ y rfl).1 (hs.none_ rfl y)
  | some x =>
    cases t with
    | none => exact absurd (hs.some_ x rfl).1 (ht.none_ rfl x)
    | some y =>
      obtain ⟨h1, h2⟩ := hs.some_ x rfl
      obtain ⟨h3, h4⟩ := ht.some_ y rfl
      have h5 := h2 y h3
      have h6 := h4 x h1
      obtain ⟨a1, a2, a3, a4⟩ := hC x h1
      obtain ⟨b1, b2, b3, b4⟩ := hC y h3
      obtain ⟨x1, x2, x3⟩ := x
      obtain ⟨y1, y2, y3⟩ := y
      simp only [kT] at *
      have : x1 = y1 ∧ x2 = y2 ∧ x3 = y3 := by omega
      obtain ⟨rfl, rfl, rfl⟩ := this
      rfl
theorem BestOf.congr {C E : Nat × Int × Int → Prop} {s : Bst} (h : BestOf C s) (he : ∀ t, C t ↔ E t) : BestOf E s :=
  ⟨fun h0 t ht => h.none_ h0 t ((he t).2 ht), fun s hs => ⟨(he s).1 (h.some_ s hs).1, fun t ht => (h.some_ s hs).2 t ((he t).2 ht)⟩⟩
theorem BestOf.upd {C : Nat × Int × Int → Prop} {st : Bst} (h : BestOf C st) (hC : ∀ t, C t → Low t) {t : Nat × Int × Int} (hl : Low t) : BestOf (fun x => C x ∨ x = t) (updT st t) := by
  cases st with
  | none => exact ⟨fun h0 => (by cases h0), fun s hs => by
      cases hs
      exact ⟨.inr rfl, fun x hx => by
        rcases hx with hx | rfl
        · exact absurd hx (h.none_ rfl x)
        · exact Int.le_refl _⟩⟩
  | some s =>
    obtain ⟨h1, h2⟩ := h.some_ s rfl
    have ls := hC s h1
    unfold updT
    dsimp only
    split
    · rename_i hc
      refine ⟨fun h0 => (by cases h0), fun y hy => ?_⟩
      cases hy
      refine ⟨.inr rfl, fun x hx => ?_⟩
      rcases hx with hx | rfl
      · have := h2 x hx
        unfold kT Low at *
        omega
      · exact Int.le_refl _
    · rename_i hc
      refine ⟨fun h0 => (by cases h0), fun y hy => ?_⟩
      cases hy
      refine ⟨.inl h1, fun x hx => ?_⟩
      rcases hx with hx | rfl
      · exact h2 x hx
      · unfold kT Low at *
        omega
/-- Labels that fit. -/
def LbOk (gs : List Int) (n : Nat) : Prop := gs.length = n ∧ n ≤ 16 ∧ ∀ i, i < n → 0 ≤ lb gs i ∧ lb gs i < (n : Int)
def CI (D : Nat → Nat → Nat) (gs : List Int) (n i m : Nat) (t : Nat × Int × Int) : Prop := ∃ p q, p < q ∧ q < n ∧ lb gs p ≠ lb gs q ∧ (p < i ∨ (p = i ∧ q < m)) ∧ t = cdT D gs p q
theorem CI_low {D : Nat → Nat → Nat} {gs : List Int} {n i m : Nat} (h : LbOk gs n) {t : Nat × Int × Int} (ht : CI D gs n i m t) : Low t := by
  obtain ⟨p, q, h1, h2, h3, -, rfl⟩ := ht
  obtain ⟨-, h0, h4⟩ := h
  have := h4 p (by omega)
  have := h4 q h2
  unfold Low cdT
  dsimp only
  omega
theorem scIn_best {D : Nat → Nat → Nat} {gs : List Int} {n i : Nat} (h : LbOk gs n) (hi : i < n) {st : Bst} (hs : BestOf (CI D gs n i 0) st) : ∀ m, m ≤ n → BestOf (CI D gs n i m) (scIn D gs i st m)
  | 0, _ => hs
  | k + 1, hk => by
    have ih := scIn_best h hi hs k (by omega)
    rw [scIn]
    by_cases hc : i < k ∧ lb gs i ≠ lb gs k
    · rw [if_pos hc]
      have hl : Low (cdT D gs i k) := CI_low h (D := D) (i := i) (m := k + 1) ⟨i, k, hc.1, by omega, hc.2, .inr ⟨rfl, by omega⟩, rfl⟩
      refine (ih.upd (fun t ht => CI_low h ht) hl).congr fun t => ⟨fun ht => ?_, fun ht => ?_⟩
      · rcases ht with ⟨p, q, a, b, c, d, e⟩ | rfl
        · exact ⟨p, q, a, b, c, by omega, e⟩
        · exact ⟨i, k, hc.1, by omega, hc.2, .inr ⟨rfl, by omega⟩, rfl⟩
      · obtain ⟨p, q, a, b, c, d, e⟩ := ht
        by_cases hq : p = i ∧ q = k
        · obtain ⟨rfl, rfl⟩ := hq
          exact .inr e
        · exact .inl ⟨p, q, a, b, c, by omega, e⟩
    · rw [if_neg hc]
      refine ih.congr fun t => ⟨fun ⟨p, q, a, b, c, d, e⟩ => ⟨p, q, a, b, c, by omega, e⟩, fun ⟨p, q, a, b, c, d, e⟩ => ⟨p, q, a, b, c, ?_, e⟩⟩
      by_cases hq : p = i ∧ q = k
      · obtain ⟨rfl, rfl⟩ := hq
        exact absurd ⟨a, c⟩ hc
      · omega
theorem scN_best {D : Nat → Nat → Nat} {gs : List Int} {n : Nat} (h : LbOk gs n) : ∀ i, i ≤ n → BestOf (CI D gs n i 0) (scN D gs n i)
  | 0, _ => ⟨fun _ t ⟨p, q, a, b, c, d, e⟩ => by omega, fun s hs => by cases hs⟩
  | i + 1, hi => by
    have ih := scN_best (D := D) h i (by omega)
    have := scIn_best (D := D) h (i := i) (by omega) ih n (Nat.le_refl _)
    refine this.congr fun t => ⟨fun ⟨p, q, a, b, c, d, e⟩ => ⟨p, q, a, b, c, by omega, e⟩, fun ⟨p, q, a, b, c, d, e⟩ => ⟨p, q, a, b, c, by omega, e⟩⟩
/-- The least distance of two groups. -/
def FmOk (D : Nat → Nat → Nat) (gs : List Int) (i k : Int) (n p m : Nat) (o : Option Nat) : Prop :=
  (o = none → ∀ a b, a < n → b < n → (a < p ∨ (a = p ∧ b < m)) → ¬ (lb gs a = i ∧ lb gs b = k)) ∧
  ∀ f, o = some f → (∃ a b, a < n ∧ b < n ∧ (a < p ∨ (a = p ∧ b < m)) ∧ lb gs a = i ∧ lb gs b = k ∧ f = D a b) ∧ ∀ a b, a < n → b < n → (a < p ∨ (a = p ∧ b < m)) → lb gs a = i → lb gs b = k → f ≤ D a b
theorem fmIn_ok {D : Nat → Nat → Nat} {gs : List Int} {i k : Int} {n p : Nat} (hp : p < n) {o : Option Nat} (h : FmOk D gs i k n p 0 o) : ∀ m, m ≤ n → FmOk D gs i k n p m (fmIn D gs i k p o m)
  | 0, _ => h
  | q + 1, hq => by
    obtain ⟨i1, i2⟩ := fmIn_ok hp h q (by omega)
    rw [fmIn]
    by_cases hc : lb gs p = i ∧ lb gs q = k
    · rw [if_pos hc]
      cases ho : fmIn D gs i k p o q with
      | none =>
        refine ⟨fun h0 => (by cases h0), fun f hf => ?_⟩
        cases hf
        refine ⟨⟨p, q, hp, by omega, .inr ⟨rfl, by omega⟩, hc.1, hc.2, rfl⟩, fun a b ha hb hab h1 h2 => ?_⟩
        by_cases e : a = p ∧ b = q
        · obtain ⟨rfl, rfl⟩ := e; exact Nat.le_refl _
        · exact absurd ⟨h1, h2⟩ (i1 ho a b ha hb (by omega))
      | some f0 =>
        obtain ⟨⟨a0, b0, c1, c2, c3, c4, c5, c6⟩, i3⟩ := i2 f0 ho
        dsimp only
        by_cases hd : D p q < f0
        · rw [if_pos hd]
          refine ⟨fun h0 => (by cases h0), fun f hf => ?_⟩
          cases hf
          refine ⟨⟨p, q, hp, by omega, .inr ⟨rfl, by omega⟩, hc.1, hc.2, rfl⟩, fun a b ha hb hab h1 h2 => ?_⟩
          by_cases e : a = p ∧ b = q
          · obtain ⟨rfl, rfl⟩ := e; exact Nat.le_refl _
          · have := i3 a b ha hb (by omega) h1 h2; omega
        · rw [if_neg hd]
          refine ⟨fun h0 => (by cases h0), fun f hf => ?_⟩
          cases hf
          refine ⟨⟨a0, b0, c1, c2, by omega, c4, c5, c6⟩, fun a b ha hb hab h1 h2 => ?_⟩
          by_cases e : a = p ∧ b = q
          · obtain ⟨rfl, rfl⟩ := e; omega
          · exact i3 a b ha hb (by omega) h1 h2
    · rw [if_neg hc]
      refine ⟨fun h0 a b ha hb hab hh => ?_, fun f hf => ?_⟩
      · by_cases e : a = p ∧ b = q
        · obtain ⟨rfl, rfl⟩ := e; exact hc hh
        · exact i1 h0 a b ha hb (by omega) hh
      · obtain ⟨⟨a0, b0, c1, c2, c3, c4, c5, c6⟩, i3⟩ := i2 f hf
        refine ⟨⟨a0, b0, c1, c2, by omega, c4, c5, c6⟩, fun a b ha hb hab h1 h2 => ?_⟩
        by_cases e : a = p ∧ b = q
        · obtain ⟨rfl, rfl⟩ := e; exact absurd ⟨h1, h2⟩ hc
        · exact i3 a b ha hb (by omega) h1 h2
theorem fmN_ok {D : Nat → Nat → Nat} {gs : List Int} {i k : Int} {n : Nat} : ∀ p, p ≤ n → FmOk D gs i k n p 0 (fmN D gs i k n p)
  | 0, _ => ⟨fun _ a b _ _ h => by omega, fun f hf => by cases hf⟩
  | p + 1, hp => by
    have ih := fmN_ok (D := D) (gs := gs) (i := i) (k := k) (n := n) p (by omega)
    obtain ⟨i1, i2⟩ := fmIn_ok (show p < n by omega) ih n (Nat.le_refl _)
    refine ⟨fun h0 a b ha hb hab => i1 h0 a b ha hb (by omega), fun f hf => ?_⟩
    obtain ⟨⟨a0, b0, c1, c2, c3, c4, c5, c6⟩, i3⟩ := i2 f hf
    exact ⟨⟨a0, b0, c1, c2, by omega, c4, c5, c6⟩, fun a b ha hb hab => i3 a b ha hb (by omega)⟩
def CS (D : Nat → Nat → Nat) (gs : List Int) (n i m : Nat) (t : Nat × Int × Int) : Prop := ∃ p q, p < n ∧ q < n ∧ lb gs p < lb gs q ∧ (lb gs p < (i : Int) ∨ (lb gs p = (i : Int) ∧ lb gs q < (m : Int))) ∧ t = (D p q, lb gs p, lb gs q)
theorem CS_low {D : Nat → Nat → Nat} {gs : List Int} {n i m : Nat} (h : LbOk gs n) {t : Nat × Int × Int} (ht : CS D gs n i m t) : Low t := by
  obtain ⟨p, q, h1, h2, h3, -, rfl⟩ := ht
  obtain ⟨-, h0, h4⟩ := h
  have := h4 p (by omega)
  have := h4 q h2
  unfold Low
  dsimp only
  omega
theorem spIn_best {D : Nat → Nat → Nat} {gs : List Int} {n i : Nat} (h : LbOk gs n) (hi : i < n) {st : Bst} (hs : BestOf (CS D gs n i 0) st) : ∀ m, m ≤ n → BestOf (CS D gs n i m) (spIn D gs n i st m)
  | 0, _ => hs
  | k + 1, hk => by
    have ih := spIn_best h hi hs k (by omega)
    rw [spIn]
    by_cases hc : i < k
    · rw [if_pos hc]
      obtain ⟨f1, f2⟩ := fmN_ok (D := D) (gs := gs) (i := (i : Int)) (k := (k : Int)) (n := n) n (Nat.le_refl _)
      generalize spIn D gs n i st k = s0 at *
      cases ho : fmN D gs (i : Int) (k : Int) n n with
      | none =>
        refine ih.congr fun t => ⟨fun ⟨p, q, a, b, c, d, e⟩ => ⟨p, q, a, b, c, by omega, e⟩, fun ⟨p, q, a, b, c, d, e⟩ => ⟨p, q, a, b, c, ?_, e⟩⟩
        have := f1 ho p q a b (by omega)
        omega
      | some f =>
        obtain ⟨⟨a0, b0, c1, c2, c3, c4, c5, c6⟩, f3⟩ := f2 f ho
        have hnew : CS D gs n i (k + 1) (f, (i : Int), (k : Int)) := ⟨a0, b0, c1, c2, by omega, by omega, by rw [c4, c5, c6]⟩
        cases s0 with
        | none =>
          refine ⟨fun h0 => (by cases h0), fun s hs => ?_⟩
          cases hs
          refine ⟨hnew, fun t ht => ?_⟩
          obtain ⟨p, q, a, b, c, d, rfl⟩ := ht
          by_cases e : lb gs p = (i : Int) ∧ lb gs q = (k : Int)
          · have := f3 p q a b (by omega) e.1 e.2
            unfold kT
            dsimp only
            omega
          · exact absurd ⟨p, q, a, b, c, by omega, rfl⟩ (ih.none_ rfl (D p q, lb gs p, lb gs q))
        | some s =>
          obtain ⟨g1, g2⟩ := ih.some_ s rfl
          obtain ⟨p0, q0, e1, e2, e3, e4, e5⟩ := g1
          have hlp := h.2.2 p0 e1
          have hlq := h.2.2 q0 e2
          have h16 := h.2.1
          show BestOf _ (if f < s.1 then some (f, (i : Int), (k : Int)) else some s)
          by_cases hf : f < s.1
          · rw [if_pos hf]
            refine ⟨fun h0 => (by cases h0), fun y hy => ?_⟩
            cases hy
            refine ⟨hnew, fun t ht => ?_⟩
            obtain ⟨p, q, a, b, c, d, rfl⟩ := ht
            by_cases e : lb gs p = (i : Int) ∧ lb gs q = (k : Int)
            · have := f3 p q a b (by omega) e.1 e.2
              unfold kT
              dsimp only
              omega
            · have := g2 _ ⟨p, q, a, b, c, by omega, rfl⟩
              rw [e5] at this hf
              unfold kT at *
              dsimp only at *
              omega
          · rw [if_neg hf]
            refine ⟨fun h0 => (by cases h0), fun y hy => ?_⟩
            cases hy
            refine ⟨⟨p0, q0, e1, e2, e3, by omega, e5⟩, fun t ht => ?_⟩
            obtain ⟨p, q, a, b, c, d, rfl⟩ := ht
            by_cases e : lb gs p = (i : Int) ∧ lb gs q = (k : Int)
            · have := f3 p q a b (by omega) e.1 e.2
              rw [e5] at hf ⊢
              unfold kT
              dsimp only at *
              omega
            · exact g2 _ ⟨p, q, a, b, c, by omega, rfl⟩
    · rw [if_neg hc]
      refine ih.congr fun t => ⟨fun ⟨p, q, a, b, c, d, e⟩ => ⟨p, q, a, b, c, by omega, e⟩, fun ⟨p, q, a, b, c, d, e⟩ => ⟨p, q, a, b, c, by omega, e⟩⟩
theorem spN_best {D : Nat → Nat → Nat} {gs : List Int} {n : Nat} (h : LbOk gs n) : ∀ i, i ≤ n → BestOf (CS D gs n i 0) (spN D gs n i)
  | 0, _ => ⟨fun _ t ⟨p, q, a, b, c, d, e⟩ => by have := h.2.2 p a; have := h.2.2 q b; omega, fun s hs => by cases hs⟩
  | i + 1, hi => by
    have ih := spN_best (D := D) h i (by omega)
    have := spIn_best (D := D) h (i := i) (by omega) ih n (Nat.le_refl _)
    refine this.congr fun t => ⟨fun ⟨p, q, a, b, c, d, e⟩ => ⟨p, q, a, b, c, by omega, e⟩, fun ⟨p, q, a, b, c, d, e⟩ => ⟨p, q, a, b, c, by have := h.2.2 q b; omega, e⟩⟩
/-- Both find the same. -/
theorem sp_sc {D : Nat → Nat → Nat} {gs : List Int} {n : Nat} (h : LbOk gs n) (hD : ∀ i k, i < n → k < n → D i k = D k i) : spN D gs n n = scN D gs n n := by
  refine BestOf.uniq (C := CI D gs n n 0) (fun t ht => CI_low h ht) ((spN_best h n (Nat.le_refl _)).congr fun t => ⟨fun ⟨p, q, a, b, c, d, e⟩ => ?_, fun ⟨p, q, a, b, c, d, e⟩ => ?_⟩) (scN_best h n (Nat.le_refl _))
  · rcases Nat.lt_trichotomy p q with hpq | hpq | hpq
    · exact ⟨p, q, hpq, b, by omega, .inl a, by rw [e, cdT, Int.min_eq_left (by omega), Int.max_eq_right (by omega)]⟩
    · subst hpq; omega
    · exact ⟨q, p, hpq, a, by omega, .inl b, by rw [e, cdT, Int.min_eq_right (by omega), Int.max_eq_left (by omega), hD p q a b]⟩
  · have h1 := h.2.2 p (by omega)
    have h2 := h.2.2 q b
    rcases Int.lt_trichotomy (lb gs p) (lb gs q) with hpq | hpq | hpq
    · exact ⟨p, q, by omega, b, hpq, .inl h1.2, by rw [e, cdT, Int.min_eq_left (by omega), Int.max_eq_right (by omega)]⟩
    · exact absurd hpq c
    · exact ⟨q, p, b, by omega, hpq, .inl h2.2, by rw [e, cdT, Int.min_eq_right (by omega), Int.max_eq_left (by omega), hD p q (by omega) b]⟩
/-- What is told of a search. -/
def outT (st : Bst) : Nat × Int × Int := st.getD (0, -1, -1)
def rel (gs : List Int) (a b : Int) : List Int := gs.map fun x => if x = b then a else x
/-- The rounds. -/
def trN (D : Nat → Nat → Nat) (n : Nat) : Nat → List Int × List Int × List Nat
  | 0 => ((List.range n).map (fun i : Nat => (i : Int)), [], [])
  | r + 1 =>
    let t := outT (scN D (trN D n r).1 n n)
    (rel (trN D n r).1 t.2.1 t.2.2, (trN D n r).2.1 ++ [t.2.1, t.2.2], (trN D n r).2.2 ++ [t.1])
theorem lb_rel {gs : List Int} {a b : Int} {i : Nat} (hi : i < gs.length) : lb (rel gs a b) i = if lb gs i = b then a else lb gs i := by
  simp [lb, rel, hi]
theorem tr_lb (D : Nat → Nat → Nat) {n : Nat} (hn : n ≤ 16) : ∀ r, LbOk (trN D n r).1 n
  | 0 => ⟨by simp [trN], hn, fun i hi => by simp [lb, trN, hi]⟩
  | r + 1 => by
    have ih := tr_lb D hn r
    obtain ⟨h1, h2, h3⟩ := ih
    refine ⟨by simp [trN, rel, h1], hn, fun i hi => ?_⟩
    show 0 ≤ lb (rel (trN D n r).1 _ _) i ∧ _
    have hb := scN_best (D := D) ⟨h1, h2, h3⟩ n (Nat.le_refl _)
    have e : lb (trN D n (r + 1)).1 i = if lb (trN D n r).1 i = (outT (scN D (trN D n r).1 n n)).2.2 then (outT (scN D (trN D n r).1 n n)).2.1 else lb (trN D n r).1 i := lb_rel (by rw [h1]; exact hi)
    rw [e, lb_rel (by rw [h1]; exact hi)]
    have := h3 i hi
    cases hs : scN D (trN D n r).1 n n with
    | none =>
      rw [show outT none = (0, -1, -1) from rfl]
      dsimp only
      rw [if_neg (by omega)]
      exact this
    | some s =>
      obtain ⟨⟨p, q, a, b, c, d, e'⟩, -⟩ := hb.some_ s hs
      rw [show outT (some s) = s from rfl, e', cdT]
      dsimp only
      have := h3 p (by omega)
      have := h3 q b
      split <;> omega

end Go.Proofs.Ytkkomajokdlkeaa

namespace Go.Proofs.Ytkkomajokdlkeaa
set_option linter.unusedSimpArgs false
set_option linter.unusedVariables false
set_option maxRecDepth 100000
set_option maxHeartbeats 4000000
open Go.RowKit
def rc (gs : List Int) : Nat → Nat
  | 0 => 0
  | i + 1 => rc gs i + (if lb gs i = (i : Int) then 1 else 0)
theorem rc_one {gs : List Int} : ∀ n, 1 ≤ rc gs n → ∃ p, p < n ∧ lb gs p = (p : Int)
  | 0, h => by simp [rc] at h
  | n + 1, h => by
    rw [rc] at h
    by_cases e : lb gs n = (n : Int)
    · exact ⟨n, by omega, e⟩
    · rw [if_neg e] at h
      obtain ⟨p, h1, h2⟩ := rc_one (gs := gs) n (by omega)
      exact ⟨p, by omega, h2⟩
theorem rc_two {gs : List Int} : ∀ n, 2 ≤ rc gs n → ∃ p q, p < q ∧ q < n ∧ lb gs p = (p : Int) ∧ lb gs q = (q : Int)
  | 0, h => by simp [rc] at h
  | n + 1, h => by
    rw [rc] at h
    by_cases e : lb gs n = (n : Int)
    · rw [if_pos e] at h
      obtain ⟨p, h1, h2⟩ := rc_one (gs := gs) n (by omega)
      exact ⟨p, n, h1, by omega, h2, e⟩
    · rw [if_neg e] at h
      obtain ⟨p, q, h1, h2, h3⟩ := rc_two (gs := gs) n (by omega)
      exact ⟨p, q, h1, by omega, h3⟩
theorem rc_less {gs gs' : List Int} {b n : Nat} (hb : lb gs b = (b : Int)) (h : ∀ i, i < n → (lb gs' i = (i : Int) ↔ (lb gs i = (i : Int) ∧ i ≠ b))) : ∀ m, m ≤ n → rc gs' m + (if b < m then 1 else 0) = rc gs m
  | 0, _ => by simp [rc]
  | m + 1, hm => by
    have ih := rc_less (gs := gs) (gs' := gs') (b := b) (n := n) hb h m (by omega)
    have hi := h m (by omega)
    rw [rc, rc]
    by_cases e : m = b
    · subst e
      rw [if_neg (by omega)] at ih
      rw [if_neg (fun h5 => (hi.1 h5).2 rfl), if_pos (by omega), if_pos hb]
      omega
    · by_cases e2 : lb gs m = (m : Int)
      · rw [if_pos (hi.2 ⟨e2, e⟩), if_pos e2]
        by_cases e3 : b < m
        · rw [if_pos e3] at ih; rw [if_pos (by omega)]; omega
        · rw [if_neg e3] at ih; rw [if_neg (by omega)]; omega
      · rw [if_neg (fun h5 => e2 (hi.1 h5).1), if_neg e2]
        by_cases e3 : b < m
        · rw [if_pos e3] at ih; rw [if_pos (by omega)]; omega
        · rw [if_neg e3] at ih; rw [if_neg (by omega)]; omega
/-- Labels are of those that have their own. -/
structure Rt (gs : List Int) (n c : Nat) : Prop where
  ok : LbOk gs n
  own : ∀ i, i < n → lb gs (lb gs i).toNat = lb gs i
  cnt : rc gs n = c
theorem rt_zero (n : Nat) (hn : n ≤ 16) : Rt ((List.range n).map (fun i : Nat => (i : Int))) n n := by
  have hl : ∀ i, i < n → lb ((List.range n).map (fun i : Nat => (i : Int))) i = (i : Int) := fun i hi => by simp [lb, hi]
  refine ⟨⟨by simp, hn, fun i hi => by rw [hl i hi]; omega⟩, fun i hi => by rw [hl i hi, Int.toNat_natCast, hl i hi], ?_⟩
  have : ∀ m, m ≤ n → rc ((List.range n).map (fun i : Nat => (i : Int))) m = m := by
    intro m
    induction m with
    | zero => intro _; rfl
    | succ m ih => intro hm; rw [rc, ih (by omega), hl m (by omega), if_pos rfl]
  exact this n (Nat.le_refl _)
theorem rt_some {D : Nat → Nat → Nat} {gs : List Int} {n c : Nat} (h : Rt gs n c) (hc : 2 ≤ c) : ∃ s, scN D gs n n = some s ∧ (∃ p q, p < q ∧ q < n ∧ lb gs p ≠ lb gs q ∧ s = cdT D gs p q) ∧ ∀ p q, p < q → q < n → lb gs p ≠ lb gs q → s.1 ≤ D p q := by
  have hb := scN_best (D := D) h.ok n (Nat.le_refl _)
  cases hs : scN D gs n n with
  | none =>
    obtain ⟨p, q, h1, h2, h3, h4⟩ := rc_two n (by rw [h.cnt]; exact hc)
    exact absurd ⟨p, q, h1, h2, by rw [h3, h4]; omega, .inl (by omega), rfl⟩ (hb.none_ hs (cdT D gs p q))
  | some s =>
    obtain ⟨h1, h2⟩ := hb.some_ s hs
    have ls := CI_low h.ok h1
    obtain ⟨p, q, a1, a2, a3, -, a4⟩ := h1
    refine ⟨s, rfl, ⟨p, q, a1, a2, a3, a4⟩, fun p' q' b1 b2 b3 => ?_⟩
    have hc : CI D gs n n 0 (cdT D gs p' q') := ⟨p', q', b1, b2, b3, .inl (by omega), rfl⟩
    have l2 := CI_low h.ok hc
    have := h2 _ hc
    unfold kT Low cdT at *
    dsimp only at *
    omega
theorem rt_next {D : Nat → Nat → Nat} {gs : List Int} {n c : Nat} (h : Rt gs n c) (hc : 2 ≤ c) : Rt (rel gs (outT (scN D gs n n)).2.1 (outT (scN D gs n n)).2.2) n (c - 1) ∧ ∀ p q, p < n → q < n → lb (rel gs (outT (scN D gs n n)).2.1 (outT (scN D gs n n)).2.2) p ≠ lb (rel gs (outT (scN D gs n n)).2.1 (outT (scN D gs n n)).2.2) q → lb gs p ≠ lb gs q := by
  obtain ⟨s, hs, ⟨p, q, h1, h2, h3, h4⟩, -⟩ := rt_some (D := D) h hc
  rw [hs, show outT (some s) = s from rfl]
  have hl := h.ok.1
  have hr := fun i (hi : i < n) => lb_rel (gs := gs) (a := s.2.1) (b := s.2.2) (i := i) (by omega)
  have hp := h.ok.2.2 p (by omega)
  have hq := h.ok.2.2 q h2
  have op := h.own p (by omega)
  have oq := h.own q h2
  have e1 : s.2.1 = min (lb gs p) (lb gs q) := by rw [h4]; rfl
  have e2 : s.2.2 = max (lb gs p) (lb gs q) := by rw [h4]; rfl
  -- the two labels are their own
  have oa : lb gs s.2.1.toNat = s.2.1 := by
    rw [e1]; rcases Int.le_total (lb gs p) (lb gs q) with g | g
    · rw [Int.min_eq_left g]; exact op
    · rw [Int.min_eq_right g]; exact oq
  have ob : lb gs s.2.2.toNat = s.2.2 := by
    rw [e2]; rcases Int.le_total (lb gs p) (lb gs q) with g | g
    · rw [Int.max_eq_right g]; exact oq
    · rw [Int.max_eq_left g]; exact op
  obtain ⟨a, ha⟩ : ∃ a : Nat, s.2.1 = (a : Int) := ⟨s.2.1.toNat, by omega⟩
  obtain ⟨b, hb⟩ : ∃ b : Nat, s.2.2 = (b : Int) := ⟨s.2.2.toNat, by omega⟩
  rw [ha, Int.toNat_natCast] at oa
  rw [hb, Int.toNat_natCast] at ob
  rw [ha, hb] at hr ⊢
  have hab : a ≠ b := by omega
  have han : a < n := by omega
  have hbn : b < n := by omega
  refine ⟨⟨⟨by simp [rel, hl], h.ok.2.1, fun i hi => ?_⟩, fun i hi => ?_, ?_⟩, fun p' q' hp' hq' hne he => ?_⟩
  · have := h.ok.2.2 i hi
    rw [hr i hi]; split <;> omega
  · have hi1 := h.ok.2.2 i hi
    rw [hr i hi]
    split
    · rw [Int.toNat_natCast, hr a han, oa, if_neg (by omega)]
    · rename_i hne
      rw [hr _ (by omega), h.own i hi, if_neg hne]
  · have := rc_less (gs := gs) (gs' := rel gs (a : Int) (b : Int)) (b := b) (n := n) ob (fun i hi => by
      rw [hr i hi]
      constructor
      · intro g
        split at g
        · rename_i g1
          have : i = a := by omega
          subst this
          rw [oa] at g1
          omega
        · rename_i g1
          exact ⟨g, fun e => by subst e; exact g1 ob⟩
      · rintro ⟨g1, g2⟩
        rw [if_neg (by rw [g1]; omega)]
        exact g1) n (Nat.le_refl _)
    rw [if_pos hbn, h.cnt] at this
    omega
  · apply hne
    rw [hr p' hp', hr q' hq', he]
theorem tr_rt (D : Nat → Nat → Nat) {n : Nat} (hn : n ≤ 16) : ∀ r, r + 1 ≤ n → Rt (trN D n r).1 n (n - r)
  | 0, _ => rt_zero n hn
  | r + 1, hr => by
    have ih := tr_rt D hn r (by omega)
    have := (rt_next (D := D) ih (by omega)).1
    rw [show n - (r + 1) = n - r - 1 by omega]
    exact this
/-- The distance of a round. -/
def trV (D : Nat → Nat → Nat) (n r : Nat) : Nat := (outT (scN D (trN D n r).1 n n)).1
theorem tr_mono (D : Nat → Nat → Nat) {n r : Nat} (hn : n ≤ 16) (hr : r + 2 < n) : trV D n r ≤ trV D n (r + 1) := by
  have h0 := tr_rt D hn r (by omega)
  have h1 := tr_rt D hn (r + 1) (by omega)
  obtain ⟨s, hs, -, h2⟩ := rt_some (D := D) h0 (by omega)
  obtain ⟨t, ht, ⟨p, q, a1, a2, a3, a4⟩, -⟩ := rt_some (D := D) h1 (by omega)
  have h3 := (rt_next (D := D) h0 (by omega)).2 p q (by omega) a2 a3
  have h4 := h2 p q a1 a2 h3
  unfold trV
  rw [hs, ht, show outT (some s) = s from rfl, show outT (some t) = t from rfl, a4]
  exact h4
theorem tr_fars (D : Nat → Nat → Nat) (n : Nat) : ∀ r, (trN D n r).2.2.length = r ∧ ∀ i, i < r → (trN D n r).2.2.getD i 0 = trV D n i
  | 0 => ⟨rfl, fun i hi => by omega⟩
  | r + 1 => by
    obtain ⟨h1, h2⟩ := tr_fars D n r
    have e : (trN D n (r + 1)).2.2 = (trN D n r).2.2 ++ [trV D n r] := rfl
    rw [e]
    refine ⟨by rw [List.length_append, h1]; rfl, fun i hi => ?_⟩
    by_cases hi2 : i < r
    · rw [List.getD_eq_getElem?_getD, List.getElem?_append_left (by omega), ← List.getD_eq_getElem?_getD]; exact h2 i hi2
    · have : i = r := by omega
      subst this
      rw [List.getD_eq_getElem?_getD, List.getElem?_append_right (by omega), h1, Nat.sub_self]; rfl

end Go.Proofs.Ytkkomajokdlkeaa
