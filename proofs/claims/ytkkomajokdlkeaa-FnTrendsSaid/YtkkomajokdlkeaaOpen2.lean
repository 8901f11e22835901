/- What comes in, opened: slices of one-cell elements, slices of slices of numbers. -/
import Derived.Test.YtkkomajokdlkeaaOpen
import Derived.Test.YtkkomajokdlkeaaGen
namespace Go.Proofs.Ytkkomajokdlkeaa
set_option linter.unusedSimpArgs false
set_option linter.unusedVariables false
set_option maxRecDepth 100000
set_option maxHeartbeats 4000000
open Go.RowKit Go.ChangeShapes Go.WideShapes Go.Deep

/-- Every integer fits. -/
def allWf (xs : List Int) : Prop := ∀ x ∈ xs, (Lit.int .i64 x).wf = true
theorem allWf.get {xs : List Int} (h : allWf xs) (i : Nat) : (Lit.int .i64 (xs.getD i 0)).wf = true := by
  rcases Nat.lt_or_ge i xs.length with hi | hi
  · have e : xs.getD i 0 = xs[i] := by simp [hi]
    rw [e]; exact h _ (List.getElem_mem hi)
  · have e : xs.getD i 0 = 0 := by simp [hi]
    rw [e]; decide
/-- A slice of slices of float32 numbers is read. -/
def SS (w : World) (v : Value) (css : List (List Nat)) : Prop :=
  ∃ vs : List Value, GL id w v vs ∧ vs.length = css.length ∧ ∀ i (h1 : i < vs.length) (h2 : i < css.length), SB w vs[i] css[i]
theorem SS.keep {w w' : World} {v : Value} {css : List (List Nat)} (h : SS w v css) (hb : Below w.heap.size w w') : SS w' v css := by
  obtain ⟨vs, h1, h2, h3⟩ := h
  exact ⟨vs, h1.keep hb, h2, fun i a b => (h3 i a b).keep hb⟩
theorem SS.below {w w' : World} {v : Value} {css : List (List Nat)} {B : Nat} (h : SS w v css) (hb : Below B w w') (hB : w.heap.size ≤ B) : SS w' v css := h.keep (hb.mono hB)
theorem SS.drewN {w : World} {v : Value} {css : List (List Nat)} (h : SS w v css) (n : Nat) : SS (w.drewN n) v css := h
theorem SS.get {w : World} {v : Value} {css : List (List Nat)} (h : SS w v css) {n : Nat} (hn : css.length = n) : ∃ ao c, v = .slice ao n c ∧ n ≤ c ∧ c ≤ 9223372036854775807 ∧ ∀ i, i < n → ∃ b off u, ao = some ⟨b, off, none⟩ ∧ b < w.heap.size ∧ w.cell? ⟨b, off + i, none⟩ = some u ∧ SB w u (css.getD i []) := by
  obtain ⟨vs, ⟨ao, c, rfl, h3, h4⟩, h2, h5⟩ := h
  subst hn
  refine ⟨ao, c, by rw [h2], by omega, h3.2, fun i hi => ?_⟩
  obtain ⟨b, off, e1, e2, e3⟩ := h4 i (by omega)
  refine ⟨b, off, vs[i], e1, e2, e3, ?_⟩
  have e : css.getD i [] = css[i] := by simp [hi]
  rw [e]; exact h5 i (by omega) hi

section
variable {H : Type} {enc : TypeId × Value → H} {P : Program} {w : World} {base : Nat} {spare : Nat → Bool} {held : Bool}
theorem trod_int' {fuel : Nat} {t : TypeId} {k : IntKind} {cs : List Value} {x : DataW H × List MemPlace} (ht : P.underlying t = some (.int k)) (h : DataW.trod enc P w base spare held fuel t cs = some x) :
    ∃ b, cs = [.int k b] ∧ (Lit.int k b).wf = true := by
  cases fuel with
  | zero => simp [DataW.trod] at h
  | succ n =>
    unfold DataW.trod at h
    rw [ht] at h
    split at h <;> simp_all
theorem trod_bool' {fuel : Nat} {t : TypeId} {cs : List Value} {x : DataW H × List MemPlace} (ht : P.underlying t = some .bool) (h : DataW.trod enc P w base spare held fuel t cs = some x) :
    ∃ b, cs = [.bool b] := by
  cases fuel with
  | zero => simp [DataW.trod] at h
  | succ n =>
    unfold DataW.trod at h
    rw [ht] at h
    split at h <;> simp_all
/-- A slice of one-cell elements. -/
theorem open_gs {fuel : Nat} {t e : TypeId} {v : Value} {x : DataW H × List MemPlace} (ht : P.underlying t = some (.slice e)) (hc : P.cellsOf e = 1)
    (h : DataW.trod enc P w base spare held fuel t [v] = some x) : ∃ (vs : List Value) (n : Nat), GL id w v vs ∧ ∀ u ∈ vs, ∃ y, DataW.trod enc P w base spare held n e [u] = some y := by
  rcases open_slice1 ht hc h with ⟨hv, _⟩ | ⟨a, len, cap, m, n, V, D, Pl, hv, hb, hl, hm, hmm, rfl, hx⟩
  · simp only [List.cons.injEq, and_true] at hv
    subst hv
    exact ⟨[], 0, GL.nil w, fun u hu => by cases hu⟩
  · simp only [List.cons.injEq, and_true] at hv
    subst hv
    have hlm : len ≤ m := by rw [hmm]; split <;> omega
    refine ⟨(List.range len).map V, n, ⟨some a, cap, by simp, ?_, ?_⟩, ?_⟩
    · have : maxLen = 9223372036854775807 := rfl
      simp only [List.length_map, List.length_range]; omega
    · intro i hi
      have hi' : i < len := by simpa using hi
      obtain ⟨h1, _⟩ := hx i (by omega)
      obtain ⟨h0, _⟩ := hx 0 (by omega)
      obtain ⟨ab, aoff, aspot⟩ := a
      have hs : aspot = none := by simpa [Addr.add] using (cell_lt h0).2
      subst hs
      rw [Addr.add_lit] at h1
      exact ⟨ab, aoff, rfl, (cell_lt h1).1, by rw [h1]; simp⟩
    · intro u hu
      obtain ⟨i, hi, rfl⟩ := List.mem_map.1 hu
      exact ⟨_, (hx i (by have := List.mem_range.1 hi; omega)).2⟩
theorem gl_map {α : Type} {inj : α → Value} {v : Value} {xs : List α} (h : GL id w v (xs.map inj)) : GL inj w v xs := by
  obtain ⟨ao, c, h1, h3, h4⟩ := h
  refine ⟨ao, c, by simpa using h1, by simpa using h3, fun i hi => ?_⟩
  obtain ⟨b, off, e1, e2, e3⟩ := h4 i (by simpa using hi)
  exact ⟨b, off, e1, e2, by simpa using e3⟩
theorem unmap {α : Type} {inj : α → Value} {p : α → Prop} : ∀ vs : List Value, (∀ u ∈ vs, ∃ a, u = inj a ∧ p a) → ∃ xs : List α, vs = xs.map inj ∧ ∀ a ∈ xs, p a
  | [], _ => ⟨[], rfl, fun a ha => by cases ha⟩
  | u :: us, h => by
    obtain ⟨a, rfl, ha⟩ := h u (List.mem_cons_self ..)
    obtain ⟨xs, rfl, hx⟩ := unmap us (fun u hu => h u (List.mem_cons_of_mem _ hu))
    refine ⟨a :: xs, rfl, fun b hb => ?_⟩
    rcases List.mem_cons.1 hb with rfl | hb
    · exact ha
    · exact hx b hb
theorem open_i64s {fuel : Nat} {t e : TypeId} {v : Value} {x : DataW H × List MemPlace} (ht : P.underlying t = some (.slice e)) (he : P.underlying e = some (.int .i64)) (hc : P.cellsOf e = 1)
    (h : DataW.trod enc P w base spare held fuel t [v] = some x) : ∃ xs, GL (Value.int .i64) w v xs ∧ allWf xs := by
  obtain ⟨vs, n, h1, h2⟩ := open_gs ht hc h
  obtain ⟨xs, rfl, h3⟩ := unmap (inj := Value.int .i64) (p := fun a => (Lit.int .i64 a).wf = true) vs (fun u hu => by
    obtain ⟨y, hy⟩ := h2 u hu
    obtain ⟨b, hb, hw⟩ := trod_int' he hy
    simp only [List.cons.injEq, and_true] at hb
    exact ⟨b, hb, hw⟩)
  exact ⟨xs, gl_map h1, h3⟩
theorem open_bools {fuel : Nat} {t e : TypeId} {v : Value} {x : DataW H × List MemPlace} (ht : P.underlying t = some (.slice e)) (he : P.underlying e = some .bool) (hc : P.cellsOf e = 1)
    (h : DataW.trod enc P w base spare held fuel t [v] = some x) : ∃ xs, GL Value.bool w v xs := by
  obtain ⟨vs, n, h1, h2⟩ := open_gs ht hc h
  obtain ⟨xs, rfl, h3⟩ := unmap (inj := Value.bool) (p := fun _ => True) vs (fun u hu => by
    obtain ⟨y, hy⟩ := h2 u hu
    obtain ⟨b, hb⟩ := trod_bool' he hy
    simp only [List.cons.injEq, and_true] at hb
    exact ⟨b, hb, trivial⟩)
  exact ⟨xs, gl_map h1⟩
theorem open_f32ss {fuel : Nat} {t e e2 : TypeId} {v : Value} {x : DataW H × List MemPlace} (ht : P.underlying t = some (.slice e)) (hc : P.cellsOf e = 1) (he : P.underlying e = some (.slice e2)) (he2 : P.underlying e2 = some (.float .f32)) (hc2 : P.cellsOf e2 = 1)
    (h : DataW.trod enc P w base spare held fuel t [v] = some x) : ∃ css, SS w v css := by
  obtain ⟨vs, n, h1, h2⟩ := open_gs ht hc h
  have h3 : ∀ vs : List Value, (∀ u ∈ vs, ∃ cs, SB w u cs) → ∃ css : List (List Nat), vs.length = css.length ∧ ∀ i (h1 : i < vs.length) (h2 : i < css.length), SB w vs[i] css[i] := by
    intro vs
    induction vs with
    | nil => intro _; exact ⟨[], rfl, fun i h1 => by cases h1⟩
    | cons u us ih =>
      intro h
      obtain ⟨cs, hcs⟩ := h u (List.mem_cons_self ..)
      obtain ⟨css, hl, hg⟩ := ih (fun u hu => h u (List.mem_cons_of_mem _ hu))
      refine ⟨cs :: css, by simp [hl], fun i h1 h2 => ?_⟩
      cases i with
      | zero => exact hcs
      | succ i => exact hg i (by simpa using h1) (by simpa using h2)
  obtain ⟨css, hl, hg⟩ := h3 vs (fun u hu => by
    obtain ⟨y, hy⟩ := h2 u hu
    exact open_f32s he he2 hc2 hy)
  exact ⟨css, vs, h1, hl, hg⟩
end
section
variable {H : Type} {enc : TypeId × Value → H} {P : Program} {w : World} {base : Nat} {spare : Nat → Bool} {held : Bool}
theorem trod_string' {fuel : Nat} {t : TypeId} {cs : List Value} {x : DataW H × List MemPlace} (ht : P.underlying t = some .string) (h : DataW.trod enc P w base spare held fuel t cs = some x) :
    ∃ s : ByteArray, cs = [.string s] ∧ s.size ≤ maxLen := by
  obtain ⟨s, h1, _, h3⟩ := DataW.trod_string ht h
  exact ⟨s, h1, h3⟩
theorem three {vs : List Value} {a b c : Value} (hl : vs.length = 3) (h0 : vs[0]? = some a) (h1 : vs[1]? = some b) (h2 : vs[2]? = some c) : vs = [a, b, c] := by
  match vs, hl with
  | [x, y, z], _ =>
    simp at h0 h1 h2
    rw [h0, h1, h2]
end

end Go.Proofs.Ytkkomajokdlkeaa
