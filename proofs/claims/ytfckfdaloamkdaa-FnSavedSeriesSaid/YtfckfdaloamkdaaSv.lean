/- Slices of what is saved: three cells an element. -/
import Derived.Test.YtfckfdaloamkdaaOpen3
import Derived.Test.YtfckfdaloamkdaaBk2
import Derived.Test.YtfckfdaloamkdaaK9
namespace Go.Proofs.Ytfckfdaloamkdaa
set_option linter.unusedSimpArgs false
set_option linter.unusedVariables false
set_option maxRecDepth 100000
set_option maxHeartbeats 4000000
open Go.RowKit Go.ChangeShapes Go.WideShapes Go.Deep

/-- A list of what is saved: a name, a day, numbers. -/
abbrev Sd := ByteArray × Int × List Nat
def d0 : Sd := (⟨#[]⟩, 0, [])
/-- Such a slice is read. -/
def SVL (w : World) (v : Value) (L : List Sd) : Prop :=
  ∃ (ao : Option Addr) (c : Nat), v = .slice ao L.length c ∧ (L.length ≤ c ∧ c ≤ 9223372036854775807) ∧
    ∀ i, i < L.length → ∃ b off u, ao = some ⟨b, off, none⟩ ∧ b < w.heap.size ∧ w.cell? ⟨b, off + i * 3, none⟩ = some (.string (L.getD i d0).1) ∧ w.cell? ⟨b, off + i * 3 + 1, none⟩ = some (.int .i64 (L.getD i d0).2.1) ∧
      w.cell? ⟨b, off + i * 3 + 2, none⟩ = some u ∧ SB w u (L.getD i d0).2.2 ∧ (L.getD i d0).1.size ≤ 9223372036854775807
section
variable {w w' : World} {v : Value} {L : List Sd}
theorem SVL.keep (h : SVL w v L) (hb : Below w.heap.size w w') : SVL w' v L := by
  obtain ⟨ao, c, h1, h2, h3⟩ := h
  refine ⟨ao, c, h1, h2, fun i hi => ?_⟩
  obtain ⟨b, off, u, e1, e2, e3, e4, e5, e6, e7⟩ := h3 i hi
  exact ⟨b, off, u, e1, Nat.lt_of_lt_of_le e2 hb.size, (hb.cell (p := ⟨b, off + i * 3, none⟩) e2).trans e3, (hb.cell (p := ⟨b, off + i * 3 + 1, none⟩) e2).trans e4, (hb.cell (p := ⟨b, off + i * 3 + 2, none⟩) e2).trans e5, e6.keep hb, e7⟩
theorem SVL.drewN (h : SVL w v L) (n : Nat) : SVL (w.drewN n) v L := h
theorem SVL.drew (h : SVL w v L) : SVL w.drew v L := h
theorem SVL.slice (h : SVL w v L) : ∃ ao c, v = .slice ao L.length c ∧ L.length ≤ c ∧ c ≤ 9223372036854775807 := by
  obtain ⟨ao, c, h1, h2, _⟩ := h
  exact ⟨ao, c, h1, h2⟩
theorem SVL.get {ao : Option Addr} {m c : Nat} (h : SVL w (.slice ao m c) L) {n : Nat} (hn : L.length = n) : ∀ i, i < n → ∃ b off u, ao = some ⟨b, off, none⟩ ∧ b < w.heap.size ∧ w.cell? ⟨b, off + i * 3, none⟩ = some (.string (L.getD i d0).1) ∧ w.cell? ⟨b, off + i * 3 + 1, none⟩ = some (.int .i64 (L.getD i d0).2.1) ∧
      w.cell? ⟨b, off + i * 3 + 2, none⟩ = some u ∧ SB w u (L.getD i d0).2.2 ∧ (L.getD i d0).1.size ≤ 9223372036854775807 := by
  obtain ⟨ao', c', h1, h2, h3⟩ := h
  simp only [Value.slice.injEq] at h1
  obtain ⟨rfl, rfl, rfl⟩ := h1
  subst hn
  exact h3
end
/-- How much an element, and a beginning of a list, takes. -/
def szE (x : Sd) : Nat := x.1.size + x.2.2.length
def szP (L : List Sd) : Nat → Nat
  | 0 => L.length
  | k + 1 => szP L k + szE (L.getD k d0)
theorem szP_mono (L : List Sd) {k n : Nat} (h : k ≤ n) : szP L k ≤ szP L n := by
  induction h with
  | refl => exact Nat.le_refl _
  | step _ ih => exact Nat.le_trans ih (Nat.le_add_right _ _)
theorem szP_len (L : List Sd) (k : Nat) : L.length ≤ szP L k := szP_mono L (Nat.zero_le k)
theorem szP_elem (L : List Sd) {k n : Nat} (h : k < n) : szE (L.getD k d0) ≤ szP L n := Nat.le_trans (Nat.le_add_left _ _) (szP_mono L (show k + 1 ≤ n from h))
/-- What is left behind a list. -/
def szL (L : List Sd) (left : Int) : Int := if (szP L L.length : Int) ≤ left then left - szP L L.length else -1
/-- The cells of the first k elements are written; R: what is known of the slices in them. -/
def SvC (R : Value → List Nat → Prop) (L : List Sd) (k : Nat) (cs : List Value) : Prop :=
  cs.length = L.length * 3 ∧ ∀ i, i < k → ∃ u, cs[i * 3]? = some (.string (L.getD i d0).1) ∧ cs[i * 3 + 1]? = some (.int .i64 (L.getD i d0).2.1) ∧ cs[i * 3 + 2]? = some u ∧ R u (L.getD i d0).2.2
theorem setsAt_length (vs us : List Value) (j : Nat) (h : j + us.length ≤ vs.length) : (setsAt vs us j).length = vs.length := by
  simp only [setsAt, List.length_append, List.length_take, List.length_drop]; omega
theorem setsAt_low {vs us : List Value} {j i : Nat} (hi : i < j) (h : j + us.length ≤ vs.length) : (setsAt vs us j)[i]? = vs[i]? := by
  unfold setsAt
  rw [List.append_assoc, List.getElem?_append_left (by rw [List.length_take]; omega), List.getElem?_take, if_pos hi]
theorem setsAt_in {vs us : List Value} {j i : Nat} (hi : i < us.length) (h : j + us.length ≤ vs.length) : (setsAt vs us j)[j + i]? = us[i]? := by
  unfold setsAt
  have hl : (vs.take j).length = j := by rw [List.length_take]; omega
  rw [List.append_assoc, List.getElem?_append_right (by omega), hl, Nat.add_sub_cancel_left, List.getElem?_append_left hi]
theorem SvC.keep {R R' : Value → List Nat → Prop} {L : List Sd} {k : Nat} {cs : List Value} (h : SvC R L k cs) (hb : ∀ u c, R u c → R' u c) : SvC R' L k cs :=
  ⟨h.1, fun i hi => by
    obtain ⟨u, e1, e2, e3, e4⟩ := h.2 i hi
    exact ⟨u, e1, e2, e3, hb _ _ e4⟩⟩
theorem SvC.next {R : Value → List Nat → Prop} {L : List Sd} {k : Nat} {cs : List Value} (h : SvC R L k cs) (hk : k < L.length) {u : Value} (hu : R u (L.getD k d0).2.2) :
    SvC R L (k + 1) (setsAt cs [.string (L.getD k d0).1, .int .i64 (L.getD k d0).2.1, u] (k * 3)) := by
  have hl : k * 3 + [Value.string (L.getD k d0).1, .int .i64 (L.getD k d0).2.1, u].length ≤ cs.length := by rw [h.1]; simp; omega
  refine ⟨(setsAt_length _ _ _ hl).trans h.1, fun i hi => ?_⟩
  rcases Nat.lt_or_ge i k with hik | hik
  · obtain ⟨u', e1, e2, e3, e4⟩ := h.2 i hik
    exact ⟨u', (setsAt_low (by omega) hl).trans e1, (setsAt_low (by omega) hl).trans e2, (setsAt_low (by omega) hl).trans e3, e4⟩
  · obtain rfl : i = k := by omega
    exact ⟨u, setsAt_in (i := 0) (by simp) hl, setsAt_in (i := 1) (by simp) hl, setsAt_in (i := 2) (by simp) hl, hu⟩
theorem SvC.svl {w : World} {R : Value → List Nat → Prop} {L : List Sd} {cs : List Value} {g : Nat} (h : SvC R L L.length cs) (hR : ∀ u c, R u c → SB w u c) (hb : BK w g cs) (hn : L.length ≤ 9223372036854775807) (hz : ∀ i, i < L.length → (L.getD i d0).1.size ≤ 9223372036854775807) : SVL w (.slice (some ⟨g, 0, none⟩) L.length L.length) L := by
  refine ⟨_, _, rfl, ⟨Nat.le_refl _, hn⟩, fun i hi => ?_⟩
  obtain ⟨u, e1, e2, e3, e4⟩ := h.2 i hi
  have hl := h.1
  refine ⟨g, 0, u, rfl, hb.lt, ?_, ?_, ?_, hR _ _ e4, hz i hi⟩
  · rw [Nat.zero_add, hb.cells _ (by omega), e1]
  · rw [Nat.zero_add, hb.cells _ (by omega), e2]
  · rw [Nat.zero_add, hb.cells _ (by omega), e3]
theorem bk_of_own {w : World} {T lo s n g c : Nat} {xs : List Value} (h : w.ownsRow lo T s (.slice (some ⟨g, 0, none⟩) n c) n xs) : BK w g xs := by
  refine ⟨(h.lt g rfl).2, fun i hi => ?_, fun i => h.frozenAt i⟩
  have hl := h.1
  rw [h.cellAt i (by omega)]

section
variable {H : Type} {enc : TypeId × Value → H} {w : World} {base : Nat} {spare : Nat → Bool} {held : Bool}
/-- A slice of what is saved, as a law takes it. -/
theorem open_savedS {fuel : Nat} {v : Value} {x : DataW H × List MemPlace} (h : DataW.trod enc Try.prog w base spare held fuel 22 [v] = some x) : ∃ L, SVL w v L := by
  have hc3 : Program.cellsOf Try.prog 30 = 3 := by kernel_rfl
  rcases open_slice Try.underlying22 h with ⟨hv, _⟩ | ⟨a, len, cap, m, n, D, Pl, hv, hb, hl, hm, hmm, rfl, hx⟩
  · simp only [List.cons.injEq, and_true] at hv
    subst hv
    exact ⟨[], none, 0, rfl, by simp, fun i hi => by cases hi⟩
  · simp only [List.cons.injEq, and_true] at hv
    subst hv
    rw [hc3] at hx
    have hlm : len ≤ m := by rw [hmm]; split <;> omega
    have hE : ∀ i, i < len → ∃ (d : Sd) (u : Value), w.cell? (a.add (i * 3)) = some (.string d.1) ∧ w.cell? (a.add (i * 3 + 1)) = some (.int .i64 d.2.1) ∧ w.cell? (a.add (i * 3 + 2)) = some u ∧ SB w u d.2.2 ∧ d.1.size ≤ 9223372036854775807 := by
      intro i hi
      obtain ⟨cs', hc, ht⟩ := hx i (by omega)
      obtain ⟨_, hcl, hat⟩ := World.cells?_some hc
      match cs', hcl with
      | [c0, c1, c2], _ =>
        obtain ⟨n0, y0, z0⟩ := trod_at Try.underlying30 ht 0 _ rfl (T := 9) rfl (o := 0) rfl (k := 1) (by kernel_rfl) (l' := [c0]) rfl
        obtain ⟨n1, y1, z1⟩ := trod_at Try.underlying30 ht 1 _ rfl (T := 2) rfl (o := 1) rfl (k := 1) (by kernel_rfl) (l' := [c1]) rfl
        obtain ⟨n2, y2, z2⟩ := trod_at Try.underlying30 ht 2 _ rfl (T := 28) rfl (o := 2) rfl (k := 1) (by kernel_rfl) (l' := [c2]) rfl
        obtain ⟨s, e0, hs⟩ := trod_string' Try.underlying9 z0
        obtain ⟨d, e1, hd⟩ := trod_int' Try.underlying2 z1
        obtain ⟨cs, hcs⟩ := open_f32s Try.underlying28 Try.underlying54 (by kernel_rfl) z2
        simp only [List.cons.injEq, and_true] at e0 e1
        subst e0 e1
        have g0 := hat 0 (by omega)
        have g1 := hat 1 (by omega)
        have g2 := hat 2 (by omega)
        rw [Go.Deep.add_add] at g0 g1 g2
        exact ⟨(s, d, cs), c2, g0, g1, g2, hcs, hs⟩
    obtain ⟨f, hf⟩ := choose_lt (p := fun i (d : Sd) => ∃ u, w.cell? (a.add (i * 3)) = some (.string d.1) ∧ w.cell? (a.add (i * 3 + 1)) = some (.int .i64 d.2.1) ∧ w.cell? (a.add (i * 3 + 2)) = some u ∧ SB w u d.2.2 ∧ d.1.size ≤ 9223372036854775807) hE
    refine ⟨(List.range len).map f, some a, cap, by simp, ?_, fun i hi => ?_⟩
    · have : maxLen = 9223372036854775807 := rfl
      simp only [List.length_map, List.length_range]; omega
    · have hi' : i < len := by simpa using hi
      obtain ⟨u, g0, g1, g2, g3, g4⟩ := hf i hi'
      have hg : ((List.range len).map f).getD i d0 = f i := by simp [hi']
      rw [hg]
      obtain ⟨ab, aoff, aspot⟩ := a
      have hs : aspot = none := by
        obtain ⟨_, r0, _⟩ := hf 0 (by omega)
        simpa [Addr.add] using (cell_lt r0).2
      subst hs
      rw [Addr.add_lit] at g0 g1 g2
      exact ⟨ab, aoff, u, rfl, (cell_lt g0).1, g0, by rw [← g1]; congr 2, by rw [← g2]; congr 2, g3, g4⟩
end

end Go.Proofs.Ytfckfdaloamkdaa
