/- What comes in, opened: structs in structs, slices of bytes. -/
import Derived.Test.YtkkomajokdlkeaaOpen2
import Derived.Test.YtkkomajokdlkeaaLawKit
namespace Go.Proofs.Ytkkomajokdlkeaa
set_option linter.unusedSimpArgs false
set_option linter.unusedVariables false
set_option maxRecDepth 100000
set_option maxHeartbeats 4000000
open Go.RowKit Go.ChangeShapes Go.WideShapes Go.Deep

section
variable {H : Type} {enc : TypeId × Value → H} {P : Program} {w : World} {base : Nat} {spare : Nat → Bool} {held : Bool}
/-- A field of a struct, of whatever size. -/
theorem trod_at {fuel : Nat} {t : TypeId} {fs : Array Field} {l : List Value} {x : DataW H × List MemPlace} (ht : P.underlying t = some (.struct fs)) (h : DataW.trod enc P w base spare held fuel t l = some x)
    (i : Nat) (f : Field) (hi : fs[i]? = some f) {T o k : Nat} {l' : List Value} (hT : f.type = T) (ho : f.offset = o) (hk : P.cellsOf T = k) (hl : (l.drop o).take k = l') :
    ∃ n y, DataW.trod enc P w base spare held n T l' = some y := by
  obtain ⟨xs, n, _, _, _, hlen, hg⟩ := DataW.trod_struct ht h
  have h1 := hg i f hi
  have hj : i < fs.size := (Array.getElem?_eq_some_iff.1 hi).1
  rw [List.getElem?_eq_getElem (by omega)] at h1
  subst hT ho hk hl
  exact ⟨n, _, h1⟩
theorem ten {l : List Value} (h : l.length = 10) : ∃ c0 c1 c2 c3 c4 c5 c6 c7 c8 c9, l = [c0, c1, c2, c3, c4, c5, c6, c7, c8, c9] := by
  match l, h with
  | [c0, c1, c2, c3, c4, c5, c6, c7, c8, c9], _ => exact ⟨_, _, _, _, _, _, _, _, _, _, rfl⟩
def allU8 (xs : List Int) : Prop := ∀ x ∈ xs, (Lit.int .u8 x).wf = true
theorem allU8.get {xs : List Int} (h : allU8 xs) (i : Nat) : 0 ≤ xs.getD i 0 ∧ xs.getD i 0 < 256 := by
  rcases Nat.lt_or_ge i xs.length with hi | hi
  · have e : xs.getD i 0 = xs[i] := by simp [hi]
    rw [e]
    have := h _ (List.getElem_mem hi)
    have h2 : IntKind.u8.min = 0 := by decide
    have h3 : IntKind.u8.max = 255 := by decide
    simp only [Lit.wf, Bool.and_eq_true, decide_eq_true_eq, h2, h3] at this
    omega
  · have e : xs.getD i 0 = 0 := by simp [hi]
    rw [e]; omega
theorem open_u8s {fuel : Nat} {t e : TypeId} {v : Value} {x : DataW H × List MemPlace} (ht : P.underlying t = some (.slice e)) (he : P.underlying e = some (.int .u8)) (hc : P.cellsOf e = 1)
    (h : DataW.trod enc P w base spare held fuel t [v] = some x) : ∃ xs, GL (Value.int .u8) w v xs ∧ allU8 xs := by
  obtain ⟨vs, n, h1, h2⟩ := open_gs ht hc h
  obtain ⟨xs, rfl, h3⟩ := unmap (inj := Value.int .u8) (p := fun a => (Lit.int .u8 a).wf = true) vs (fun u hu => by
    obtain ⟨y, hy⟩ := h2 u hu
    obtain ⟨b, hb, hw⟩ := trod_int' he hy
    simp only [List.cons.injEq, and_true] at hb
    exact ⟨b, hb, hw⟩)
  exact ⟨xs, gl_map h1, h3⟩
end

end Go.Proofs.Ytkkomajokdlkeaa
