/- What comes in, opened: structs in structs, slices of bytes. -/
import Derived.Test.YtfckfdaloamkdaaOpen2
import Derived.Test.YtfckfdaloamkdaaLawKit
namespace Go.Proofs.Ytfckfdaloamkdaa
set_option linter.unusedSimpArgs false
set_option linter.unusedVariables false
set_option maxRecDepth 100000
set_option maxHeartbeats 4000000
open Go.RowKit Go.ChangeShapes Go.WideShapes Go.Deep

section
variable {H : Type} {enc : TypeId × Value → H} {P : Program} {w : World} {base : Nat} {spare : Nat → Bool} {held : Bool}
/-- A field of a struct, of whatever size. -/
theorem trod_at {fuel : Nat} {t : TypeId} {fs : Array Field} {l : List Value} {x : DataW H × List MemPlace} (ht : P.underlying t = some (.struct fs)) (h : DataW.trod enc P w base spare held fuel t l = some x)
    (i : Nat) (f : Field) (hi : fs[i]? = some f) {T o k : Nat} {l' : List Value} (hT : f.type = T) (ho : f.offset = o) (hk : P.cellsOf T = k) (hl : (l.drop o).take k = l') :
    ∃ n y, DataW.trod enc P w base spare held n T l' = some y := by
  obtain ⟨xs, n, _, _, _, hlen, hg⟩ := DataW.trod_struct ht h
  have h1 := hg i f hi
  have hj : i < fs.size := (Array.getElem?_eq_some_iff.1 hi).1
  rw [List.getElem?_eq_getElem (by omega)] at h1
  subst hT ho hk hl
  exact ⟨n, _, h1⟩
theorem ten {l : List Value} (h : l.length = 10) : ∃ c0 c1 c2 c3 c4 c5 c6 c7 c8 c9, l = [c0, c1, c2, c3, c4, c5, c6, c7, c8, c9] := by
  match l, h with
  | [c0, c1, c2, c3, c4, c5, c6, c7, c8, c9], _ => exact ⟨_, _, _, _, _, _, _, _, _, _, rfl⟩
def allU8 (xs : List Int) : Prop := ∀ x ∈ xs, (Lit.int .u8 x).wf = true
theorem allU8.get {xs : List Int} (h : allU8 xs) (i : Nat) : 0 ≤ xs.getD i 0 ∧ xs.getD i 0 < 256 := by
  rcases Nat.lt_or_ge i xs.length with hi | hi
  · have e : xs.getD i 0 = xs[i] := by simp [hi]
    rw [e]
    have := h _ (List.getElem_mem hi)
    have h2 : IntKind.u8.min = 0 := by decide
    have h3 : IntKind.u8.max = 255 := by decide
    simp only [Lit.wf, Bool.and_eq_true, decide_eq_true_eq, h2, h3] at this
    omega
  · have e : xs.getD i 0 = 0 := by simp [hi]
    rw [e]; omega
theorem open_u8s {fuel : Nat} {t e : TypeId} {v : Value} {x : DataW H × List MemPlace} (ht : P.underlying t = some (.slice e)) (he : P.underlying e = some (.int .u8)) (hc : P.cellsOf e = 1)
    (h : DataW.trod enc P w base spare held fuel t [v] = some x) : ∃ xs, GL (Value.int .u8) w v xs ∧ allU8 xs := by
  obtain ⟨vs, n, h1, h2⟩ := open_gs ht hc h
  obtain ⟨xs, rfl, h3⟩ := unmap (inj := Value.int .u8) (p := fun a => (Lit.int .u8 a).wf = true) vs (fun u hu => by
    obtain ⟨y, hy⟩ := h2 u hu
    obtain ⟨b, hb, hw⟩ := trod_int' he hy
    simp only [List.cons.injEq, and_true] at hb
    exact ⟨b, hb, hw⟩)
  exact ⟨xs, gl_map h1, h3⟩
end

section
variable {H : Type} {enc : TypeId × Value → H} {w : World} {base b0 : Nat} {spare : Nat → Bool} {held : Bool}
/-- A desk of the laws. -/
theorem open_desk {r : Reach} {v : Value} {d : DataW H} {p : List MemPlace} (hv : Value.okWide Try.prog w r b0 68 v) (h : DataW.Trod enc Try.prog w base spare held 68 v d p) :
    ∃ sv l s u x a b c e y ss cs, v = .agg #[sv, .float .f32 l, .float .f32 s, u, .int .i64 x, .float .f32 a, .float .f32 b, .float .f32 c, .float .f32 e, .int .i64 y] ∧ SB w sv ss ∧ SB w u cs ∧ (∀ z ∈ [l, s, a, b, c, e], z < 4294967296) ∧ (Lit.int .i64 x).wf = true ∧ (Lit.int .i64 y).wf = true := by
  obtain ⟨cs0, rfl, hsz⟩ := okWide_struct Try.underlying68 hv
  obtain ⟨l0⟩ := cs0
  obtain ⟨fuel, hf⟩ := h
  have h10 : l0.length = 10 := by
    have e : Program.cellsOf Try.prog 68 = 10 := by kernel_rfl
    rw [e] at hsz
    simpa using hsz
  obtain ⟨c0, c1, c2, c3, c4, c5, c6, c7, c8, c9, rfl⟩ := ten h10
  have hf' : DataW.trod enc Try.prog w base spare held fuel 68 [c0, c1, c2, c3, c4, c5, c6, c7, c8, c9] = some (d, p) := hf
  obtain ⟨n0, y0, z0⟩ := trod_at Try.underlying68 hf' 0 _ rfl (T := 28) rfl (o := 0) rfl (k := 1) (by kernel_rfl) (l' := [c0]) rfl
  obtain ⟨n1, y1, z1⟩ := trod_at Try.underlying68 hf' 1 _ rfl (T := 65) rfl (o := 1) rfl (k := 4) (by kernel_rfl) (l' := [c1, c2, c3, c4]) rfl
  obtain ⟨n2, y2, z2⟩ := trod_at Try.underlying68 hf' 2 _ rfl (T := 66) rfl (o := 5) rfl (k := 4) (by kernel_rfl) (l' := [c5, c6, c7, c8]) rfl
  obtain ⟨n3, y3, z3⟩ := trod_at Try.underlying68 hf' 3 _ rfl (T := 2) rfl (o := 9) rfl (k := 1) (by kernel_rfl) (l' := [c9]) rfl
  obtain ⟨m0, q0, s0⟩ := trod_at Try.underlying65 z1 0 _ rfl (T := 54) rfl (o := 0) rfl (k := 1) (by kernel_rfl) (l' := [c1]) rfl
  obtain ⟨m1, q1, s1⟩ := trod_at Try.underlying65 z1 1 _ rfl (T := 54) rfl (o := 1) rfl (k := 1) (by kernel_rfl) (l' := [c2]) rfl
  obtain ⟨m2, q2, s2⟩ := trod_at Try.underlying65 z1 2 _ rfl (T := 28) rfl (o := 2) rfl (k := 1) (by kernel_rfl) (l' := [c3]) rfl
  obtain ⟨m3, q3, s3⟩ := trod_at Try.underlying65 z1 3 _ rfl (T := 2) rfl (o := 3) rfl (k := 1) (by kernel_rfl) (l' := [c4]) rfl
  obtain ⟨k0, r0, t0⟩ := trod_at Try.underlying66 z2 0 _ rfl (T := 54) rfl (o := 0) rfl (k := 1) (by kernel_rfl) (l' := [c5]) rfl
  obtain ⟨k1, r1, t1⟩ := trod_at Try.underlying66 z2 1 _ rfl (T := 54) rfl (o := 1) rfl (k := 1) (by kernel_rfl) (l' := [c6]) rfl
  obtain ⟨k2, r2, t2⟩ := trod_at Try.underlying66 z2 2 _ rfl (T := 54) rfl (o := 2) rfl (k := 1) (by kernel_rfl) (l' := [c7]) rfl
  obtain ⟨k3, r3, t3⟩ := trod_at Try.underlying66 z2 3 _ rfl (T := 54) rfl (o := 3) rfl (k := 1) (by kernel_rfl) (l' := [c8]) rfl
  obtain ⟨ss, hss⟩ := open_f32s Try.underlying28 Try.underlying54 (by kernel_rfl) z0
  obtain ⟨cs, hcs⟩ := open_f32s Try.underlying28 Try.underlying54 (by kernel_rfl) s2
  obtain ⟨x0, e0, _, w0⟩ := trod_float Try.underlying54 s0
  obtain ⟨x1, e1, _, w1⟩ := trod_float Try.underlying54 s1
  obtain ⟨x2, e2, _, w2⟩ := trod_float Try.underlying54 t0
  obtain ⟨x3, e3, _, w3⟩ := trod_float Try.underlying54 t1
  obtain ⟨x4, e4, _, w4⟩ := trod_float Try.underlying54 t2
  obtain ⟨x5, e5, _, w5⟩ := trod_float Try.underlying54 t3
  obtain ⟨i0, f0, g0⟩ := trod_int' Try.underlying2 s3
  obtain ⟨i1, f1, g1⟩ := trod_int' Try.underlying2 z3
  simp only [List.cons.injEq, and_true] at e0 e1 e2 e3 e4 e5 f0 f1
  subst e0 e1 e2 e3 e4 e5 f0 f1
  refine ⟨_, _, _, _, _, _, _, _, _, _, ss, cs, rfl, hss, hcs, ?_, g0, g1⟩
  intro z hz
  simp only [List.mem_cons, List.not_mem_nil, or_false] at hz
  have := f32_lt w0
  have := f32_lt w1
  have := f32_lt w2
  have := f32_lt w3
  have := f32_lt w4
  have := f32_lt w5
  rcases hz with rfl | rfl | rfl | rfl | rfl | rfl <;> assumption
end

end Go.Proofs.Ytfckfdaloamkdaa
