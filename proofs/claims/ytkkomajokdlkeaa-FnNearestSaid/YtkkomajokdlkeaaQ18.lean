/- What each law's proof begins with. -/
import Derived.Test.YtkkomajokdlkeaaRows
import Derived.Deep.QuietTactic
import Derived.BigQuiet
import Derived.Test.YtkkomajokdlkeaaQ2
import Derived.Test.YtkkomajokdlkeaaQ11
import Derived.Test.YtkkomajokdlkeaaQ17
namespace Go.Proofs.Ytkkomajokdlkeaa
set_option linter.unusedSimpArgs false
set_option linter.unusedVariables false
set_option maxRecDepth 100000
set_option maxHeartbeats 4000000
open Go.RowKit

theorem own : ownKnob Try.prog.godebug = none := by kernel_rfl
theorem laidOut : laidOutB Try.prog = true := by kernel_rfl

theorem eight {α : Type} {l : List α} (h : l.length = 8) {a b c d e f g i : α} (h0 : l[0]? = some a) (h1 : l[1]? = some b) (h2 : l[2]? = some c) (h3 : l[3]? = some d) (h4 : l[4]? = some e) (h5 : l[5]? = some f) (h6 : l[6]? = some g) (h7 : l[7]? = some i) : l = [a, b, c, d, e, f, g, i] := by
  match l, h with
  | [x0, x1, x2, x3, x4, x5, x6, x7], _ => simp_all

end Go.Proofs.Ytkkomajokdlkeaa

namespace Go.Proofs.Ytkkomajokdlkeaa
set_option linter.unusedSimpArgs false
set_option linter.unusedVariables false
set_option maxRecDepth 100000
set_option maxHeartbeats 4000000
open Go.RowKit Go.ChangeShapes Go.WideShapes Go.Deep

section
variable {H : Type} {enc : TypeId × Value → H} {P : Program} {w : World} {base : Nat} {spare : Nat → Bool} {held : Bool}
/-- A field of a struct, of whatever size. -/
theorem trod_at {fuel : Nat} {t : TypeId} {fs : Array Field} {l : List Value} {x : DataW H × List MemPlace} (ht : P.underlying t = some (.struct fs)) (h : DataW.trod enc P w base spare held fuel t l = some x)
    (i : Nat) (f : Field) (hi : fs[i]? = some f) {T o k : Nat} {l' : List Value} (hT : f.type = T) (ho : f.offset = o) (hk : P.cellsOf T = k) (hl : (l.drop o).take k = l') :
    ∃ n y, DataW.trod enc P w base spare held n T l' = some y := by
  obtain ⟨xs, n, _, _, _, hlen, hg⟩ := DataW.trod_struct ht h
  have h1 := hg i f hi
  have hj : i < fs.size := (Array.getElem?_eq_some_iff.1 hi).1
  rw [List.getElem?_eq_getElem (by omega)] at h1
  subst hT ho hk hl
  exact ⟨n, _, h1⟩
theorem ten {l : List Value} (h : l.length = 10) : ∃ c0 c1 c2 c3 c4 c5 c6 c7 c8 c9, l = [c0, c1, c2, c3, c4, c5, c6, c7, c8, c9] := by
  match l, h with
  | [c0, c1, c2, c3, c4, c5, c6, c7, c8, c9], _ => exact ⟨_, _, _, _, _, _, _, _, _, _, rfl⟩
def allU8 (xs : List Int) : Prop := ∀ x ∈ xs, (Lit.int .u8 x).wf = true
theorem allU8.get {xs : List Int} (h : allU8 xs) (i : Nat) : 0 ≤ xs.getD i 0 ∧ xs.getD i 0 < 256 := by
  rcases Nat.lt_or_ge i xs.length with hi | hi
  · have e : xs.getD i 0 = xs[i] := by simp [hi]
    rw [e]
    have := h _ (List.getElem_mem hi)
    have h2 : IntKind.u8.min = 0 := by decide
    have h3 : IntKind.u8.max = 255 := by decide
    simp only [Lit.wf, Bool.and_eq_true, decide_eq_true_eq, h2, h3] at this
    omega
  · have e : xs.getD i 0 = 0 := by simp [hi]
    rw [e]; omega
theorem open_u8s {fuel : Nat} {t e : TypeId} {v : Value} {x : DataW H × List MemPlace} (ht : P.underlying t = some (.slice e)) (he : P.underlying e = some (.int .u8)) (hc : P.cellsOf e = 1)
    (h : DataW.trod enc P w base spare held fuel t [v] = some x) : ∃ xs, GL (Value.int .u8) w v xs ∧ allU8 xs := by
  obtain ⟨vs, n, h1, h2⟩ := open_gs ht hc h
  obtain ⟨xs, rfl, h3⟩ := unmap (inj := Value.int .u8) (p := fun a => (Lit.int .u8 a).wf = true) vs (fun u hu => by
    obtain ⟨y, hy⟩ := h2 u hu
    obtain ⟨b, hb, hw⟩ := trod_int' he hy
    simp only [List.cons.injEq, and_true] at hb
    exact ⟨b, hb, hw⟩)
  exact ⟨xs, gl_map h1, h3⟩
end

end Go.Proofs.Ytkkomajokdlkeaa

namespace Go.Proofs.Ytkkomajokdlkeaa
set_option linter.unusedSimpArgs false
set_option linter.unusedVariables false
set_option maxRecDepth 100000
set_option maxHeartbeats 4000000
open Go.RowKit
attribute [local go_sem] run_store_float run_store_complex alloc_drewN setCell_drewN

theorem SB.get {w : World} {v : Value} {cs : List Nat} (h : SB w v cs) {n : Nat} (hn : cs.length = n) : ∃ ao c, v = .slice ao n c ∧ n ≤ c ∧ c ≤ 9223372036854775807 ∧ ∀ i, i < n → ∃ b off r, ao = some ⟨b, off, none⟩ ∧ b < w.heap.size ∧ w.cell? ⟨b, off + i, none⟩ = some (.float .f32 r) ∧ r < 4294967296 ∧ cn .f32 r = cs.getD i 0 := by
  obtain ⟨ao, c, xs, rfl, rfl, h3, h5, h4⟩ := h
  have hn' : xs.length = n := by simpa using hn
  subst hn'
  refine ⟨ao, c, rfl, h3.1, h3.2, fun i hi => ?_⟩
  obtain ⟨b, off, e1, e2, e3⟩ := h4 i hi
  exact ⟨b, off, xs[i], e1, e2, e3, h5 _ (List.getElem_mem hi), by simp [hi]⟩

theorem SB.get1 {w : World} {v : Value} {cs : List Nat} (h : SB w v cs) {n : Nat} (hn : cs.length = n) (h0 : 0 < n) : ∃ b off c, v = .slice (some ⟨b, off, none⟩) n c ∧ n ≤ c ∧ c ≤ 9223372036854775807 ∧ b < w.heap.size ∧ ∀ i, i < n → ∃ r, w.cell? ⟨b, off + i, none⟩ = some (.float .f32 r) ∧ r < 4294967296 ∧ cn .f32 r = cs.getD i 0 := by
  obtain ⟨ao, c, rfl, h1, h2, h3⟩ := h.get hn
  obtain ⟨b, off, _, rfl, hb, _⟩ := h3 0 h0
  refine ⟨b, off, c, rfl, h1, h2, hb, fun i hi => ?_⟩
  obtain ⟨b', off', r, e, _, h4, h5, h6⟩ := h3 i hi
  simp only [Option.some.injEq, Addr.mk.injEq, and_true] at e
  obtain ⟨rfl, rfl⟩ := e
  exact ⟨r, h4, h5, h6⟩

end Go.Proofs.Ytkkomajokdlkeaa

namespace Go.Proofs.Ytkkomajokdlkeaa
set_option linter.unusedSimpArgs false
set_option linter.unusedVariables false
set_option maxRecDepth 100000
set_option maxHeartbeats 4000000
open Go.RowKit
attribute [local go_sem] run_store_float run_store_complex alloc_drewN setCell_drewN

end Go.Proofs.Ytkkomajokdlkeaa

namespace Go.Proofs.Ytkkomajokdlkeaa
set_option linter.unusedSimpArgs false
set_option linter.unusedVariables false
set_option maxRecDepth 100000
set_option maxHeartbeats 4000000
open Go.RowKit
attribute [local go_sem] run_store_float run_store_complex alloc_drewN setCell_drewN

def gapF (a b : Nat) : Nat := if fc .lss .f64 a b then ar .sub .f64 b a else ar .sub .f64 a b

/-- A number from 0 to 7 that a byte chooses. -/
def b8 (cs : List Int) (i : Nat) : Nat := if i < cs.length then (cs.getD i 0).toNat % 8 else (i * 37 + 11) % 8
theorem b8_lt (cs : List Int) (i : Nat) : b8 cs i < 8 := by unfold b8; split <;> omega
theorem l_b10Long (u v : Value) (cs ds : List Int) (w : World) (hu : GL (Value.int .u8) w u cs) (hv : GL (Value.int .u8) w v ds) :
    Calls Try.prog 7 #[u, v] w fun e w' => e = .returned (.bool (decide (1048576 < cs.length) || decide (1048576 < ds.length))) ∧ Dr w w' := by
  obtain ⟨ao, c, rfl, hc1, hc2⟩ := hu.slice
  obtain ⟨bo, d, rfl, hd1, hd2⟩ := hv.slice
  clear hu hv
  by_cases h1 : (1048576 : Int) < (cs.length : Int) <;> by_cases h2 : (1048576 : Int) < (ds.length : Int)
  all_goals
    go_enter Try.func7, Try.ntmps7
    go_wp2
    go_ret
    refine ⟨ret_bool ?_, Dr.refl _⟩
    have h3 : decide (1048576 < cs.length) = decide ((1048576 : Int) < (cs.length : Int)) := by apply decide_eq_decide.2; omega
    have h4 : decide (1048576 < ds.length) = decide ((1048576 : Int) < (ds.length : Int)) := by apply decide_eq_decide.2; omega
    rw [h3, h4]
    simp [h1, h2]
theorem l_b10At (v : Value) (cs : List Int) (i : Nat) (hi : i < 3) (w : World) (hv : GL (Value.int .u8) w v cs) (hw : allU8 cs) :
    Calls Try.prog 8 #[v, .int .i64 i, .int .i64 8] w fun e w' => e = .returned (.int .i64 ((b8 cs i : Nat) : Int)) ∧ Dr w w' := by
  obtain ⟨ao, c, hv', hc, hget⟩ := hv
  subst hv'
  by_cases h : i < cs.length
  · obtain ⟨b, off, rfl, hb, hcell⟩ := hget i h
    have hx := hw.get i
    have e : cs.getD i 0 = cs[i] := by simp [h]
    rw [e] at hx
    have hb8 : b8 cs i = (cs[i]).toNat % 8 := by unfold b8; rw [if_pos h, e]
    generalize cs[i] = x at *
    obtain ⟨n, rfl⟩ := Int.eq_ofNat_of_zero_le hx.1
    rw [hb8]
    clear hget hw hb8 e
    have hm : ((n : Int)).tmod 8 = ((n % 8 : Nat) : Int) := by rw [Int.tmod_eq_emod_of_nonneg (by omega)]; omega
    have hw1 : IntKind.i64.wrap (n : Int) = (n : Int) := by rw [IntKind.wrap_i64]; omega
    go_enter Try.func8, Try.ntmps8
    go_wp2_with fail
    go_ret
    refine ⟨ret_int ?_, Dr.refl _⟩
    first | rfl | (simp; done) | (simp [hm, hw1]; done) | (simp; omega)
  · have hb8 : b8 cs i = (i * 37 + 11) % 8 := by unfold b8; rw [if_neg h]
    rw [hb8]
    clear hget hw hb8
    have h' : ¬ (i : Int) < (cs.length : Int) := by omega
    have hi3 : i = 0 ∨ i = 1 ∨ i = 2 := by omega
    rcases hi3 with rfl | rfl | rfl
    all_goals
      go_enter Try.func8, Try.ntmps8
      go_wp2_with fail
      go_ret
      refine ⟨ret_int ?_, Dr.refl _⟩
      first | rfl | decide | (simp; done) | (simp; omega)
theorem l_b10Gap (a b : Nat) (w : World) : Calls Try.prog 29 #[.float .f64 a, .float .f64 b] w fun e w' => (∃ r, e = .returned (.float .f64 r) ∧ cn .f64 r = gapF (cn .f64 a) (cn .f64 b)) ∧ Dr w w' := by
  cases h : fc .lss .f64 (cn .f64 a) (cn .f64 b)
  all_goals
    have H := Lib.hid h
    clear h
    go_enter Try.func29, Try.ntmps29
    go_wp2_with (first | (refine wpList_fc .f64 _ _ rfl rfl rfl ?_; rw [H.out]) | (refine wpList_ar .f64 _ _ rfl rfl rfl ?_; intro r n hr hlt; have HR := Lib.hid hr; clear hr))
    go_ret
    exact ⟨⟨_, rfl, by rw [gapF, H.out, HR.out]; rfl⟩, by first | exact Dr.refl _ | exact Dr.mk _ _⟩

end Go.Proofs.Ytkkomajokdlkeaa
