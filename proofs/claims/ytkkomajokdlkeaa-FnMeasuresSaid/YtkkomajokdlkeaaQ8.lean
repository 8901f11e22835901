/- Contracts: ranges of integers, numbers if they are finite, and walks. -/
import Derived.Deep.RegionWith
import Derived.Deep.RegionLaw
import Derived.Test.YtkkomajokdlkeaaQ2
import Derived.Test.YtkkomajokdlkeaaQ3
import Derived.Test.YtkkomajokdlkeaaQ6
import Derived.Test.YtkkomajokdlkeaaQ7
namespace Go.Proofs.Ytkkomajokdlkeaa
set_option linter.unusedSimpArgs false
set_option linter.unusedVariables false
set_option maxRecDepth 100000
set_option maxHeartbeats 4000000
open Go.RowKit
attribute [local go_sem] run_store_float run_store_complex alloc_drewN setCell_drewN

/-- From low to high. -/
def inB (n low high : Int) : Bool := decide (low ≤ n) && decide (n ≤ high)
theorem inB_iff (n low high : Int) : inB n low high = true ↔ low ≤ n ∧ n ≤ high := by simp [inB]

/-- A number and a bool are returned. -/
def NB (e : Ending) (q : Nat × Bool) : Prop := ∃ r b, e = .returned (.tuple #[.float .f32 r, .bool b]) ∧ r < 4294967296 ∧ cn .f32 r = q.1 ∧ b = q.2
/-- A number if it is finite. -/
def numB (c : Nat) : Nat × Bool := (if fin c then c else 0, fin c)
theorem num_pair {r : Nat} (hr : r < 4294967296) : (if fin (cn .f32 r) then r else 0) < 4294967296 ∧ cn .f32 (if fin (cn .f32 r) then r else 0) = if fin (cn .f32 r) then cn .f32 r else 0 := by
  split
  · exact ⟨hr, rfl⟩
  · exact ⟨by omega, cn0⟩


theorem s_l00In (n low high : Int) (w : World) : Calls Try.prog 62 #[.int .i64 n, .int .i64 low, .int .i64 high] w fun e w' => e = .returned (.bool (inB n low high)) ∧ Dr w w' := by
  by_cases h : low ≤ n
  all_goals
    go_enter Try.func62, Try.ntmps62
    go_wp2
    go_ret
    exact ⟨ret_bool (by first | (simp [inB, h]; done) | (simp [inB]; omega)), Dr.refl _⟩

theorem i_within (n low high : Int) (w : World) : Calls Try.prog 56 #[.int .i64 n, .int .i64 low, .int .i64 high] w fun e w' => e = .returned (.bool (inB n low high)) ∧ Dr w w' := by
  by_cases h : low ≤ n
  all_goals
    go_enter Try.func56, Try.ntmps56
    go_wp2
    go_ret
    exact ⟨ret_bool (by first | (simp [inB, h]; done) | (simp [inB]; omega)), Dr.refl _⟩

theorem s_l02Number (x : Nat) (hx : x < 4294967296) (w : World) : Calls Try.prog 66 #[.float .f32 x] w fun e w' => NB e (numB (cn .f32 x)) ∧ Dr w w' := by
  cases h : fin (cn .f32 x)
  all_goals
    have H := Lib.hid h
    clear h
    go_enter Try.func66, Try.ntmps66
    go_wp2_with (go_at_call 69; refine (s_l01Finite _ _).mono ?_; rintro e w1 ⟨rfl, n, rfl⟩; rw [H.out])
    go_ret2
  · exact ⟨⟨0, false, rfl, by omega, by simp [numB, H.out, cn0], by simp [numB, H.out]⟩, _, rfl⟩
  · exact ⟨⟨x, true, rfl, hx, by simp [numB, H.out], by simp [numB, H.out]⟩, _, rfl⟩

theorem i_ifFinite (x : Nat) (hx : x < 4294967296) (w : World) : Calls Try.prog 72 #[.float .f32 x] w fun e w' => NB e (numB (cn .f32 x)) ∧ Dr w w' := by
  cases h : fin (cn .f32 x)
  all_goals
    have H := Lib.hid h
    clear h
    go_enter Try.func72, Try.ntmps72
    go_wp2_with (go_at_call 87; refine (i_IsFinite _ _).mono ?_; rintro e w1 ⟨rfl, n, rfl⟩; rw [H.out])
    go_ret2
  · exact ⟨⟨0, false, rfl, by omega, by simp [numB, H.out, cn0], by simp [numB, H.out]⟩, _, rfl⟩
  · exact ⟨⟨x, true, rfl, hx, by simp [numB, H.out], by simp [numB, H.out]⟩, _, rfl⟩

end Go.Proofs.Ytkkomajokdlkeaa

namespace Go.Proofs.Ytkkomajokdlkeaa
set_option linter.unusedSimpArgs false
set_option linter.unusedVariables false
set_option maxRecDepth 100000
set_option maxHeartbeats 4000000
open Go.RowKit
attribute [local go_sem] run_store_float run_store_complex alloc_drewN setCell_drewN

theorem f32s : F32s Try.prog 26 33 := f32s_of Try.underlying26 (by kernel_rfl)

/-- An integer as a float32. -/
def fI (k : Int) : Nat := floatOfInt .f32 k
theorem fI_not_nan (k : Int) : (FloatKind.f32.format.read (fI k)).isNaN = false := write_not_nan S (.number (k < 0) k.natAbs 0) rfl
theorem fI_lt (k : Int) : fI k < 4294967296 := Ieee.Format.write_lt S (.number (k < 0) k.natAbs 0)
theorem cn_fI (k : Int) : cn .f32 (fI k) = fI k := cn_of_not (fI_not_nan k)
def markL (k : Int) (n : Nat) : List Nat := (List.range n).map fun (i : Nat) => fI (k + (i : Int))
theorem markL_length (k : Int) (n : Nat) : (markL k n).length = n := by simp [markL]
theorem markL_succ (k : Int) (n : Nat) : markL k (n + 1) = markL k n ++ [fI (k + n)] := by simp [markL, List.range_succ]
theorem set_mark (k : Int) (cs : List Nat) (j : Nat) (hj : j < cs.length) : (markL k j ++ cs.drop j).set j (fI (k + j)) = markL k (j + 1) ++ cs.drop (j + 1) := by
  rw [List.set_append_right _ _ (by rw [markL_length]; exact Nat.le_refl _), markL_length, Nat.sub_self, markL_succ, List.append_assoc]
  rw [List.drop_eq_getElem_cons hj]
  rfl
theorem set_copy (cs : List Nat) (j : Nat) (hj : j < cs.length) : (cs.take j ++ List.replicate (cs.length - j) 0).set j cs[j] = cs.take (j + 1) ++ List.replicate (cs.length - (j + 1)) 0 := by
  have h1 : (cs.take j).length = j := by rw [List.length_take]; omega
  rw [List.set_append_right _ _ (by omega), h1, Nat.sub_self, take_snoc cs j hj, List.append_assoc]
  have h2 : cs.length - j = (cs.length - (j + 1)) + 1 := by omega
  rw [h2, List.replicate_succ]
  rfl

end Go.Proofs.Ytkkomajokdlkeaa

namespace Go.Proofs.Ytkkomajokdlkeaa
set_option linter.unusedSimpArgs false
set_option linter.unusedVariables false
set_option maxRecDepth 100000
set_option maxHeartbeats 4000000
open Go.RowKit Go.ChangeShapes Go.WideShapes Go.Deep

/-- Every integer fits. -/
def allWf (xs : List Int) : Prop := ∀ x ∈ xs, (Lit.int .i64 x).wf = true
theorem allWf.get {xs : List Int} (h : allWf xs) (i : Nat) : (Lit.int .i64 (xs.getD i 0)).wf = true := by
  rcases Nat.lt_or_ge i xs.length with hi | hi
  · have e : xs.getD i 0 = xs[i] := by simp [hi]
    rw [e]; exact h _ (List.getElem_mem hi)
  · have e : xs.getD i 0 = 0 := by simp [hi]
    rw [e]; decide
/-- A slice of slices of float32 numbers is read. -/
def SS (w : World) (v : Value) (css : List (List Nat)) : Prop :=
  ∃ vs : List Value, GL id w v vs ∧ vs.length = css.length ∧ ∀ i (h1 : i < vs.length) (h2 : i < css.length), SB w vs[i] css[i]
theorem SS.keep {w w' : World} {v : Value} {css : List (List Nat)} (h : SS w v css) (hb : Below w.heap.size w w') : SS w' v css := by
  obtain ⟨vs, h1, h2, h3⟩ := h
  exact ⟨vs, h1.keep hb, h2, fun i a b => (h3 i a b).keep hb⟩
theorem SS.below {w w' : World} {v : Value} {css : List (List Nat)} {B : Nat} (h : SS w v css) (hb : Below B w w') (hB : w.heap.size ≤ B) : SS w' v css := h.keep (hb.mono hB)
theorem SS.drewN {w : World} {v : Value} {css : List (List Nat)} (h : SS w v css) (n : Nat) : SS (w.drewN n) v css := h
theorem SS.get {w : World} {v : Value} {css : List (List Nat)} (h : SS w v css) {n : Nat} (hn : css.length = n) : ∃ ao c, v = .slice ao n c ∧ n ≤ c ∧ c ≤ 9223372036854775807 ∧ ∀ i, i < n → ∃ b off u, ao = some ⟨b, off, none⟩ ∧ b < w.heap.size ∧ w.cell? ⟨b, off + i, none⟩ = some u ∧ SB w u (css.getD i []) := by
  obtain ⟨vs, ⟨ao, c, rfl, h3, h4⟩, h2, h5⟩ := h
  subst hn
  refine ⟨ao, c, by rw [h2], by omega, h3.2, fun i hi => ?_⟩
  obtain ⟨b, off, e1, e2, e3⟩ := h4 i (by omega)
  refine ⟨b, off, vs[i], e1, e2, e3, ?_⟩
  have e : css.getD i [] = css[i] := by simp [hi]
  rw [e]; exact h5 i (by omega) hi

section
variable {H : Type} {enc : TypeId × Value → H} {P : Program} {w : World} {base : Nat} {spare : Nat → Bool} {held : Bool}
theorem trod_int' {fuel : Nat} {t : TypeId} {k : IntKind} {cs : List Value} {x : DataW H × List MemPlace} (ht : P.underlying t = some (.int k)) (h : DataW.trod enc P w base spare held fuel t cs = some x) :
    ∃ b, cs = [.int k b] ∧ (Lit.int k b).wf = true := by
  cases fuel with
  | zero => simp [DataW.trod] at h
  | succ n =>
    unfold DataW.trod at h
    rw [ht] at h
    split at h <;> simp_all
theorem trod_bool' {fuel : Nat} {t : TypeId} {cs : List Value} {x : DataW H × List MemPlace} (ht : P.underlying t = some .bool) (h : DataW.trod enc P w base spare held fuel t cs = some x) :
    ∃ b, cs = [.bool b] := by
  cases fuel with
  | zero => simp [DataW.trod] at h
  | succ n =>
    unfold DataW.trod at h
    rw [ht] at h
    split at h <;> simp_all
/-- A slice of one-cell elements. -/
theorem open_gs {fuel : Nat} {t e : TypeId} {v : Value} {x : DataW H × List MemPlace} (ht : P.underlying t = some (.slice e)) (hc : P.cellsOf e = 1)
    (h : DataW.trod enc P w base spare held fuel t [v] = some x) : ∃ (vs : List Value) (n : Nat), GL id w v vs ∧ ∀ u ∈ vs, ∃ y, DataW.trod enc P w base spare held n e [u] = some y := by
  rcases open_slice1 ht hc h with ⟨hv, _⟩ | ⟨a, len, cap, m, n, V, D, Pl, hv, hb, hl, hm, hmm, rfl, hx⟩
  · simp only [List.cons.injEq, and_true] at hv
    subst hv
    exact ⟨[], 0, GL.nil w, fun u hu => by cases hu⟩
  · simp only [List.cons.injEq, and_true] at hv
    subst hv
    have hlm : len ≤ m := by rw [hmm]; split <;> omega
    refine ⟨(List.range len).map V, n, ⟨some a, cap, by simp, ?_, ?_⟩, ?_⟩
    · have : maxLen = 9223372036854775807 := rfl
      simp only [List.length_map, List.length_range]; omega
    · intro i hi
      have hi' : i < len := by simpa using hi
      obtain ⟨h1, _⟩ := hx i (by omega)
      obtain ⟨h0, _⟩ := hx 0 (by omega)
      obtain ⟨ab, aoff, aspot⟩ := a
      have hs : aspot = none := by simpa [Addr.add] using (cell_lt h0).2
      subst hs
      rw [Addr.add_lit] at h1
      exact ⟨ab, aoff, rfl, (cell_lt h1).1, by rw [h1]; simp⟩
    · intro u hu
      obtain ⟨i, hi, rfl⟩ := List.mem_map.1 hu
      exact ⟨_, (hx i (by have := List.mem_range.1 hi; omega)).2⟩
theorem gl_map {α : Type} {inj : α → Value} {v : Value} {xs : List α} (h : GL id w v (xs.map inj)) : GL inj w v xs := by
  obtain ⟨ao, c, h1, h3, h4⟩ := h
  refine ⟨ao, c, by simpa using h1, by simpa using h3, fun i hi => ?_⟩
  obtain ⟨b, off, e1, e2, e3⟩ := h4 i (by simpa using hi)
  exact ⟨b, off, e1, e2, by simpa using e3⟩
theorem unmap {α : Type} {inj : α → Value} {p : α → Prop} : ∀ vs : List Value, (∀ u ∈ vs, ∃ a, u = inj a ∧ p a) → ∃ xs : List α, vs = xs.map inj ∧ ∀ a ∈ xs, p a
  | [], _ => ⟨[], rfl, fun a ha => by cases ha⟩
  | u :: us, h => by
    obtain ⟨a, rfl, ha⟩ := h u (List.mem_cons_self ..)
    obtain ⟨xs, rfl, hx⟩ := unmap us (fun u hu => h u (List.mem_cons_of_mem _ hu))
    refine ⟨a :: xs, rfl, fun b hb => ?_⟩
    rcases List.mem_cons.1 hb with rfl | hb
    · exact ha
    · exact hx b hb
theorem open_i64s {fuel : Nat} {t e : TypeId} {v : Value} {x : DataW H × List MemPlace} (ht : P.underlying t = some (.slice e)) (he : P.underlying e = some (.int .i64)) (hc : P.cellsOf e = 1)
    (h : DataW.trod enc P w base spare held fuel t [v] = some x) : ∃ xs, GL (Value.int .i64) w v xs ∧ allWf xs := by
  obtain ⟨vs, n, h1, h2⟩ := open_gs ht hc h
  obtain ⟨xs, rfl, h3⟩ := unmap (inj := Value.int .i64) (p := fun a => (Lit.int .i64 a).wf = true) vs (fun u hu => by
    obtain ⟨y, hy⟩ := h2 u hu
    obtain ⟨b, hb, hw⟩ := trod_int' he hy
    simp only [List.cons.injEq, and_true] at hb
    exact ⟨b, hb, hw⟩)
  exact ⟨xs, gl_map h1, h3⟩
theorem open_bools {fuel : Nat} {t e : TypeId} {v : Value} {x : DataW H × List MemPlace} (ht : P.underlying t = some (.slice e)) (he : P.underlying e = some .bool) (hc : P.cellsOf e = 1)
    (h : DataW.trod enc P w base spare held fuel t [v] = some x) : ∃ xs, GL Value.bool w v xs := by
  obtain ⟨vs, n, h1, h2⟩ := open_gs ht hc h
  obtain ⟨xs, rfl, h3⟩ := unmap (inj := Value.bool) (p := fun _ => True) vs (fun u hu => by
    obtain ⟨y, hy⟩ := h2 u hu
    obtain ⟨b, hb⟩ := trod_bool' he hy
    simp only [List.cons.injEq, and_true] at hb
    exact ⟨b, hb, trivial⟩)
  exact ⟨xs, gl_map h1⟩
theorem open_f32ss {fuel : Nat} {t e e2 : TypeId} {v : Value} {x : DataW H × List MemPlace} (ht : P.underlying t = some (.slice e)) (hc : P.cellsOf e = 1) (he : P.underlying e = some (.slice e2)) (he2 : P.underlying e2 = some (.float .f32)) (hc2 : P.cellsOf e2 = 1)
    (h : DataW.trod enc P w base spare held fuel t [v] = some x) : ∃ css, SS w v css := by
  obtain ⟨vs, n, h1, h2⟩ := open_gs ht hc h
  have h3 : ∀ vs : List Value, (∀ u ∈ vs, ∃ cs, SB w u cs) → ∃ css : List (List Nat), vs.length = css.length ∧ ∀ i (h1 : i < vs.length) (h2 : i < css.length), SB w vs[i] css[i] := by
    intro vs
    induction vs with
    | nil => intro _; exact ⟨[], rfl, fun i h1 => by cases h1⟩
    | cons u us ih =>
      intro h
      obtain ⟨cs, hcs⟩ := h u (List.mem_cons_self ..)
      obtain ⟨css, hl, hg⟩ := ih (fun u hu => h u (List.mem_cons_of_mem _ hu))
      refine ⟨cs :: css, by simp [hl], fun i h1 h2 => ?_⟩
      cases i with
      | zero => exact hcs
      | succ i => exact hg i (by simpa using h1) (by simpa using h2)
  obtain ⟨css, hl, hg⟩ := h3 vs (fun u hu => by
    obtain ⟨y, hy⟩ := h2 u hu
    exact open_f32s he he2 hc2 hy)
  exact ⟨css, vs, h1, hl, hg⟩
end
section
variable {H : Type} {enc : TypeId × Value → H} {P : Program} {w : World} {base : Nat} {spare : Nat → Bool} {held : Bool}
theorem trod_string' {fuel : Nat} {t : TypeId} {cs : List Value} {x : DataW H × List MemPlace} (ht : P.underlying t = some .string) (h : DataW.trod enc P w base spare held fuel t cs = some x) :
    ∃ s : ByteArray, cs = [.string s] ∧ s.size ≤ maxLen := by
  obtain ⟨s, h1, _, h3⟩ := DataW.trod_string ht h
  exact ⟨s, h1, h3⟩
theorem three {vs : List Value} {a b c : Value} (hl : vs.length = 3) (h0 : vs[0]? = some a) (h1 : vs[1]? = some b) (h2 : vs[2]? = some c) : vs = [a, b, c] := by
  match vs, hl with
  | [x, y, z], _ =>
    simp at h0 h1 h2
    rw [h0, h1, h2]
end

end Go.Proofs.Ytkkomajokdlkeaa

namespace Go.Proofs.Ytkkomajokdlkeaa
set_option linter.unusedSimpArgs false
set_option linter.unusedVariables false
set_option maxRecDepth 100000
set_option maxHeartbeats 4000000
open Go.RowKit

theorem Wi.undrew {lo hi n : Nat} {w w' : World} (h : Wi lo hi (w.drewN n) w') : Wi lo hi w w' := ⟨h.os, h.tape, h.output, h.size, h.block⟩

end Go.Proofs.Ytkkomajokdlkeaa

namespace Go.Proofs.Ytkkomajokdlkeaa
set_option linter.unusedSimpArgs false
set_option linter.unusedVariables false
set_option maxRecDepth 100000
set_option maxHeartbeats 4000000
open Go.RowKit
attribute [local go_sem] run_store_float run_store_complex alloc_drewN setCell_drewN

theorem set_copyG {α : Type} (xs : List α) (z : α) (j : Nat) (hj : j < xs.length) : (xs.take j ++ List.replicate (xs.length - j) z).set j xs[j] = xs.take (j + 1) ++ List.replicate (xs.length - (j + 1)) z := by
  have h1 : (xs.take j).length = j := by rw [List.length_take]; omega
  rw [List.set_append_right _ _ (by omega), h1, Nat.sub_self, List.take_succ_eq_append_getElem hj, List.append_assoc]
  have h2 : xs.length - j = (xs.length - (j + 1)) + 1 := by omega
  rw [h2, List.replicate_succ]
  rfl
def markG {α : Type} (f : Int → α) (k : Int) (n : Nat) : List α := (List.range n).map fun (i : Nat) => f (k + (i : Int))
theorem markG_length {α : Type} (f : Int → α) (k : Int) (n : Nat) : (markG f k n).length = n := by simp [markG]
theorem markG_succ {α : Type} (f : Int → α) (k : Int) (n : Nat) : markG f k (n + 1) = markG f k n ++ [f (k + n)] := by simp [markG, List.range_succ]
theorem set_markG {α : Type} (f : Int → α) (k : Int) (cs : List α) (j : Nat) (hj : j < cs.length) : (markG f k j ++ cs.drop j).set j (f (k + j)) = markG f k (j + 1) ++ cs.drop (j + 1) := by
  rw [List.set_append_right _ _ (by rw [markG_length]; exact Nat.le_refl _), markG_length, Nat.sub_self, markG_succ, List.append_assoc]
  rw [List.drop_eq_getElem_cons hj]
  rfl
theorem markG_get {α : Type} (f : Int → α) (k : Int) (n j : Nat) (h : j < (markG f k n).length) : (markG f k n)[j] = f (k + j) := by simp [markG]

end Go.Proofs.Ytkkomajokdlkeaa

namespace Go.Proofs.Ytkkomajokdlkeaa
set_option linter.unusedSimpArgs false
set_option linter.unusedVariables false
set_option maxRecDepth 100000
set_option maxHeartbeats 4000000
open Go.RowKit
attribute [local go_sem] run_store_float run_store_complex alloc_drewN setCell_drewN

theorem SS.slice {w : World} {v : Value} {css : List (List Nat)} (h : SS w v css) : ∃ ao c, v = .slice ao css.length c ∧ css.length ≤ c ∧ c ≤ 9223372036854775807 := by
  obtain ⟨ao, c, h1, h2, h3, _⟩ := h.get rfl
  exact ⟨ao, c, h1, h2, h3⟩
/-- A slice of slices of the call's own: the rows' blocks, and the slice's own. -/
def SO (T1 T2 lo : Nat) (w : World) (v : Value) (css : List (List Nat)) : Prop :=
  ∃ vs : List Value, GO id T1 lo w v vs ∧ vs.length = css.length ∧ ∀ i (h1 : i < vs.length) (h2 : i < css.length), OW T2 lo w vs[i] css[i]
def SW (T1 T2 lo hi : Nat) (w : World) (v : Value) (css : List (List Nat)) : Prop :=
  ∃ vs : List Value, GW id T1 lo hi w v vs ∧ vs.length = css.length ∧ ∀ i (h1 : i < vs.length) (h2 : i < css.length), FW T2 lo hi w vs[i] css[i]
theorem SW.of {T1 T2 lo : Nat} {w : World} {v : Value} {css : List (List Nat)} (h : SO T1 T2 lo w v css) : SW T1 T2 lo w.heap.size w v css := by
  obtain ⟨vs, h1, h2, h3⟩ := h
  exact ⟨vs, GW.of h1, h2, fun i a b => FW.of (h3 i a b)⟩
theorem SW.keep {T1 T2 lo hi a b : Nat} {w w' : World} {v : Value} {css : List (List Nat)} (h : SW T1 T2 lo hi w v css) (hw : Wi a b w w') (hd : b ≤ lo ∨ hi ≤ a) : SW T1 T2 lo hi w' v css := by
  obtain ⟨vs, h1, h2, h3⟩ := h
  exact ⟨vs, h1.keep hw hd, h2, fun i x y => (h3 i x y).keep hw hd⟩
theorem SW.ss {T1 T2 lo hi : Nat} {w : World} {v : Value} {css : List (List Nat)} (h : SW T1 T2 lo hi w v css) : SS w v css := by
  obtain ⟨vs, h1, h2, h3⟩ := h
  exact ⟨vs, h1.gl, h2, fun i x y => (h3 i x y).sb⟩

def szAt (css : List (List Nat)) (left : Int) : Nat → Int
  | 0 => left - css.length
  | k + 1 => szAt css left k - (css.getD k []).length
def szL (css : List (List Nat)) (left : Int) : Int := szAt css left css.length
def szQ (css : List (List Nat)) (left : Int) : Int := if 0 ≤ szL css left then szL css left else -1
theorem szAt_le (css : List (List Nat)) (left : Int) {i j : Nat} (h : i ≤ j) : szAt css left j ≤ szAt css left i := by
  induction h with
  | refl => exact Int.le_refl _
  | step h ih =>
    refine Int.le_trans ?_ ih
    show _ - _ ≤ _
    omega
theorem szQ_neg {css : List (List Nat)} {left : Int} (h : szL css left < 0) : szQ css left = -1 := by unfold szQ; rw [if_neg (by omega)]
theorem szQ_pos {css : List (List Nat)} {left : Int} (h : ¬ szL css left < 0) : szQ css left = szL css left := by unfold szQ; rw [if_pos (by omega)]
theorem szL_len {css : List (List Nat)} {left : Int} (h : 0 ≤ szL css left) (hl : left ≤ 1048576) : css.length < 1099511627776 := by
  have h1 : szL css left ≤ szAt css left 0 := szAt_le css left (Nat.zero_le _)
  have h2 : szAt css left 0 = left - css.length := rfl
  omega
theorem szL_each {css : List (List Nat)} {left : Int} (h : 0 ≤ szL css left) : ∀ i, i < css.length → ((css.getD i []).length : Int) ≤ left := by
  intro i hi
  have h1 : szL css left ≤ szAt css left (i + 1) := szAt_le css left hi
  have h2 : szAt css left (i + 1) = szAt css left i - (css.getD i []).length := rfl
  have h3 : szAt css left i ≤ szAt css left 0 := szAt_le css left (Nat.zero_le _)
  have h4 : szAt css left 0 = left - css.length := rfl
  omega

end Go.Proofs.Ytkkomajokdlkeaa
