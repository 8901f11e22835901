/- Memory: slices of numbers as lists; what a call that makes memory keeps. -/
import Derived.ProofKit
import Derived.OpenShut
import Derived.Deep.Slices
import Derived.Deep.Fields
import Derived.ShutString
import Derived.Laws.Cover2
import Derived.Deep.RegionHeld
import Derived.Test.YtkkomajokdlkeaaQ1
namespace Go.Proofs.Ytkkomajokdlkeaa
set_option linter.unusedSimpArgs false
set_option linter.unusedVariables false
set_option maxRecDepth 100000
set_option maxHeartbeats 4000000
open Go.RowKit

/-- What a function that only computes does to the world: some draws. -/
def Dr (w w' : World) : Prop := ∃ n, w.drewN n = w'
theorem Dr.refl (w : World) : Dr w w := ⟨0, rfl⟩
theorem Dr.mk (w : World) (n : Nat) : Dr w (w.drewN n) := ⟨n, rfl⟩
theorem Dr.below {w w' : World} (h : Dr w w') (B : Nat) : Below B w w' := by
  obtain ⟨n, rfl⟩ := h
  exact ⟨rfl, rfl, rfl, Nat.le_refl _, fun _ _ => rfl⟩
theorem below_drewN {B : Nat} {a w : World} (h : Below B a w) (n : Nat) : Below B a (w.drewN n) := h.trans ((Dr.mk w n).below B)

/-- A slice of float32 values, with its numbers as canonical bits. -/
def SL (w : World) (v : Value) (cs : List Nat) : Prop :=
  ∃ (ao : Option Addr) (c : Nat) (xs : List Nat), v = .slice ao xs.length c ∧ xs.map (cn .f32) = cs ∧ (xs.length ≤ c ∧ c ≤ 9223372036854775807) ∧
    ∀ i (h : i < xs.length), ∃ b off, ao = some ⟨b, off, none⟩ ∧ b < w.heap.size ∧ w.cell? ⟨b, off + i, none⟩ = some (.float .f32 xs[i])

theorem SL.keep {w w' : World} {v : Value} {cs : List Nat} (h : SL w v cs) (hb : Below w.heap.size w w') : SL w' v cs := by
  obtain ⟨ao, c, xs, h1, h2, h3, h4⟩ := h
  refine ⟨ao, c, xs, h1, h2, h3, fun i hi => ?_⟩
  obtain ⟨b, off, e1, e2, e3⟩ := h4 i hi
  exact ⟨b, off, e1, Nat.lt_of_lt_of_le e2 hb.size, by rw [hb.cell (p := ⟨b, off + i, none⟩) e2]; exact e3⟩

theorem SL.drewN {w : World} {v : Value} {cs : List Nat} (h : SL w v cs) (n : Nat) : SL (w.drewN n) v cs := h
theorem SL.drew {w : World} {v : Value} {cs : List Nat} (h : SL w v cs) : SL w.drew v cs := h
theorem SL.nil (w : World) : SL w (.slice none 0 0) [] := ⟨none, 0, [], rfl, rfl, by simp, fun i hi => by cases hi⟩

/-- A new block of written-out numbers. -/
theorem SL.lit (w : World) (xs : List Nat) (T : TypeId) (m : Nat × Nat) (hl : xs.length ≤ 9223372036854775807) {cells : Array Value} (hc : cells = (xs.map (Value.float .f32)).toArray) {n : Nat} (hn : n = w.heap.size) :
    SL (w.alloc (.cells cells T m)) (.slice (some ⟨n, 0, none⟩) xs.length xs.length) (xs.map (cn .f32)) := by
  subst hn
  subst hc
  refine ⟨_, _, xs, rfl, rfl, ⟨Nat.le_refl _, hl⟩, fun i hi => ⟨_, _, rfl, by simp, ?_⟩⟩
  show (match (w.heap.push _)[w.heap.size]? with | some (.cells c _ _) => _ | _ => _) = _
  rw [Array.getElem?_push, if_pos rfl]
  simp [hi]

theorem bcell {W w1 : World} (hb : Below W.heap.size W w1) : (∀ b o, b < W.heap.size → w1.cell? ⟨b, o, none⟩ = W.cell? ⟨b, o, none⟩) ∧ (∀ b o, b < W.heap.size → w1.frozen? ⟨b, o, none⟩ = W.frozen? ⟨b, o, none⟩) :=
  ⟨fun b o h => hb.cell (p := ⟨b, o, none⟩) h, fun b o h => hb.frozen (p := ⟨b, o, none⟩) h⟩

/-- The same, and the bits fit. -/
def SB (w : World) (v : Value) (cs : List Nat) : Prop :=
  ∃ (ao : Option Addr) (c : Nat) (xs : List Nat), v = .slice ao xs.length c ∧ xs.map (cn .f32) = cs ∧ (xs.length ≤ c ∧ c ≤ 9223372036854775807) ∧ (∀ x ∈ xs, x < 4294967296) ∧
    ∀ i (h : i < xs.length), ∃ b off, ao = some ⟨b, off, none⟩ ∧ b < w.heap.size ∧ w.cell? ⟨b, off + i, none⟩ = some (.float .f32 xs[i])
theorem SB.sl {w : World} {v : Value} {cs : List Nat} (h : SB w v cs) : SL w v cs := by
  obtain ⟨ao, c, xs, h1, h2, h3, _, h4⟩ := h
  exact ⟨ao, c, xs, h1, h2, h3, h4⟩
theorem SB.keep {w w' : World} {v : Value} {cs : List Nat} (h : SB w v cs) (hb : Below w.heap.size w w') : SB w' v cs := by
  obtain ⟨ao, c, xs, h1, h2, h3, h5, h4⟩ := h
  refine ⟨ao, c, xs, h1, h2, h3, h5, fun i hi => ?_⟩
  obtain ⟨b, off, e1, e2, e3⟩ := h4 i hi
  exact ⟨b, off, e1, Nat.lt_of_lt_of_le e2 hb.size, by rw [hb.cell (p := ⟨b, off + i, none⟩) e2]; exact e3⟩
theorem SB.drewN {w : World} {v : Value} {cs : List Nat} (h : SB w v cs) (n : Nat) : SB (w.drewN n) v cs := h
theorem SB.lit (w : World) (xs : List Nat) (T : TypeId) (m : Nat × Nat) (hl : xs.length ≤ 9223372036854775807) (hx : ∀ x ∈ xs, x < 4294967296) {cells : Array Value} (hc : cells = (xs.map (Value.float .f32)).toArray) {n : Nat} (hn : n = w.heap.size) :
    SB (w.alloc (.cells cells T m)) (.slice (some ⟨n, 0, none⟩) xs.length xs.length) (xs.map (cn .f32)) := by
  obtain ⟨ao, c, ys, h1, h2, h3, h4⟩ := SL.lit w xs T m hl hc hn
  refine ⟨_, _, xs, rfl, rfl, ⟨Nat.le_refl _, hl⟩, hx, ?_⟩
  subst hn
  subst hc
  intro i hi
  refine ⟨_, _, rfl, by simp, ?_⟩
  show (match (w.heap.push _)[w.heap.size]? with | some (.cells c _ _) => _ | _ => _) = _
  rw [Array.getElem?_push, if_pos rfl]
  simp [hi]

/-- A block begins with these cells. -/
def CA (w : World) (p : Nat) (vs : List Value) : Prop := p < w.heap.size ∧ ∀ i v, vs[i]? = some v → w.cell? ⟨p, i, none⟩ = some v
theorem CA.keep {w w' : World} {p : Nat} {vs : List Value} (h : CA w p vs) (hb : Below w.heap.size w w') : CA w' p vs :=
  ⟨Nat.lt_of_lt_of_le h.1 hb.size, fun i v hv => by rw [hb.cell (p := ⟨p, i, none⟩) h.1]; exact h.2 i v hv⟩
theorem CA.new (w : World) (vs : List Value) (T : TypeId) (m : Nat × Nat) {cells : Array Value} (hc : cells = vs.toArray) {n : Nat} (hn : n = w.heap.size) : CA (w.alloc (.cells cells T m)) n vs := by
  subst hn
  subst hc
  refine ⟨by simp, fun i v hv => ?_⟩
  show (match (w.heap.push _)[w.heap.size]? with | some (.cells c _ _) => _ | _ => _) = _
  rw [Array.getElem?_push, if_pos rfl]
  simpa using hv
theorem CA.drewN {w : World} {p : Nat} {vs : List Value} (h : CA w p vs) (n : Nat) : CA (w.drewN n) p vs := h

theorem bcellN {N : Nat} {W w1 : World} (hb : Below W.heap.size W w1) (hN : N ≤ W.heap.size) : (∀ b o, b < N → w1.cell? ⟨b, o, none⟩ = W.cell? ⟨b, o, none⟩) ∧ (∀ b o, b < N → w1.frozen? ⟨b, o, none⟩ = W.frozen? ⟨b, o, none⟩) :=
  ⟨fun b o h => hb.cell (p := ⟨b, o, none⟩) (Nat.lt_of_lt_of_le h hN), fun b o h => hb.frozen (p := ⟨b, o, none⟩) (Nat.lt_of_lt_of_le h hN)⟩

/-- A part of a slice. -/
theorem SL.sub {w : World} {ao : Option Addr} {n c : Nat} {cs : List Nat} (h : SL w (.slice ao n c) cs) {lo hi : Nat} (h1 : lo ≤ hi) (h2 : hi ≤ n) :
    SL w (.slice (if c = lo then ao else ao.map (·.add lo)) (hi - lo) (c - lo)) ((cs.drop lo).take (hi - lo)) := by
  obtain ⟨bo, d, xs, hv, rfl, hlen, hcell⟩ := h
  simp only [Value.slice.injEq] at hv
  obtain ⟨rfl, rfl, rfl⟩ := hv
  refine ⟨(if c = lo then ao else ao.map (·.add lo)), c - lo, (xs.drop lo).take (hi - lo), ?_, by simp [List.map_drop, List.map_take], ?_, fun i hi' => ?_⟩
  · congr 1
    simp; omega
  · simp; omega
  · have hi2 : i < hi - lo := by simp at hi'; omega
    obtain ⟨b, off, e1, e2, e3⟩ := hcell (lo + i) (by omega)
    refine ⟨b, off + lo, ?_, e2, ?_⟩
    · rw [if_neg (by omega), e1]
      simp [Addr.add_lit]
    · rw [show off + lo + i = off + (lo + i) by omega, e3]
      simp

end Go.Proofs.Ytkkomajokdlkeaa

namespace Go.Proofs.Ytkkomajokdlkeaa
set_option linter.unusedSimpArgs false
set_option linter.unusedVariables false
set_option maxRecDepth 100000
set_option maxHeartbeats 4000000
open Go.RowKit Go.ChangeShapes Go.WideShapes Go.Deep

section
variable {H : Type} {enc : TypeId × Value → H} {P : Program} {w : World} {base : Nat} {spare : Nat → Bool} {held : Bool}

theorem trod_float {fuel : Nat} {t : TypeId} {k : FloatKind} {cs : List Value} {x : DataW H × List MemPlace} (ht : P.underlying t = some (.float k)) (h : DataW.trod enc P w base spare held fuel t cs = some x) :
    ∃ b, cs = [.float k b] ∧ x = (.lit (.float k b), []) ∧ (Lit.float k b).wf = true := by
  cases fuel with
  | zero => simp [DataW.trod] at h
  | succ n =>
    unfold DataW.trod at h
    rw [ht] at h
    split at h <;> simp_all

theorem cell_lt {w : World} {a : Addr} {v : Value} (h : w.cell? a = some v) : a.block < w.heap.size ∧ a.spot = none := by
  unfold World.cell? at h
  split at h
  · rename_i hb
    refine ⟨?_, ?_⟩
    · rcases Nat.lt_or_ge a.block w.heap.size with h' | h'
      · exact h'
      · rw [Array.getElem?_eq_none h'] at hb; cases hb
    · split at h
      · cases h
      · rename_i hs; simpa using hs
  · cases h

theorem f32_lt {b : Nat} (h : (Lit.float .f32 b).wf = true) : b < 4294967296 := by simpa [Lit.wf] using h

/-- A slice of float32 values. -/
theorem open_f32s {fuel : Nat} {t e : TypeId} {v : Value} {x : DataW H × List MemPlace} (ht : P.underlying t = some (.slice e)) (he : P.underlying e = some (.float .f32)) (hc : P.cellsOf e = 1)
    (h : DataW.trod enc P w base spare held fuel t [v] = some x) : ∃ cs, SB w v cs := by
  rcases open_slice1 ht hc h with ⟨hv, _⟩ | ⟨a, len, cap, m, n, V, D, Pl, hv, hb, hl, hm, hmm, rfl, hx⟩
  · simp only [List.cons.injEq, and_true] at hv
    subst hv
    exact ⟨[], none, 0, [], rfl, rfl, by simp, by simp, fun i hi => by cases hi⟩
  · simp only [List.cons.injEq, and_true] at hv
    subst hv
    have hlm : len ≤ m := by rw [hmm]; split <;> omega
    have hV : ∀ i, i < len → ∃ b, V i = .float .f32 b ∧ b < 4294967296 := by
      intro i hi
      obtain ⟨h1, h2⟩ := hx i (by omega)
      obtain ⟨b, hb1, _, hb2⟩ := trod_float he h2
      simp only [List.cons.injEq, and_true] at hb1
      exact ⟨b, hb1, f32_lt hb2⟩
    obtain ⟨B, hB⟩ := choose_lt (α := Nat) (p := fun i b => V i = .float .f32 b ∧ b < 4294967296) hV
    refine ⟨((List.range len).map B).map (cn .f32), some a, cap, (List.range len).map B, by simp, rfl, ?_, ?_, ?_⟩
    · have : maxLen = 9223372036854775807 := rfl
      simp only [List.length_map, List.length_range]; omega
    · intro x hx
      obtain ⟨i, hi, rfl⟩ := List.mem_map.1 hx
      exact (hB i (by simpa using hi)).2
    · intro i hi
      have hi' : i < len := by simpa using hi
      obtain ⟨h1, _⟩ := hx i (by omega)
      obtain ⟨h0, _⟩ := hx 0 (by omega)
      obtain ⟨ab, aoff, aspot⟩ := a
      have hs : aspot = none := by simpa [Addr.add] using (cell_lt h0).2
      subst hs
      rw [Addr.add_lit] at h1
      exact ⟨ab, aoff, rfl, (cell_lt h1).1, by rw [h1, (hB i hi').1]; simp⟩

/-- A struct of one-cell fields. -/
theorem open_struct {r : Reach} {b0 : Nat} {t : TypeId} {fs : Array Field} {v : Value} {d : DataW H} {p : List MemPlace} (hs : P.underlying t = some (.struct fs)) (hone : oneCellFields P fs = true) (hC : P.cellsOf t = fs.size)
    (hv : Value.okWide P w r b0 t v) (h : DataW.Trod enc P w base spare held t v d p) :
    ∃ (vs : List Value) (n : Nat), v = .agg vs.toArray ∧ vs.length = fs.size ∧ ∀ (j : Nat) (f : Field), fs[j]? = some f → ∃ u y, vs[j]? = some u ∧ DataW.trod enc P w base spare held n f.type [u] = some y := by
  obtain ⟨cs, rfl, hsz⟩ := okWide_struct hs hv
  obtain ⟨l⟩ := cs
  obtain ⟨fuel, hf⟩ := h
  obtain ⟨xs, n, _, _, _, hlen, hg⟩ := DataW.trod_struct hs hf
  refine ⟨l, n, rfl, by simpa [hC] using hsz, fun j f hj => ?_⟩
  obtain ⟨o, k⟩ := hone_of hone j f hj
  have hjl : j < fs.size := (Array.getElem?_eq_some_iff.1 hj).1
  have hll : l.length = fs.size := by simpa [hC] using hsz
  have h1 := hg j f hj
  rw [o, k] at h1
  have h2 : ((Value.agg ⟨l⟩).cells.toList.drop j).take 1 = [l[j]'(by omega)] := by
    show (l.drop j).take 1 = _
    rw [List.drop_eq_getElem_cons (by omega)]; rfl
  rw [h2, List.getElem?_eq_getElem (by omega)] at h1
  exact ⟨_, _, List.getElem?_eq_getElem (by omega), h1⟩
end

end Go.Proofs.Ytkkomajokdlkeaa

namespace Go.Proofs.Ytkkomajokdlkeaa
set_option linter.unusedSimpArgs false
set_option linter.unusedVariables false
set_option maxRecDepth 100000
set_option maxHeartbeats 4000000
open Go.RowKit

structure BK (W : World) (p : Nat) (vs : List Value) : Prop where
  lt : p < W.heap.size
  cells : ∀ i, i < vs.length → W.cell? ⟨p, i, none⟩ = vs[i]?
  fro : ∀ i, W.frozen? ⟨p, i, none⟩ = false
section
variable {w w' : World} {p : Nat} {vs : List Value}
theorem BK.keep (h : BK w p vs) (hb : Below w.heap.size w w') : BK w' p vs :=
  ⟨Nat.lt_of_lt_of_le h.lt hb.size, fun i hi => (hb.cell (p := ⟨p, i, none⟩) h.lt).trans (h.cells i hi), fun i => (hb.frozen (p := ⟨p, i, none⟩) h.lt).trans (h.fro i)⟩
theorem BK.drewN (h : BK w p vs) (n : Nat) : BK (w.drewN n) p vs := ⟨h.lt, h.cells, h.fro⟩
theorem BK.drew (h : BK w p vs) : BK w.drew p vs := ⟨h.lt, h.cells, h.fro⟩
theorem BK.alloc (h : BK w p vs) (o : Obj) : BK (w.alloc o) p vs := h.keep ((Below.refl _ _).alloc (Nat.le_refl _) _)
theorem BK.new (w : World) (vs : List Value) (T : TypeId) : BK (w.alloc (.cells vs.toArray T)) w.heap.size vs := by
  refine ⟨by simp, fun i hi => ?_, fun i => ?_⟩
  · show (match (w.heap.push _)[w.heap.size]? with | some (.cells c _ _) => _ | _ => _) = _
    rw [Array.getElem?_push, if_pos rfl]
    simp
  · show (match (w.heap.push _)[w.heap.size]? with | some (.cells _ _ (lo, hi)) => _ | _ => _) = _
    rw [Array.getElem?_push, if_pos rfl]
    simp
theorem frozen_setCell (w : World) (a b : Addr) (v : Value) : (w.setCell a v).frozen? b = w.frozen? b := World.frozen?_setCell ..
theorem BK.set (h : BK w p vs) {j : Nat} (hj : j < vs.length) (v : Value) : BK (w.setCell ⟨p, j, none⟩ v) p (vs.set j v) := by
  refine ⟨by simpa using h.lt, fun i hi => ?_, fun i => (frozen_setCell ..).trans (h.fro i)⟩
  rw [List.length_set] at hi
  by_cases e : i = j
  · subst e
    rw [List.getElem?_set_self hj]
    have h1 := h.cells i hi
    rw [List.getElem?_eq_getElem hi] at h1
    exact World.cell?_setCell_same _ _ _ h1
  · rw [List.getElem?_set_ne (fun h => e h.symm)]
    rw [World.cell?_setCell_other _ _ _ _ (by first | exact fun h => e (Addr.mk.inj h).2.1.symm | exact fun h => e (Addr.mk.inj h).2.1)]
    exact h.cells i hi
theorem BK.other (h : BK w p vs) {q : Nat} (j : Nat) (v : Value) (hq : q ≠ p) : BK (w.setCell ⟨q, j, none⟩ v) p vs :=
  ⟨by simpa using h.lt, fun i hi => (World.cell?_setCell_far _ _ _ _ hq).trans (h.cells i hi), fun i => (frozen_setCell ..).trans (h.fro i)⟩
theorem BK.ca (h : BK w p vs) : CA w p vs := ⟨h.lt, fun i v hv => by
  have hi : i < vs.length := (List.getElem?_eq_some_iff.1 hv).1
  rw [h.cells i hi]; exact hv⟩
theorem BK.at {i : Nat} {v : Value} (h : BK w p vs) (hv : vs[i]? = some v) : w.cell? ⟨p, i, none⟩ = some v := h.ca.2 i v hv
end
/-- A store into such a block. -/
theorem wpList_storeBK {P : Program} {ops : Array Oper} {Q : Exit → Act → World → Prop} {a : Act} {w : World} {rest : List Oper} {T type : TypeId} {x y : Operand} {pos : String} {after : Array Edge} {p j : Nat} {v : Value} {vs : List Value}
    (hs0 : ∀ w, (Instr.storeAt T (.pointer (some ⟨p, j, none⟩)) v).run P w = (store ⟨p, j, none⟩ v .plain).run P w) (hx : a.eval x = .pointer (some ⟨p, j, none⟩)) (hy : a.eval y = v) (h1 : v.oneCell' = true) (HB : BK w p vs) (hj : j < vs.length)
    (h : ∀ W, W = w.setCell ⟨p, j, none⟩ v → wpList P ops Q rest a W) :
    wpList P ops Q ({ dst := none, op := .store T x y, type := type, pos := pos, after := after, guard := none } :: rest) a w := by
  refine wpList_plain rfl fun K hK => ?_
  have hc := HB.cells j hj
  rw [List.getElem?_eq_getElem hj] at hc
  have hs := run_store P w ⟨p, j, none⟩ v .plain h1
  rw [hc] at hs
  simp only [HB.fro j] at hs
  unfold Oper.wp
  simp [execOp, hx, hy, hs0, hs, Result.andThen]
  exact hK _ _ (h _ rfl)
/-- The same, all that is followed handed on. -/
theorem wpList_storeBK2 {P : Program} {ops : Array Oper} {Q : Exit → Act → World → Prop} {a : Act} {w : World} {rest : List Oper} {T type : TypeId} {x y : Operand} {pos : String} {after : Array Edge} {p j : Nat} {v : Value} {vs : List Value}
    (hs0 : ∀ w, (Instr.storeAt T (.pointer (some ⟨p, j, none⟩)) v).run P w = (store ⟨p, j, none⟩ v .plain).run P w) (hx : a.eval x = .pointer (some ⟨p, j, none⟩)) (hy : a.eval y = v) (h1 : v.oneCell' = true) (HB : BK w p vs) (hj : j < vs.length)
    (h : ∀ W, BK W p (vs.set j v) → (∀ q us, BK w q us → q ≠ p → BK W q us) → (∀ B s, Below B s w → B ≤ p → Below B s W) → w.heap.size ≤ W.heap.size → wpList P ops Q rest a W) :
    wpList P ops Q ({ dst := none, op := .store T x y, type := type, pos := pos, after := after, guard := none } :: rest) a w := by
  refine wpList_storeBK hs0 hx hy h1 HB hj fun W hW => ?_
  subst hW
  exact h _ (HB.set hj v) (fun q us hq hne => hq.other j v (Ne.symm hne)) (fun B s hb hB => hb.setCell hB _) (by simp)

end Go.Proofs.Ytkkomajokdlkeaa

namespace Go.Proofs.Ytkkomajokdlkeaa
set_option linter.unusedSimpArgs false
set_option linter.unusedVariables false
set_option maxRecDepth 100000
set_option maxHeartbeats 4000000
open Go.RowKit

theorem grown_setCell (w : World) (a : Addr) (u : Value) : w.grownBy (w.setCell a u) (some a.block) :=
  ⟨rfl, rfl, rfl, by simp, fun k _ hk => by first | exact heap_setCell_other w a k u (fun e => hk (by rw [e])) | exact Below.heap_setCell _ _ _ k (fun e => hk (by rw [e]))⟩
theorem grown_trans {w w1 w2 : World} {r : Option Nat} (h : w.grownBy w1 r) (h' : w1.grownBy w2 r) : w.grownBy w2 r :=
  ⟨h'.os.trans h.os, h'.tape.trans h.tape, h'.output.trans h.output, Nat.le_trans h.size h'.size, fun k hk hne => (h'.block k (Nat.lt_of_lt_of_le hk h.size) hne).trans (h.block k hk hne)⟩
/-- Cells from place j on are replaced. -/
def setsAt (vs us : List Value) (j : Nat) : List Value := vs.take j ++ us ++ vs.drop (j + us.length)
theorem setsAt_nil (vs : List Value) (j : Nat) : setsAt vs [] j = vs := by simp [setsAt]
theorem setsAt_cons (vs us : List Value) (u : Value) {k : Nat} (hk : k < vs.length) : setsAt (vs.set k u) us (k + 1) = setsAt vs (u :: us) k := by
  unfold setsAt
  have h1 : (vs.set k u).take (k + 1) = vs.take k ++ [u] := by
    rw [List.take_succ_eq_append_getElem (by simpa using hk), List.take_set_of_le (Nat.le_refl _)]
    simp
  have h2 : (vs.set k u).drop (k + 1 + us.length) = vs.drop (k + (u :: us).length) := by
    rw [List.drop_set_of_lt (by omega)]
    simp [Nat.add_assoc, Nat.add_comm 1]
  rw [h1, h2]
  simp
theorem storeCells_BK (P : Program) (p : Nat) : ∀ (us : List Value) (i j : Nat) (vs : List Value) (w : World), BK w p vs → j + i + us.length ≤ vs.length → (∀ u ∈ us, u.oneCell' = true) →
    ∃ W, (storeCells ⟨p, j, none⟩ us i).run P w = .ok () W ∧ BK W p (setsAt vs us (j + i)) ∧ (∀ q xs, BK w q xs → q ≠ p → BK W q xs) ∧ (∀ B s, Below B s w → B ≤ p → Below B s W) ∧ w.heap.size ≤ W.heap.size ∧ w.grownBy W (some p)
  | [], i, j, vs, w, hB, _, _ => ⟨w, rfl, by rw [setsAt_nil]; exact hB, fun _ _ h _ => h, fun _ _ h _ => h, Nat.le_refl _, World.grownBy.refl _ _⟩
  | u :: us, i, j, vs, w, hB, hl, h1 => by
    have hk : j + i < vs.length := by simp at hl; omega
    have hadd : (⟨p, j, none⟩ : Addr).add i = ⟨p, j + i, none⟩ := by unfold Addr.add; split <;> simp_all
    have hc := hB.cells (j + i) hk
    rw [List.getElem?_eq_getElem hk] at hc
    have hs := run_store P w ⟨p, j + i, none⟩ u .plain (h1 u (List.mem_cons_self ..))
    rw [hc] at hs
    simp only [hB.fro (j + i)] at hs
    obtain ⟨W, hr, h2, h3, h4, h5, h6⟩ := storeCells_BK P p us (i + 1) j (vs.set (j + i) u) (w.setCell ⟨p, j + i, none⟩ u) (hB.set hk u) (by simp at hl ⊢; omega) (fun x hx => h1 x (List.mem_cons_of_mem _ hx))
    refine ⟨W, ?_, ?_, fun q xs hq hne => h3 q xs (hq.other _ _ (Ne.symm hne)) hne, fun B s hb hB' => h4 B s (hb.setCell hB' _) hB', by simpa using h5, grown_trans (grown_setCell w ⟨p, j + i, none⟩ u) h6⟩
    · simp only [storeCells, Sem.run_bind, hadd]
      rw [show (store ⟨p, j + i, none⟩ u).run P w = _ from hs]
      simpa using hr
    · rw [← setsAt_cons vs us u hk]
      exact h2
/-- A struct is stored into such a block. -/
theorem wpList_storeAgg {P : Program} {ops : Array Oper} {Q : Exit → Act → World → Prop} {a : Act} {w : World} {rest : List Oper} {T type : TypeId} {x y : Operand} {pos : String} {after : Array Edge} {p j : Nat} {us vs : List Value}
    (hs0 : ∀ w, (Instr.storeAt T (.pointer (some ⟨p, j, none⟩)) (.agg us.toArray)).run P w = (storeCells ⟨p, j, none⟩ us 0).run P w) (hx : a.eval x = .pointer (some ⟨p, j, none⟩)) (hy : a.eval y = .agg us.toArray) (h1 : ∀ u ∈ us, u.oneCell' = true) (HB : BK w p vs) (hj : j + us.length ≤ vs.length)
    (h : ∀ W, BK W p (setsAt vs us j) → (∀ q xs, BK w q xs → q ≠ p → BK W q xs) → (∀ B s, Below B s w → B ≤ p → Below B s W) → w.heap.size ≤ W.heap.size → w.grownBy W (some p) → wpList P ops Q rest a W) :
    wpList P ops Q ({ dst := none, op := .store T x y, type := type, pos := pos, after := after, guard := none } :: rest) a w := by
  refine wpList_plain rfl fun K hK => ?_
  obtain ⟨W, hr, h2, h3, h4, h5, h6⟩ := storeCells_BK P p us 0 j vs w HB (by omega) h1
  unfold Oper.wp
  simp [execOp, hx, hy, hs0, hr, Result.andThen]
  exact hK _ _ (h W h2 h3 h4 h5 h6)
/-- A store of one cell, with what it leaves alone. -/
theorem wpList_storeBK3 {P : Program} {ops : Array Oper} {Q : Exit → Act → World → Prop} {a : Act} {w : World} {rest : List Oper} {T type : TypeId} {x y : Operand} {pos : String} {after : Array Edge} {p j : Nat} {v : Value} {vs : List Value}
    (hs0 : ∀ w, (Instr.storeAt T (.pointer (some ⟨p, j, none⟩)) v).run P w = (store ⟨p, j, none⟩ v .plain).run P w) (hx : a.eval x = .pointer (some ⟨p, j, none⟩)) (hy : a.eval y = v) (h1 : v.oneCell' = true) (HB : BK w p vs) (hj : j < vs.length)
    (h : ∀ W, BK W p (vs.set j v) → (∀ q us, BK w q us → q ≠ p → BK W q us) → (∀ B s, Below B s w → B ≤ p → Below B s W) → w.heap.size ≤ W.heap.size → w.grownBy W (some p) → wpList P ops Q rest a W) :
    wpList P ops Q ({ dst := none, op := .store T x y, type := type, pos := pos, after := after, guard := none } :: rest) a w := by
  refine wpList_storeBK hs0 hx hy h1 HB hj fun W hW => ?_
  subst hW
  exact h _ (HB.set hj v) (fun q us hq hne => hq.other j v (Ne.symm hne)) (fun B s hb hB => hb.setCell hB _) (by simp) (grown_setCell w ⟨p, j, none⟩ v)

end Go.Proofs.Ytkkomajokdlkeaa
