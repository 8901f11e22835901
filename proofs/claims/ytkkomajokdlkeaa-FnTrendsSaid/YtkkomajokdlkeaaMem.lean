/- Memory: slices of numbers as lists; what a call that makes memory keeps. -/
import Derived.Test.YtkkomajokdlkeaaFl
namespace Go.Proofs.Ytkkomajokdlkeaa
set_option linter.unusedSimpArgs false
set_option linter.unusedVariables false
set_option maxRecDepth 100000
set_option maxHeartbeats 4000000
open Go.RowKit

/-- What a function that only computes does to the world: some draws. -/
def Dr (w w' : World) : Prop := ∃ n, w.drewN n = w'
theorem Dr.refl (w : World) : Dr w w := ⟨0, rfl⟩
theorem Dr.mk (w : World) (n : Nat) : Dr w (w.drewN n) := ⟨n, rfl⟩
theorem Dr.below {w w' : World} (h : Dr w w') (B : Nat) : Below B w w' := by
  obtain ⟨n, rfl⟩ := h
  exact ⟨rfl, rfl, rfl, Nat.le_refl _, fun _ _ => rfl⟩
theorem below_drewN {B : Nat} {a w : World} (h : Below B a w) (n : Nat) : Below B a (w.drewN n) := h.trans ((Dr.mk w n).below B)

/-- A slice of float32 values, with its numbers as canonical bits. -/
def SL (w : World) (v : Value) (cs : List Nat) : Prop :=
  ∃ (ao : Option Addr) (c : Nat) (xs : List Nat), v = .slice ao xs.length c ∧ xs.map (cn .f32) = cs ∧ (xs.length ≤ c ∧ c ≤ 9223372036854775807) ∧
    ∀ i (h : i < xs.length), ∃ b off, ao = some ⟨b, off, none⟩ ∧ b < w.heap.size ∧ w.cell? ⟨b, off + i, none⟩ = some (.float .f32 xs[i])

theorem SL.keep {w w' : World} {v : Value} {cs : List Nat} (h : SL w v cs) (hb : Below w.heap.size w w') : SL w' v cs := by
  obtain ⟨ao, c, xs, h1, h2, h3, h4⟩ := h
  refine ⟨ao, c, xs, h1, h2, h3, fun i hi => ?_⟩
  obtain ⟨b, off, e1, e2, e3⟩ := h4 i hi
  exact ⟨b, off, e1, Nat.lt_of_lt_of_le e2 hb.size, by rw [hb.cell (p := ⟨b, off + i, none⟩) e2]; exact e3⟩

theorem SL.drewN {w : World} {v : Value} {cs : List Nat} (h : SL w v cs) (n : Nat) : SL (w.drewN n) v cs := h
theorem SL.drew {w : World} {v : Value} {cs : List Nat} (h : SL w v cs) : SL w.drew v cs := h
theorem SL.nil (w : World) : SL w (.slice none 0 0) [] := ⟨none, 0, [], rfl, rfl, by simp, fun i hi => by cases hi⟩

/-- A new block of written-out numbers. -/
theorem SL.lit (w : World) (xs : List Nat) (T : TypeId) (m : Nat × Nat) (hl : xs.length ≤ 9223372036854775807) {cells : Array Value} (hc : cells = (xs.map (Value.float .f32)).toArray) {n : Nat} (hn : n = w.heap.size) :
    SL (w.alloc (.cells cells T m)) (.slice (some ⟨n, 0, none⟩) xs.length xs.length) (xs.map (cn .f32)) := by
  subst hn
  subst hc
  refine ⟨_, _, xs, rfl, rfl, ⟨Nat.le_refl _, hl⟩, fun i hi => ⟨_, _, rfl, by simp, ?_⟩⟩
  show (match (w.heap.push _)[w.heap.size]? with | some (.cells c _ _) => _ | _ => _) = _
  rw [Array.getElem?_push, if_pos rfl]
  simp [hi]

theorem bcell {W w1 : World} (hb : Below W.heap.size W w1) : (∀ b o, b < W.heap.size → w1.cell? ⟨b, o, none⟩ = W.cell? ⟨b, o, none⟩) ∧ (∀ b o, b < W.heap.size → w1.frozen? ⟨b, o, none⟩ = W.frozen? ⟨b, o, none⟩) :=
  ⟨fun b o h => hb.cell (p := ⟨b, o, none⟩) h, fun b o h => hb.frozen (p := ⟨b, o, none⟩) h⟩

/-- The same, and the bits fit. -/
def SB (w : World) (v : Value) (cs : List Nat) : Prop :=
  ∃ (ao : Option Addr) (c : Nat) (xs : List Nat), v = .slice ao xs.length c ∧ xs.map (cn .f32) = cs ∧ (xs.length ≤ c ∧ c ≤ 9223372036854775807) ∧ (∀ x ∈ xs, x < 4294967296) ∧
    ∀ i (h : i < xs.length), ∃ b off, ao = some ⟨b, off, none⟩ ∧ b < w.heap.size ∧ w.cell? ⟨b, off + i, none⟩ = some (.float .f32 xs[i])
theorem SB.sl {w : World} {v : Value} {cs : List Nat} (h : SB w v cs) : SL w v cs := by
  obtain ⟨ao, c, xs, h1, h2, h3, _, h4⟩ := h
  exact ⟨ao, c, xs, h1, h2, h3, h4⟩
theorem SB.keep {w w' : World} {v : Value} {cs : List Nat} (h : SB w v cs) (hb : Below w.heap.size w w') : SB w' v cs := by
  obtain ⟨ao, c, xs, h1, h2, h3, h5, h4⟩ := h
  refine ⟨ao, c, xs, h1, h2, h3, h5, fun i hi => ?_⟩
  obtain ⟨b, off, e1, e2, e3⟩ := h4 i hi
  exact ⟨b, off, e1, Nat.lt_of_lt_of_le e2 hb.size, by rw [hb.cell (p := ⟨b, off + i, none⟩) e2]; exact e3⟩
theorem SB.drewN {w : World} {v : Value} {cs : List Nat} (h : SB w v cs) (n : Nat) : SB (w.drewN n) v cs := h
theorem SB.lit (w : World) (xs : List Nat) (T : TypeId) (m : Nat × Nat) (hl : xs.length ≤ 9223372036854775807) (hx : ∀ x ∈ xs, x < 4294967296) {cells : Array Value} (hc : cells = (xs.map (Value.float .f32)).toArray) {n : Nat} (hn : n = w.heap.size) :
    SB (w.alloc (.cells cells T m)) (.slice (some ⟨n, 0, none⟩) xs.length xs.length) (xs.map (cn .f32)) := by
  obtain ⟨ao, c, ys, h1, h2, h3, h4⟩ := SL.lit w xs T m hl hc hn
  refine ⟨_, _, xs, rfl, rfl, ⟨Nat.le_refl _, hl⟩, hx, ?_⟩
  subst hn
  subst hc
  intro i hi
  refine ⟨_, _, rfl, by simp, ?_⟩
  show (match (w.heap.push _)[w.heap.size]? with | some (.cells c _ _) => _ | _ => _) = _
  rw [Array.getElem?_push, if_pos rfl]
  simp [hi]

/-- A block begins with these cells. -/
def CA (w : World) (p : Nat) (vs : List Value) : Prop := p < w.heap.size ∧ ∀ i v, vs[i]? = some v → w.cell? ⟨p, i, none⟩ = some v
theorem CA.keep {w w' : World} {p : Nat} {vs : List Value} (h : CA w p vs) (hb : Below w.heap.size w w') : CA w' p vs :=
  ⟨Nat.lt_of_lt_of_le h.1 hb.size, fun i v hv => by rw [hb.cell (p := ⟨p, i, none⟩) h.1]; exact h.2 i v hv⟩
theorem CA.new (w : World) (vs : List Value) (T : TypeId) (m : Nat × Nat) {cells : Array Value} (hc : cells = vs.toArray) {n : Nat} (hn : n = w.heap.size) : CA (w.alloc (.cells cells T m)) n vs := by
  subst hn
  subst hc
  refine ⟨by simp, fun i v hv => ?_⟩
  show (match (w.heap.push _)[w.heap.size]? with | some (.cells c _ _) => _ | _ => _) = _
  rw [Array.getElem?_push, if_pos rfl]
  simpa using hv
theorem CA.drewN {w : World} {p : Nat} {vs : List Value} (h : CA w p vs) (n : Nat) : CA (w.drewN n) p vs := h

theorem bcellN {N : Nat} {W w1 : World} (hb : Below W.heap.size W w1) (hN : N ≤ W.heap.size) : (∀ b o, b < N → w1.cell? ⟨b, o, none⟩ = W.cell? ⟨b, o, none⟩) ∧ (∀ b o, b < N → w1.frozen? ⟨b, o, none⟩ = W.frozen? ⟨b, o, none⟩) :=
  ⟨fun b o h => hb.cell (p := ⟨b, o, none⟩) (Nat.lt_of_lt_of_le h hN), fun b o h => hb.frozen (p := ⟨b, o, none⟩) (Nat.lt_of_lt_of_le h hN)⟩

/-- A part of a slice. -/
theorem SL.sub {w : World} {ao : Option Addr} {n c : Nat} {cs : List Nat} (h : SL w (.slice ao n c) cs) {lo hi : Nat} (h1 : lo ≤ hi) (h2 : hi ≤ n) :
    SL w (.slice (if c = lo then ao else ao.map (·.add lo)) (hi - lo) (c - lo)) ((cs.drop lo).take (hi - lo)) := by
  obtain ⟨bo, d, xs, hv, rfl, hlen, hcell⟩ := h
  simp only [Value.slice.injEq] at hv
  obtain ⟨rfl, rfl, rfl⟩ := hv
  refine ⟨(if c = lo then ao else ao.map (·.add lo)), c - lo, (xs.drop lo).take (hi - lo), ?_, by simp [List.map_drop, List.map_take], ?_, fun i hi' => ?_⟩
  · congr 1
    simp; omega
  · simp; omega
  · have hi2 : i < hi - lo := by simp at hi'; omega
    obtain ⟨b, off, e1, e2, e3⟩ := hcell (lo + i) (by omega)
    refine ⟨b, off + lo, ?_, e2, ?_⟩
    · rw [if_neg (by omega), e1]
      simp [Addr.add_lit]
    · rw [show off + lo + i = off + (lo + i) by omega, e3]
      simp

end Go.Proofs.Ytkkomajokdlkeaa
