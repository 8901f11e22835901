/- What is followed through the worlds of a law: memory between two block numbers. -/
import Derived.Test.YtkkomajokdlkeaaOwn
namespace Go.Proofs.Ytkkomajokdlkeaa
set_option linter.unusedSimpArgs false
set_option linter.unusedVariables false
set_option maxRecDepth 100000
set_option maxHeartbeats 4000000
open Go.RowKit

/-- All blocks are as they were, but those from lo on and below hi. -/
structure Wi (lo hi : Nat) (w w' : World) : Prop where
  os : w'.os = w.os
  tape : w'.tape = w.tape
  output : w'.output = w.output
  size : w.heap.size ≤ w'.heap.size
  block : ∀ k, k < w.heap.size → (k < lo ∨ hi ≤ k) → w'.heap[k]? = w.heap[k]?
theorem Wi.of_below {w w' : World} (h : Below w.heap.size w w') : Wi 0 0 w w' := ⟨h.os, h.tape, h.output, h.size, fun k hk _ => h.block k hk⟩
theorem Wi.below {lo hi B : Nat} {w w' : World} (h : Wi lo hi w w') (h1 : B ≤ w.heap.size) (h2 : B ≤ lo ∨ hi ≤ 0) : Below B w w' :=
  ⟨h.os, h.tape, h.output, h.size, fun k hk => h.block k (by omega) (by omega)⟩
theorem Wi.of_grown {lo hi : Nat} {w w' : World} {row : Option Nat} (h : w.grownBy w' row) (hr : ∀ g, row = some g → lo ≤ g ∧ g < hi) : Wi lo hi w w' :=
  ⟨h.os, h.tape, h.output, h.size, fun k hk hx => h.block k hk (fun e => by have := hr k e.symm; omega)⟩
theorem Wi.refl (lo hi : Nat) (w : World) : Wi lo hi w w := ⟨rfl, rfl, rfl, Nat.le_refl _, fun _ _ _ => rfl⟩
theorem Wi.trans {lo hi : Nat} {w w1 w2 : World} (h : Wi lo hi w w1) (h' : Wi lo hi w1 w2) : Wi lo hi w w2 :=
  ⟨h'.os.trans h.os, h'.tape.trans h.tape, h'.output.trans h.output, Nat.le_trans h.size h'.size, fun k hk hx => (h'.block k (Nat.lt_of_lt_of_le hk h.size) hx).trans (h.block k hk hx)⟩
theorem Wi.mono {lo hi lo' hi' : Nat} {w w' : World} (h : Wi lo hi w w') (h1 : lo' ≤ lo) (h2 : hi ≤ hi') : Wi lo' hi' w w' :=
  ⟨h.os, h.tape, h.output, h.size, fun k hk hx => h.block k hk (by omega)⟩
theorem Dr.wi {w w' : World} (h : Dr w w') : Wi 0 0 w w' := Wi.of_below (h.below _)

theorem own_wi {e size lo hi a b : Nat} {w w' : World} {v : Value} {n : Nat} {xs : List Value} (h : w.ownsRow lo e size v n xs) (hh : ∀ g, v.ownBlock = some g → g < hi) (hw : Wi a b w w') (hd : b ≤ lo ∨ hi ≤ a) : w'.ownsRow lo e size v n xs := by
  refine ⟨h.1, ?_⟩
  rcases h.2 with hn | ⟨g, cap, cur, rfl, hb, hgg, rest⟩
  · exact .inl hn
  · have hg := hh g rfl
    refine .inr ⟨g, cap, cur, rfl, hb, ?_, rest⟩
    rw [hw.block g (Array.getElem?_eq_some_iff.1 hgg).1 (by omega)]
    exact hgg

/-- A slice of float32 numbers in blocks from lo on and below hi. -/
def FW (T lo hi : Nat) (w : World) (v : Value) (cs : List Nat) : Prop := OW T lo w v cs ∧ ∀ g, v.ownBlock = some g → g < hi
theorem FW.of {T lo : Nat} {w : World} {v : Value} {cs : List Nat} (h : OW T lo w v cs) : FW T lo w.heap.size w v cs := ⟨h, fun g hg => (h.block g hg).2⟩
theorem FW.keep {T lo hi a b : Nat} {w w' : World} {v : Value} {cs : List Nat} (h : FW T lo hi w v cs) (hw : Wi a b w w') (hd : b ≤ lo ∨ hi ≤ a) : FW T lo hi w' v cs := by
  obtain ⟨⟨xs, ho, r⟩, hh⟩ := h
  exact ⟨⟨xs, own_wi ho hh hw hd, r⟩, hh⟩
theorem FW.sl {T lo hi : Nat} {w : World} {v : Value} {cs : List Nat} (h : FW T lo hi w v cs) : SL w v cs := h.1.sb.sl
theorem FW.sb {T lo hi : Nat} {w : World} {v : Value} {cs : List Nat} (h : FW T lo hi w v cs) : SB w v cs := h.1.sb

/-- What is followed is kept below a number. -/
theorem SB.below {w w' : World} {v : Value} {cs : List Nat} {B : Nat} (h : SB w v cs) (hb : Below B w w') (hB : w.heap.size ≤ B) : SB w' v cs := h.keep (hb.mono hB)

end Go.Proofs.Ytkkomajokdlkeaa
