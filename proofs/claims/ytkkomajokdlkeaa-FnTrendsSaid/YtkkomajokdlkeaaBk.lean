/- A block whose cells are known, written cell by cell; the world is a variable behind each store. Plain: no program. -/
import Derived.Test.YtkkomajokdlkeaaMem
import Derived.Deep.RegionHeld
namespace Go.Proofs.Ytkkomajokdlkeaa
set_option linter.unusedSimpArgs false
set_option linter.unusedVariables false
set_option maxRecDepth 100000
set_option maxHeartbeats 4000000
open Go.RowKit

structure BK (W : World) (p : Nat) (vs : List Value) : Prop where
  lt : p < W.heap.size
  cells : ∀ i, i < vs.length → W.cell? ⟨p, i, none⟩ = vs[i]?
  fro : ∀ i, W.frozen? ⟨p, i, none⟩ = false
section
variable {w w' : World} {p : Nat} {vs : List Value}
theorem BK.keep (h : BK w p vs) (hb : Below w.heap.size w w') : BK w' p vs :=
  ⟨Nat.lt_of_lt_of_le h.lt hb.size, fun i hi => (hb.cell (p := ⟨p, i, none⟩) h.lt).trans (h.cells i hi), fun i => (hb.frozen (p := ⟨p, i, none⟩) h.lt).trans (h.fro i)⟩
theorem BK.drewN (h : BK w p vs) (n : Nat) : BK (w.drewN n) p vs := ⟨h.lt, h.cells, h.fro⟩
theorem BK.drew (h : BK w p vs) : BK w.drew p vs := ⟨h.lt, h.cells, h.fro⟩
theorem BK.alloc (h : BK w p vs) (o : Obj) : BK (w.alloc o) p vs := h.keep ((Below.refl _ _).alloc (Nat.le_refl _) _)
theorem BK.new (w : World) (vs : List Value) (T : TypeId) : BK (w.alloc (.cells vs.toArray T)) w.heap.size vs := by
  refine ⟨by simp, fun i hi => ?_, fun i => ?_⟩
  · show (match (w.heap.push _)[w.heap.size]? with | some (.cells c _ _) => _ | _ => _) = _
    rw [Array.getElem?_push, if_pos rfl]
    simp
  · show (match (w.heap.push _)[w.heap.size]? with | some (.cells _ _ (lo, hi)) => _ | _ => _) = _
    rw [Array.getElem?_push, if_pos rfl]
    simp
theorem frozen_setCell (w : World) (a b : Addr) (v : Value) : (w.setCell a v).frozen? b = w.frozen? b := World.frozen?_setCell ..
theorem BK.set (h : BK w p vs) {j : Nat} (hj : j < vs.length) (v : Value) : BK (w.setCell ⟨p, j, none⟩ v) p (vs.set j v) := by
  refine ⟨by simpa using h.lt, fun i hi => ?_, fun i => (frozen_setCell ..).trans (h.fro i)⟩
  rw [List.length_set] at hi
  by_cases e : i = j
  · subst e
    rw [List.getElem?_set_self hj]
    have h1 := h.cells i hi
    rw [List.getElem?_eq_getElem hi] at h1
    exact World.cell?_setCell_same _ _ _ h1
  · rw [List.getElem?_set_ne (fun h => e h.symm)]
    rw [World.cell?_setCell_other _ _ _ _ (by first | exact fun h => e (Addr.mk.inj h).2.1.symm | exact fun h => e (Addr.mk.inj h).2.1)]
    exact h.cells i hi
theorem BK.other (h : BK w p vs) {q : Nat} (j : Nat) (v : Value) (hq : q ≠ p) : BK (w.setCell ⟨q, j, none⟩ v) p vs :=
  ⟨by simpa using h.lt, fun i hi => (World.cell?_setCell_far _ _ _ _ hq).trans (h.cells i hi), fun i => (frozen_setCell ..).trans (h.fro i)⟩
theorem BK.ca (h : BK w p vs) : CA w p vs := ⟨h.lt, fun i v hv => by
  have hi : i < vs.length := (List.getElem?_eq_some_iff.1 hv).1
  rw [h.cells i hi]; exact hv⟩
theorem BK.at {i : Nat} {v : Value} (h : BK w p vs) (hv : vs[i]? = some v) : w.cell? ⟨p, i, none⟩ = some v := h.ca.2 i v hv
end
/-- A store into such a block. -/
theorem wpList_storeBK {P : Program} {ops : Array Oper} {Q : Exit → Act → World → Prop} {a : Act} {w : World} {rest : List Oper} {T type : TypeId} {x y : Operand} {pos : String} {after : Array Edge} {p j : Nat} {v : Value} {vs : List Value}
    (hs0 : ∀ w, (Instr.storeAt T (.pointer (some ⟨p, j, none⟩)) v).run P w = (store ⟨p, j, none⟩ v .plain).run P w) (hx : a.eval x = .pointer (some ⟨p, j, none⟩)) (hy : a.eval y = v) (h1 : v.oneCell' = true) (HB : BK w p vs) (hj : j < vs.length)
    (h : ∀ W, W = w.setCell ⟨p, j, none⟩ v → wpList P ops Q rest a W) :
    wpList P ops Q ({ dst := none, op := .store T x y, type := type, pos := pos, after := after, guard := none } :: rest) a w := by
  refine wpList_plain rfl fun K hK => ?_
  have hc := HB.cells j hj
  rw [List.getElem?_eq_getElem hj] at hc
  have hs := run_store P w ⟨p, j, none⟩ v .plain h1
  rw [hc] at hs
  simp only [HB.fro j] at hs
  unfold Oper.wp
  simp [execOp, hx, hy, hs0, hs, Result.andThen]
  exact hK _ _ (h _ rfl)
/-- The same, all that is followed handed on. -/
theorem wpList_storeBK2 {P : Program} {ops : Array Oper} {Q : Exit → Act → World → Prop} {a : Act} {w : World} {rest : List Oper} {T type : TypeId} {x y : Operand} {pos : String} {after : Array Edge} {p j : Nat} {v : Value} {vs : List Value}
    (hs0 : ∀ w, (Instr.storeAt T (.pointer (some ⟨p, j, none⟩)) v).run P w = (store ⟨p, j, none⟩ v .plain).run P w) (hx : a.eval x = .pointer (some ⟨p, j, none⟩)) (hy : a.eval y = v) (h1 : v.oneCell' = true) (HB : BK w p vs) (hj : j < vs.length)
    (h : ∀ W, BK W p (vs.set j v) → (∀ q us, BK w q us → q ≠ p → BK W q us) → (∀ B s, Below B s w → B ≤ p → Below B s W) → w.heap.size ≤ W.heap.size → wpList P ops Q rest a W) :
    wpList P ops Q ({ dst := none, op := .store T x y, type := type, pos := pos, after := after, guard := none } :: rest) a w := by
  refine wpList_storeBK hs0 hx hy h1 HB hj fun W hW => ?_
  subst hW
  exact h _ (HB.set hj v) (fun q us hq hne => hq.other j v (Ne.symm hne)) (fun B s hb hB => hb.setCell hB _) (by simp)

end Go.Proofs.Ytkkomajokdlkeaa
