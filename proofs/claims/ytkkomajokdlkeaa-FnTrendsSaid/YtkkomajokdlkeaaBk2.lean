/- A block whose cells are known: a struct stored into it. Plain: no program. -/
import Derived.Test.YtkkomajokdlkeaaBk
namespace Go.Proofs.Ytkkomajokdlkeaa
set_option linter.unusedSimpArgs false
set_option linter.unusedVariables false
set_option maxRecDepth 100000
set_option maxHeartbeats 4000000
open Go.RowKit

theorem grown_setCell (w : World) (a : Addr) (u : Value) : w.grownBy (w.setCell a u) (some a.block) :=
  ⟨rfl, rfl, rfl, by simp, fun k _ hk => by first | exact heap_setCell_other w a k u (fun e => hk (by rw [e])) | exact Below.heap_setCell _ _ _ k (fun e => hk (by rw [e]))⟩
theorem grown_trans {w w1 w2 : World} {r : Option Nat} (h : w.grownBy w1 r) (h' : w1.grownBy w2 r) : w.grownBy w2 r :=
  ⟨h'.os.trans h.os, h'.tape.trans h.tape, h'.output.trans h.output, Nat.le_trans h.size h'.size, fun k hk hne => (h'.block k (Nat.lt_of_lt_of_le hk h.size) hne).trans (h.block k hk hne)⟩
/-- Cells from place j on are replaced. -/
def setsAt (vs us : List Value) (j : Nat) : List Value := vs.take j ++ us ++ vs.drop (j + us.length)
theorem setsAt_nil (vs : List Value) (j : Nat) : setsAt vs [] j = vs := by simp [setsAt]
theorem setsAt_cons (vs us : List Value) (u : Value) {k : Nat} (hk : k < vs.length) : setsAt (vs.set k u) us (k + 1) = setsAt vs (u :: us) k := by
  unfold setsAt
  have h1 : (vs.set k u).take (k + 1) = vs.take k ++ [u] := by
    rw [List.take_succ_eq_append_getElem (by simpa using hk), List.take_set_of_le (Nat.le_refl _)]
    simp
  have h2 : (vs.set k u).drop (k + 1 + us.length) = vs.drop (k + (u :: us).length) := by
    rw [List.drop_set_of_lt (by omega)]
    simp [Nat.add_assoc, Nat.add_comm 1]
  rw [h1, h2]
  simp
theorem storeCells_BK (P : Program) (p : Nat) : ∀ (us : List Value) (i j : Nat) (vs : List Value) (w : World), BK w p vs → j + i + us.length ≤ vs.length → (∀ u ∈ us, u.oneCell' = true) →
    ∃ W, (storeCells ⟨p, j, none⟩ us i).run P w = .ok () W ∧ BK W p (setsAt vs us (j + i)) ∧ (∀ q xs, BK w q xs → q ≠ p → BK W q xs) ∧ (∀ B s, Below B s w → B ≤ p → Below B s W) ∧ w.heap.size ≤ W.heap.size ∧ w.grownBy W (some p)
  | [], i, j, vs, w, hB, _, _ => ⟨w, rfl, by rw [setsAt_nil]; exact hB, fun _ _ h _ => h, fun _ _ h _ => h, Nat.le_refl _, World.grownBy.refl _ _⟩
  | u :: us, i, j, vs, w, hB, hl, h1 => by
    have hk : j + i < vs.length := by simp at hl; omega
    have hadd : (⟨p, j, none⟩ : Addr).add i = ⟨p, j + i, none⟩ := by unfold Addr.add; split <;> simp_all
    have hc := hB.cells (j + i) hk
    rw [List.getElem?_eq_getElem hk] at hc
    have hs := run_store P w ⟨p, j + i, none⟩ u .plain (h1 u (List.mem_cons_self ..))
    rw [hc] at hs
    simp only [hB.fro (j + i)] at hs
    obtain ⟨W, hr, h2, h3, h4, h5, h6⟩ := storeCells_BK P p us (i + 1) j (vs.set (j + i) u) (w.setCell ⟨p, j + i, none⟩ u) (hB.set hk u) (by simp at hl ⊢; omega) (fun x hx => h1 x (List.mem_cons_of_mem _ hx))
    refine ⟨W, ?_, ?_, fun q xs hq hne => h3 q xs (hq.other _ _ (Ne.symm hne)) hne, fun B s hb hB' => h4 B s (hb.setCell hB' _) hB', by simpa using h5, grown_trans (grown_setCell w ⟨p, j + i, none⟩ u) h6⟩
    · simp only [storeCells, Sem.run_bind, hadd]
      rw [show (store ⟨p, j + i, none⟩ u).run P w = _ from hs]
      simpa using hr
    · rw [← setsAt_cons vs us u hk]
      exact h2
/-- A struct is stored into such a block. -/
theorem wpList_storeAgg {P : Program} {ops : Array Oper} {Q : Exit → Act → World → Prop} {a : Act} {w : World} {rest : List Oper} {T type : TypeId} {x y : Operand} {pos : String} {after : Array Edge} {p j : Nat} {us vs : List Value}
    (hs0 : ∀ w, (Instr.storeAt T (.pointer (some ⟨p, j, none⟩)) (.agg us.toArray)).run P w = (storeCells ⟨p, j, none⟩ us 0).run P w) (hx : a.eval x = .pointer (some ⟨p, j, none⟩)) (hy : a.eval y = .agg us.toArray) (h1 : ∀ u ∈ us, u.oneCell' = true) (HB : BK w p vs) (hj : j + us.length ≤ vs.length)
    (h : ∀ W, BK W p (setsAt vs us j) → (∀ q xs, BK w q xs → q ≠ p → BK W q xs) → (∀ B s, Below B s w → B ≤ p → Below B s W) → w.heap.size ≤ W.heap.size → w.grownBy W (some p) → wpList P ops Q rest a W) :
    wpList P ops Q ({ dst := none, op := .store T x y, type := type, pos := pos, after := after, guard := none } :: rest) a w := by
  refine wpList_plain rfl fun K hK => ?_
  obtain ⟨W, hr, h2, h3, h4, h5, h6⟩ := storeCells_BK P p us 0 j vs w HB (by omega) h1
  unfold Oper.wp
  simp [execOp, hx, hy, hs0, hr, Result.andThen]
  exact hK _ _ (h W h2 h3 h4 h5 h6)
/-- A store of one cell, with what it leaves alone. -/
theorem wpList_storeBK3 {P : Program} {ops : Array Oper} {Q : Exit → Act → World → Prop} {a : Act} {w : World} {rest : List Oper} {T type : TypeId} {x y : Operand} {pos : String} {after : Array Edge} {p j : Nat} {v : Value} {vs : List Value}
    (hs0 : ∀ w, (Instr.storeAt T (.pointer (some ⟨p, j, none⟩)) v).run P w = (store ⟨p, j, none⟩ v .plain).run P w) (hx : a.eval x = .pointer (some ⟨p, j, none⟩)) (hy : a.eval y = v) (h1 : v.oneCell' = true) (HB : BK w p vs) (hj : j < vs.length)
    (h : ∀ W, BK W p (vs.set j v) → (∀ q us, BK w q us → q ≠ p → BK W q us) → (∀ B s, Below B s w → B ≤ p → Below B s W) → w.heap.size ≤ W.heap.size → w.grownBy W (some p) → wpList P ops Q rest a W) :
    wpList P ops Q ({ dst := none, op := .store T x y, type := type, pos := pos, after := after, guard := none } :: rest) a w := by
  refine wpList_storeBK hs0 hx hy h1 HB hj fun W hW => ?_
  subst hW
  exact h _ (HB.set hj v) (fun q us hq hne => hq.other j v (Ne.symm hne)) (fun B s hb hB => hb.setCell hB _) (by simp) (grown_setCell w ⟨p, j, none⟩ v)

end Go.Proofs.Ytkkomajokdlkeaa
