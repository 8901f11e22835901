/- Contracts: cuts, and signs of parts. -/
import Derived.Test.YtgonpgfhajfjpaaK8
import Derived.Test.YtgonpgfhajfjpaaK10
import Derived.Test.YtgonpgfhajfjpaaK13
namespace Go.Proofs.Ytgonpgfhajfjpaa
set_option linter.unusedSimpArgs false
set_option linter.unusedVariables false
set_option maxRecDepth 100000
set_option maxHeartbeats 4000000
open Go.RowKit
attribute [local go_sem] run_store_float run_store_complex alloc_drewN setCell_drewN

theorem fin_not_nan {c : Nat} (h : fin c = true) : (S.read c).isNaN = false := by
  cases hn : (S.read c).isNaN with
  | false => rfl
  | true =>
    exfalso
    have e : ar .sub .f32 c c = qnan .f32 := by unfold ar; rw [floatBits_nan_l (k := .f32) hn]; rfl
    unfold fin at h
    rw [e] at h
    have : fc .eql .f32 (qnan .f32) 0 = false := by decide +kernel
    rw [this] at h; cases h
theorem allFin_get {cs : List Nat} (h : allFin cs = true) {i : Nat} (hi : i < cs.length) : fin (cs.getD i 0) = true := by
  unfold allFin at h
  rw [List.all_eq_true] at h
  have e : cs.getD i 0 = cs[i] := by simp [hi]
  rw [e]; exact h _ (List.getElem_mem hi)
def downAt (cs : List Nat) (i : Nat) : Bool := fc .lss .f32 (cs.getD i 0) (cs.getD (i - 1) 0)
def isNanB (c : Nat) : Bool := (S.read c).isNaN
def cless (a b : Nat) : Bool := (isNanB a && !isNanB b) || fc .lss .f32 a b
def sortedB (f : Nat → Bool) (n : Nat) : Bool := (List.range n).all fun i => i == 0 || !f i
theorem sorted_yes {f : Nat → Bool} {n : Nat} (h : ∀ i, 0 < i → i < n → f i = false) : sortedB f n = true := by
  unfold sortedB
  rw [List.all_eq_true]
  intro i hi
  have hi' := List.mem_range.1 hi
  by_cases h0 : i = 0
  · subst h0; rfl
  · simp [h i (by omega) hi']
theorem sorted_no {f : Nat → Bool} {n i : Nat} (h0 : 0 < i) (hi : i < n) (h : f i = true) : sortedB f n = false := by
  unfold sortedB
  rw [List.all_eq_false]
  exact ⟨i, List.mem_range.2 hi, by simp [h]; omega⟩
def cutsOk (cs : List Nat) : Bool := decide (cs.length ≤ 16) && allFin cs && sortedB (downAt cs) cs.length
theorem sorted_cless {cs : List Nat} (h : allFin cs = true) : sortedB (fun i => cless (cs.getD i 0) (cs.getD (i - 1) 0)) cs.length = sortedB (downAt cs) cs.length := by
  unfold sortedB
  rw [Bool.eq_iff_iff, List.all_eq_true, List.all_eq_true]
  have key : ∀ i, i < cs.length → cless (cs.getD i 0) (cs.getD (i - 1) 0) = downAt cs i := by
    intro i hi
    unfold cless isNanB downAt
    rw [fin_not_nan (allFin_get h hi)]
    rfl
  constructor
  · intro H i hi
    have h1 := H i hi
    dsimp only at h1
    rw [key i (List.mem_range.1 hi)] at h1
    exact h1
  · intro H i hi
    dsimp only
    rw [key i (List.mem_range.1 hi)]
    exact H i hi
def sortB (cs : List Nat) : Bool := sortedB (fun i => cless (cs.getD i 0) (cs.getD (i - 1) 0)) cs.length
theorem order_of_fc {x y : Nat} {b : Bool} (h : fc .lss .f32 (cn .f32 x) (cn .f32 y) = b) : (FloatKind.f32.format.order x y == some .lt) = b := by
  rw [← h]
  show _ = (FloatKind.f32.format.order _ _ == some .lt)
  rw [order_cn]
theorem order_of_leq {x y : Nat} {b : Bool} (h : fc .leq .f32 (cn .f32 x) (cn .f32 y) = b) : (FloatKind.f32.format.order x y == some .lt || FloatKind.f32.format.order x y == some .eq) = b := by
  rw [← h]
  show _ = (FloatKind.f32.format.order _ _ == some .lt || FloatKind.f32.format.order _ _ == some .eq)
  rw [order_cn]
def cnt (cuts : List Nat) (m : Nat) : Nat → Nat
  | 0 => 0
  | k + 1 => cnt cuts m k + (if fc .leq .f32 (cuts.getD k 0) m then 1 else 0)
theorem cnt_le (cuts : List Nat) (m k : Nat) : cnt cuts m k ≤ k := by
  induction k with
  | zero => exact Nat.le_refl _
  | succ k ih =>
    show _ + _ ≤ _
    split <;> omega
def cntL (ms cuts : List Nat) (n : Nat) : List Int := (List.range n).map fun i => (cnt cuts (ms.getD i 0) cuts.length : Int)
theorem cntL_length (ms cuts : List Nat) (n : Nat) : (cntL ms cuts n).length = n := by simp [cntL]
theorem cntL_succ (ms cuts : List Nat) (n : Nat) : cntL ms cuts (n + 1) = cntL ms cuts n ++ [(cnt cuts (ms.getD n 0) cuts.length : Int)] := by simp [cntL, List.range_succ]
def signsQ (cs : List Nat) (p : Int) (cuts : List Nat) : List Int × Bool :=
  if (partsQ cs p).2 && cutsOk cuts then (cntL (partsQ cs p).1 cuts (partsQ cs p).1.length, true) else ([], false)
theorem partsQ_len2 (cs : List Nat) (p : Int) : (partsQ cs p).1.length ≤ 96 := by
  unfold partsQ
  split
  · rename_i h
    simp only [Bool.and_eq_true, inB, decide_eq_true_eq] at h
    have := series_len h.1
    unfold given
    dsimp only
    split
    · rw [pmL_length]; omega
    · simp
  · simp
theorem signsQ_short (cs : List Nat) (p : Int) (cuts : List Nat) : (signsQ cs p cuts).1.length < 1000000 := by
  unfold signsQ
  have := partsQ_len2 cs p
  split
  · rw [cntL_length]; omega
  · simp
/-- A slice of integers of the call's own and a bool are returned. -/
def IB (T base : Nat) (w : World) (e : Ending) (q : List Int × Bool) : Prop := ∃ v b, e = .returned (.tuple #[v, .bool b]) ∧ GO (Value.int .i64) T base w v q.1 ∧ b = q.2
theorem IB.no (T base : Nat) (w : World) {q : List Int × Bool} (hq : q = ([], false)) : IB T base w (.returned (.tuple #[.slice none 0 0, .bool false])) q := by
  subst hq; exact ⟨_, _, rfl, GO.nil T base w, rfl⟩

end Go.Proofs.Ytgonpgfhajfjpaa
