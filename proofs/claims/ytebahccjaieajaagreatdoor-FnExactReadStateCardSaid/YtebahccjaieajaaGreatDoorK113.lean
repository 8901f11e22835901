/- Contracts: numbers read, by the reference. -/
import Derived.Test.YtebahccjaieajaaGreatDoorK104
import Derived.Test.YtebahccjaieajaaGreatDoorHx
namespace Go.Proofs.YtebahccjaieajaaGreatDoor
set_option linter.unusedSimpArgs false
set_option linter.unusedVariables false
set_option maxRecDepth 100000
set_option maxHeartbeats 4000000
open Go.RowKit
attribute [local go_sem] run_store_float run_store_complex alloc_drewN setCell_drewN

/-- The number with a piece: eight digits, the bits of a number. -/
def pcN (l : List UInt8) : Option Nat := if l.length = 8 then (rdN 0 l).bind fun n => if cn .f32 n = n then some n else none else none
def pcAll : List (List UInt8) → Option (List Nat)
  | [] => some []
  | l :: r => (pcN l).bind fun n => (pcAll r).map fun ns => n :: ns
/-- The numbers with a text. -/
def nrQ (t : List UInt8) : Option (List Nat) := if t = [110, 111, 110, 101] then some [] else if (cutC 44 t).length ≤ 256 then pcAll (cutC 44 t) else none
theorem pcAll_snoc (l : List UInt8) : ∀ r : List (List UInt8), pcAll (r ++ [l]) = (pcAll r).bind fun ns => (pcN l).map fun n => ns ++ [n]
  | [] => by
    show (pcN l).bind _ = (some []).bind _
    cases pcN l <;> rfl
  | x :: r => by
    rw [List.cons_append, pcAll, pcAll, pcAll_snoc l r]
    cases pcN x with
    | none => rfl
    | some n =>
      cases pcAll r with
      | none => rfl
      | some ns => cases pcN l <;> rfl
theorem pcAll_take_none {r : List (List UInt8)} {k : Nat} (h : pcAll (r.take k) = none) : pcAll r = none := by
  rw [← List.take_append_drop k r]
  generalize r.take k = a at h
  generalize r.drop k = b
  induction a with
  | nil => cases h
  | cons x a ih =>
    rw [pcAll] at h
    rw [List.cons_append, pcAll]
    cases hx : pcN x with
    | none => rfl
    | some n =>
      rw [hx] at h
      cases ha : pcAll a with
      | none => rw [ih ha]; rfl
      | some ns => rw [ha] at h; cases h
theorem pcAll_step {r : List (List UInt8)} {k : Nat} (hk : k < r.length) {ns : List Nat} (h : pcAll (r.take k) = some ns) : pcAll (r.take (k + 1)) = (pcN r[k]).map fun n => ns ++ [n] := by
  rw [List.take_succ_eq_append_getElem hk, pcAll_snoc, h]; rfl

end Go.Proofs.YtebahccjaieajaaGreatDoor
