/- The journal of lines; what is recovered of one; outputs counted. Plain: no program. -/
import Derived.Test.YtfckfdaloamkdaaTx
namespace Go.Proofs.Ytfckfdaloamkdaa
set_option linter.unusedSimpArgs false
set_option linter.unusedVariables false
set_option maxRecDepth 100000
set_option maxHeartbeats 4000000

/-- One line's part of the journal, its check number ahead. -/
def jrLine (n : Int) (l : List UInt8) : List UInt8 := Lib.itoa n ++ [32] ++ l ++ [10]
/-- The check number behind k lines; the journal of these. -/
def jrCk (ls : List (List UInt8)) : Nat → Int
  | 0 => 0
  | k + 1 => ckL (jrCk ls k) (ls.getD k [])
def jrTo (ls : List (List UInt8)) : Nat → List UInt8
  | 0 => []
  | k + 1 => jrTo ls k ++ jrLine (jrCk ls (k + 1)) (ls.getD k [])
def sumTo3 (ls : List (List UInt8)) : Nat → Nat
  | 0 => 0
  | k + 1 => sumTo3 ls k + ((ls.getD k []).length + 3)
theorem jrCk_bound (ls : List (List UInt8)) : ∀ k, 0 ≤ jrCk ls k ∧ jrCk ls k < 65003
  | 0 => ⟨Int.le_refl _, by show (0 : Int) < 65003; decide⟩
  | k + 1 => ckL_bound (jrCk_bound ls k).1 (jrCk_bound ls k).2 _
theorem itoa_pos (n : Int) : 1 ≤ (Lib.itoa n).length := by
  rw [Lib.itoa]
  split
  · simp
  · rw [Lib.decDigits_length]; exact Lib.nDigits_pos _
theorem nDigits_le : ∀ (k u : Nat), u < 10 ^ (k + 1) → Lib.nDigits u ≤ k + 1
  | 0, u, h => by rw [Lib.nDigits_small (by simpa using h)]; exact Nat.le_refl _
  | k + 1, u, h => by
    by_cases h1 : u < 10
    · rw [Lib.nDigits_small h1]; omega
    · rw [Lib.nDigits_big h1]
      have := nDigits_le k (u / 10) (by rw [Nat.pow_succ] at h; omega)
      omega
theorem itoa_le {n : Int} (h0 : -9223372036854775808 ≤ n) (h1 : n ≤ 9223372036854775807) : (Lib.itoa n).length ≤ 20 := by
  rw [Lib.itoa]
  split
  · rw [List.length_cons, Lib.decDigits_length]
    have := nDigits_le 18 n.natAbs (by show _ < 10000000000000000000; omega)
    omega
  · rw [Lib.decDigits_length]
    have := nDigits_le 18 n.toNat (by show _ < 10000000000000000000; omega)
    omega
theorem jrLine_length (n : Int) (l : List UInt8) : (jrLine n l).length = (Lib.itoa n).length + l.length + 2 := by simp [jrLine]; omega
theorem jrTo_step (ls : List (List UInt8)) (k : Nat) : (jrTo ls (k + 1)).length = (jrTo ls k).length + ((Lib.itoa (jrCk ls (k + 1))).length + (ls.getD k []).length + 2) := by rw [jrTo, List.length_append, jrLine_length]
theorem jrTo_mono (ls : List (List UInt8)) {i j : Nat} (h : i ≤ j) : (jrTo ls i).length ≤ (jrTo ls j).length := by
  induction h with
  | refl => exact Nat.le_refl _
  | step _ ih => rw [jrTo_step]; omega
theorem sumTo3_mono (ls : List (List UInt8)) {i j : Nat} (h : i ≤ j) : sumTo3 ls i ≤ sumTo3 ls j := by
  induction h with
  | refl => exact Nat.le_refl _
  | step _ ih => rw [sumTo3]; omega
theorem sumTo3_le (ls : List (List UInt8)) : ∀ k, sumTo3 ls k ≤ (jrTo ls k).length
  | 0 => Nat.le_refl _
  | k + 1 => by
    rw [sumTo3, jrTo_step]
    have := sumTo3_le ls k
    have := itoa_pos (jrCk ls (k + 1))
    omega
theorem jrTo_le (ls : List (List UInt8)) : ∀ k, (jrTo ls k).length ≤ 8 * sumTo3 ls k
  | 0 => Nat.le_refl _
  | k + 1 => by
    rw [sumTo3, jrTo_step]
    have := jrTo_le ls k
    have h := jrCk_bound ls (k + 1)
    have := itoa_le (n := jrCk ls (k + 1)) (by omega) (by omega)
    omega
def noNl (l : List UInt8) : Bool := !l.contains 10
/-- What JournalOf returns. -/
def joQ (ls : List (List UInt8)) : List UInt8 × Bool := if (ls.all noNl && decide ((jrTo ls ls.length).length ≤ 16000)) = true then (jrTo ls ls.length, true) else ([], false)
theorem joQ_nl {ls : List (List UInt8)} {k : Nat} (hk : k < ls.length) (h : noNl (ls.getD k []) = false) : joQ ls = ([], false) := by
  rw [joQ, if_neg]
  intro e
  simp only [Bool.and_eq_true, List.all_eq_true] at e
  have := e.1 (ls.getD k []) (by rw [List.getD_eq_getElem?_getD, List.getElem?_eq_getElem hk]; exact List.getElem_mem hk)
  rw [h] at this
  cases this
theorem joQ_long {ls : List (List UInt8)} {k : Nat} (hk : k ≤ ls.length) (h : 16000 < (jrTo ls k).length) : joQ ls = ([], false) := by
  rw [joQ, if_neg]
  intro e
  simp only [Bool.and_eq_true, decide_eq_true_eq] at e
  have := jrTo_mono ls hk
  omega
theorem joQ_sum {ls : List (List UInt8)} {k : Nat} (hk : k ≤ ls.length) (h : 16000 < sumTo3 ls k) : joQ ls = ([], false) := joQ_long hk (by have := sumTo3_le ls k; omega)
theorem joQ_yes {ls : List (List UInt8)} (h1 : ∀ k, k < ls.length → noNl (ls.getD k []) = true) (h2 : (jrTo ls ls.length).length ≤ 16000) : joQ ls = (jrTo ls ls.length, true) := by
  rw [joQ, if_pos]
  simp only [Bool.and_eq_true, decide_eq_true_eq, List.all_eq_true]
  refine ⟨fun x hx => ?_, h2⟩
  obtain ⟨i, hi, rfl⟩ := List.getElem_of_mem hx
  have := h1 i hi
  rwa [List.getD_eq_getElem?_getD, List.getElem?_eq_getElem hi] at this

/-- What is recovered of lines behind a check number: lines, and how many bytes they take. -/
def rcv (n : Int) : List (List UInt8) → List (List UInt8) × Nat
  | [] => ([], 0)
  | l :: ls => match Lib.cut l [32] with
    | (w, x, true) => if w = Lib.itoa (ckL n x) then (x :: (rcv (ckL n x) ls).1, l.length + 1 + (rcv (ckL n x) ls).2) else ([], 0)
    | _ => ([], 0)
theorem rcv_miss {n : Int} {l : List UInt8} {ls : List (List UInt8)} (h : (Lib.cut l [32]).2.2 = false) : rcv n (l :: ls) = ([], 0) := by
  rw [rcv]
  rcases hc : Lib.cut l [32] with ⟨w, x, b⟩
  rw [hc] at h
  simp only at h
  subst h
  rfl
theorem rcv_other {n : Int} {l w x : List UInt8} {ls : List (List UInt8)} (h : Lib.cut l [32] = (w, x, true)) (h2 : w ≠ Lib.itoa (ckL n x)) : rcv n (l :: ls) = ([], 0) := by
  rw [rcv, h]
  simp only
  rw [if_neg h2]
theorem rcv_hit {n : Int} {l w x : List UInt8} {ls : List (List UInt8)} (h : Lib.cut l [32] = (w, x, true)) (h2 : w = Lib.itoa (ckL n x)) : rcv n (l :: ls) = (x :: (rcv (ckL n x) ls).1, l.length + 1 + (rcv (ckL n x) ls).2) := by
  rw [rcv, h]
  simp only
  rw [if_pos h2]
/-- .. of a text. -/
def rcvT (n : Int) (t : List UInt8) : List (List UInt8) × Nat := rcv n (cutC 10 t).dropLast
theorem rcvT_end {n : Int} {t : List UInt8} (h : (10 : UInt8) ∉ t) : rcvT n t = ([], 0) := by rw [rcvT, cutC_end 10 h]; rfl
theorem rcvT_line {n : Int} {a r : List UInt8} (h : (10 : UInt8) ∉ a) : rcvT n (a ++ 10 :: r) = rcv n (a :: (cutC 10 r).dropLast) := by
  rw [rcvT, cutC_hit 10 r h, List.dropLast_cons_of_ne_nil (cutC_ne 10 r)]
/-- What RecoverJournal returns. -/
def rjQ (t : List UInt8) : List (List UInt8) × Int × Bool := if t.length ≤ 16000 then ((rcvT 0 t).1, ((rcvT 0 t).2 : Int), true) else ([], 0, false)
/-- How many of the lines ahead of k are no outputs. -/
def badTo (ls : List (List UInt8)) : Nat → Nat
  | 0 => 0
  | k + 1 => badTo ls k + if ls.getD k [] = [110, 111] ∨ ls.getD k [] = [119, 104, 97, 116] then 1 else 0
theorem badTo_le (ls : List (List UInt8)) : ∀ k, badTo ls k ≤ k
  | 0 => Nat.le_refl _
  | k + 1 => by
    rw [badTo]
    have := badTo_le ls k
    split <;> omega
def coQ (t : List UInt8) : Int × Int × Bool :=
  if t.length ≤ 16000 ∧ (cutC 10 t).getLast (cutC_ne 10 t) = [] then ((badTo (cutC 10 t).dropLast (cutC 10 t).dropLast.length : Int), ((cutC 10 t).dropLast.length : Int) - (badTo (cutC 10 t).dropLast (cutC 10 t).dropLast.length : Int), true) else (0, 0, false)

end Go.Proofs.Ytfckfdaloamkdaa
