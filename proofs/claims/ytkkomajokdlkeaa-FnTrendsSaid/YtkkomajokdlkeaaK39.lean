/- Float32 arithmetic on numbers without a sign, reckoned quickly. Plain: no program. -/
import Derived.Test.YtkkomajokdlkeaaRc
namespace Go.Proofs.Ytkkomajokdlkeaa
set_option linter.unusedSimpArgs false
set_option linter.unusedVariables false
set_option maxRecDepth 100000
set_option maxHeartbeats 4000000
open Go.RowKit

/-- A number is reckoned before it is handed on. -/
def seqN {α : Type} (x : Nat) (f : Nat → α) : α := Nat.casesOn (motive := fun _ => α) x (f 0) (fun n => f (n + 1))
theorem seqN_eq {α : Type} (x : Nat) (f : Nat → α) : seqN x f = f x := by cases x <;> rfl
def rdM (x : Nat) : Nat := if x < 8388608 then x else 8388608 + x % 8388608
def rdK (x : Nat) : Nat := if x < 8388608 then 0 else x / 8388608 - 1
theorem read_pos {x : Nat} (h : x < 2139095040) : S.read x = .number false (rdM x) (-149 + (rdK x : Int)) := by
  have h1 : x % 2147483648 = x := by omega
  have h2 : (x / 2147483648 % 2 == 1) = false := by
    have : x / 2147483648 = 0 := by omega
    rw [this]; rfl
  rw [read_single, h1, h2]
  unfold rdM rdK
  by_cases h3 : x < 8388608
  · simp [h3]
  · have h4 : x < 2139095040 := h
    simp [h3, h4]
theorem word_pos (r : Nat) : S.word false r = r := by unfold Ieee.Format.word; simp only [Bool.false_eq_true, if_false]
/-- The nearest number of the format to n at the place K - 298. -/
def rnd (n K : Nat) : Nat := if n = 0 then 0 else seqN n.log2 fun l => seqN (max (K + l - 23) 149) fun last => seqN (n <<< (K - last)) fun m => seqN (last - K) fun d => seqN (Ieee.Toward.even.cut false m d) fun c => min ((last - 149) * 8388608 + c) 2139095040
theorem rnd_eq (n K : Nat) : S.nearest false n ((K : Int) - 298) = rnd n K := by
  unfold Ieee.Format.nearest rnd
  have hf : (S.fractionBits : Int) = 23 := by decide +kernel
  simp only [s_least, s_binade, s_inf, hf, seqN_eq]
  by_cases h0 : n = 0
  · rw [if_pos h0, if_pos h0, word_pos]
  · rw [if_neg h0, if_neg h0, word_pos]
    have e1 : max ((K : Int) - 298 + (n.log2 : Int) - 23) (-149) = ((max (K + n.log2 - 23) 149 : Nat) : Int) - 298 := by omega
    rw [e1]
    generalize max (K + n.log2 - 23) 149 = last
    have e2 : ((K : Int) - 298 - ((last : Int) - 298)).toNat = K - last := by omega
    have e3 : (((last : Int) - 298) - ((K : Int) - 298)).toNat = last - K := by omega
    have e4 : (((last : Int) - 298) - (-149)).toNat = last - 149 := by omega
    rw [e2, e3, e4]
def mulG (a b : Nat) : Nat := if (Nat.blt a 2139095040 && Nat.blt b 2139095040) = true then seqN (rdM a * rdM b) fun n => seqN (rdK a + rdK b) fun K => rnd n K else mulF a b
def addG (a b : Nat) : Nat := if (Nat.blt a 2139095040 && Nat.blt b 2139095040) = true then seqN (rdK a) fun i => seqN (rdK b) fun j => seqN (min i j) fun k => seqN (rdM a <<< (i - k) + rdM b <<< (j - k)) fun n => rnd n (k + 149) else addF a b
theorem blt2 {a b : Nat} (h : (Nat.blt a 2139095040 && Nat.blt b 2139095040) = true) : a < 2139095040 ∧ b < 2139095040 := by
  simpa [Nat.blt_eq] using h
theorem mulG_eq (a b : Nat) : mulG a b = mulF a b := by
  unfold mulG
  split
  · rename_i h
    obtain ⟨h1, h2⟩ := blt2 h
    simp only [seqN_eq]
    unfold mulF ar floatBits
    show _ = (S.mul a b).getD _
    unfold Ieee.Format.mul
    rw [read_pos h1, read_pos h2, ← rnd_eq]
    simp only [Ieee.Datum.product, Option.map_some, Option.getD_some, Ieee.Format.write]
    congr 1
    omega
  · rfl
theorem addG_eq (a b : Nat) : addG a b = addF a b := by
  unfold addG
  split
  · rename_i h
    obtain ⟨h1, h2⟩ := blt2 h
    simp only [seqN_eq]
    unfold addF ar floatBits
    show _ = (S.add a b).getD _
    unfold Ieee.Format.add
    rw [read_pos h1, read_pos h2, ← rnd_eq]
    simp only [Ieee.Datum.sum, Option.map_some, Option.getD_some, Ieee.Format.write]
    have e1 : min (-149 + (rdK a : Int)) (-149 + (rdK b : Int)) = -149 + ((min (rdK a) (rdK b) : Nat) : Int) := by omega
    rw [e1]
    generalize min (rdK a) (rdK b) = k
    have e2 : (-149 + (rdK a : Int) - (-149 + (k : Int))).toNat = rdK a - k := by omega
    have e3 : (-149 + (rdK b : Int) - (-149 + (k : Int))).toNat = rdK b - k := by omega
    rw [e2, e3]
    have es : ∀ m j, Ieee.signed false m j = ((m <<< j : Nat) : Int) := by intro m j; rfl
    rw [es, es, ← Int.natCast_add, Int.natAbs_natCast]
    have e4 : (if ((rdM a <<< (rdK a - k) + rdM b <<< (rdK b - k) : Nat) : Int) = 0 then false && false else decide (((rdM a <<< (rdK a - k) + rdM b <<< (rdK b - k) : Nat) : Int) < 0)) = false := by
      split
      · rfl
      · exact decide_eq_false (Int.not_lt.2 (Int.natCast_nonneg _))
    rw [e4]
    congr 1
    omega
  · rfl
theorem addG_comm (a b : Nat) (ha : a < 2139095040) (hb : b < 2139095040) : addG a b = addG b a := by
  have h1 : (Nat.blt a 2139095040 && Nat.blt b 2139095040) = true := by simp [Nat.blt_eq, ha, hb]
  have h2 : (Nat.blt b 2139095040 && Nat.blt a 2139095040) = true := by simp [Nat.blt_eq, ha, hb]
  unfold addG
  rw [if_pos h1, if_pos h2]
  simp only [seqN_eq]
  rw [Nat.min_comm, Nat.add_comm (rdM a <<< _)]
theorem addF_zero_pos (c : Nat) (h : c < 2139095040) : addF 0 c = c := addF_zero c (by omega) (by rw [read_pos h]; rfl) (by omega)
/-- The sum, a zero being passed over. -/
def addH (a b : Nat) : Nat := if (Nat.blt a 2139095040 && Nat.blt b 2139095040) = true then (if a = 0 then b else if b = 0 then a else addG a b) else addF a b
theorem addH_eq (a b : Nat) : addH a b = addF a b := by
  unfold addH
  split
  · rename_i h
    obtain ⟨h1, h2⟩ := blt2 h
    split
    · rename_i e; subst e; rw [addF_zero_pos b h2]
    · split
      · rename_i e; subst e
        rw [← addG_eq, addG_comm a 0 h1 h2, addG_eq, addF_zero_pos a h1]
      · exact addG_eq a b
  · rfl
def rcCellG (s0 s1 cu cd n : Nat) (c : List Nat) (i : Nat) : Nat :=
  seqN (mulG (c.getD i 0) (if i = 0 then s0 else s1)) fun a =>
  seqN (if 0 < i then seqN (mulG (c.getD (i - 1) 0) cu) fun x => addH a x else a) fun b =>
  if i + 1 < n then seqN (mulG (c.getD (i + 1) 0) cd) fun x => addH b x else b
theorem rcCellG_eq (cu cd n : Nat) (c : List Nat) (i : Nat) : rcCellG (rcStay cu cd 0) (rcStay cu cd 1) cu cd n c i = rcCell false cu cd n c i := by
  unfold rcCellG rcCell rcB rcA
  simp only [seqN_eq, mulG_eq, addH_eq, Bool.false_eq_true, if_false]
  have e : (if i = 0 then rcStay cu cd 0 else rcStay cu cd 1) = rcStay cu cd i := by
    unfold rcStay; split <;> simp_all
  rw [e]

end Go.Proofs.Ytkkomajokdlkeaa
