/- A walk's chances: the two ways to reckon them differ in zeros' signs alone. Plain: no program. -/
import Derived.Test.YtkkomajokdlkeaaQ8
namespace Go.Proofs.Ytkkomajokdlkeaa
set_option linter.unusedSimpArgs false
set_option linter.unusedVariables false
set_option maxRecDepth 100000
set_option maxHeartbeats 4000000
open Go.RowKit

def rcOne : Nat := 1065353216
def rcStay (cu cd : Nat) (i : Nat) : Nat := if i = 0 then subF rcOne cu else subF (subF rcOne cu) cd
def rcA (z : Bool) (cu cd : Nat) (c : List Nat) (i : Nat) : Nat := if z then addF 0 (mulF (c.getD i 0) (rcStay cu cd i)) else mulF (c.getD i 0) (rcStay cu cd i)
def rcB (z : Bool) (cu cd : Nat) (c : List Nat) (i : Nat) : Nat := if 0 < i then addF (rcA z cu cd c i) (mulF (c.getD (i - 1) 0) cu) else rcA z cu cd c i
/-- One chance of the next step. -/
def rcCell (z : Bool) (cu cd n : Nat) (c : List Nat) (i : Nat) : Nat := if i + 1 < n then addF (rcB z cu cd c i) (mulF (c.getD (i + 1) 0) cd) else rcB z cu cd c i
def rcRow (z : Bool) (cu cd n : Nat) (c : List Nat) (k : Nat) : List Nat := (List.range k).map (rcCell z cu cd n c)
theorem rcRow_length (z : Bool) (cu cd n : Nat) (c : List Nat) (k : Nat) : (rcRow z cu cd n c k).length = k := by simp [rcRow]
theorem rcRow_succ (z : Bool) (cu cd n : Nat) (c : List Nat) (k : Nat) : rcRow z cu cd n c (k + 1) = rcRow z cu cd n c k ++ [rcCell z cu cd n c k] := by simp [rcRow, List.range_succ]
def rcEnd (cu n : Nat) (c : List Nat) (e : Nat) : Nat := addF e (mulF (c.getD (n - 1) 0) cu)
def rcAt (z : Bool) (cu cd n : Nat) : Nat → List Nat × Nat
  | 0 => (rcOne :: List.replicate (n - 1) 0, 0)
  | k + 1 => (rcRow z cu cd n (rcAt z cu cd n k).1 n, rcEnd cu n (rcAt z cu cd n k).1 (rcAt z cu cd n k).2)
theorem rcAt_length (z : Bool) (cu cd n : Nat) (hn : 1 ≤ n) (k : Nat) : (rcAt z cu cd n k).1.length = n := by
  cases k with
  | zero => show (rcOne :: List.replicate (n - 1) 0).length = n; rw [List.length_cons, List.length_replicate]; omega
  | succ k => exact rcRow_length ..

theorem addF_zs2 {a b a' b' : Nat} (h : zs a = zs a') (h' : zs b = zs b') : zs (addF a b) = zs (addF a' b') := by
  rw [addF_zs a b, addF_zs a' b', h, h']
theorem mulF_zs2 {a a' : Nat} (h : zs a = zs a') (b : Nat) : zs (mulF a b) = zs (mulF a' b) := by
  rw [mulF_zs_l a b, mulF_zs_l a' b, h]
theorem zs_add0 (a : Nat) (hc : a < 4294967296) (h : cn .f32 a = a) : zs (addF 0 a) = zs a := by
  by_cases hz : a = 2147483648
  · subst hz; decide +kernel
  · cases hn : (S.read a).isNaN
    · rw [addF_zero a hc hn hz]
    · have : a = qnan .f32 := by rw [← h]; exact cn_of_nan hn
      subst this
      decide +kernel
theorem mulF_lt (a b : Nat) : mulF a b < 4294967296 := ar_lt ..
theorem addF_lt (a b : Nat) : addF a b < 4294967296 := ar_lt ..
theorem cn_mulF (a b : Nat) : cn .f32 (mulF a b) = mulF a b := cn_ar ..

def zAll (c d : List Nat) : Prop := ∀ i, zs (c.getD i 0) = zs (d.getD i 0)
theorem rcCell_zs {c d : List Nat} (h : zAll c d) (cu cd n i : Nat) : zs (rcCell true cu cd n c i) = zs (rcCell false cu cd n d i) := by
  have hA : zs (rcA true cu cd c i) = zs (rcA false cu cd d i) := by
    unfold rcA
    simp only [if_true, Bool.false_eq_true, if_false]
    rw [zs_add0 _ (mulF_lt ..) (cn_mulF ..)]
    exact mulF_zs2 (h i) _
  have hB : zs (rcB true cu cd c i) = zs (rcB false cu cd d i) := by
    unfold rcB
    split
    · exact addF_zs2 hA (mulF_zs2 (h _) _)
    · exact hA
  unfold rcCell
  split
  · exact addF_zs2 hB (mulF_zs2 (h _) _)
  · exact hB
theorem rcAt_zs (cu cd n : Nat) (k : Nat) : zAll (rcAt true cu cd n k).1 (rcAt false cu cd n k).1 ∧ zs (rcAt true cu cd n k).2 = zs (rcAt false cu cd n k).2 := by
  induction k with
  | zero => exact ⟨fun _ => rfl, rfl⟩
  | succ k ih =>
    refine ⟨fun i => ?_, ?_⟩
    · show zs ((rcRow true cu cd n _ n).getD i 0) = zs ((rcRow false cu cd n _ n).getD i 0)
      simp only [rcRow, List.getD_eq_getElem?_getD, List.getElem?_map]
      rcases Nat.lt_or_ge i n with hi | hi
      · rw [List.getElem?_range hi]
        exact rcCell_zs ih.1 ..
      · rw [List.getElem?_eq_none (by simpa using hi)]
        rfl
    · exact addF_zs2 ih.2 (mulF_zs2 (ih.1 _) _)
theorem rcAt_ne (z : Bool) (cu cd n k : Nat) : (rcAt z cu cd n k).2 ≠ 2147483648 ∧ (rcAt z cu cd n k).2 < 4294967296 := by
  induction k with
  | zero => exact ⟨by show (0 : Nat) ≠ _; decide, by show (0 : Nat) < _; decide⟩
  | succ k ih => exact ⟨addF_ne_neg0 ih.2 ih.1, addF_lt ..⟩
/-- What has ended is the same. -/
theorem rcAt_end (cu cd n k : Nat) : (rcAt true cu cd n k).2 = (rcAt false cu cd n k).2 :=
  zs_eq (rcAt_zs cu cd n k).2 (rcAt_ne ..).1 (rcAt_ne ..).1

end Go.Proofs.Ytkkomajokdlkeaa

namespace Go.Proofs.Ytkkomajokdlkeaa
set_option linter.unusedSimpArgs false
set_option linter.unusedVariables false
set_option maxRecDepth 100000
set_option maxHeartbeats 4000000
open Go.RowKit

/-- A number is reckoned before it is handed on. -/
def seqN {α : Type} (x : Nat) (f : Nat → α) : α := Nat.casesOn (motive := fun _ => α) x (f 0) (fun n => f (n + 1))
theorem seqN_eq {α : Type} (x : Nat) (f : Nat → α) : seqN x f = f x := by cases x <;> rfl
def rdM (x : Nat) : Nat := if x < 8388608 then x else 8388608 + x % 8388608
def rdK (x : Nat) : Nat := if x < 8388608 then 0 else x / 8388608 - 1
theorem read_pos {x : Nat} (h : x < 2139095040) : S.read x = .number false (rdM x) (-149 + (rdK x : Int)) := by
  have h1 : x % 2147483648 = x := by omega
  have h2 : (x / 2147483648 % 2 == 1) = false := by
    have : x / 2147483648 = 0 := by omega
    rw [this]; rfl
  rw [read_single, h1, h2]
  unfold rdM rdK
  by_cases h3 : x < 8388608
  · simp [h3]
  · have h4 : x < 2139095040 := h
    simp [h3, h4]
theorem word_pos (r : Nat) : S.word false r = r := by unfold Ieee.Format.word; simp only [Bool.false_eq_true, if_false]
/-- The nearest number of the format to n at the place K - 298. -/
def rnd (n K : Nat) : Nat := if n = 0 then 0 else seqN n.log2 fun l => seqN (max (K + l - 23) 149) fun last => seqN (n <<< (K - last)) fun m => seqN (last - K) fun d => seqN (Ieee.Toward.even.cut false m d) fun c => min ((last - 149) * 8388608 + c) 2139095040
theorem rnd_eq (n K : Nat) : S.nearest false n ((K : Int) - 298) = rnd n K := by
  unfold Ieee.Format.nearest rnd
  have hf : (S.fractionBits : Int) = 23 := by decide +kernel
  simp only [s_least, s_binade, s_inf, hf, seqN_eq]
  by_cases h0 : n = 0
  · rw [if_pos h0, if_pos h0, word_pos]
  · rw [if_neg h0, if_neg h0, word_pos]
    have e1 : max ((K : Int) - 298 + (n.log2 : Int) - 23) (-149) = ((max (K + n.log2 - 23) 149 : Nat) : Int) - 298 := by omega
    rw [e1]
    generalize max (K + n.log2 - 23) 149 = last
    have e2 : ((K : Int) - 298 - ((last : Int) - 298)).toNat = K - last := by omega
    have e3 : (((last : Int) - 298) - ((K : Int) - 298)).toNat = last - K := by omega
    have e4 : (((last : Int) - 298) - (-149)).toNat = last - 149 := by omega
    rw [e2, e3, e4]
def mulG (a b : Nat) : Nat := if (Nat.blt a 2139095040 && Nat.blt b 2139095040) = true then seqN (rdM a * rdM b) fun n => seqN (rdK a + rdK b) fun K => rnd n K else mulF a b
def addG (a b : Nat) : Nat := if (Nat.blt a 2139095040 && Nat.blt b 2139095040) = true then seqN (rdK a) fun i => seqN (rdK b) fun j => seqN (min i j) fun k => seqN (rdM a <<< (i - k) + rdM b <<< (j - k)) fun n => rnd n (k + 149) else addF a b
theorem blt2 {a b : Nat} (h : (Nat.blt a 2139095040 && Nat.blt b 2139095040) = true) : a < 2139095040 ∧ b < 2139095040 := by
  simpa [Nat.blt_eq] using h
theorem mulG_eq (a b : Nat) : mulG a b = mulF a b := by
  unfold mulG
  split
  · rename_i h
    obtain ⟨h1, h2⟩ := blt2 h
    simp only [seqN_eq]
    unfold mulF ar floatBits
    show _ = (S.mul a b).getD _
    unfold Ieee.Format.mul
    rw [read_pos h1, read_pos h2, ← rnd_eq]
    simp only [Ieee.Datum.product, Option.map_some, Option.getD_some, Ieee.Format.write]
    congr 1
    omega
  · rfl
theorem addG_eq (a b : Nat) : addG a b = addF a b := by
  unfold addG
  split
  · rename_i h
    obtain ⟨h1, h2⟩ := blt2 h
    simp only [seqN_eq]
    unfold addF ar floatBits
    show _ = (S.add a b).getD _
    unfold Ieee.Format.add
    rw [read_pos h1, read_pos h2, ← rnd_eq]
    simp only [Ieee.Datum.sum, Option.map_some, Option.getD_some, Ieee.Format.write]
    have e1 : min (-149 + (rdK a : Int)) (-149 + (rdK b : Int)) = -149 + ((min (rdK a) (rdK b) : Nat) : Int) := by omega
    rw [e1]
    generalize min (rdK a) (rdK b) = k
    have e2 : (-149 + (rdK a : Int) - (-149 + (k : Int))).toNat = rdK a - k := by omega
    have e3 : (-149 + (rdK b : Int) - (-149 + (k : Int))).toNat = rdK b - k := by omega
    rw [e2, e3]
    have es : ∀ m j, Ieee.signed false m j = ((m <<< j : Nat) : Int) := by intro m j; rfl
    rw [es, es, ← Int.natCast_add, Int.natAbs_natCast]
    have e4 : (if ((rdM a <<< (rdK a - k) + rdM b <<< (rdK b - k) : Nat) : Int) = 0 then false && false else decide (((rdM a <<< (rdK a - k) + rdM b <<< (rdK b - k) : Nat) : Int) < 0)) = false := by
      split
      · rfl
      · exact decide_eq_false (Int.not_lt.2 (Int.natCast_nonneg _))
    rw [e4]
    congr 1
    omega
  · rfl
theorem addG_comm (a b : Nat) (ha : a < 2139095040) (hb : b < 2139095040) : addG a b = addG b a := by
  have h1 : (Nat.blt a 2139095040 && Nat.blt b 2139095040) = true := by simp [Nat.blt_eq, ha, hb]
  have h2 : (Nat.blt b 2139095040 && Nat.blt a 2139095040) = true := by simp [Nat.blt_eq, ha, hb]
  unfold addG
  rw [if_pos h1, if_pos h2]
  simp only [seqN_eq]
  rw [Nat.min_comm, Nat.add_comm (rdM a <<< _)]
theorem addF_zero_pos (c : Nat) (h : c < 2139095040) : addF 0 c = c := addF_zero c (by omega) (by rw [read_pos h]; rfl) (by omega)
/-- The sum, a zero being passed over. -/
def addH (a b : Nat) : Nat := if (Nat.blt a 2139095040 && Nat.blt b 2139095040) = true then (if a = 0 then b else if b = 0 then a else addG a b) else addF a b
theorem addH_eq (a b : Nat) : addH a b = addF a b := by
  unfold addH
  split
  · rename_i h
    obtain ⟨h1, h2⟩ := blt2 h
    split
    · rename_i e; subst e; rw [addF_zero_pos b h2]
    · split
      · rename_i e; subst e
        rw [← addG_eq, addG_comm a 0 h1 h2, addG_eq, addF_zero_pos a h1]
      · exact addG_eq a b
  · rfl
def rcCellG (s0 s1 cu cd n : Nat) (c : List Nat) (i : Nat) : Nat :=
  seqN (mulG (c.getD i 0) (if i = 0 then s0 else s1)) fun a =>
  seqN (if 0 < i then seqN (mulG (c.getD (i - 1) 0) cu) fun x => addH a x else a) fun b =>
  if i + 1 < n then seqN (mulG (c.getD (i + 1) 0) cd) fun x => addH b x else b
theorem rcCellG_eq (cu cd n : Nat) (c : List Nat) (i : Nat) : rcCellG (rcStay cu cd 0) (rcStay cu cd 1) cu cd n c i = rcCell false cu cd n c i := by
  unfold rcCellG rcCell rcB rcA
  simp only [seqN_eq, mulG_eq, addH_eq, Bool.false_eq_true, if_false]
  have e : (if i = 0 then rcStay cu cd 0 else rcStay cu cd 1) = rcStay cu cd i := by
    unfold rcStay; split <;> simp_all
  rw [e]

end Go.Proofs.Ytkkomajokdlkeaa
