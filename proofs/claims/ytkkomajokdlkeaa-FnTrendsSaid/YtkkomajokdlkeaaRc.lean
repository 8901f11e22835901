/- A walk's chances: the two ways to reckon them differ in zeros' signs alone. Plain: no program. -/
import Derived.Test.YtkkomajokdlkeaaFz
namespace Go.Proofs.Ytkkomajokdlkeaa
set_option linter.unusedSimpArgs false
set_option linter.unusedVariables false
set_option maxRecDepth 100000
set_option maxHeartbeats 4000000
open Go.RowKit

def rcOne : Nat := 1065353216
def rcStay (cu cd : Nat) (i : Nat) : Nat := if i = 0 then subF rcOne cu else subF (subF rcOne cu) cd
def rcA (z : Bool) (cu cd : Nat) (c : List Nat) (i : Nat) : Nat := if z then addF 0 (mulF (c.getD i 0) (rcStay cu cd i)) else mulF (c.getD i 0) (rcStay cu cd i)
def rcB (z : Bool) (cu cd : Nat) (c : List Nat) (i : Nat) : Nat := if 0 < i then addF (rcA z cu cd c i) (mulF (c.getD (i - 1) 0) cu) else rcA z cu cd c i
/-- One chance of the next step. -/
def rcCell (z : Bool) (cu cd n : Nat) (c : List Nat) (i : Nat) : Nat := if i + 1 < n then addF (rcB z cu cd c i) (mulF (c.getD (i + 1) 0) cd) else rcB z cu cd c i
def rcRow (z : Bool) (cu cd n : Nat) (c : List Nat) (k : Nat) : List Nat := (List.range k).map (rcCell z cu cd n c)
theorem rcRow_length (z : Bool) (cu cd n : Nat) (c : List Nat) (k : Nat) : (rcRow z cu cd n c k).length = k := by simp [rcRow]
theorem rcRow_succ (z : Bool) (cu cd n : Nat) (c : List Nat) (k : Nat) : rcRow z cu cd n c (k + 1) = rcRow z cu cd n c k ++ [rcCell z cu cd n c k] := by simp [rcRow, List.range_succ]
def rcEnd (cu n : Nat) (c : List Nat) (e : Nat) : Nat := addF e (mulF (c.getD (n - 1) 0) cu)
def rcAt (z : Bool) (cu cd n : Nat) : Nat → List Nat × Nat
  | 0 => (rcOne :: List.replicate (n - 1) 0, 0)
  | k + 1 => (rcRow z cu cd n (rcAt z cu cd n k).1 n, rcEnd cu n (rcAt z cu cd n k).1 (rcAt z cu cd n k).2)
theorem rcAt_length (z : Bool) (cu cd n : Nat) (hn : 1 ≤ n) (k : Nat) : (rcAt z cu cd n k).1.length = n := by
  cases k with
  | zero => show (rcOne :: List.replicate (n - 1) 0).length = n; rw [List.length_cons, List.length_replicate]; omega
  | succ k => exact rcRow_length ..

theorem addF_zs2 {a b a' b' : Nat} (h : zs a = zs a') (h' : zs b = zs b') : zs (addF a b) = zs (addF a' b') := by
  rw [addF_zs a b, addF_zs a' b', h, h']
theorem mulF_zs2 {a a' : Nat} (h : zs a = zs a') (b : Nat) : zs (mulF a b) = zs (mulF a' b) := by
  rw [mulF_zs_l a b, mulF_zs_l a' b, h]
theorem zs_add0 (a : Nat) (hc : a < 4294967296) (h : cn .f32 a = a) : zs (addF 0 a) = zs a := by
  by_cases hz : a = 2147483648
  · subst hz; decide +kernel
  · cases hn : (S.read a).isNaN
    · rw [addF_zero a hc hn hz]
    · have : a = qnan .f32 := by rw [← h]; exact cn_of_nan hn
      subst this
      decide +kernel
theorem mulF_lt (a b : Nat) : mulF a b < 4294967296 := ar_lt ..
theorem addF_lt (a b : Nat) : addF a b < 4294967296 := ar_lt ..
theorem cn_mulF (a b : Nat) : cn .f32 (mulF a b) = mulF a b := cn_ar ..

def zAll (c d : List Nat) : Prop := ∀ i, zs (c.getD i 0) = zs (d.getD i 0)
theorem rcCell_zs {c d : List Nat} (h : zAll c d) (cu cd n i : Nat) : zs (rcCell true cu cd n c i) = zs (rcCell false cu cd n d i) := by
  have hA : zs (rcA true cu cd c i) = zs (rcA false cu cd d i) := by
    unfold rcA
    simp only [if_true, Bool.false_eq_true, if_false]
    rw [zs_add0 _ (mulF_lt ..) (cn_mulF ..)]
    exact mulF_zs2 (h i) _
  have hB : zs (rcB true cu cd c i) = zs (rcB false cu cd d i) := by
    unfold rcB
    split
    · exact addF_zs2 hA (mulF_zs2 (h _) _)
    · exact hA
  unfold rcCell
  split
  · exact addF_zs2 hB (mulF_zs2 (h _) _)
  · exact hB
theorem rcAt_zs (cu cd n : Nat) (k : Nat) : zAll (rcAt true cu cd n k).1 (rcAt false cu cd n k).1 ∧ zs (rcAt true cu cd n k).2 = zs (rcAt false cu cd n k).2 := by
  induction k with
  | zero => exact ⟨fun _ => rfl, rfl⟩
  | succ k ih =>
    refine ⟨fun i => ?_, ?_⟩
    · show zs ((rcRow true cu cd n _ n).getD i 0) = zs ((rcRow false cu cd n _ n).getD i 0)
      simp only [rcRow, List.getD_eq_getElem?_getD, List.getElem?_map]
      rcases Nat.lt_or_ge i n with hi | hi
      · rw [List.getElem?_range hi]
        exact rcCell_zs ih.1 ..
      · rw [List.getElem?_eq_none (by simpa using hi)]
        rfl
    · exact addF_zs2 ih.2 (mulF_zs2 (ih.1 _) _)
theorem rcAt_ne (z : Bool) (cu cd n k : Nat) : (rcAt z cu cd n k).2 ≠ 2147483648 ∧ (rcAt z cu cd n k).2 < 4294967296 := by
  induction k with
  | zero => exact ⟨by show (0 : Nat) ≠ _; decide, by show (0 : Nat) < _; decide⟩
  | succ k ih => exact ⟨addF_ne_neg0 ih.2 ih.1, addF_lt ..⟩
/-- What has ended is the same. -/
theorem rcAt_end (cu cd n k : Nat) : (rcAt true cu cd n k).2 = (rcAt false cu cd n k).2 :=
  zs_eq (rcAt_zs cu cd n k).2 (rcAt_ne ..).1 (rcAt_ne ..).1

end Go.Proofs.Ytkkomajokdlkeaa
