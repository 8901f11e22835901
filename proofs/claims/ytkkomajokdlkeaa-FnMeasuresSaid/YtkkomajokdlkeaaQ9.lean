/- What each law's proof begins with. -/
import Derived.Test.YtkkomajokdlkeaaRows
import Derived.Deep.QuietTactic
import Derived.BigQuiet
import Derived.Test.YtkkomajokdlkeaaQ2
import Derived.Test.YtkkomajokdlkeaaQ6
import Derived.Test.YtkkomajokdlkeaaQ8
namespace Go.Proofs.Ytkkomajokdlkeaa
set_option linter.unusedSimpArgs false
set_option linter.unusedVariables false
set_option maxRecDepth 100000
set_option maxHeartbeats 4000000
open Go.RowKit

theorem own : ownKnob Try.prog.godebug = none := by kernel_rfl
theorem laidOut : laidOutB Try.prog = true := by kernel_rfl

theorem eight {α : Type} {l : List α} (h : l.length = 8) {a b c d e f g i : α} (h0 : l[0]? = some a) (h1 : l[1]? = some b) (h2 : l[2]? = some c) (h3 : l[3]? = some d) (h4 : l[4]? = some e) (h5 : l[5]? = some f) (h6 : l[6]? = some g) (h7 : l[7]? = some i) : l = [a, b, c, d, e, f, g, i] := by
  match l, h with
  | [x0, x1, x2, x3, x4, x5, x6, x7], _ => simp_all

end Go.Proofs.Ytkkomajokdlkeaa

namespace Go.Proofs.Ytkkomajokdlkeaa
set_option linter.unusedSimpArgs false
set_option linter.unusedVariables false
set_option maxRecDepth 100000
set_option maxHeartbeats 4000000
open Go.RowKit Go.ChangeShapes Go.WideShapes Go.Deep

section
variable {H : Type} {enc : TypeId × Value → H} {P : Program} {w : World} {base : Nat} {spare : Nat → Bool} {held : Bool}
/-- A field of a struct, of whatever size. -/
theorem trod_at {fuel : Nat} {t : TypeId} {fs : Array Field} {l : List Value} {x : DataW H × List MemPlace} (ht : P.underlying t = some (.struct fs)) (h : DataW.trod enc P w base spare held fuel t l = some x)
    (i : Nat) (f : Field) (hi : fs[i]? = some f) {T o k : Nat} {l' : List Value} (hT : f.type = T) (ho : f.offset = o) (hk : P.cellsOf T = k) (hl : (l.drop o).take k = l') :
    ∃ n y, DataW.trod enc P w base spare held n T l' = some y := by
  obtain ⟨xs, n, _, _, _, hlen, hg⟩ := DataW.trod_struct ht h
  have h1 := hg i f hi
  have hj : i < fs.size := (Array.getElem?_eq_some_iff.1 hi).1
  rw [List.getElem?_eq_getElem (by omega)] at h1
  subst hT ho hk hl
  exact ⟨n, _, h1⟩
theorem ten {l : List Value} (h : l.length = 10) : ∃ c0 c1 c2 c3 c4 c5 c6 c7 c8 c9, l = [c0, c1, c2, c3, c4, c5, c6, c7, c8, c9] := by
  match l, h with
  | [c0, c1, c2, c3, c4, c5, c6, c7, c8, c9], _ => exact ⟨_, _, _, _, _, _, _, _, _, _, rfl⟩
def allU8 (xs : List Int) : Prop := ∀ x ∈ xs, (Lit.int .u8 x).wf = true
theorem allU8.get {xs : List Int} (h : allU8 xs) (i : Nat) : 0 ≤ xs.getD i 0 ∧ xs.getD i 0 < 256 := by
  rcases Nat.lt_or_ge i xs.length with hi | hi
  · have e : xs.getD i 0 = xs[i] := by simp [hi]
    rw [e]
    have := h _ (List.getElem_mem hi)
    have h2 : IntKind.u8.min = 0 := by decide
    have h3 : IntKind.u8.max = 255 := by decide
    simp only [Lit.wf, Bool.and_eq_true, decide_eq_true_eq, h2, h3] at this
    omega
  · have e : xs.getD i 0 = 0 := by simp [hi]
    rw [e]; omega
theorem open_u8s {fuel : Nat} {t e : TypeId} {v : Value} {x : DataW H × List MemPlace} (ht : P.underlying t = some (.slice e)) (he : P.underlying e = some (.int .u8)) (hc : P.cellsOf e = 1)
    (h : DataW.trod enc P w base spare held fuel t [v] = some x) : ∃ xs, GL (Value.int .u8) w v xs ∧ allU8 xs := by
  obtain ⟨vs, n, h1, h2⟩ := open_gs ht hc h
  obtain ⟨xs, rfl, h3⟩ := unmap (inj := Value.int .u8) (p := fun a => (Lit.int .u8 a).wf = true) vs (fun u hu => by
    obtain ⟨y, hy⟩ := h2 u hu
    obtain ⟨b, hb, hw⟩ := trod_int' he hy
    simp only [List.cons.injEq, and_true] at hb
    exact ⟨b, hb, hw⟩)
  exact ⟨xs, gl_map h1, h3⟩
end

end Go.Proofs.Ytkkomajokdlkeaa

namespace Go.Proofs.Ytkkomajokdlkeaa
set_option linter.unusedSimpArgs false
set_option linter.unusedVariables false
set_option maxRecDepth 100000
set_option maxHeartbeats 4000000
open Go.RowKit

def rcOne : Nat := 1065353216
def rcStay (cu cd : Nat) (i : Nat) : Nat := if i = 0 then subF rcOne cu else subF (subF rcOne cu) cd
def rcA (z : Bool) (cu cd : Nat) (c : List Nat) (i : Nat) : Nat := if z then addF 0 (mulF (c.getD i 0) (rcStay cu cd i)) else mulF (c.getD i 0) (rcStay cu cd i)
def rcB (z : Bool) (cu cd : Nat) (c : List Nat) (i : Nat) : Nat := if 0 < i then addF (rcA z cu cd c i) (mulF (c.getD (i - 1) 0) cu) else rcA z cu cd c i
/-- One chance of the next step. -/
def rcCell (z : Bool) (cu cd n : Nat) (c : List Nat) (i : Nat) : Nat := if i + 1 < n then addF (rcB z cu cd c i) (mulF (c.getD (i + 1) 0) cd) else rcB z cu cd c i
def rcRow (z : Bool) (cu cd n : Nat) (c : List Nat) (k : Nat) : List Nat := (List.range k).map (rcCell z cu cd n c)
theorem rcRow_length (z : Bool) (cu cd n : Nat) (c : List Nat) (k : Nat) : (rcRow z cu cd n c k).length = k := by simp [rcRow]
theorem rcRow_succ (z : Bool) (cu cd n : Nat) (c : List Nat) (k : Nat) : rcRow z cu cd n c (k + 1) = rcRow z cu cd n c k ++ [rcCell z cu cd n c k] := by simp [rcRow, List.range_succ]
def rcEnd (cu n : Nat) (c : List Nat) (e : Nat) : Nat := addF e (mulF (c.getD (n - 1) 0) cu)
def rcAt (z : Bool) (cu cd n : Nat) : Nat → List Nat × Nat
  | 0 => (rcOne :: List.replicate (n - 1) 0, 0)
  | k + 1 => (rcRow z cu cd n (rcAt z cu cd n k).1 n, rcEnd cu n (rcAt z cu cd n k).1 (rcAt z cu cd n k).2)
theorem rcAt_length (z : Bool) (cu cd n : Nat) (hn : 1 ≤ n) (k : Nat) : (rcAt z cu cd n k).1.length = n := by
  cases k with
  | zero => show (rcOne :: List.replicate (n - 1) 0).length = n; rw [List.length_cons, List.length_replicate]; omega
  | succ k => exact rcRow_length ..

theorem addF_zs2 {a b a' b' : Nat} (h : zs a = zs a') (h' : zs b = zs b') : zs (addF a b) = zs (addF a' b') := by
  rw [addF_zs a b, addF_zs a' b', h, h']
theorem mulF_zs2 {a a' : Nat} (h : zs a = zs a') (b : Nat) : zs (mulF a b) = zs (mulF a' b) := by
  rw [mulF_zs_l a b, mulF_zs_l a' b, h]
theorem zs_add0 (a : Nat) (hc : a < 4294967296) (h : cn .f32 a = a) : zs (addF 0 a) = zs a := by
  by_cases hz : a = 2147483648
  · subst hz; decide +kernel
  · cases hn : (S.read a).isNaN
    · rw [addF_zero a hc hn hz]
    · have : a = qnan .f32 := by rw [← h]; exact cn_of_nan hn
      subst this
      decide +kernel
theorem mulF_lt (a b : Nat) : mulF a b < 4294967296 := ar_lt ..
theorem addF_lt (a b : Nat) : addF a b < 4294967296 := ar_lt ..
theorem cn_mulF (a b : Nat) : cn .f32 (mulF a b) = mulF a b := cn_ar ..

def zAll (c d : List Nat) : Prop := ∀ i, zs (c.getD i 0) = zs (d.getD i 0)
theorem rcCell_zs {c d : List Nat} (h : zAll c d) (cu cd n i : Nat) : zs (rcCell true cu cd n c i) = zs (rcCell false cu cd n d i) := by
  have hA : zs (rcA true cu cd c i) = zs (rcA false cu cd d i) := by
    unfold rcA
    simp only [if_true, Bool.false_eq_true, if_false]
    rw [zs_add0 _ (mulF_lt ..) (cn_mulF ..)]
    exact mulF_zs2 (h i) _
  have hB : zs (rcB true cu cd c i) = zs (rcB false cu cd d i) := by
    unfold rcB
    split
    · exact addF_zs2 hA (mulF_zs2 (h _) _)
    · exact hA
  unfold rcCell
  split
  · exact addF_zs2 hB (mulF_zs2 (h _) _)
  · exact hB
theorem rcAt_zs (cu cd n : Nat) (k : Nat) : zAll (rcAt true cu cd n k).1 (rcAt false cu cd n k).1 ∧ zs (rcAt true cu cd n k).2 = zs (rcAt false cu cd n k).2 := by
  induction k with
  | zero => exact ⟨fun _ => rfl, rfl⟩
  | succ k ih =>
    refine ⟨fun i => ?_, ?_⟩
    · show zs ((rcRow true cu cd n _ n).getD i 0) = zs ((rcRow false cu cd n _ n).getD i 0)
      simp only [rcRow, List.getD_eq_getElem?_getD, List.getElem?_map]
      rcases Nat.lt_or_ge i n with hi | hi
      · rw [List.getElem?_range hi]
        exact rcCell_zs ih.1 ..
      · rw [List.getElem?_eq_none (by simpa using hi)]
        rfl
    · exact addF_zs2 ih.2 (mulF_zs2 (ih.1 _) _)
theorem rcAt_ne (z : Bool) (cu cd n k : Nat) : (rcAt z cu cd n k).2 ≠ 2147483648 ∧ (rcAt z cu cd n k).2 < 4294967296 := by
  induction k with
  | zero => exact ⟨by show (0 : Nat) ≠ _; decide, by show (0 : Nat) < _; decide⟩
  | succ k ih => exact ⟨addF_ne_neg0 ih.2 ih.1, addF_lt ..⟩
/-- What has ended is the same. -/
theorem rcAt_end (cu cd n k : Nat) : (rcAt true cu cd n k).2 = (rcAt false cu cd n k).2 :=
  zs_eq (rcAt_zs cu cd n k).2 (rcAt_ne ..).1 (rcAt_ne ..).1

end Go.Proofs.Ytkkomajokdlkeaa

namespace Go.Proofs.Ytkkomajokdlkeaa
set_option linter.unusedSimpArgs false
set_option linter.unusedVariables false
set_option maxRecDepth 100000
set_option maxHeartbeats 4000000
open Go.RowKit
attribute [local go_sem] run_store_float run_store_complex alloc_drewN setCell_drewN

theorem SB.get {w : World} {v : Value} {cs : List Nat} (h : SB w v cs) {n : Nat} (hn : cs.length = n) : ∃ ao c, v = .slice ao n c ∧ n ≤ c ∧ c ≤ 9223372036854775807 ∧ ∀ i, i < n → ∃ b off r, ao = some ⟨b, off, none⟩ ∧ b < w.heap.size ∧ w.cell? ⟨b, off + i, none⟩ = some (.float .f32 r) ∧ r < 4294967296 ∧ cn .f32 r = cs.getD i 0 := by
  obtain ⟨ao, c, xs, rfl, rfl, h3, h5, h4⟩ := h
  have hn' : xs.length = n := by simpa using hn
  subst hn'
  refine ⟨ao, c, rfl, h3.1, h3.2, fun i hi => ?_⟩
  obtain ⟨b, off, e1, e2, e3⟩ := h4 i hi
  exact ⟨b, off, xs[i], e1, e2, e3, h5 _ (List.getElem_mem hi), by simp [hi]⟩

theorem SB.get1 {w : World} {v : Value} {cs : List Nat} (h : SB w v cs) {n : Nat} (hn : cs.length = n) (h0 : 0 < n) : ∃ b off c, v = .slice (some ⟨b, off, none⟩) n c ∧ n ≤ c ∧ c ≤ 9223372036854775807 ∧ b < w.heap.size ∧ ∀ i, i < n → ∃ r, w.cell? ⟨b, off + i, none⟩ = some (.float .f32 r) ∧ r < 4294967296 ∧ cn .f32 r = cs.getD i 0 := by
  obtain ⟨ao, c, rfl, h1, h2, h3⟩ := h.get hn
  obtain ⟨b, off, _, rfl, hb, _⟩ := h3 0 h0
  refine ⟨b, off, c, rfl, h1, h2, hb, fun i hi => ?_⟩
  obtain ⟨b', off', r, e, _, h4, h5, h6⟩ := h3 i hi
  simp only [Option.some.injEq, Addr.mk.injEq, and_true] at e
  obtain ⟨rfl, rfl⟩ := e
  exact ⟨r, h4, h5, h6⟩

end Go.Proofs.Ytkkomajokdlkeaa

namespace Go.Proofs.Ytkkomajokdlkeaa
set_option linter.unusedSimpArgs false
set_option linter.unusedVariables false
set_option maxRecDepth 100000
set_option maxHeartbeats 4000000
open Go.RowKit
attribute [local go_sem] run_store_float run_store_complex alloc_drewN setCell_drewN

end Go.Proofs.Ytkkomajokdlkeaa

namespace Go.Proofs.Ytkkomajokdlkeaa
set_option linter.unusedSimpArgs false
set_option linter.unusedVariables false
set_option maxRecDepth 100000
set_option maxHeartbeats 4000000
open Go.RowKit

/-- A number is reckoned before it is handed on. -/
def seqN {α : Type} (x : Nat) (f : Nat → α) : α := Nat.casesOn (motive := fun _ => α) x (f 0) (fun n => f (n + 1))
theorem seqN_eq {α : Type} (x : Nat) (f : Nat → α) : seqN x f = f x := by cases x <;> rfl
def rdM (x : Nat) : Nat := if x < 8388608 then x else 8388608 + x % 8388608
def rdK (x : Nat) : Nat := if x < 8388608 then 0 else x / 8388608 - 1
theorem read_pos {x : Nat} (h : x < 2139095040) : S.read x = .number false (rdM x) (-149 + (rdK x : Int)) := by
  have h1 : x % 2147483648 = x := by omega
  have h2 : (x / 2147483648 % 2 == 1) = false := by
    have : x / 2147483648 = 0 := by omega
    rw [this]; rfl
  rw [read_single, h1, h2]
  unfold rdM rdK
  by_cases h3 : x < 8388608
  · simp [h3]
  · have h4 : x < 2139095040 := h
    simp [h3, h4]
theorem word_pos (r : Nat) : S.word false r = r := by unfold Ieee.Format.word; simp only [Bool.false_eq_true, if_false]
/-- The nearest number of the format to n at the place K - 298. -/
def rnd (n K : Nat) : Nat := if n = 0 then 0 else seqN n.log2 fun l => seqN (max (K + l - 23) 149) fun last => seqN (n <<< (K - last)) fun m => seqN (last - K) fun d => seqN (Ieee.Toward.even.cut false m d) fun c => min ((last - 149) * 8388608 + c) 2139095040
theorem rnd_eq (n K : Nat) : S.nearest false n ((K : Int) - 298) = rnd n K := by
  unfold Ieee.Format.nearest rnd
  have hf : (S.fractionBits : Int) = 23 := by decide +kernel
  simp only [s_least, s_binade, s_inf, hf, seqN_eq]
  by_cases h0 : n = 0
  · rw [if_pos h0, if_pos h0, word_pos]
  · rw [if_neg h0, if_neg h0, word_pos]
    have e1 : max ((K : Int) - 298 + (n.log2 : Int) - 23) (-149) = ((max (K + n.log2 - 23) 149 : Nat) : Int) - 298 := by omega
    rw [e1]
    generalize max (K + n.log2 - 23) 149 = last
    have e2 : ((K : Int) - 298 - ((last : Int) - 298)).toNat = K - last := by omega
    have e3 : (((last : Int) - 298) - ((K : Int) - 298)).toNat = last - K := by omega
    have e4 : (((last : Int) - 298) - (-149)).toNat = last - 149 := by omega
    rw [e2, e3, e4]
def mulG (a b : Nat) : Nat := if (Nat.blt a 2139095040 && Nat.blt b 2139095040) = true then seqN (rdM a * rdM b) fun n => seqN (rdK a + rdK b) fun K => rnd n K else mulF a b
def addG (a b : Nat) : Nat := if (Nat.blt a 2139095040 && Nat.blt b 2139095040) = true then seqN (rdK a) fun i => seqN (rdK b) fun j => seqN (min i j) fun k => seqN (rdM a <<< (i - k) + rdM b <<< (j - k)) fun n => rnd n (k + 149) else addF a b
theorem blt2 {a b : Nat} (h : (Nat.blt a 2139095040 && Nat.blt b 2139095040) = true) : a < 2139095040 ∧ b < 2139095040 := by
  simpa [Nat.blt_eq] using h
theorem mulG_eq (a b : Nat) : mulG a b = mulF a b := by
  unfold mulG
  split
  · rename_i h
    obtain ⟨h1, h2⟩ := blt2 h
    simp only [seqN_eq]
    unfold mulF ar floatBits
    show _ = (S.mul a b).getD _
    unfold Ieee.Format.mul
    rw [read_pos h1, read_pos h2, ← rnd_eq]
    simp only [Ieee.Datum.product, Option.map_some, Option.getD_some, Ieee.Format.write]
    congr 1
    omega
  · rfl
theorem addG_eq (a b : Nat) : addG a b = addF a b := by
  unfold addG
  split
  · rename_i h
    obtain ⟨h1, h2⟩ := blt2 h
    simp only [seqN_eq]
    unfold addF ar floatBits
    show _ = (S.add a b).getD _
    unfold Ieee.Format.add
    rw [read_pos h1, read_pos h2, ← rnd_eq]
    simp only [Ieee.Datum.sum, Option.map_some, Option.getD_some, Ieee.Format.write]
    have e1 : min (-149 + (rdK a : Int)) (-149 + (rdK b : Int)) = -149 + ((min (rdK a) (rdK b) : Nat) : Int) := by omega
    rw [e1]
    generalize min (rdK a) (rdK b) = k
    have e2 : (-149 + (rdK a : Int) - (-149 + (k : Int))).toNat = rdK a - k := by omega
    have e3 : (-149 + (rdK b : Int) - (-149 + (k : Int))).toNat = rdK b - k := by omega
    rw [e2, e3]
    have es : ∀ m j, Ieee.signed false m j = ((m <<< j : Nat) : Int) := by intro m j; rfl
    rw [es, es, ← Int.natCast_add, Int.natAbs_natCast]
    have e4 : (if ((rdM a <<< (rdK a - k) + rdM b <<< (rdK b - k) : Nat) : Int) = 0 then false && false else decide (((rdM a <<< (rdK a - k) + rdM b <<< (rdK b - k) : Nat) : Int) < 0)) = false := by
      split
      · rfl
      · exact decide_eq_false (Int.not_lt.2 (Int.natCast_nonneg _))
    rw [e4]
    congr 1
    omega
  · rfl
theorem addG_comm (a b : Nat) (ha : a < 2139095040) (hb : b < 2139095040) : addG a b = addG b a := by
  have h1 : (Nat.blt a 2139095040 && Nat.blt b 2139095040) = true := by simp [Nat.blt_eq, ha, hb]
  have h2 : (Nat.blt b 2139095040 && Nat.blt a 2139095040) = true := by simp [Nat.blt_eq, ha, hb]
  unfold addG
  rw [if_pos h1, if_pos h2]
  simp only [seqN_eq]
  rw [Nat.min_comm, Nat.add_comm (rdM a <<< _)]
theorem addF_zero_pos (c : Nat) (h : c < 2139095040) : addF 0 c = c := addF_zero c (by omega) (by rw [read_pos h]; rfl) (by omega)
/-- The sum, a zero being passed over. -/
def addH (a b : Nat) : Nat := if (Nat.blt a 2139095040 && Nat.blt b 2139095040) = true then (if a = 0 then b else if b = 0 then a else addG a b) else addF a b
theorem addH_eq (a b : Nat) : addH a b = addF a b := by
  unfold addH
  split
  · rename_i h
    obtain ⟨h1, h2⟩ := blt2 h
    split
    · rename_i e; subst e; rw [addF_zero_pos b h2]
    · split
      · rename_i e; subst e
        rw [← addG_eq, addG_comm a 0 h1 h2, addG_eq, addF_zero_pos a h1]
      · exact addG_eq a b
  · rfl
def rcCellG (s0 s1 cu cd n : Nat) (c : List Nat) (i : Nat) : Nat :=
  seqN (mulG (c.getD i 0) (if i = 0 then s0 else s1)) fun a =>
  seqN (if 0 < i then seqN (mulG (c.getD (i - 1) 0) cu) fun x => addH a x else a) fun b =>
  if i + 1 < n then seqN (mulG (c.getD (i + 1) 0) cd) fun x => addH b x else b
theorem rcCellG_eq (cu cd n : Nat) (c : List Nat) (i : Nat) : rcCellG (rcStay cu cd 0) (rcStay cu cd 1) cu cd n c i = rcCell false cu cd n c i := by
  unfold rcCellG rcCell rcB rcA
  simp only [seqN_eq, mulG_eq, addH_eq, Bool.false_eq_true, if_false]
  have e : (if i = 0 then rcStay cu cd 0 else rcStay cu cd 1) = rcStay cu cd i := by
    unfold rcStay; split <;> simp_all
  rw [e]

end Go.Proofs.Ytkkomajokdlkeaa

namespace Go.Proofs.Ytkkomajokdlkeaa
set_option linter.unusedSimpArgs false
set_option linter.unusedVariables false
set_option maxRecDepth 100000
set_option maxHeartbeats 4000000
open Go.RowKit
attribute [local go_sem] run_store_float run_store_complex alloc_drewN setCell_drewN

def gapF (a b : Nat) : Nat := if fc .lss .f64 a b then ar .sub .f64 b a else ar .sub .f64 a b

/-- A number from 0 to 7 that a byte chooses. -/
def b8 (cs : List Int) (i : Nat) : Nat := if i < cs.length then (cs.getD i 0).toNat % 8 else (i * 37 + 11) % 8
theorem b8_lt (cs : List Int) (i : Nat) : b8 cs i < 8 := by unfold b8; split <;> omega
theorem l_b10Long (u v : Value) (cs ds : List Int) (w : World) (hu : GL (Value.int .u8) w u cs) (hv : GL (Value.int .u8) w v ds) :
    Calls Try.prog 7 #[u, v] w fun e w' => e = .returned (.bool (decide (1048576 < cs.length) || decide (1048576 < ds.length))) ∧ Dr w w' := by
  obtain ⟨ao, c, rfl, hc1, hc2⟩ := hu.slice
  obtain ⟨bo, d, rfl, hd1, hd2⟩ := hv.slice
  clear hu hv
  by_cases h1 : (1048576 : Int) < (cs.length : Int) <;> by_cases h2 : (1048576 : Int) < (ds.length : Int)
  all_goals
    go_enter Try.func7, Try.ntmps7
    go_wp2
    go_ret
    refine ⟨ret_bool ?_, Dr.refl _⟩
    have h3 : decide (1048576 < cs.length) = decide ((1048576 : Int) < (cs.length : Int)) := by apply decide_eq_decide.2; omega
    have h4 : decide (1048576 < ds.length) = decide ((1048576 : Int) < (ds.length : Int)) := by apply decide_eq_decide.2; omega
    rw [h3, h4]
    simp [h1, h2]
theorem l_b10At (v : Value) (cs : List Int) (i : Nat) (hi : i < 3) (w : World) (hv : GL (Value.int .u8) w v cs) (hw : allU8 cs) :
    Calls Try.prog 8 #[v, .int .i64 i, .int .i64 8] w fun e w' => e = .returned (.int .i64 ((b8 cs i : Nat) : Int)) ∧ Dr w w' := by
  obtain ⟨ao, c, hv', hc, hget⟩ := hv
  subst hv'
  by_cases h : i < cs.length
  · obtain ⟨b, off, rfl, hb, hcell⟩ := hget i h
    have hx := hw.get i
    have e : cs.getD i 0 = cs[i] := by simp [h]
    rw [e] at hx
    have hb8 : b8 cs i = (cs[i]).toNat % 8 := by unfold b8; rw [if_pos h, e]
    generalize cs[i] = x at *
    obtain ⟨n, rfl⟩ := Int.eq_ofNat_of_zero_le hx.1
    rw [hb8]
    clear hget hw hb8 e
    have hm : ((n : Int)).tmod 8 = ((n % 8 : Nat) : Int) := by rw [Int.tmod_eq_emod_of_nonneg (by omega)]; omega
    have hw1 : IntKind.i64.wrap (n : Int) = (n : Int) := by rw [IntKind.wrap_i64]; omega
    go_enter Try.func8, Try.ntmps8
    go_wp2_with fail
    go_ret
    refine ⟨ret_int ?_, Dr.refl _⟩
    first | rfl | (simp; done) | (simp [hm, hw1]; done) | (simp; omega)
  · have hb8 : b8 cs i = (i * 37 + 11) % 8 := by unfold b8; rw [if_neg h]
    rw [hb8]
    clear hget hw hb8
    have h' : ¬ (i : Int) < (cs.length : Int) := by omega
    have hi3 : i = 0 ∨ i = 1 ∨ i = 2 := by omega
    rcases hi3 with rfl | rfl | rfl
    all_goals
      go_enter Try.func8, Try.ntmps8
      go_wp2_with fail
      go_ret
      refine ⟨ret_int ?_, Dr.refl _⟩
      first | rfl | decide | (simp; done) | (simp; omega)
theorem l_b10Gap (a b : Nat) (w : World) : Calls Try.prog 29 #[.float .f64 a, .float .f64 b] w fun e w' => (∃ r, e = .returned (.float .f64 r) ∧ cn .f64 r = gapF (cn .f64 a) (cn .f64 b)) ∧ Dr w w' := by
  cases h : fc .lss .f64 (cn .f64 a) (cn .f64 b)
  all_goals
    have H := Lib.hid h
    clear h
    go_enter Try.func29, Try.ntmps29
    go_wp2_with (first | (refine wpList_fc .f64 _ _ rfl rfl rfl ?_; rw [H.out]) | (refine wpList_ar .f64 _ _ rfl rfl rfl ?_; intro r n hr hlt; have HR := Lib.hid hr; clear hr))
    go_ret
    exact ⟨⟨_, rfl, by rw [gapF, H.out, HR.out]; rfl⟩, by first | exact Dr.refl _ | exact Dr.mk _ _⟩

end Go.Proofs.Ytkkomajokdlkeaa
