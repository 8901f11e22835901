/- Floats: canonical bits, and the walk's law on an operation of two floats. -/
import Derived.WalkKit
import Derived.WalkLawsBesides
import Derived.Lib.Hide
import Derived.Deep.Draws
namespace Go.Proofs.Ytkkomajokdlkeaa
set_option linter.unusedSimpArgs false
set_option linter.unusedVariables false
set_option maxRecDepth 100000
set_option maxHeartbeats 4000000
open Go.RowKit

/-- The one not-a-number that stands for all. -/
def qnan (k : FloatKind) : Nat := match k with | .f32 => 2143289344 | .f64 => 9221120237041090560

/-- The bits of a number, all not-a-numbers being one. -/
def cn (k : FloatKind) (b : Nat) : Nat := if (k.format.read b).isNaN then qnan k else b

/-- What an operation gives, a not-a-number being the one. -/
def ar (op : BinOp) (k : FloatKind) (x y : Nat) : Nat := (floatBits op k x y).getD (qnan k)

theorem qnan_isNaN (k : FloatKind) : (k.format.read (qnan k)).isNaN = true := by cases k <;> decide +kernel

theorem cn_of_nan {k : FloatKind} {b : Nat} (h : (k.format.read b).isNaN = true) : cn k b = qnan k := by simp [cn, h]
theorem cn_of_not {k : FloatKind} {b : Nat} (h : (k.format.read b).isNaN = false) : cn k b = b := by simp [cn, h]
theorem isNaN_cn (k : FloatKind) (b : Nat) : (k.format.read (cn k b)).isNaN = (k.format.read b).isNaN := by
  cases h : (k.format.read b).isNaN
  · rw [cn_of_not h, h]
  · rw [cn_of_nan h, qnan_isNaN]
theorem cn_cn (k : FloatKind) (b : Nat) : cn k (cn k b) = cn k b := by
  cases h : (k.format.read b).isNaN
  · rw [cn_of_not h, cn_of_not h]
  · rw [cn_of_nan h, cn_of_nan (qnan_isNaN k)]
theorem cn_qnan (k : FloatKind) : cn k (qnan k) = qnan k := cn_of_nan (qnan_isNaN k)

theorem read_nan_of {k : FloatKind} {b : Nat} (h : k.format.infRung < b % k.format.signWeight) : (k.format.read b).isNaN = true := by
  have hb : k.format.binade ≤ k.format.infRung := by cases k <;> decide +kernel
  unfold Ieee.Format.read
  dsimp only
  rw [if_neg (by omega), if_neg (by omega), if_neg (by omega)]
  rfl

theorem nanBits_isNaN (k : FloatKind) (x y t : Nat) : (k.format.read (Question.cut (.nanBits k x y) t)).isNaN = true := by
  apply read_nan_of
  cases k
  · show Ieee.single.infRung < ((t % 2) * 2 ^ 31 + 0x7f800000 + 1 + (t / 2) % (2 ^ 23 - 1)) % Ieee.single.signWeight
    have h1 : Ieee.single.infRung = 2139095040 := by decide +kernel
    have h2 : Ieee.single.signWeight = 2147483648 := by decide +kernel
    rw [h1, h2]; generalize t / 2 = u; omega
  · show Ieee.double.infRung < ((t % 2) * 2 ^ 63 + 0x7ff0000000000000 + 1 + (t / 2) % (2 ^ 52 - 1)) % Ieee.double.signWeight
    have h1 : Ieee.double.infRung = 9218868437227405312 := by decide +kernel
    have h2 : Ieee.double.signWeight = 9223372036854775808 := by decide +kernel
    rw [h1, h2]; generalize t / 2 = u; omega
theorem nanBits_lt (k : FloatKind) (x y t : Nat) : Question.cut (.nanBits k x y) t < 2 ^ k.format.width := by
  cases k
  · show ((t % 2) * 2 ^ 31 + 0x7f800000 + 1 + (t / 2) % (2 ^ 23 - 1)) < 2 ^ 32
    omega
  · show ((t % 2) * 2 ^ 63 + 0x7ff0000000000000 + 1 + (t / 2) % (2 ^ 52 - 1)) < 2 ^ 64
    omega

theorem word_mod (f : Ieee.Format) (neg : Bool) {r : Nat} (h : r < f.signWeight) : f.word neg r % f.signWeight = r := by
  unfold Ieee.Format.word
  split
  · rw [Nat.add_mod_left, Nat.mod_eq_of_lt h]
  · exact Nat.mod_eq_of_lt h

theorem read_word_not_nan (f : Ieee.Format) (neg : Bool) {r : Nat} (h : r ≤ f.infRung) : (f.read (f.word neg r)).isNaN = false := by
  have hr := word_mod f neg (Nat.lt_of_le_of_lt h f.infRung_lt)
  unfold Ieee.Format.read
  dsimp only
  rw [hr]
  split
  · rfl
  · split
    · rfl
    · rw [if_pos (by omega)]; rfl

theorem write_not_nan (f : Ieee.Format) (d : Ieee.Datum) (h : d.isNaN = false) : (f.read (f.write d)).isNaN = false := by
  cases d with
  | nan s t => simp [Ieee.Datum.isNaN] at h
  | infinity s => exact read_word_not_nan f s (Nat.le_refl _)
  | number s m e =>
    show (f.read (f.nearest s m e)).isNaN = false
    unfold Ieee.Format.nearest
    split
    · exact read_word_not_nan f s (Nat.zero_le _)
    · exact read_word_not_nan f s (Nat.min_le_right _ _)

theorem sum_not_nan {x y z : Ieee.Datum} (h : x.sum y = some z) : z.isNaN = false := by
  cases x <;> cases y <;> simp only [Ieee.Datum.sum] at h <;> first | (cases h; done) | skip
  · cases h; rfl
  · cases h; rfl
  · cases h; rfl
  · split at h <;> cases h; rfl
theorem product_not_nan {x y z : Ieee.Datum} (h : x.product y = some z) : z.isNaN = false := by
  cases x <;> cases y <;> simp only [Ieee.Datum.product] at h <;> first | (cases h; done) | skip
  · cases h; rfl
  · split at h <;> cases h; rfl
  · split at h <;> cases h; rfl
  · cases h; rfl
theorem quotient_not_nan {n : Nat} {x y z : Ieee.Datum} (h : x.quotient n y = some z) : z.isNaN = false := by
  cases x <;> cases y <;> simp only [Ieee.Datum.quotient] at h <;> first | (cases h; done) | skip
  · split at h
    · split at h <;> cases h; rfl
    · cases h; rfl
  · cases h; rfl
  · cases h; rfl

theorem floatBits_not_nan {op : BinOp} {k : FloatKind} {x y r : Nat} (h : floatBits op k x y = some r) : (k.format.read r).isNaN = false := by
  unfold floatBits at h
  split at h
  · obtain ⟨z, hz, rfl⟩ := Option.map_eq_some_iff.1 h; exact write_not_nan _ _ (sum_not_nan hz)
  · obtain ⟨z, hz, rfl⟩ := Option.map_eq_some_iff.1 h; exact write_not_nan _ _ (sum_not_nan hz)
  · obtain ⟨z, hz, rfl⟩ := Option.map_eq_some_iff.1 h; exact write_not_nan _ _ (product_not_nan hz)
  · obtain ⟨z, hz, rfl⟩ := Option.map_eq_some_iff.1 h; exact write_not_nan _ _ (quotient_not_nan hz)
  · cases h

theorem isNaN_cases {d : Ieee.Datum} (h : d.isNaN = true) : ∃ s t, d = .nan s t := by
  cases d <;> simp [Ieee.Datum.isNaN] at h
  exact ⟨_, _, rfl⟩

theorem floatBits_nan_l {op : BinOp} {k : FloatKind} {x y : Nat} (h : (k.format.read x).isNaN = true) : floatBits op k x y = none := by
  obtain ⟨s, t, hx⟩ := isNaN_cases h
  unfold floatBits
  split <;> simp [Ieee.Format.add, Ieee.Format.sub, Ieee.Format.mul, Ieee.Format.div, hx, Ieee.Datum.sum, Ieee.Datum.product, Ieee.Datum.quotient]
theorem floatBits_nan_r {op : BinOp} {k : FloatKind} {x y : Nat} (h : (k.format.read y).isNaN = true) : floatBits op k x y = none := by
  obtain ⟨s, t, hy⟩ := isNaN_cases h
  unfold floatBits
  split <;> cases hx : k.format.read x <;> simp [Ieee.Format.add, Ieee.Format.sub, Ieee.Format.mul, Ieee.Format.div, hx, hy, Ieee.Datum.sum, Ieee.Datum.product, Ieee.Datum.quotient, Ieee.Datum.opposite]

theorem floatBits_cn (op : BinOp) (k : FloatKind) (x y : Nat) : floatBits op k (cn k x) (cn k y) = floatBits op k x y := by
  cases hx : (k.format.read x).isNaN
  · cases hy : (k.format.read y).isNaN
    · rw [cn_of_not hx, cn_of_not hy]
    · rw [floatBits_nan_r hy, floatBits_nan_r (by rw [isNaN_cn, hy])]
  · rw [floatBits_nan_l hx, floatBits_nan_l (by rw [isNaN_cn, hx])]

theorem ar_cn (op : BinOp) (k : FloatKind) (x y : Nat) : ar op k (cn k x) (cn k y) = ar op k x y := by
  unfold ar; rw [floatBits_cn]
theorem cn_ar (op : BinOp) (k : FloatKind) (x y : Nat) : cn k (ar op k x y) = ar op k x y := by
  unfold ar
  cases h : floatBits op k x y with
  | none => exact cn_qnan k
  | some r => exact cn_of_not (floatBits_not_nan h)

/-- The operations that a float has. -/
def isAr (op : BinOp) : Bool := match op with | .add | .sub | .mul | .quo => true | _ => false

theorem run_ar {P : Program} (w : World) (op : BinOp) (t : TypeId) (k : FloatKind) (x y : Nat) (hop : isAr op = true) :
    ∃ r n, (binOp op t (.float k x) (.float k y)).run P w = .ok (.float k r) (w.drewN n) ∧ cn k r = ar op k (cn k x) (cn k y) ∧ r < 2 ^ k.format.width := by
  cases h : floatBits op k x y with
  | some r =>
    refine ⟨r, 0, run_float_arith w op t k x y r h, ?_, ?_⟩
    · rw [ar_cn, cn_of_not (floatBits_not_nan h)]; simp [ar, h]
    · have := floatBits_wf h
      cases k
      · show r < 2 ^ 32
        simpa [Lit.wf] using this
      · show r < 2 ^ 64
        simpa [Lit.wf] using this
  | none =>
    refine ⟨Question.cut (.nanBits k x y) (w.tape w.drawn (.nanBits k x y)), 1, ?_, ?_, nanBits_lt ..⟩
    · cases op <;> simp only [isAr, Bool.false_eq_true] at hop <;> simp only [floatBits] at h <;> simp [binOp, Op.floatArith, h, choose, Sem.run, Question.forced, World.drewN]
    · rw [cn_of_nan (nanBits_isNaN ..), ar_cn]; simp [ar, h]

/-- THE WALK's LAW. -/
theorem wpList_ar {P : Program} {ops : Array Oper} {Q : Exit → Act → World → Prop} {a : Act} {w : World} {rest : List Oper} {dst : Option Tmp} {op : BinOp} {t ty type : TypeId} {x y : Operand} {pos : String} {after : Array Edge}
    (k : FloatKind) (bx bY : Nat) (hop : isAr op = true) (hx : a.eval x = .float k bx) (hy : a.eval y = .float k bY)
    (hK : ∀ r n, cn k r = ar op k (cn k bx) (cn k bY) → r < 2 ^ k.format.width → wpList P ops Q rest (a.put dst (.float k r)) (w.drewN n)) :
    wpList P ops Q ({ dst := dst, op := .binOp op t x y ty, type := type, pos := pos, after := after, guard := none } :: rest) a w := by
  refine wpList_plain rfl fun K hK' => ?_
  obtain ⟨r, n, hrun, hr, hlt⟩ := run_ar (P := P) w op t k bx bY hop
  have hg : eqGuard op t x y (.float k bx) (.float k bY) = pure () := by cases op <;> first | rfl | (cases hop; done)
  unfold Oper.wp
  simp [execOp, hx, hy, hg, hrun, Result.andThen]
  exact hK' _ _ (hK r n hr hlt)

theorem order_cn (k : FloatKind) (x y : Nat) : k.format.order (cn k x) (cn k y) = k.format.order x y := by
  cases hx : (k.format.read x).isNaN
  · cases hy : (k.format.read y).isNaN
    · rw [cn_of_not hx, cn_of_not hy]
    · rw [cn_of_not hx, cn_of_nan hy]
      obtain ⟨s, t, e⟩ := isNaN_cases hy
      obtain ⟨s', t', e'⟩ := isNaN_cases (qnan_isNaN k)
      unfold Ieee.Format.order; rw [e, e']
      cases k.format.read x <;> rfl
  · obtain ⟨s, t, e⟩ := isNaN_cases hx
    obtain ⟨s', t', e'⟩ := isNaN_cases (qnan_isNaN k)
    rw [cn_of_nan hx]
    unfold Ieee.Format.order; rw [e, e']; rfl

theorem run_store_float (P : Program) (w : World) (a : Addr) (m : Mode) (k : FloatKind) (b : Nat) : (store a (.float k b) m).run P w = stored P w a (.float k b) m := run_store P w a _ m rfl
theorem run_store_complex (P : Program) (w : World) (a : Addr) (m : Mode) (k : FloatKind) (x y : Nat) : (store a (.complex k x y) m).run P w = stored P w a (.complex k x y) m := run_store P w a _ m rfl

theorem alloc_drewN (w : World) (n : Nat) (o : Obj) : (w.drewN n).alloc o = (w.alloc o).drewN n := rfl
theorem setCell_drewN (w : World) (n : Nat) (a : Addr) (v : Value) : (w.drewN n).setCell a v = (w.setCell a v).drewN n := rfl

/-- A comparison of two canonical numbers. -/
def fc (op : BinOp) (k : FloatKind) (x y : Nat) : Bool :=
  match op with
  | .eql => k.format.order x y == some .eq
  | .neq => k.format.order x y != some .eq
  | .lss => k.format.order x y == some .lt
  | .leq => k.format.order x y == some .lt || k.format.order x y == some .eq
  | .gtr => k.format.order x y == some .gt
  | .geq => k.format.order x y == some .gt || k.format.order x y == some .eq
  | _ => false

def isCmp (op : BinOp) : Bool := match op with | .eql | .neq | .lss | .leq | .gtr | .geq => true | _ => false

theorem run_fc {P : Program} (w : World) (op : BinOp) (t : TypeId) (k : FloatKind) (x y : Nat) (hop : isCmp op = true) :
    (binOp op t (.float k x) (.float k y)).run P w = .ok (.bool (fc op k (cn k x) (cn k y))) w := by
  cases op <;> simp only [isCmp, Bool.false_eq_true] at hop <;> simp [fc, order_cn, go_sem]

/-- THE WALK's LAW ON A COMPARISON. -/
theorem wpList_fc {P : Program} {ops : Array Oper} {Q : Exit → Act → World → Prop} {a : Act} {w : World} {rest : List Oper} {dst : Option Tmp} {op : BinOp} {t ty type : TypeId} {x y : Operand} {pos : String} {after : Array Edge}
    (k : FloatKind) (bx bY : Nat) (hop : isCmp op = true) (hx : a.eval x = .float k bx) (hy : a.eval y = .float k bY)
    (hK : wpList P ops Q rest (a.put dst (.bool (fc op k (cn k bx) (cn k bY)))) w) :
    wpList P ops Q ({ dst := dst, op := .binOp op t x y ty, type := type, pos := pos, after := after, guard := none } :: rest) a w := by
  refine wpList_plain rfl fun K hK' => ?_
  have hrun := run_fc (P := P) w op t k bx bY hop
  have hg : (eqGuard op t x y (.float k bx) (.float k bY)).run P w = .ok () w := by cases op <;> first | rfl | (cases hop; done)
  unfold Oper.wp
  simp [execOp, hx, hy, hg, hrun, Result.andThen]
  exact hK' _ _ hK

theorem wpList_fc_g {P : Program} {ops : Array Oper} {Q : Exit → Act → World → Prop} {a : Act} {w : World} {rest : List Oper} {dst : Option Tmp} {op : BinOp} {t ty type : TypeId} {x y : Operand} {pos : String} {after : Array Edge} {g : Nat × Bool}
    (hw : Region.wanted { dst := dst, op := .binOp op t x y ty, type := type, pos := pos, after := after, guard := some g } (yielded ops a.tmps) = true)
    (k : FloatKind) (bx bY : Nat) (hop : isCmp op = true) (hx : a.eval x = .float k bx) (hy : a.eval y = .float k bY)
    (hK : wpList P ops Q rest (a.put dst (.bool (fc op k (cn k bx) (cn k bY)))) w) :
    wpList P ops Q ({ dst := dst, op := .binOp op t x y ty, type := type, pos := pos, after := after, guard := some g } :: rest) a w := by
  refine BigFrame.wpList_want hw fun K hK' => ?_
  have hrun := run_fc (P := P) w op t k bx bY hop
  have hg : (eqGuard op t x y (.float k bx) (.float k bY)).run P w = .ok () w := by cases op <;> first | rfl | (cases hop; done)
  unfold Oper.wp
  simp [execOp, hx, hy, hg, hrun, Result.andThen]
  exact hK' _ _ hK

theorem wpList_ar_g {P : Program} {ops : Array Oper} {Q : Exit → Act → World → Prop} {a : Act} {w : World} {rest : List Oper} {dst : Option Tmp} {op : BinOp} {t ty type : TypeId} {x y : Operand} {pos : String} {after : Array Edge} {g : Nat × Bool}
    (hw : Region.wanted { dst := dst, op := .binOp op t x y ty, type := type, pos := pos, after := after, guard := some g } (yielded ops a.tmps) = true)
    (k : FloatKind) (bx bY : Nat) (hop : isAr op = true) (hx : a.eval x = .float k bx) (hy : a.eval y = .float k bY)
    (hK : ∀ r n, cn k r = ar op k (cn k bx) (cn k bY) → r < 2 ^ k.format.width → wpList P ops Q rest (a.put dst (.float k r)) (w.drewN n)) :
    wpList P ops Q ({ dst := dst, op := .binOp op t x y ty, type := type, pos := pos, after := after, guard := some g } :: rest) a w := by
  refine BigFrame.wpList_want hw fun K hK' => ?_
  obtain ⟨r, n, hrun, hr, hlt⟩ := run_ar (P := P) w op t k bx bY hop
  have hg : eqGuard op t x y (.float k bx) (.float k bY) = pure () := by cases op <;> first | rfl | (cases hop; done)
  unfold Oper.wp
  simp [execOp, hx, hy, hg, hrun, Result.andThen]
  exact hK' _ _ (hK r n hr hlt)

theorem cn0 : cn .f32 0 = 0 := by decide +kernel
theorem cn1 : cn .f32 1065353216 = 1065353216 := by decide +kernel

/-- Finite. -/
def fin (c : Nat) : Bool := fc .eql .f32 (ar .sub .f32 c c) 0
/-- Finite, and at least 0. -/
def least (c : Nat) : Bool := fin c && fc .geq .f32 c 0
/-- Finite, and greater than 0. -/
def above (c : Nat) : Bool := fin c && fc .gtr .f32 c 0
def allFin (cs : List Nat) : Bool := cs.all fin
def allLeast (cs : List Nat) : Bool := cs.all least
def allAbove (cs : List Nat) : Bool := cs.all above
def addF (x y : Nat) : Nat := ar .add .f32 x y
def subF (x y : Nat) : Nat := ar .sub .f32 x y
def mulF (x y : Nat) : Nat := ar .mul .f32 x y
def divF (x y : Nat) : Nat := ar .quo .f32 x y
def sumL (cs : List Nat) : Nat := cs.foldl addF 0
theorem sumL_snoc (l : List Nat) (x : Nat) : sumL (l ++ [x]) = addF (sumL l) x := by simp [sumL]
theorem take_map_snoc (f : Nat → Nat) (xs : List Nat) (k : Nat) (h : k < xs.length) : (xs.map f).take (k + 1) = (xs.map f).take k ++ [f xs[k]] := by
  rw [List.take_succ_eq_append_getElem (by simpa using h)]; simp
theorem take_snoc {α : Type} (xs : List α) (k : Nat) (h : k < xs.length) : xs.take (k + 1) = xs.take k ++ [xs[k]] := by
  rw [List.take_succ_eq_append_getElem h]

end Go.Proofs.Ytkkomajokdlkeaa
