/- Contracts: charts of smoothed series at the share 1/4, by both (for FnDrift). -/
import Derived.Test.YtkkomajokdlkeaaQ7
import Derived.Test.YtkkomajokdlkeaaQ11
import Derived.Test.YtkkomajokdlkeaaQ12
import Derived.Test.YtkkomajokdlkeaaQ13
import Derived.Test.YtkkomajokdlkeaaQ14
import Derived.Test.YtkkomajokdlkeaaQ15
namespace Go.Proofs.Ytkkomajokdlkeaa
set_option linter.unusedSimpArgs false
set_option linter.unusedVariables false
set_option maxRecDepth 100000
set_option maxHeartbeats 4000000
open Go.RowKit
attribute [local go_sem] run_store_float run_store_complex alloc_drewN setCell_drewN
/-- The size of a number. -/
def absV (c : Nat) : Nat := if fc .lss .f32 c 0 then Op.negFloat .f32 c else c
/-- The smoothed series; where it is far; the places that are. -/
def scS (m : Nat) (cs : List Nat) : Nat → Nat
  | 0 => m
  | i + 1 => addF (scS m cs i) (mulF 1048576000 (subF (cs.getD i 0) (scS m cs i)))
def scFar (m k : Nat) (cs : List Nat) (i : Nat) : Bool := fc .gtr .f32 (absV (subF (scS m cs (i + 1)) m)) k
def scL (m k : Nat) (cs : List Nat) : Nat → List Int
  | 0 => []
  | i + 1 => if scFar m k cs i then scL m k cs i ++ [(i : Int)] else scL m k cs i
theorem scL_length (m k : Nat) (cs : List Nat) : ∀ n, (scL m k cs n).length ≤ n
  | 0 => Nat.le_refl _
  | n + 1 => by
    have := scL_length m k cs n
    rw [scL]
    split
    · rw [List.length_append, List.length_singleton]; omega
    · omega
theorem run_ng {P : Program} (x : Nat) (w : World) : (Op.unary .neg (.float .f32 x)).run P w = .ok (.float .f32 (Op.negFloat .f32 x)) w := rfl
/-- The opposite. -/
theorem neg_val {x : Nat} (h : x < 4294967296) : Op.negFloat .f32 x = if x < 2147483648 then x + 2147483648 else x - 2147483648 := by
  show x ^^^ 2 ^ 31 = _
  have e : (2 : Nat) ^ 31 = 2147483648 := by decide
  by_cases hx : x < 2147483648
  · rw [if_pos hx]
    have h1 := Nat.two_pow_add_eq_or_of_lt (i := 31) (b := x) (by omega) 1
    rw [Nat.mul_one] at h1
    have h2 : x ^^^ 2 ^ 31 = 2 ^ 31 ||| x := by
      apply Nat.eq_of_testBit_eq
      intro i
      rw [Nat.testBit_xor, Nat.testBit_or, Nat.testBit_two_pow]
      by_cases hi : 31 = i
      · subst hi
        rw [Nat.testBit_lt_two_pow (by omega)]; simp
      · simp [hi]
    rw [h2, ← h1]; omega
  · rw [if_neg hx]
    obtain ⟨r, hr⟩ : ∃ r, r = x - 2147483648 := ⟨_, rfl⟩
    have hxr : x = 2 ^ 31 + r := by omega
    have h1 := Nat.two_pow_add_eq_or_of_lt (i := 31) (b := r) (by omega) 1
    rw [Nat.mul_one] at h1
    rw [hxr, h1, show ((2 : Nat) ^ 31 ||| r) ^^^ 2 ^ 31 = r from ?_]
    · rw [← h1, e]; exact (Nat.add_sub_cancel_left (n := 2147483648) (m := r)).symm
    · apply Nat.eq_of_testBit_eq
      intro i
      rw [Nat.testBit_xor, Nat.testBit_or, Nat.testBit_two_pow]
      by_cases hi : 31 = i
      · subst hi
        rw [Nat.testBit_lt_two_pow (show r < 2 ^ 31 by omega)]; simp
      · simp [hi]
theorem neg_notNaN {x : Nat} (h : x < 4294967296) (hn : (S.read x).isNaN = false) : (S.read (Op.negFloat .f32 x)).isNaN = false := by
  rw [neg_val h, read_single]
  rw [read_single] at hn
  have e : (if x < 2147483648 then x + 2147483648 else x - 2147483648) % 2147483648 = x % 2147483648 := by split <;> omega
  rw [e]
  revert hn
  split
  · intro _; rfl
  · split
    · intro _; rfl
    · split
      · intro _; rfl
      · intro hn; exact hn
/-- An operation whose result is known and finite. -/
theorem wpList_arx {P : Program} {ops : Array Oper} {Q : Exit → Act → World → Prop} {a : Act} {w : World} {rest : List Oper} {dst : Option Tmp} {op : BinOp} {t ty type : TypeId} {x y : Operand} {pos : String} {after : Array Edge}
    (bx bY d : Nat) (hop : isAr op = true) (hx : a.eval x = .float .f32 bx) (hy : a.eval y = .float .f32 bY) (cx : cn .f32 bx = bx) (cy : cn .f32 bY = bY) (hd : ar op .f32 bx bY = d) (hf : fin d = true)
    (hK : ∀ n, wpList P ops Q rest (a.put dst (.float .f32 d)) (w.drewN n)) :
    wpList P ops Q ({ dst := dst, op := .binOp op t x y ty, type := type, pos := pos, after := after, guard := none } :: rest) a w := by
  refine wpList_ar .f32 bx bY hop hx hy fun r n hr _ => ?_
  rw [cx, cy, hd] at hr
  rw [(raw_of hr hf).1]
  exact hK n
theorem fin_cn {c : Nat} (h : fin c = true) : cn .f32 c = c := cn_of_not (fin_notNaN h)
/-- All that the chart reckons is finite. -/
def scOk (m : Nat) (cs : List Nat) : Prop := ∀ i, i < cs.length → fin (cs.getD i 0) = true ∧ fin (subF (cs.getD i 0) (scS m cs i)) = true ∧ fin (mulF 1048576000 (subF (cs.getD i 0) (scS m cs i))) = true ∧ fin (scS m cs (i + 1)) = true ∧ fin (subF (scS m cs (i + 1)) m) = true ∧ scS m cs (i + 1) < 4294967296 ∧ subF (scS m cs (i + 1)) m < 4294967296
theorem scS_fin {m : Nat} {cs : List Nat} (hm : fin m = true) (h : scOk m cs) : ∀ j, j ≤ cs.length → fin (scS m cs j) = true
  | 0, _ => hm
  | j + 1, hj => (h j (by omega)).2.2.2.1
theorem fin_read {c : Nat} (hc : c < 4294967296) (h : fin c = true) : ∃ (s : Bool) (m : Nat) (p : Int), S.read c = .number s m p := by
  have h1 := fin_notNaN h
  cases hr : S.read c with
  | nan => rw [hr] at h1; cases h1
  | number s m p => exact ⟨s, m, p, rfl⟩
  | infinity s =>
    have h2 : fc .eql .f32 (ar .sub .f32 c c) 0 = true := h
    have h3 : ar .sub .f32 c c = qnan .f32 := by
      show ((S.sub c c).getD _) = _
      rw [Ieee.Format.sub, hr]
      show (Option.map S.write ((Ieee.Datum.infinity s).sum (Ieee.Datum.infinity (!s)))).getD _ = _
      cases s <;> rfl
    rw [h3] at h2
    exact absurd h2 (by decide +kernel)
theorem read_neg {c : Nat} {s : Bool} {m : Nat} {p : Int} (hc : c < 4294967296) (h : S.read c = .number s m p) : S.read (Op.negFloat .f32 c) = .number (!s) m p := by
  rw [neg_val hc, read_single]
  rw [read_single] at h
  have e : (if c < 2147483648 then c + 2147483648 else c - 2147483648) % 2147483648 = c % 2147483648 := by split <;> omega
  have e2 : ((if c < 2147483648 then c + 2147483648 else c - 2147483648) / 2147483648 % 2 == 1) = !(c / 2147483648 % 2 == 1) := by
    by_cases hx : c < 2147483648
    · rw [if_pos hx, show c / 2147483648 = 0 by omega, show (c + 2147483648) / 2147483648 = 1 by omega]; rfl
    · rw [if_neg hx, show c / 2147483648 = 1 by omega, show (c - 2147483648) / 2147483648 = 0 by omega]; rfl
  rw [e, e2]
  generalize (c / 2147483648 % 2 == 1) = b at *
  generalize c % 2147483648 = r at *
  split at h
  · rename_i h1; rw [if_pos h1]; injection h with h2 h3 h4; rw [← h2, ← h3, ← h4]
  · rename_i h1
    rw [if_neg h1]
    split at h
    · rename_i h1; rw [if_pos h1]; injection h with h2 h3 h4; rw [← h2, ← h3, ← h4]
    · split at h <;> cases h
theorem abs_gtr {d k : Nat} (hd : fin d = true) (hlt : d < 4294967296) : fc .gtr .f32 (mx d (Op.negFloat .f32 d)) k = fc .gtr .f32 (absV d) k := by
  obtain ⟨s, m, p, hr⟩ := fin_read hlt hd
  have hn := read_neg hlt hr
  have ho : S.order d (Op.negFloat .f32 d) = some (compare (Ieee.signed s m 0) (Ieee.signed (!s) m 0)) := by
    show (S.read d).order (S.read _) = _
    rw [hr, hn]
    unfold Ieee.Datum.order
    simp
  have hz : S.order d 0 = some (compare (Ieee.signed s m (p - min p (-149)).toNat) 0) := by
    show (S.read d).order (S.read 0) = _
    rw [hr, show S.read 0 = .number false 0 (-149) from by decide]
    unfold Ieee.Datum.order Ieee.signed
    simp
  have hl : fc .lss .f32 d 0 = (S.order d 0 == some .lt) := rfl
  by_cases hm : m = 0
  · subst hm
    have h1 : S.order d 0 = some .eq := by rw [hz]; unfold Ieee.signed; cases s <;> simp [cmpI]
    have h2 : S.order d (Op.negFloat .f32 d) = some .eq := by rw [ho]; unfold Ieee.signed; cases s <;> simp [cmpI]
    unfold absV mx
    rw [h2, hl, h1, hr]
    show fc .gtr .f32 (if s then Op.negFloat .f32 d else d) k = fc .gtr .f32 d k
    cases s
    · rfl
    · show (S.order (Op.negFloat .f32 d) k == some .gt) = (S.order d k == some .gt)
      have h3 : S.order (Op.negFloat .f32 d) k = S.order d k := by
        show (S.read _).order (S.read k) = (S.read d).order (S.read k)
        rw [hr, hn]
        cases S.read k with
        | nan => rfl
        | infinity => rfl
        | number t n q => unfold Ieee.Datum.order Ieee.signed; simp
      rw [h3]
  · have hp : ∀ u, 0 < m * 2 ^ u := fun u => Nat.mul_pos (by omega) (Nat.pow_pos (by decide))
    unfold absV mx
    rw [ho, hl, hz]
    unfold Ieee.signed
    cases s
    · simp only [Nat.shiftLeft_eq, Bool.false_eq_true, if_false, Bool.not_false, if_true]
      have h1 := hp 0
      have h2 := hp (p - min p (-149)).toNat
      generalize m * 2 ^ 0 = A at *
      generalize m * 2 ^ (p - min p (-149)).toNat = B at *
      have c1 : compare ((A : Nat) : Int) (-((A : Nat) : Int)) = .gt := by rw [cmpI, if_neg (by omega), if_neg (by omega)]
      have c2 : compare ((B : Nat) : Int) 0 = .gt := by rw [cmpI, if_neg (by omega), if_neg (by omega)]
      rw [c1, c2]
      rfl
    · simp only [Nat.shiftLeft_eq, if_true, Bool.not_true, Bool.false_eq_true, if_false]
      have h1 := hp 0
      have h2 := hp (p - min p (-149)).toNat
      generalize m * 2 ^ 0 = A at *
      generalize m * 2 ^ (p - min p (-149)).toNat = B at *
      have c1 : compare (-((A : Nat) : Int)) ((A : Nat) : Int) = .lt := by rw [cmpI, if_pos (by omega)]
      have c2 : compare (-((B : Nat) : Int)) 0 = .lt := by rw [cmpI, if_pos (by omega)]
      rw [c1, c2]
      rfl
theorem abs_fin {d : Nat} (hd : fin d = true) (hlt : d < 4294967296) : (S.read (mx d (Op.negFloat .f32 d))).isNaN = false ∧ (S.read (absV d)).isNaN = false := by
  obtain ⟨s, m, p, hr⟩ := fin_read hlt hd
  have hn := read_neg hlt hr
  have h1 : (S.read d).isNaN = false := by rw [hr]; rfl
  have h2 : (S.read (Op.negFloat .f32 d)).isNaN = false := by rw [hn]; rfl
  constructor
  · unfold mx
    split
    · decide
    · exact h2
    · exact h1
    · split
      · exact h2
      · exact h1
  · unfold absV
    split
    · exact h2
    · exact h1

theorem i_absolute (x : Nat) (hx : fin x = true) (hlt : x < 4294967296) (w : World) :
    Calls Try.prog 101 #[.float .f32 x] w fun e w' => e = .returned (.float .f32 (mx x (Op.negFloat .f32 x))) ∧ Dr w w' := by
  have ho := fin_notNaN hx
  have ho3 := neg_notNaN hlt ho
  have RN := fun w => run_ng (P := Try.prog) x w
  have RM := fun ts t w => run_mx (P := Try.prog) ts t x (Op.negFloat .f32 x) ho ho3 w
  go_enter Try.func101, Try.ntmps101
  go_wp2_with fail
  go_ret
  exact ⟨rfl, Dr.refl _⟩

theorem i_isShareQ (w : World) : Calls Try.prog 104 #[.float .f32 1048576000] w fun e w' => e = .returned (.bool true) ∧ Dr w w' := by
  have o1 : FloatKind.f32.format.order 1048576000 0 = some .gt := by decide
  have o2 : FloatKind.f32.format.order 1048576000 1065353216 = some .lt := by decide
  go_enter Try.func104, Try.ntmps104
  go_wp2_with fail
  go_ret
  exact ⟨rfl, Dr.refl _⟩

end Go.Proofs.Ytkkomajokdlkeaa
