/- Contracts: charts of smoothed series at the share 1/4, by both (for FnDrift). -/
import Derived.Test.YtnhenklopigfnaaK13
import Derived.Test.YtnhenklopigfnaaK6
import Derived.Test.YtnhenklopigfnaaTrk
import Derived.Test.YtnhenklopigfnaaFs
import Derived.Test.YtnhenklopigfnaaK10
import Derived.Test.YtnhenklopigfnaaBd
namespace Go.Proofs.Ytnhenklopigfnaa
set_option linter.unusedSimpArgs false
set_option linter.unusedVariables false
set_option maxRecDepth 100000
set_option maxHeartbeats 4000000
open Go.RowKit
attribute [local go_sem] run_store_float run_store_complex alloc_drewN setCell_drewN
/-- The size of a number. -/
def absV (c : Nat) : Nat := if fc .lss .f32 c 0 then Op.negFloat .f32 c else c
/-- The smoothed series; where it is far; the places that are. -/
def scS (m : Nat) (cs : List Nat) : Nat → Nat
  | 0 => m
  | i + 1 => addF (scS m cs i) (mulF 1048576000 (subF (cs.getD i 0) (scS m cs i)))
def scFar (m k : Nat) (cs : List Nat) (i : Nat) : Bool := fc .gtr .f32 (absV (subF (scS m cs (i + 1)) m)) k
def scL (m k : Nat) (cs : List Nat) : Nat → List Int
  | 0 => []
  | i + 1 => if scFar m k cs i then scL m k cs i ++ [(i : Int)] else scL m k cs i
theorem scL_length (m k : Nat) (cs : List Nat) : ∀ n, (scL m k cs n).length ≤ n
  | 0 => Nat.le_refl _
  | n + 1 => by
    have := scL_length m k cs n
    rw [scL]
    split
    · rw [List.length_append, List.length_singleton]; omega
    · omega
theorem run_ng {P : Program} (x : Nat) (w : World) : (Op.unary .neg (.float .f32 x)).run P w = .ok (.float .f32 (Op.negFloat .f32 x)) w := rfl
/-- The opposite. -/
theorem neg_val {x : Nat} (h : x < 4294967296) : Op.negFloat .f32 x = if x < 2147483648 then x + 2147483648 else x - 2147483648 := by
  show x ^^^ 2 ^ 31 = _
  have e : (2 : Nat) ^ 31 = 2147483648 := by decide
  by_cases hx : x < 2147483648
  · rw [if_pos hx]
    have h1 := Nat.two_pow_add_eq_or_of_lt (i := 31) (b := x) (by omega) 1
    rw [Nat.mul_one] at h1
    have h2 : x ^^^ 2 ^ 31 = 2 ^ 31 ||| x := by
      apply Nat.eq_of_testBit_eq
      intro i
      rw [Nat.testBit_xor, Nat.testBit_or, Nat.testBit_two_pow]
      by_cases hi : 31 = i
      · subst hi
        rw [Nat.testBit_lt_two_pow (by omega)]; simp
      · simp [hi]
    rw [h2, ← h1]; omega
  · rw [if_neg hx]
    obtain ⟨r, hr⟩ : ∃ r, r = x - 2147483648 := ⟨_, rfl⟩
    have hxr : x = 2 ^ 31 + r := by omega
    have h1 := Nat.two_pow_add_eq_or_of_lt (i := 31) (b := r) (by omega) 1
    rw [Nat.mul_one] at h1
    rw [hxr, h1, show ((2 : Nat) ^ 31 ||| r) ^^^ 2 ^ 31 = r from ?_]
    · rw [← h1, e]; exact (Nat.add_sub_cancel_left (n := 2147483648) (m := r)).symm
    · apply Nat.eq_of_testBit_eq
      intro i
      rw [Nat.testBit_xor, Nat.testBit_or, Nat.testBit_two_pow]
      by_cases hi : 31 = i
      · subst hi
        rw [Nat.testBit_lt_two_pow (show r < 2 ^ 31 by omega)]; simp
      · simp [hi]
theorem neg_notNaN {x : Nat} (h : x < 4294967296) (hn : (S.read x).isNaN = false) : (S.read (Op.negFloat .f32 x)).isNaN = false := by
  rw [neg_val h, read_single]
  rw [read_single] at hn
  have e : (if x < 2147483648 then x + 2147483648 else x - 2147483648) % 2147483648 = x % 2147483648 := by split <;> omega
  rw [e]
  revert hn
  split
  · intro _; rfl
  · split
    · intro _; rfl
    · split
      · intro _; rfl
      · intro hn; exact hn
/-- An operation whose result is known and finite. -/
theorem wpList_arx {P : Program} {ops : Array Oper} {Q : Exit → Act → World → Prop} {a : Act} {w : World} {rest : List Oper} {dst : Option Tmp} {op : BinOp} {t ty type : TypeId} {x y : Operand} {pos : String} {after : Array Edge}
    (bx bY d : Nat) (hop : isAr op = true) (hx : a.eval x = .float .f32 bx) (hy : a.eval y = .float .f32 bY) (cx : cn .f32 bx = bx) (cy : cn .f32 bY = bY) (hd : ar op .f32 bx bY = d) (hf : fin d = true)
    (hK : ∀ n, wpList P ops Q rest (a.put dst (.float .f32 d)) (w.drewN n)) :
    wpList P ops Q ({ dst := dst, op := .binOp op t x y ty, type := type, pos := pos, after := after, guard := none } :: rest) a w := by
  refine wpList_ar .f32 bx bY hop hx hy fun r n hr _ => ?_
  rw [cx, cy, hd] at hr
  rw [(raw_of hr hf).1]
  exact hK n
theorem fin_cn {c : Nat} (h : fin c = true) : cn .f32 c = c := cn_of_not (fin_notNaN h)
/-- All that the chart reckons is finite. -/
def scOk (m : Nat) (cs : List Nat) : Prop := ∀ i, i < cs.length → fin (cs.getD i 0) = true ∧ fin (subF (cs.getD i 0) (scS m cs i)) = true ∧ fin (mulF 1048576000 (subF (cs.getD i 0) (scS m cs i))) = true ∧ fin (scS m cs (i + 1)) = true ∧ fin (subF (scS m cs (i + 1)) m) = true ∧ scS m cs (i + 1) < 4294967296 ∧ subF (scS m cs (i + 1)) m < 4294967296
theorem scS_fin {m : Nat} {cs : List Nat} (hm : fin m = true) (h : scOk m cs) : ∀ j, j ≤ cs.length → fin (scS m cs j) = true
  | 0, _ => hm
  | j + 1, hj => (h j (by omega)).2.2.2.1
theorem fin_read {c : Nat} (hc : c < 4294967296) (h : fin c = true) : ∃ (s : Bool) (m : Nat) (p : Int), S.read c = .number s m p := by
  have h1 := fin_notNaN h
  cases hr : S.read c with
  | nan => rw [hr] at h1; cases h1
  | number s m p => exact ⟨s, m, p, rfl⟩
  | infinity s =>
    have h2 : fc .eql .f32 (ar .sub .f32 c c) 0 = true := h
    have h3 : ar .sub .f32 c c = qnan .f32 := by
      show ((S.sub c c).getD _) = _
      rw [Ieee.Format.sub, hr]
      show (Option.map S.write ((Ieee.Datum.infinity s).sum (Ieee.Datum.infinity (!s)))).getD _ = _
      cases s <;> rfl
    rw [h3] at h2
    exact absurd h2 (by decide +kernel)
theorem read_neg {c : Nat} {s : Bool} {m : Nat} {p : Int} (hc : c < 4294967296) (h : S.read c = .number s m p) : S.read (Op.negFloat .f32 c) = .number (!s) m p := by
  rw [neg_val hc, read_single]
  rw [read_single] at h
  have e : (if c < 2147483648 then c + 2147483648 else c - 2147483648) % 2147483648 = c % 2147483648 := by split <;> omega
  have e2 : ((if c < 2147483648 then c + 2147483648 else c - 2147483648) / 2147483648 % 2 == 1) = !(c / 2147483648 % 2 == 1) := by
    by_cases hx : c < 2147483648
    · rw [if_pos hx, show c / 2147483648 = 0 by omega, show (c + 2147483648) / 2147483648 = 1 by omega]; rfl
    · rw [if_neg hx, show c / 2147483648 = 1 by omega, show (c - 2147483648) / 2147483648 = 0 by omega]; rfl
  rw [e, e2]
  generalize (c / 2147483648 % 2 == 1) = b at *
  generalize c % 2147483648 = r at *
  split at h
  · rename_i h1; rw [if_pos h1]; injection h with h2 h3 h4; rw [← h2, ← h3, ← h4]
  · rename_i h1
    rw [if_neg h1]
    split at h
    · rename_i h1; rw [if_pos h1]; injection h with h2 h3 h4; rw [← h2, ← h3, ← h4]
    · split at h <;> cases h
theorem abs_gtr {d k : Nat} (hd : fin d = true) (hlt : d < 4294967296) : fc .gtr .f32 (mx d (Op.negFloat .f32 d)) k = fc .gtr .f32 (absV d) k := by
  obtain ⟨s, m, p, hr⟩ := fin_read hlt hd
  have hn := read_neg hlt hr
  have ho : S.order d (Op.negFloat .f32 d) = some (compare (Ieee.signed s m 0) (Ieee.signed (!s) m 0)) := by
    show (S.read d).order (S.read _) = _
    rw [hr, hn]
    unfold Ieee.Datum.order
    simp
  have hz : S.order d 0 = some (compare (Ieee.signed s m (p - min p (-149)).toNat) 0) := by
    show (S.read d).order (S.read 0) = _
    rw [hr, show S.read 0 = .number false 0 (-149) from by decide]
    unfold Ieee.Datum.order Ieee.signed
    simp
  have hl : fc .lss .f32 d 0 = (S.order d 0 == some .lt) := rfl
  by_cases hm : m = 0
  · subst hm
    have h1 : S.order d 0 = some .eq := by rw [hz]; unfold Ieee.signed; cases s <;> simp [cmpI]
    have h2 : S.order d (Op.negFloat .f32 d) = some .eq := by rw [ho]; unfold Ieee.signed; cases s <;> simp [cmpI]
    unfold absV mx
    rw [h2, hl, h1, hr]
    show fc .gtr .f32 (if s then Op.negFloat .f32 d else d) k = fc .gtr .f32 d k
    cases s
    · rfl
    · show (S.order (Op.negFloat .f32 d) k == some .gt) = (S.order d k == some .gt)
      have h3 : S.order (Op.negFloat .f32 d) k = S.order d k := by
        show (S.read _).order (S.read k) = (S.read d).order (S.read k)
        rw [hr, hn]
        cases S.read k with
        | nan => rfl
        | infinity => rfl
        | number t n q => unfold Ieee.Datum.order Ieee.signed; simp
      rw [h3]
  · have hp : ∀ u, 0 < m * 2 ^ u := fun u => Nat.mul_pos (by omega) (Nat.pow_pos (by decide))
    unfold absV mx
    rw [ho, hl, hz]
    unfold Ieee.signed
    cases s
    · simp only [Nat.shiftLeft_eq, Bool.false_eq_true, if_false, Bool.not_false, if_true]
      have h1 := hp 0
      have h2 := hp (p - min p (-149)).toNat
      generalize m * 2 ^ 0 = A at *
      generalize m * 2 ^ (p - min p (-149)).toNat = B at *
      have c1 : compare ((A : Nat) : Int) (-((A : Nat) : Int)) = .gt := by rw [cmpI, if_neg (by omega), if_neg (by omega)]
      have c2 : compare ((B : Nat) : Int) 0 = .gt := by rw [cmpI, if_neg (by omega), if_neg (by omega)]
      rw [c1, c2]
      rfl
    · simp only [Nat.shiftLeft_eq, if_true, Bool.not_true, Bool.false_eq_true, if_false]
      have h1 := hp 0
      have h2 := hp (p - min p (-149)).toNat
      generalize m * 2 ^ 0 = A at *
      generalize m * 2 ^ (p - min p (-149)).toNat = B at *
      have c1 : compare (-((A : Nat) : Int)) ((A : Nat) : Int) = .lt := by rw [cmpI, if_pos (by omega)]
      have c2 : compare (-((B : Nat) : Int)) 0 = .lt := by rw [cmpI, if_pos (by omega)]
      rw [c1, c2]
      rfl
theorem abs_fin {d : Nat} (hd : fin d = true) (hlt : d < 4294967296) : (S.read (mx d (Op.negFloat .f32 d))).isNaN = false ∧ (S.read (absV d)).isNaN = false := by
  obtain ⟨s, m, p, hr⟩ := fin_read hlt hd
  have hn := read_neg hlt hr
  have h1 : (S.read d).isNaN = false := by rw [hr]; rfl
  have h2 : (S.read (Op.negFloat .f32 d)).isNaN = false := by rw [hn]; rfl
  constructor
  · unfold mx
    split
    · decide
    · exact h2
    · exact h1
    · split
      · exact h2
      · exact h1
  · unfold absV
    split
    · exact h2
    · exact h1

theorem s_l07Size (x : Nat) (hx : fin x = true) (hlt : x < 4294967296) (w : World) :
    Calls Try.prog 80 #[.float .f32 x] w fun e w' => e = .returned (.float .f32 (absV x)) ∧ Dr w w' := by
  have ho := fin_notNaN hx
  cases h : fc .lss .f32 x 0
  all_goals
    have hv : absV x = if fc .lss .f32 x 0 then Op.negFloat .f32 x else x := rfl
    rw [h] at hv
    have ho2 : (FloatKind.f32.format.order x 0 == some .lt) = _ := h
    have RN := fun w => run_ng (P := Try.prog) x w
    go_enter Try.func80, Try.ntmps80
    go_wp2_with fail
    go_ret
    first | exact ⟨rfl, Dr.refl _⟩ | exact ⟨by rw [hv]; rfl, Dr.refl _⟩

theorem i_absolute (x : Nat) (hx : fin x = true) (hlt : x < 4294967296) (w : World) :
    Calls Try.prog 75 #[.float .f32 x] w fun e w' => e = .returned (.float .f32 (mx x (Op.negFloat .f32 x))) ∧ Dr w w' := by
  have ho := fin_notNaN hx
  have ho3 := neg_notNaN hlt ho
  have RN := fun w => run_ng (P := Try.prog) x w
  have RM := fun ts t w => run_mx (P := Try.prog) ts t x (Op.negFloat .f32 x) ho ho3 w
  go_enter Try.func75, Try.ntmps75
  go_wp2_with fail
  go_ret
  exact ⟨rfl, Dr.refl _⟩

theorem i_isShareQ (w : World) : Calls Try.prog 73 #[.float .f32 1048576000] w fun e w' => e = .returned (.bool true) ∧ Dr w w' := by
  have o1 : FloatKind.f32.format.order 1048576000 0 = some .gt := by decide
  have o2 : FloatKind.f32.format.order 1048576000 1065353216 = some .lt := by decide
  go_enter Try.func73, Try.ntmps73
  go_wp2_with fail
  go_ret
  exact ⟨rfl, Dr.refl _⟩

theorem s_l02ShareQ (w : World) : Calls Try.prog 77 #[.float .f32 1048576000] w fun e w' => e = .returned (.bool true) ∧ Dr w w' := by
  have o1 : FloatKind.f32.format.order 1048576000 0 = some .gt := by decide
  have o2 : FloatKind.f32.format.order 1048576000 1065353216 = some .lt := by decide
  go_enter Try.func77, Try.ntmps77
  go_wp2_with fail
  go_ret
  exact ⟨rfl, Dr.refl _⟩

theorem oneI64C : OneC Try.prog 34 2 (.int .i64 0) 8 := oneC_of Try.underlying34 (by kernel_rfl) rfl (by decide)
theorem i_SmoothChart (v : Value) (cs : List Nat) (m k : Nat) (w : World) (hv : SB w v cs) (hs : series cs = true) (hm : fin m = true) (hk : least k = true) (hcs : cs.length ≤ 96) (hok : scOk m cs) :
    Calls Try.prog 18 #[v, .float .f32 1048576000, .float .f32 m, .float .f32 k] w fun e w' => (∃ u, e = .returned (.tuple #[u, .bool true]) ∧ GO (Value.int .i64) 2 w.heap.size w' u (scL m k cs cs.length)) ∧ Below w.heap.size w w' := by
  have HSER := Lib.hid hs
  have HV := Lib.hid hv
  obtain ⟨ao, c, rfl, hc1, hc2, hget⟩ := hv.get rfl
  have HGET := Lib.hid hget
  have HM := Lib.hid hm
  have HK := Lib.hid hk
  have HOK := Lib.hid hok
  clear hget hs hm hk hok hv
  go_enter Try.func18, Try.ntmps18
  go_wp2_with fail
  refine (i_IsSeries _ cs _ HV.out.sl).mono ?_; rintro z w1 ⟨rfl, n1, rfl⟩
  rw [HSER.out]
  go_wp2_with fail
  refine (i_isShareQ _).mono ?_; rintro z w2 ⟨rfl, n2, rfl⟩
  go_wp2_with fail
  refine (i_IsFinite m _).mono ?_; rintro z w3 ⟨rfl, n3, rfl⟩
  rw [fin_cn HM.out, HM.out]
  go_wp2_with fail
  refine (i_areNotLess _ ([k].map (cn .f32)) _ (by first | exact SL.lit _ [k] _ _ (by simp) rfl (by simp) | exact SL.drewN (SL.lit _ [k] _ _ (by simp) rfl (by simp)) _)).mono ?_; rintro z w4 ⟨rfl, n4, rfl⟩
  rw [show allLeast ([k].map (cn .f32)) = true by
    have h : fin k = true := by have h := HK.out; unfold least at h; simp only [Bool.and_eq_true] at h; exact h.1
    simp [allLeast, fin_cn h, HK.out]]
  go_wp2_with fail
  go_loopw [37, 11, 10] (fun i s o wr => ∃ j : Nat, j ≤ cs.length ∧ i = .int .i64 (j : Int) ∧ s = .float .f32 (scS m cs j) ∧ Hid (GO (Value.int .i64) 2 w.heap.size wr o (scL m k cs j)) ∧ Below w.heap.size w wr) (fun i _ _ _ => cs.length - (intOf i).toNat)
  case atStart => exact ⟨0, Nat.zero_le _, rfl, rfl, Lib.hid (GO.empty _ _ (by simp) (by simp)), by (repeat (first | exact Below.refl _ _ | assumption | refine below_drewN ?_ _ | refine Below.drew ?_ | refine Below.alloc ?_ (by first | omega | (simp; omega) | (simp; done) | (simp at *; omega)) _ | refine Below.setCell ?_ (by first | omega | (simp; omega) | (simp; done) | (simp at *; omega)) _ | refine Below.trans ?_ (Below.mono (by assumption) (by first | omega | (simp; omega) | (simp; done) | (simp at *; omega)))))⟩
  case round =>
    obtain ⟨j, hj, rfl, rfl, HO, hb⟩ := hrel
    have hz := hb.size
    by_cases hlt : j < cs.length
    · obtain ⟨b, off, r, rfl, hbl, hc, hr32, hcr⟩ := HGET.out j hlt
      obtain ⟨F1, F2, F3, F4, F5, F6, F7⟩ := HOK.out j hlt
      obtain ⟨rfl, -⟩ := raw_of hcr F1
      have hc' := (hb.cell (p := ⟨b, off + j, none⟩) hbl).trans hc
      have F0 := scS_fin HM.out HOK.out j hj
      have HST := Lib.hid (show scL m k cs (j + 1) = if scFar m k cs j then scL m k cs j ++ [(j : Int)] else scL m k cs j from rfl)
      have HFAR := Lib.hid (show scFar m k cs j = fc .gtr .f32 (absV (subF (scS m cs (j + 1)) m)) k from rfl)
      have HNX := Lib.hid (show addF (scS m cs j) (mulF 1048576000 (subF (cs.getD j 0) (scS m cs j))) = scS m cs (j + 1) from rfl)
      have hk32 : cn .f32 k = k := fin_cn (by have h := HK.out; unfold least at h; simp only [Bool.and_eq_true] at h; exact h.1)
      have hm32 : cn .f32 m = m := fin_cn HM.out
      have HL := Lib.hid (show (scL m k cs j).length < 1000000 from Nat.lt_of_le_of_lt (scL_length m k cs j) (by omega))
      have HK2 := Lib.hid hk32
      have HM2 := Lib.hid hm32
      generalize hs' : scS m cs (j + 1) = s' at *
      have HSE := Lib.hid hs'
      clear hs'
      generalize scS m cs j = s at *
      generalize cs.getD j 0 = x at *
      obtain ⟨d1, hd1⟩ : ∃ d1, d1 = subF x s := ⟨_, rfl⟩
      rw [← hd1] at F2 F3 HNX
      obtain ⟨d2, hd2⟩ : ∃ d2, d2 = mulF 1048576000 d1 := ⟨_, rfl⟩
      rw [← hd2] at F3 HNX
      obtain ⟨d4, hd4⟩ : ∃ d4, d4 = subF s' m := ⟨_, rfl⟩
      rw [← hd4] at F5 F7 HFAR
      have X1 := Lib.hid (show ar .sub .f32 x s = d1 from hd1.symm)
      have X2 := Lib.hid (show ar .mul .f32 1048576000 d1 = d2 from hd2.symm)
      have X3 := Lib.hid (show ar .add .f32 s d2 = s' from HNX.out)
      have X4 := Lib.hid (show ar .sub .f32 s' m = d4 from hd4.symm)
      have C := Lib.hid (fun (c : Nat) (h : fin c = true) => fin_cn h)
      have CQ := Lib.hid (show cn .f32 1048576000 = 1048576000 from by decide)
      have HA := Lib.hid (fun w => i_absolute d4 F5 F7 w)
      have HG := Lib.hid (abs_gtr (k := k) F5 F7)
      have HNN := Lib.hid (abs_fin F5 F7).1
      have Y0 := Lib.hid F0; have Y1 := Lib.hid F1; have Y2 := Lib.hid F2; have Y3 := Lib.hid F3; have Y4 := Lib.hid F4; have Y5 := Lib.hid F5
      clear hd1 hd2 hd4 HNX hc hcr hr32 F0 F1 F2 F3 F4 F5 F6 F7 hk32 hm32
      obtain ⟨z, hz0⟩ : ∃ z, z = mx d4 (Op.negFloat .f32 d4) := ⟨_, rfl⟩
      rw [← hz0] at HA HG HNN
      clear hz0
      cases hfar : scFar m k cs j
      all_goals
        have HF := Lib.hid ((show fc .gtr .f32 (cn .f32 z) (cn .f32 k) = fc .gtr .f32 (absV d4) k by rw [cn_of_not (k := .f32) HNN.out, HK2.out, HG.out]).trans (HFAR.out.symm.trans hfar))
        rw [hfar] at HST
        clear hfar
        go_wp2_with (first
          | (refine wpList_arx x s d1 rfl rfl rfl (C.out _ Y1.out) (C.out _ Y0.out) X1.out Y2.out ?_; intro n5)
          | (refine wpList_arx 1048576000 d1 d2 rfl rfl rfl CQ.out (C.out _ Y2.out) X2.out Y3.out ?_; intro n6)
          | (refine wpList_arx s d2 s' rfl rfl rfl (C.out _ Y0.out) (C.out _ Y3.out) X3.out Y4.out ?_; intro n7)
          | (refine wpList_arx s' m d4 rfl rfl rfl (C.out _ Y4.out) HM2.out X4.out Y5.out ?_; intro n8)
          | (go_at_call 75; refine (HA.out _).mono ?_; rintro e9 w9 ⟨rfl, n9, rfl⟩)
          | (refine wpList_fc .f32 z k rfl rfl rfl ?_; rw [HF.out])
          | (at_builtin; refine wpList_gapp (inj := Value.int .i64) oneI64C (fun _ => rfl) w.heap.size u10 (scL m k cs j) rfl (by first | exact GO.drewN (GO.alloc HO.out _) _ | exact GO.alloc HO.out _ | exact GO.alloc (GO.drewN HO.out _) _) [(j : Int)] _ 1 rfl rfl (by intro i u hu; cases i with | zero => (simp only [List.getElem?_cons_zero, Option.some.injEq] at hu; subst hu; simp) | succ i => simp at hu) (by have := HL.out; simp only [List.length_cons, List.length_nil]; omega) (by simp; omega) ?_; intro v2 w10 hown hg; have HO2 := Lib.hid hown; have hB : Below w.heap.size w w10 := below_of_grown (by first | exact below_drewN (hb.alloc hz _) _ | (repeat (first | exact Below.refl _ _ | assumption | refine below_drewN ?_ _ | refine Below.drew ?_ | refine Below.alloc ?_ (by first | omega | (simp; omega) | (simp; done) | (simp at *; omega)) _ | refine Below.setCell ?_ (by first | omega | (simp; omega) | (simp; done) | (simp at *; omega)) _ | refine Below.trans ?_ (Below.mono (by assumption) (by first | omega | (simp; omega) | (simp; done) | (simp at *; omega)))))) hg (by simp; omega) HO.out.own_ge; clear hown hg))
      · refine ⟨⟨j + 1, by omega, by go_num, by rw [HSE.out], ?_, by (repeat (first | exact Below.refl _ _ | assumption | refine below_drewN ?_ _ | refine Below.drew ?_ | refine Below.alloc ?_ (by first | omega | (simp; omega) | (simp; done) | (simp at *; omega)) _ | refine Below.setCell ?_ (by first | omega | (simp; omega) | (simp; done) | (simp at *; omega)) _ | refine Below.trans ?_ (Below.mono (by assumption) (by first | omega | (simp; omega) | (simp; done) | (simp at *; omega)))))⟩, by simp [intOf]; omega⟩
        show Hid (GO _ _ _ _ _ _)
        rw [HST.out, if_neg (by decide)]
        exact Lib.hid (GO.drewN HO.out _)
      · refine ⟨⟨j + 1, by omega, by go_num, by rw [HSE.out], ?_, hB⟩, by simp [intOf]; omega⟩
        show Hid (GO _ _ _ _ _ _)
        rw [HST.out, if_pos (by trivial)]
        exact HO2
    · obtain rfl : j = cs.length := by omega
      go_wp2_with fail
      go_ret2
      exact ⟨⟨_, rfl, HO.out⟩, hb⟩

end Go.Proofs.Ytnhenklopigfnaa
