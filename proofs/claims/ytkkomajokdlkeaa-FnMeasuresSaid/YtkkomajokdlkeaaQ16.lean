/- Contracts: drifts. -/
import Derived.Deep.QuietTactic
import Derived.BigQuiet
import Derived.Test.YtkkomajokdlkeaaQ3
import Derived.Test.YtkkomajokdlkeaaQ8
import Derived.Test.YtkkomajokdlkeaaQ10
import Derived.Test.YtkkomajokdlkeaaQ12
import Derived.Test.YtkkomajokdlkeaaQ15
namespace Go.Proofs.Ytkkomajokdlkeaa
set_option linter.unusedSimpArgs false
set_option linter.unusedVariables false
set_option maxRecDepth 100000
set_option maxHeartbeats 4000000
open Go.RowKit
attribute [local go_sem] run_store_float run_store_complex alloc_drewN setCell_drewN

theorem SB.get {w : World} {v : Value} {cs : List Nat} (h : SB w v cs) {n : Nat} (hn : cs.length = n) : ∃ ao c, v = .slice ao n c ∧ n ≤ c ∧ c ≤ 9223372036854775807 ∧ ∀ i, i < n → ∃ b off r, ao = some ⟨b, off, none⟩ ∧ b < w.heap.size ∧ w.cell? ⟨b, off + i, none⟩ = some (.float .f32 r) ∧ r < 4294967296 ∧ cn .f32 r = cs.getD i 0 := by
  obtain ⟨ao, c, xs, rfl, rfl, h3, h5, h4⟩ := h
  have hn' : xs.length = n := by simpa using hn
  subst hn'
  refine ⟨ao, c, rfl, h3.1, h3.2, fun i hi => ?_⟩
  obtain ⟨b, off, e1, e2, e3⟩ := h4 i hi
  exact ⟨b, off, xs[i], e1, e2, e3, h5 _ (List.getElem_mem hi), by simp [hi]⟩

/-- What a drift becomes with a number. -/
def dRaw (down : Bool) (cm ck s x : Nat) : Nat := if down then subF (subF (addF s cm) x) ck else subF (subF (addF s x) cm) ck
def dStep (down : Bool) (cm ck s x : Nat) : Nat := if fc .lss .f32 (dRaw down cm ck s x) 0 then 0 else dRaw down cm ck s x
def dAt (down : Bool) (cm ck : Nat) (cs : List Nat) : Nat → Nat
  | 0 => 0
  | k + 1 => dStep down cm ck (dAt down cm ck cs k) (cs.getD k 0)
def dL (down : Bool) (cm ck : Nat) (cs : List Nat) (n : Nat) : List Nat := (List.range n).map fun i => dAt down cm ck cs (i + 1)
theorem dL_length (down : Bool) (cm ck : Nat) (cs : List Nat) (n : Nat) : (dL down cm ck cs n).length = n := by simp [dL]
theorem dL_succ (down : Bool) (cm ck : Nat) (cs : List Nat) (n : Nat) : dL down cm ck cs (n + 1) = dL down cm ck cs n ++ [dAt down cm ck cs (n + 1)] := by simp [dL, List.range_succ]
def driftOk (cs : List Nat) (cm ck : Nat) : Bool := series cs && fin cm && least ck
def driftQ (down : Bool) (cs : List Nat) (cm ck : Nat) : List Nat × Bool := if driftOk cs cm ck then given (dL down cm ck cs cs.length) else ([], false)
theorem driftQ_no (down : Bool) {cs : List Nat} {cm ck : Nat} (h : driftOk cs cm ck = false) : driftQ down cs cm ck = ([], false) := by rw [driftQ, h]; rfl
theorem driftQ_yes (down : Bool) {cs : List Nat} {cm ck : Nat} (h : driftOk cs cm ck = true) : driftQ down cs cm ck = given (dL down cm ck cs cs.length) := by rw [driftQ, h]; rfl

end Go.Proofs.Ytkkomajokdlkeaa

namespace Go.Proofs.Ytkkomajokdlkeaa
set_option linter.unusedSimpArgs false
set_option linter.unusedVariables false
set_option maxRecDepth 100000
set_option maxHeartbeats 4000000
open Go.RowKit
attribute [local go_sem] run_store_float run_store_complex alloc_drewN setCell_drewN

/-- The first number that is so, -1 if there is none. -/
def dFind (p : Nat → Bool) (n : Nat) : Int := match (List.range n).find? p with | some i => (i : Int) | none => -1
theorem dFind_hit {p : Nat → Bool} {n k : Nat} (hk : k < n) (hp : p k = true) (hb : ∀ i, i < k → p i = false) : dFind p n = k := by
  have : (List.range n).find? p = some k := by
    rw [List.find?_range_eq_some]
    exact ⟨hp, by simpa using hk, fun j hj => by simp [hb j hj]⟩
  rw [dFind, this]
theorem dFind_none {p : Nat → Bool} {n : Nat} (hb : ∀ i, i < n → p i = false) : dFind p n = -1 := by
  have : (List.range n).find? p = none := by
    rw [List.find?_eq_none]
    intro i hi
    have := hb i (by simpa using hi)
    simp [this]
  rw [dFind, this]
theorem driftQ_len {down : Bool} {cs : List Nat} {cm ck : Nat} (h : (driftQ down cs cm ck).2 = true) : (driftQ down cs cm ck).1.length = cs.length ∧ cs.length ≤ 96 := by
  unfold driftQ at h ⊢
  split
  · rename_i hok
    rw [if_pos hok] at h
    refine ⟨?_, (series_len (show series cs = true by simp only [driftOk, Bool.and_eq_true] at hok; exact hok.1.1)).2⟩
    unfold given at h ⊢
    dsimp only at h ⊢
    rw [if_pos h, dL_length]
  · rename_i hok
    rw [if_neg hok] at h
    cases h
theorem driftQ_short (down : Bool) (cs : List Nat) (cm ck : Nat) : (driftQ down cs cm ck).1.length < 1000000 := by
  unfold driftQ
  split
  · rename_i hok
    have := (series_len (show series cs = true by simp only [driftOk, Bool.and_eq_true] at hok; exact hok.1.1)).2
    unfold given
    dsimp only
    split
    · rw [dL_length]; omega
    · simp
  · simp
def daFar (cs : List Nat) (cm ck cb : Nat) (i : Nat) : Bool := fc .gtr .f32 ((driftQ false cs cm ck).1.getD i 0) cb || fc .gtr .f32 ((driftQ true cs cm ck).1.getD i 0) cb
def daQ (cs : List Nat) (cm ck cb : Nat) : Int × Bool :=
  if (driftQ false cs cm ck).2 && (driftQ true cs cm ck).2 && least cb then (dFind (daFar cs cm ck cb) cs.length, true) else (0, false)
theorem daQ_no {cs : List Nat} {cm ck cb : Nat} (h : ((driftQ false cs cm ck).2 && (driftQ true cs cm ck).2 && least cb) = false) : daQ cs cm ck cb = (0, false) := by rw [daQ, h]; rfl
theorem daQ_yes {cs : List Nat} {cm ck cb : Nat} (h : ((driftQ false cs cm ck).2 && (driftQ true cs cm ck).2 && least cb) = true) : daQ cs cm ck cb = (dFind (daFar cs cm ck cb) cs.length, true) := by rw [daQ, h]; rfl
theorem ret_ib {a c : Int} {b d : Bool} (h1 : a = c) (h2 : b = d) : Ending.returned (.tuple #[.int .i64 a, .bool b]) = .returned (.tuple #[.int .i64 c, .bool d]) := by rw [h1, h2]

end Go.Proofs.Ytkkomajokdlkeaa

namespace Go.Proofs.Ytkkomajokdlkeaa
set_option linter.unusedSimpArgs false
set_option linter.unusedVariables false
set_option maxRecDepth 100000
set_option maxHeartbeats 4000000
open Go.RowKit
/-- A check that decides: c is x eighths. -/
def evB (c : Nat) (x : Int) : Bool := match S.read c with
  | .number s m p => decide (c < 4294967296) && decide (p ≤ -3) && (m == x.natAbs * 2 ^ (-3 - p).toNat) && (decide (x = 0) || (s == decide (x < 0)))
  | _ => false
theorem ev_of {c : Nat} {x : Int} (h : evB c x = true) : Ev c x := by
  unfold evB at h
  split at h
  · rename_i s m p hr
    simp only [Bool.and_eq_true, Bool.or_eq_true, decide_eq_true_eq, beq_iff_eq] at h
    obtain ⟨⟨⟨h1, h2⟩, h3⟩, h4⟩ := h
    refine ⟨h1, s, (-3 - p).toNat, ?_, fun h0 => ?_⟩
    · rw [hr, h3, show (-3 - (((-3 - p).toNat : Nat) : Int)) = p by omega]
    · rcases h4 with h4 | h4
      · exact absurd h4 h0
      · exact h4
  · cases h
/-- A drift, by integers. -/
def iStep (down : Bool) (M K s x : Int) : Int := let r := if down then s + M - x - K else s + x - M - K; if r < 0 then 0 else r
def iAt (down : Bool) (M K : Int) (X : Nat → Int) : Nat → Int
  | 0 => 0
  | n + 1 => iStep down M K (iAt down M K X n) (X n)
theorem iAt_bound (down : Bool) {M K : Int} {X : Nat → Int} (hX : ∀ i, (X i).natAbs ≤ 100) (hM : M.natAbs ≤ 100) (hK : K.natAbs ≤ 100) : ∀ n, 0 ≤ iAt down M K X n ∧ iAt down M K X n ≤ 300 * n
  | 0 => ⟨Int.le_refl _, by simp [iAt]⟩
  | n + 1 => by
    have ih := iAt_bound down hX hM hK n
    have hx := hX n
    rw [iAt, iStep]
    cases down
    · simp only [Bool.false_eq_true, if_false]
      split <;> omega
    · simp only [if_true]
      split <;> omega
theorem dAt_ev (down : Bool) {M K : Int} {X : Nat → Int} {cm ck : Nat} {cs : List Nat} (hX : ∀ i, (X i).natAbs ≤ 100) (hM : M.natAbs ≤ 100) (hK : K.natAbs ≤ 100) (hm : Ev cm M) (hk : Ev ck K) (hc : ∀ i, i < cs.length → Ev (cs.getD i 0) (X i)) : ∀ n, n ≤ cs.length → n ≤ 1000 → Ev (dAt down cm ck cs n) (iAt down M K X n)
  | 0, _, _ => ev_zero
  | n + 1, h, h1 => by
    have ih := dAt_ev down hX hM hK hm hk hc n (by omega) (by omega)
    have hb := iAt_bound down hX hM hK n
    have hx := hX n
    have hraw : Ev (dRaw down cm ck (dAt down cm ck cs n) (cs.getD n 0)) (if down then iAt down M K X n + M - X n - K else iAt down M K X n + X n - M - K) := by
      cases down
      · exact ev_up ih (hc n (by omega)) hm hk (by omega) (by omega) (by omega) (by omega)
      · exact ev_down ih (hc n (by omega)) hm hk (by omega) (by omega) (by omega) (by omega)
    rw [dAt, iAt, dStep, iStep]
    rw [hraw.lss ev_zero]
    generalize (if down then iAt down M K X n + M - X n - K else iAt down M K X n + X n - M - K) = r at *
    by_cases h : r < 0
    · rw [if_pos (decide_eq_true h), if_pos h]
      exact ev_zero
    · rw [if_neg (by rw [decide_eq_false h]; decide), if_neg h]
      exact hraw
/-- Up is down of the opposites. -/
theorem iAt_turn (M K : Int) (X : Nat → Int) : ∀ n, iAt true (-M) K (fun i => -(X i)) n = iAt false M K X n
  | 0 => rfl
  | n + 1 => by
    rw [iAt, iAt, iAt_turn M K X n, iStep, iStep]
    simp only [if_true, Bool.false_eq_true, if_false]
    rw [show iAt false M K X n + -M - -(X n) - K = iAt false M K X n + X n - M - K by omega]
/-- Of two that are as many eighths one is the other, but for the sign of zero. -/
theorem Ev.same {a b : Nat} {x : Int} (ha : Ev a x) (hb : Ev b x) : a = b ∨ ((a = 0 ∨ a = 2147483648) ∧ (b = 0 ∨ b = 2147483648)) := by
  by_cases h0 : x = 0
  · subst h0
    refine .inr ⟨?_, ?_⟩
    · exact ev_zeros ha
    · exact ev_zeros hb
  · have ho := ha.order hb
    rw [cmpI, if_neg (by omega), if_pos rfl] at ho
    obtain ⟨h1, s, k, h2, h3⟩ := ha
    obtain ⟨h4, t, j, h5, h6⟩ := hb
    refine .inl (bits_of_eq h1 h4 ho ?_)
    rw [h2, h5]
    show s = t
    rw [h3 h0, h6 h0]
where
  ev_zeros {a : Nat} (ha : Ev a 0) : a = 0 ∨ a = 2147483648 := by
    have hz := ha
    have ho := ha.order ev_zero
    rw [cmpI, if_neg (by omega), if_pos rfl] at ho
    obtain ⟨h1, s, k, h2, -⟩ := ha
    cases s with
    | false =>
      refine .inl (bits_of_eq h1 (by decide) ho ?_)
      rw [h2]
      show false = (S.read 0).neg
      decide
    | true =>
      have ho2 := hz.order (show Ev 2147483648 0 from ⟨by decide, true, 146, by decide, by simp⟩)
      rw [cmpI, if_neg (by omega), if_pos rfl] at ho2
      refine .inr (bits_of_eq h1 (by decide) ho2 ?_)
      rw [h2]
      show true = (S.read 2147483648).neg
      decide

end Go.Proofs.Ytkkomajokdlkeaa

namespace Go.Proofs.Ytkkomajokdlkeaa
set_option linter.unusedSimpArgs false
set_option linter.unusedVariables false
set_option maxRecDepth 100000
set_option maxHeartbeats 4000000
open Go.RowKit
attribute [local go_sem] run_store_float run_store_complex alloc_drewN setCell_drewN
/-- The size of a number. -/
def absV (c : Nat) : Nat := if fc .lss .f32 c 0 then Op.negFloat .f32 c else c
/-- The smoothed series; where it is far; the places that are. -/
def scS (m : Nat) (cs : List Nat) : Nat → Nat
  | 0 => m
  | i + 1 => addF (scS m cs i) (mulF 1048576000 (subF (cs.getD i 0) (scS m cs i)))
def scFar (m k : Nat) (cs : List Nat) (i : Nat) : Bool := fc .gtr .f32 (absV (subF (scS m cs (i + 1)) m)) k
def scL (m k : Nat) (cs : List Nat) : Nat → List Int
  | 0 => []
  | i + 1 => if scFar m k cs i then scL m k cs i ++ [(i : Int)] else scL m k cs i
theorem scL_length (m k : Nat) (cs : List Nat) : ∀ n, (scL m k cs n).length ≤ n
  | 0 => Nat.le_refl _
  | n + 1 => by
    have := scL_length m k cs n
    rw [scL]
    split
    · rw [List.length_append, List.length_singleton]; omega
    · omega
theorem run_ng {P : Program} (x : Nat) (w : World) : (Op.unary .neg (.float .f32 x)).run P w = .ok (.float .f32 (Op.negFloat .f32 x)) w := rfl
/-- The opposite. -/
theorem neg_val {x : Nat} (h : x < 4294967296) : Op.negFloat .f32 x = if x < 2147483648 then x + 2147483648 else x - 2147483648 := by
  show x ^^^ 2 ^ 31 = _
  have e : (2 : Nat) ^ 31 = 2147483648 := by decide
  by_cases hx : x < 2147483648
  · rw [if_pos hx]
    have h1 := Nat.two_pow_add_eq_or_of_lt (i := 31) (b := x) (by omega) 1
    rw [Nat.mul_one] at h1
    have h2 : x ^^^ 2 ^ 31 = 2 ^ 31 ||| x := by
      apply Nat.eq_of_testBit_eq
      intro i
      rw [Nat.testBit_xor, Nat.testBit_or, Nat.testBit_two_pow]
      by_cases hi : 31 = i
      · subst hi
        rw [Nat.testBit_lt_two_pow (by omega)]; simp
      · simp [hi]
    rw [h2, ← h1]; omega
  · rw [if_neg hx]
    obtain ⟨r, hr⟩ : ∃ r, r = x - 2147483648 := ⟨_, rfl⟩
    have hxr : x = 2 ^ 31 + r := by omega
    have h1 := Nat.two_pow_add_eq_or_of_lt (i := 31) (b := r) (by omega) 1
    rw [Nat.mul_one] at h1
    rw [hxr, h1, show ((2 : Nat) ^ 31 ||| r) ^^^ 2 ^ 31 = r from ?_]
    · rw [← h1, e]; exact (Nat.add_sub_cancel_left (n := 2147483648) (m := r)).symm
    · apply Nat.eq_of_testBit_eq
      intro i
      rw [Nat.testBit_xor, Nat.testBit_or, Nat.testBit_two_pow]
      by_cases hi : 31 = i
      · subst hi
        rw [Nat.testBit_lt_two_pow (show r < 2 ^ 31 by omega)]; simp
      · simp [hi]
theorem neg_notNaN {x : Nat} (h : x < 4294967296) (hn : (S.read x).isNaN = false) : (S.read (Op.negFloat .f32 x)).isNaN = false := by
  rw [neg_val h, read_single]
  rw [read_single] at hn
  have e : (if x < 2147483648 then x + 2147483648 else x - 2147483648) % 2147483648 = x % 2147483648 := by split <;> omega
  rw [e]
  revert hn
  split
  · intro _; rfl
  · split
    · intro _; rfl
    · split
      · intro _; rfl
      · intro hn; exact hn
/-- An operation whose result is known and finite. -/
theorem wpList_arx {P : Program} {ops : Array Oper} {Q : Exit → Act → World → Prop} {a : Act} {w : World} {rest : List Oper} {dst : Option Tmp} {op : BinOp} {t ty type : TypeId} {x y : Operand} {pos : String} {after : Array Edge}
    (bx bY d : Nat) (hop : isAr op = true) (hx : a.eval x = .float .f32 bx) (hy : a.eval y = .float .f32 bY) (cx : cn .f32 bx = bx) (cy : cn .f32 bY = bY) (hd : ar op .f32 bx bY = d) (hf : fin d = true)
    (hK : ∀ n, wpList P ops Q rest (a.put dst (.float .f32 d)) (w.drewN n)) :
    wpList P ops Q ({ dst := dst, op := .binOp op t x y ty, type := type, pos := pos, after := after, guard := none } :: rest) a w := by
  refine wpList_ar .f32 bx bY hop hx hy fun r n hr _ => ?_
  rw [cx, cy, hd] at hr
  rw [(raw_of hr hf).1]
  exact hK n
theorem fin_cn {c : Nat} (h : fin c = true) : cn .f32 c = c := cn_of_not (fin_notNaN h)
/-- All that the chart reckons is finite. -/
def scOk (m : Nat) (cs : List Nat) : Prop := ∀ i, i < cs.length → fin (cs.getD i 0) = true ∧ fin (subF (cs.getD i 0) (scS m cs i)) = true ∧ fin (mulF 1048576000 (subF (cs.getD i 0) (scS m cs i))) = true ∧ fin (scS m cs (i + 1)) = true ∧ fin (subF (scS m cs (i + 1)) m) = true ∧ scS m cs (i + 1) < 4294967296 ∧ subF (scS m cs (i + 1)) m < 4294967296
theorem scS_fin {m : Nat} {cs : List Nat} (hm : fin m = true) (h : scOk m cs) : ∀ j, j ≤ cs.length → fin (scS m cs j) = true
  | 0, _ => hm
  | j + 1, hj => (h j (by omega)).2.2.2.1
theorem fin_read {c : Nat} (hc : c < 4294967296) (h : fin c = true) : ∃ (s : Bool) (m : Nat) (p : Int), S.read c = .number s m p := by
  have h1 := fin_notNaN h
  cases hr : S.read c with
  | nan => rw [hr] at h1; cases h1
  | number s m p => exact ⟨s, m, p, rfl⟩
  | infinity s =>
    have h2 : fc .eql .f32 (ar .sub .f32 c c) 0 = true := h
    have h3 : ar .sub .f32 c c = qnan .f32 := by
      show ((S.sub c c).getD _) = _
      rw [Ieee.Format.sub, hr]
      show (Option.map S.write ((Ieee.Datum.infinity s).sum (Ieee.Datum.infinity (!s)))).getD _ = _
      cases s <;> rfl
    rw [h3] at h2
    exact absurd h2 (by decide +kernel)
theorem read_neg {c : Nat} {s : Bool} {m : Nat} {p : Int} (hc : c < 4294967296) (h : S.read c = .number s m p) : S.read (Op.negFloat .f32 c) = .number (!s) m p := by
  rw [neg_val hc, read_single]
  rw [read_single] at h
  have e : (if c < 2147483648 then c + 2147483648 else c - 2147483648) % 2147483648 = c % 2147483648 := by split <;> omega
  have e2 : ((if c < 2147483648 then c + 2147483648 else c - 2147483648) / 2147483648 % 2 == 1) = !(c / 2147483648 % 2 == 1) := by
    by_cases hx : c < 2147483648
    · rw [if_pos hx, show c / 2147483648 = 0 by omega, show (c + 2147483648) / 2147483648 = 1 by omega]; rfl
    · rw [if_neg hx, show c / 2147483648 = 1 by omega, show (c - 2147483648) / 2147483648 = 0 by omega]; rfl
  rw [e, e2]
  generalize (c / 2147483648 % 2 == 1) = b at *
  generalize c % 2147483648 = r at *
  split at h
  · rename_i h1; rw [if_pos h1]; injection h with h2 h3 h4; rw [← h2, ← h3, ← h4]
  · rename_i h1
    rw [if_neg h1]
    split at h
    · rename_i h1; rw [if_pos h1]; injection h with h2 h3 h4; rw [← h2, ← h3, ← h4]
    · split at h <;> cases h
theorem abs_gtr {d k : Nat} (hd : fin d = true) (hlt : d < 4294967296) : fc .gtr .f32 (mx d (Op.negFloat .f32 d)) k = fc .gtr .f32 (absV d) k := by
  obtain ⟨s, m, p, hr⟩ := fin_read hlt hd
  have hn := read_neg hlt hr
  have ho : S.order d (Op.negFloat .f32 d) = some (compare (Ieee.signed s m 0) (Ieee.signed (!s) m 0)) := by
    show (S.read d).order (S.read _) = _
    rw [hr, hn]
    unfold Ieee.Datum.order
    simp
  have hz : S.order d 0 = some (compare (Ieee.signed s m (p - min p (-149)).toNat) 0) := by
    show (S.read d).order (S.read 0) = _
    rw [hr, show S.read 0 = .number false 0 (-149) from by decide]
    unfold Ieee.Datum.order Ieee.signed
    simp
  have hl : fc .lss .f32 d 0 = (S.order d 0 == some .lt) := rfl
  by_cases hm : m = 0
  · subst hm
    have h1 : S.order d 0 = some .eq := by rw [hz]; unfold Ieee.signed; cases s <;> simp [cmpI]
    have h2 : S.order d (Op.negFloat .f32 d) = some .eq := by rw [ho]; unfold Ieee.signed; cases s <;> simp [cmpI]
    unfold absV mx
    rw [h2, hl, h1, hr]
    show fc .gtr .f32 (if s then Op.negFloat .f32 d else d) k = fc .gtr .f32 d k
    cases s
    · rfl
    · show (S.order (Op.negFloat .f32 d) k == some .gt) = (S.order d k == some .gt)
      have h3 : S.order (Op.negFloat .f32 d) k = S.order d k := by
        show (S.read _).order (S.read k) = (S.read d).order (S.read k)
        rw [hr, hn]
        cases S.read k with
        | nan => rfl
        | infinity => rfl
        | number t n q => unfold Ieee.Datum.order Ieee.signed; simp
      rw [h3]
  · have hp : ∀ u, 0 < m * 2 ^ u := fun u => Nat.mul_pos (by omega) (Nat.pow_pos (by decide))
    unfold absV mx
    rw [ho, hl, hz]
    unfold Ieee.signed
    cases s
    · simp only [Nat.shiftLeft_eq, Bool.false_eq_true, if_false, Bool.not_false, if_true]
      have h1 := hp 0
      have h2 := hp (p - min p (-149)).toNat
      generalize m * 2 ^ 0 = A at *
      generalize m * 2 ^ (p - min p (-149)).toNat = B at *
      have c1 : compare ((A : Nat) : Int) (-((A : Nat) : Int)) = .gt := by rw [cmpI, if_neg (by omega), if_neg (by omega)]
      have c2 : compare ((B : Nat) : Int) 0 = .gt := by rw [cmpI, if_neg (by omega), if_neg (by omega)]
      rw [c1, c2]
      rfl
    · simp only [Nat.shiftLeft_eq, if_true, Bool.not_true, Bool.false_eq_true, if_false]
      have h1 := hp 0
      have h2 := hp (p - min p (-149)).toNat
      generalize m * 2 ^ 0 = A at *
      generalize m * 2 ^ (p - min p (-149)).toNat = B at *
      have c1 : compare (-((A : Nat) : Int)) ((A : Nat) : Int) = .lt := by rw [cmpI, if_pos (by omega)]
      have c2 : compare (-((B : Nat) : Int)) 0 = .lt := by rw [cmpI, if_pos (by omega)]
      rw [c1, c2]
      rfl
theorem abs_fin {d : Nat} (hd : fin d = true) (hlt : d < 4294967296) : (S.read (mx d (Op.negFloat .f32 d))).isNaN = false ∧ (S.read (absV d)).isNaN = false := by
  obtain ⟨s, m, p, hr⟩ := fin_read hlt hd
  have hn := read_neg hlt hr
  have h1 : (S.read d).isNaN = false := by rw [hr]; rfl
  have h2 : (S.read (Op.negFloat .f32 d)).isNaN = false := by rw [hn]; rfl
  constructor
  · unfold mx
    split
    · decide
    · exact h2
    · exact h1
    · split
      · exact h2
      · exact h1
  · unfold absV
    split
    · exact h2
    · exact h1

theorem i_absolute (x : Nat) (hx : fin x = true) (hlt : x < 4294967296) (w : World) :
    Calls Try.prog 101 #[.float .f32 x] w fun e w' => e = .returned (.float .f32 (mx x (Op.negFloat .f32 x))) ∧ Dr w w' := by
  have ho := fin_notNaN hx
  have ho3 := neg_notNaN hlt ho
  have RN := fun w => run_ng (P := Try.prog) x w
  have RM := fun ts t w => run_mx (P := Try.prog) ts t x (Op.negFloat .f32 x) ho ho3 w
  go_enter Try.func101, Try.ntmps101
  go_wp2_with fail
  go_ret
  exact ⟨rfl, Dr.refl _⟩

theorem i_isShareQ (w : World) : Calls Try.prog 104 #[.float .f32 1048576000] w fun e w' => e = .returned (.bool true) ∧ Dr w w' := by
  have o1 : FloatKind.f32.format.order 1048576000 0 = some .gt := by decide
  have o2 : FloatKind.f32.format.order 1048576000 1065353216 = some .lt := by decide
  go_enter Try.func104, Try.ntmps104
  go_wp2_with fail
  go_ret
  exact ⟨rfl, Dr.refl _⟩

end Go.Proofs.Ytkkomajokdlkeaa
