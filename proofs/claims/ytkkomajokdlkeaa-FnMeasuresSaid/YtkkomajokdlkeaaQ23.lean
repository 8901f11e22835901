/- Numbers that are not finite: what is reckoned with them is not finite either. Plain: no program. -/
import Derived.Test.YtkkomajokdlkeaaQ8
import Derived.Test.YtkkomajokdlkeaaQ20
import Derived.Test.YtkkomajokdlkeaaQ21
import Derived.Test.YtkkomajokdlkeaaQ22
namespace Go.Proofs.Ytkkomajokdlkeaa
set_option linter.unusedSimpArgs false
set_option linter.unusedVariables false
set_option maxRecDepth 100000
set_option maxHeartbeats 4000000
open Go.RowKit
set_option linter.unusedSimpArgs false
set_option linter.unusedVariables false
def isNum (d : Ieee.Datum) : Bool := match d with | .number .. => true | _ => false
theorem fin_of_read {c : Nat} {s : Bool} {m : Nat} {p : Int} (hr : S.read c = .number s m p) : fin c = true := by
  show fc .eql .f32 (((S.sub c c)).getD (qnan .f32)) 0 = true
  unfold Ieee.Format.sub
  rw [hr]
  have e : ∃ q, (Ieee.Datum.number s m p).sum (Ieee.Datum.number s m p).opposite = some (.number false 0 q) := by
    show ∃ q, (Ieee.Datum.number s m p).sum (.number (!s) m p) = _
    unfold Ieee.Datum.sum
    have e0 : Ieee.signed s m (p - min p p).toNat + Ieee.signed (!s) m (p - min p p).toNat = 0 := by
      unfold Ieee.signed
      cases s <;> simp <;> omega
    dsimp only
    rw [e0, if_pos rfl]
    exact ⟨min p p, by cases s <;> rfl⟩
  obtain ⟨q, e⟩ := e
  rw [e, Option.map_some, Option.getD_some]
  have e2 : S.write (.number false 0 q) = 0 := by
    show S.nearest false 0 q = 0
    unfold Ieee.Format.nearest
    rw [if_pos rfl]; rfl
  rw [e2]
  decide +kernel
theorem fin_isNum (c : Nat) : fin c = isNum (S.read c) := by
  cases h : fin c with
  | true =>
    obtain ⟨s, m, p, e⟩ := fin_num h
    rw [e]; rfl
  | false =>
    cases hr : S.read c with
    | number s m p => rw [fin_of_read hr] at h; cases h
    | infinity s => rfl
    | nan s t => rfl
theorem nf_inf (s : Bool) : fin (S.write (.infinity s)) = false := by cases s <;> decide +kernel
theorem nf_qnan : fin (qnan .f32) = false := by decide +kernel
theorem nf_res {o : Option Ieee.Datum} (h : o = none ∨ ∃ s, o = some (.infinity s)) : fin ((o.map S.write).getD (qnan .f32)) = false := by
  rcases h with rfl | ⟨s, rfl⟩
  · exact nf_qnan
  · exact nf_inf s
theorem sum_nf {x y : Ieee.Datum} (h : isNum x = false ∨ isNum y = false) : x.sum y = none ∨ ∃ s, x.sum y = some (.infinity s) := by
  cases x <;> cases y <;> simp only [Ieee.Datum.sum, isNum, Bool.true_eq_false, or_self, or_false, false_or] at h ⊢ <;> first | exact .inl rfl | exact .inl trivial | exact .inr ⟨_, rfl⟩ | (split <;> first | exact .inl rfl | exact .inr ⟨_, rfl⟩) | cases h
theorem product_nf {x y : Ieee.Datum} (h : isNum x = false ∨ isNum y = false) : x.product y = none ∨ ∃ s, x.product y = some (.infinity s) := by
  cases x <;> cases y <;> simp only [Ieee.Datum.product, isNum, Bool.true_eq_false, or_self, or_false, false_or] at h ⊢ <;> first | exact .inl rfl | exact .inl trivial | exact .inr ⟨_, rfl⟩ | (split <;> first | exact .inl rfl | exact .inr ⟨_, rfl⟩) | cases h
theorem quotient_nf {n : Nat} {x y : Ieee.Datum} (h : isNum x = false) (hy : isNum y = true) : x.quotient n y = none ∨ ∃ s, x.quotient n y = some (.infinity s) := by
  cases x <;> cases y <;> simp only [Ieee.Datum.quotient, isNum, Bool.true_eq_false] at h hy ⊢ <;> first | exact .inl rfl | exact .inl trivial | exact .inr ⟨_, rfl⟩ | (split <;> first | exact .inl rfl | exact .inr ⟨_, rfl⟩) | cases h | cases hy
theorem isNum_opp (d : Ieee.Datum) : isNum d.opposite = isNum d := by cases d <;> rfl
theorem nf_sub {a b : Nat} (h : fin a = false ∨ fin b = false) : fin (subF a b) = false := by
  rw [fin_isNum, fin_isNum] at h
  exact nf_res (sum_nf (by rw [isNum_opp]; exact h))
theorem nf_add {a b : Nat} (h : fin a = false ∨ fin b = false) : fin (addF a b) = false := by
  rw [fin_isNum, fin_isNum] at h
  exact nf_res (sum_nf h)
theorem nf_mul {a b : Nat} (h : fin a = false ∨ fin b = false) : fin (mulF a b) = false := by
  rw [fin_isNum, fin_isNum] at h
  exact nf_res (product_nf h)
theorem nf_div {a b : Nat} (h : fin a = false) (hb : fin b = true) : fin (divF a b) = false := by
  rw [fin_isNum] at h hb
  exact nf_res (quotient_nf h hb)
theorem nf_root {a b : Nat} (h : fin (divF a b) = false) : fin (rootF (divF a b)) = false := by
  have hlt : divF a b < 4294967296 := ar_lt .quo a b
  have hcn : cn .f32 (divF a b) = divF a b := cn_ar .quo .f32 a b
  generalize divF a b = c at *
  cases hn : (S.read c).isNaN with
  | true =>
    have : c = qnan .f32 := by rw [← hcn]; exact cn_of_nan (k := .f32) hn
    subst this
    decide +kernel
  | false =>
    have h1 := mod_notNaN hn
    have h2 : ¬ c % 2147483648 < 2139095040 := fun hh => by rw [fin_of_read (read_fin hlt hh)] at h; cases h
    have : c = 2139095040 ∨ c = 4286578688 := by omega
    rcases this with rfl | rfl <;> decide +kernel
theorem fI_fin : ∀ i : Fin 97, fin (fI (i.val : Int)) = true := by decide +kernel
/-- A mean that is not finite leaves a spread that is not finite. -/
theorem spread_nf {cs : List Nat} (hs : series cs = true) (h : fin (meanL cs) = false) : fin (normRoot cs) = false := by
  have hl := series_len hs
  unfold normRoot
  refine nf_root (nf_div ?_ (fI_fin ⟨cs.length, by omega⟩))
  obtain ⟨n, hn⟩ : ∃ n, cs.length = n + 1 := ⟨cs.length - 1, by omega⟩
  rw [hn]
  exact nf_add (.inr (nf_mul (.inl (nf_sub (.inr h)))))
/-! What is no NaN. -/
theorem nn_of_some {o : Option Ieee.Datum} {z : Ieee.Datum} (h : o = some z) (hz : z.isNaN = false) : (S.read ((o.map S.write).getD (qnan .f32))).isNaN = false := by
  subst h
  exact write_not_nan S z hz
theorem sum_nn {x y : Ieee.Datum} (hx : x.isNaN = false) (hy : isNum y = true) : ∃ z, x.sum y = some z := by
  cases x <;> cases y <;> simp only [Ieee.Datum.sum, isNum, Ieee.Datum.isNaN, Bool.true_eq_false, Bool.false_eq_true] at hx hy ⊢ <;> first | exact ⟨_, rfl⟩ | (split <;> exact ⟨_, rfl⟩) | cases hy | cases hx
theorem product_nn {x y : Ieee.Datum} (hx : isNum x = true) (hy : isNum y = true) : ∃ z, x.product y = some z := by
  cases x <;> cases y <;> simp only [Ieee.Datum.product, isNum, Bool.false_eq_true] at hx hy ⊢ <;> first | exact ⟨_, rfl⟩ | cases hy | cases hx
theorem nn_add {a b : Nat} (ha : (S.read a).isNaN = false) (hb : fin b = true) : (S.read (addF a b)).isNaN = false := by
  rw [fin_isNum] at hb
  obtain ⟨z, hz⟩ := sum_nn ha hb
  exact nn_of_some hz (sum_not_nan hz)
theorem nn_sub {a b : Nat} (ha : (S.read a).isNaN = false) (hb : fin b = true) : (S.read (subF a b)).isNaN = false := by
  rw [fin_isNum] at hb
  obtain ⟨z, hz⟩ := sum_nn (y := (S.read b).opposite) ha (by rw [isNum_opp]; exact hb)
  exact nn_of_some hz (sum_not_nan hz)
theorem sum_nn' {x y : Ieee.Datum} (hx : isNum x = true) (hy : y.isNaN = false) : ∃ z, x.sum y = some z := by
  cases x <;> cases y <;> simp only [Ieee.Datum.sum, isNum, Ieee.Datum.isNaN, Bool.true_eq_false, Bool.false_eq_true] at hx hy ⊢ <;> first | exact ⟨_, rfl⟩ | (split <;> exact ⟨_, rfl⟩) | cases hy | cases hx
theorem nn_add' {a b : Nat} (ha : fin a = true) (hb : (S.read b).isNaN = false) : (S.read (addF a b)).isNaN = false := by
  rw [fin_isNum] at ha
  obtain ⟨z, hz⟩ := sum_nn' ha hb
  exact nn_of_some hz (sum_not_nan hz)
theorem nn_mul {a b : Nat} (ha : fin a = true) (hb : fin b = true) : (S.read (mulF a b)).isNaN = false := by
  rw [fin_isNum] at ha hb
  obtain ⟨z, hz⟩ := product_nn ha hb
  exact nn_of_some hz (product_not_nan hz)
/-- A guess out of finite numbers is no NaN. -/
theorem guess_nn {l s g d : Nat} (hl : fin l = true) (hs : fin s = true) (hg : fin g = true) (hd : fin d = true) : (S.read (mulF d s)).isNaN = false ∧ (S.read (addF l (mulF d s))).isNaN = false ∧ (S.read (addF (addF l (mulF d s)) g)).isNaN = false := by
  have h1 := nn_mul hd hs
  have h2 := nn_add' hl h1
  exact ⟨h1, h2, nn_add h2 hg⟩

end Go.Proofs.Ytkkomajokdlkeaa

namespace Go.Proofs.Ytkkomajokdlkeaa
set_option linter.unusedSimpArgs false
set_option linter.unusedVariables false
set_option maxRecDepth 100000
set_option maxHeartbeats 4000000
open Go.RowKit
set_option linter.unusedSimpArgs false
set_option linter.unusedVariables false
attribute [local go_sem] run_store_float run_store_complex alloc_drewN setCell_drewN

def meanQ (cs : List Nat) : Nat × Bool := if series cs then numB (meanL cs) else (0, false)
def spreadQ (cs : List Nat) : Nat × Bool := if series cs then numB (normRoot cs) else (0, false)
def sqL (cs : List Nat) : Nat := sqsL (fun i => subF (cs.getD i 0) (meanL cs)) cs.length
theorem normRoot_eq (cs : List Nat) : normRoot cs = rootF (divF (sqL cs) (fI cs.length)) := rfl
/-- The sums up to each number. -/
def runS (cs : List Nat) : Nat → Nat
  | 0 => 0
  | k + 1 => addF (runS cs k) (cs.getD k 0)
def runL (cs : List Nat) (n : Nat) : List Nat := (List.range n).map fun i => runS cs (i + 1)
theorem runL_length (cs : List Nat) (n : Nat) : (runL cs n).length = n := by simp [runL]
theorem runL_succ (cs : List Nat) (n : Nat) : runL cs (n + 1) = runL cs n ++ [runS cs (n + 1)] := by simp [runL, List.range_succ]
def runQ (cs : List Nat) : List Nat × Bool := if series cs then given (runL cs cs.length) else ([], false)
def lagL (cs : List Nat) (g n : Nat) : List Nat := (List.range n).map fun i => subF (cs.getD (i + g) 0) (cs.getD i 0)
theorem lagL_length (cs : List Nat) (g n : Nat) : (lagL cs g n).length = n := by simp [lagL]
theorem lagL_succ (cs : List Nat) (g n : Nat) : lagL cs g (n + 1) = lagL cs g n ++ [subF (cs.getD (n + g) 0) (cs.getD n 0)] := by simp [lagL, List.range_succ]
def lagQ (cs : List Nat) (g : Int) : List Nat × Bool := if series cs && inB g 1 ((cs.length : Int) - 1) then given (lagL cs g.toNat (cs.length - g.toNat)) else ([], false)
theorem fin_numB (c : Nat) : (numB c).2 = fin c := rfl
theorem numB_val {c : Nat} (h : fin c = true) : (numB c).1 = c := by unfold numB; rw [h]; rfl
theorem above_iff {c : Nat} (h : fin c = true) : above c = fc .gtr .f32 c 0 := by unfold above; rw [h]; rfl
theorem above_fin {c : Nat} (h : above c = true) : fin c = true := by unfold above at h; simp only [Bool.and_eq_true] at h; exact h.1
/-- The even series is the normed one. -/
theorem even_no {cs : List Nat} (hs : series cs = true) (h : fin (meanL cs) = false ∨ fin (normRoot cs) = false ∨ fc .gtr .f32 (normRoot cs) 0 = false) : normQ cs = ([], false) := by
  have ha : above (normRoot cs) = false := by
    unfold above
    rcases h with h | h | h
    · rw [spread_nf hs h]; rfl
    · rw [h]; rfl
    · rw [h, Bool.and_false]
  rw [normQ, ha, Bool.and_false]; rfl
theorem even_yes {cs : List Nat} (hs : series cs = true) (h2 : fin (normRoot cs) = true) (h3 : fc .gtr .f32 (normRoot cs) 0 = true) : normQ cs = given (normL cs cs.length) := by
  have ha : above (normRoot cs) = true := by unfold above; rw [h2, h3]; rfl
  rw [normQ, hs, ha]; rfl

end Go.Proofs.Ytkkomajokdlkeaa

namespace Go.Proofs.Ytkkomajokdlkeaa
set_option linter.unusedSimpArgs false
set_option linter.unusedVariables false
set_option maxRecDepth 100000
set_option maxHeartbeats 4000000
open Go.RowKit
set_option linter.unusedSimpArgs false
set_option linter.unusedVariables false
attribute [local go_sem] run_store_float run_store_complex alloc_drewN setCell_drewN

theorem lessL_drop (cs : List Nat) (g n : Nat) : lessL (cs.drop g) cs n = lagL cs g n := by
  unfold lessL lagL
  refine List.map_congr_left fun i _ => ?_
  rw [List.getD_eq_getElem?_getD, List.getElem?_drop, ← List.getD_eq_getElem?_getD, Nat.add_comm g i]
/-- Each p-th number from i on. -/
def thinF (cs : List Nat) (p : Nat) : Nat → Nat → List Nat
  | 0, _ => []
  | f + 1, i => if i < cs.length then cs.getD i 0 :: thinF cs p f (i + p) else []
theorem thinF_fuel (cs : List Nat) (p : Nat) (hp : 1 ≤ p) : ∀ f g i, cs.length - i ≤ f → cs.length - i ≤ g → thinF cs p f i = thinF cs p g i
  | 0, 0, i, _, _ => rfl
  | 0, g + 1, i, h, _ => by rw [thinF, thinF, if_neg (by omega)]
  | f + 1, 0, i, _, h => by rw [thinF, thinF, if_neg (by omega)]
  | f + 1, g + 1, i, h1, h2 => by
    rw [thinF, thinF]
    split
    · rw [thinF_fuel cs p hp f g (i + p) (by omega) (by omega)]
    · rfl
/-- .. the rest of them. -/
def thinR (cs : List Nat) (p i : Nat) : List Nat := thinF cs p cs.length i
theorem thinR_more {cs : List Nat} {p i : Nat} (hp : 1 ≤ p) (h : i < cs.length) : thinR cs p i = cs.getD i 0 :: thinR cs p (i + p) := by
  unfold thinR
  obtain ⟨n, hn⟩ : ∃ n, cs.length = n + 1 := ⟨cs.length - 1, by omega⟩
  rw [hn, thinF, if_pos (by omega), thinF_fuel cs p hp n (n + 1) (i + p) (by omega) (by omega)]
theorem thinR_end {cs : List Nat} {p i : Nat} (h : cs.length ≤ i) : thinR cs p i = [] := by
  unfold thinR
  cases hn : cs.length with
  | zero => rfl
  | succ n => rw [thinF, if_neg (by omega)]
theorem thinF_le (cs : List Nat) (p : Nat) : ∀ f i, (thinF cs p f i).length ≤ f
  | 0, _ => Nat.le_refl _
  | f + 1, i => by
    rw [thinF]
    split
    · have := thinF_le cs p f (i + p); simp; omega
    · simp
theorem thinR_le (cs : List Nat) (p i : Nat) : (thinR cs p i).length ≤ cs.length := thinF_le cs p _ i
def thinQ (cs : List Nat) (p : Int) : List Nat × Bool := if series cs && inB p 1 cs.length then (thinR cs p.toNat 0, true) else ([], false)
/-- The sums of p numbers each. -/
def joinF (cs : List Nat) (p : Nat) : Nat → Nat → List Nat
  | 0, _ => []
  | f + 1, i => if i + p ≤ cs.length then sumL ((cs.drop i).take p) :: joinF cs p f (i + p) else []
theorem joinF_fuel (cs : List Nat) (p : Nat) (hp : 1 ≤ p) : ∀ f g i, cs.length - i ≤ f → cs.length - i ≤ g → joinF cs p f i = joinF cs p g i
  | 0, 0, i, _, _ => rfl
  | 0, g + 1, i, h, _ => by rw [joinF, joinF, if_neg (by omega)]
  | f + 1, 0, i, _, h => by rw [joinF, joinF, if_neg (by omega)]
  | f + 1, g + 1, i, h1, h2 => by
    rw [joinF, joinF]
    split
    · rw [joinF_fuel cs p hp f g (i + p) (by omega) (by omega)]
    · rfl
def joinR (cs : List Nat) (p i : Nat) : List Nat := joinF cs p cs.length i
theorem joinR_more {cs : List Nat} {p i : Nat} (hp : 1 ≤ p) (h : i + p ≤ cs.length) : joinR cs p i = sumL ((cs.drop i).take p) :: joinR cs p (i + p) := by
  unfold joinR
  obtain ⟨n, hn⟩ : ∃ n, cs.length = n + 1 := ⟨cs.length - 1, by omega⟩
  rw [hn, joinF, if_pos (by omega), joinF_fuel cs p hp n (n + 1) (i + p) (by omega) (by omega)]
theorem joinR_end {cs : List Nat} {p i : Nat} (h : cs.length < i + p) : joinR cs p i = [] := by
  unfold joinR
  cases hn : cs.length with
  | zero => rfl
  | succ n => rw [joinF, if_neg (by omega)]
theorem joinF_le (cs : List Nat) (p : Nat) : ∀ f i, (joinF cs p f i).length ≤ f
  | 0, _ => Nat.le_refl _
  | f + 1, i => by
    rw [joinF]
    split
    · have := joinF_le cs p f (i + p); simp; omega
    · simp
theorem joinR_le (cs : List Nat) (p i : Nat) : (joinR cs p i).length ≤ cs.length := joinF_le cs p _ i
def joinQ (cs : List Nat) (p : Int) : List Nat × Bool := if series cs && inB p 1 cs.length then given (joinR cs p.toNat 0) else ([], false)
/-- The means of the places of a period. -/
def foldM (cs : List Nat) (p n : Nat) : List Nat := (List.range n).map fun i => meanL (thinR cs p i)
theorem foldM_length (cs : List Nat) (p n : Nat) : (foldM cs p n).length = n := by simp [foldM]
theorem foldM_succ (cs : List Nat) (p n : Nat) : foldM cs p (n + 1) = foldM cs p n ++ [meanL (thinR cs p n)] := by simp [foldM, List.range_succ]
def seasonL (cs : List Nat) (p : Nat) : List Nat := restL (foldM cs p p) (meanL (foldM cs p p)) p
def seasonQ (cs : List Nat) (p : Int) : List Nat × Bool := if series cs && inB p 1 cs.length then given (seasonL cs p.toNat) else ([], false)
/-- An operation whose result is no NaN draws nothing. -/
theorem run_arG {P : Program} (op : BinOp) (x y D : Nat) (hD : ar op .f32 (cn .f32 x) (cn .f32 y) = D) (hn : (S.read D).isNaN = false) (t : TypeId) (w : World) :
    (binOp op t (.float .f32 x) (.float .f32 y)).run P w = .ok (.float .f32 D) w := by
  rw [ar_cn] at hD
  cases h : floatBits op .f32 x y with
  | some r =>
    have : r = D := by rw [← hD]; simp [ar, h]
    subst this
    exact run_float_arith w op t .f32 x y r h
  | none =>
    have : D = qnan .f32 := by rw [← hD]; simp [ar, h]
    subst this
    have h2 : (S.read (qnan .f32)).isNaN = true := qnan_isNaN .f32
    rw [h2] at hn; cases hn
theorem series_fin {cs : List Nat} (h : series cs = true) (i : Nat) : fin (cs.getD i 0) = true := by
  simp only [series, Bool.and_eq_true] at h
  exact fin_getD h.2 i
theorem acc_le {A R T : List Nat} {n : Nat} (h : A ++ R = T) (hT : T.length ≤ n) : A.length ≤ n := by
  have := congrArg List.length h
  rw [List.length_append] at this
  omega
theorem acc_next {A R T : List Nat} {x : Nat} (h : A ++ x :: R = T) : (A ++ [x]) ++ R = T := by rw [List.append_assoc]; exact h

theorem i_lessG (u v : Value) (cs ds : List Nat) (w : World) (hu : SB w u cs) (hv : SB w v ds) (hl : cs.length ≤ ds.length) (hn2 : ds.length ≤ 96) (hn : cs.length ≤ 96) :
    Calls Try.prog 133 #[u, v] w fun e w' => (∃ r, e = .returned r ∧ OW 33 w.heap.size w' r (lessL cs ds cs.length)) ∧ Below w.heap.size w w' := by
  obtain ⟨ao, c, rfl, hc1, hc2, hget⟩ := hu.get rfl
  obtain ⟨bo, d, rfl, hd1, hd2, hget2⟩ := hv.get rfl
  have HG := Lib.hid hget
  have HG2 := Lib.hid hget2
  clear hget hget2
  go_enter Try.func133, Try.ntmps133
  go_wp2_with fail
  go_loopw [5, 11] (fun v i wr => ∃ k : Nat, k ≤ cs.length ∧ i = .int .i64 (k : Int) ∧ Hid (OW 33 w.heap.size wr v (lessL cs ds k)) ∧ Below w.heap.size w wr) (fun _ i _ => cs.length - (intOf i).toNat)
  case atStart => exact ⟨0, Nat.zero_le _, rfl, (by show OW _ _ _ _ _; exact OW.empty _ _ rfl (Nat.le_refl _)), by (repeat (first | exact Below.refl _ _ | assumption | refine below_drewN ?_ _ | refine Below.drew ?_ | refine Below.alloc ?_ (by first | omega | (simp; omega) | (simp; done) | (simp at *; omega)) _ | refine Below.setCell ?_ (by first | omega | (simp; omega) | (simp; done) | (simp at *; omega)) _ | refine Below.trans ?_ (Below.mono (by assumption) (by first | omega | (simp; omega) | (simp; done) | (simp at *; omega)))))⟩
  case round =>
    obtain ⟨k, hk, rfl, HO, hb⟩ := hrel
    have hz := hb.size
    by_cases hlt : k < cs.length
    · obtain ⟨b, off, x, rfl, hbl, hc, hx, hcx⟩ := HG.out k hlt
      have hc' := (hb.cell (p := ⟨b, off + k, none⟩) hbl).trans hc
      obtain ⟨b2, off2, y, rfl, hbl2, hd, hy, hcy⟩ := HG2.out k (by omega)
      have hd' := (hb.cell (p := ⟨b2, off2 + k, none⟩) hbl2).trans hd
      have HX := Lib.hid hcx
      have HY := Lib.hid hcy
      have HL := Lib.hid (show (lessL cs ds k).length < 1099511627776 by rw [lessL_length]; omega)
      clear hc hd hcx hcy
      go_wp2_with (first
        | (refine wpList_ar .f32 _ _ rfl rfl rfl ?_; intro r n hr hlt1)
        | (at_builtin; refine wpList_app1 f32s w.heap.size u5 _ rfl (by first | exact OW.drewN (OW.alloc HO.out _) _ | exact OW.alloc HO.out _) _ r rfl (by simp; done) hlt1 HL.out (by simp; omega) ?_; intro v' w' ho' hg'; have HO' := Lib.hid ho'; clear ho'))
      refine ⟨⟨k + 1, by omega, by go_num, ?_, ?_⟩, by simp [intOf]; omega⟩
      · show OW _ _ _ _ _
        have h1 := HO'.out
        rw [hr, HX.out, HY.out] at h1
        rw [lessL_succ]
        exact h1
      · refine below_of_grown ?_ hg' (by simp; omega) HO.out.own_ge
        (repeat (first | exact Below.refl _ _ | assumption | refine below_drewN ?_ _ | refine Below.drew ?_ | refine Below.alloc ?_ (by first | omega | (simp; omega) | (simp; done) | (simp at *; omega)) _ | refine Below.setCell ?_ (by first | omega | (simp; omega) | (simp; done) | (simp at *; omega)) _ | refine Below.trans ?_ (Below.mono (by assumption) (by first | omega | (simp; omega) | (simp; done) | (simp at *; omega)))))
    · go_wp2_with fail
      go_ret
      obtain rfl : k = cs.length := by omega
      exact ⟨⟨_, rfl, HO.out⟩, hb⟩

theorem i_LagDifferences (v : Value) (cs : List Nat) (p : Int) (w : World) (hv : SB w v cs) :
    Calls Try.prog 110 #[v, .int .i64 p] w fun z w' => LB 33 w.heap.size w' z (lagQ cs p) ∧ Below w.heap.size w w' := by
  have HV := Lib.hid hv
  obtain ⟨ao, c, rfl, hcap, hlen⟩ := hv.sl.slice2
  clear hv
  cases hs : series cs
  · have HS0 := Lib.hid hs
    clear hs
    go_enter Try.func110, Try.ntmps110
    go_wp2_with (go_at_call 60; refine (i_IsSeries _ cs _ HV.out.sl).mono ?_; rintro z w1 ⟨rfl, n1, rfl⟩; rw [HS0.out])
    go_ret2
    exact ⟨LB.no _ _ _ (by rw [lagQ, HS0.out]; rfl), by (repeat (first | exact Below.refl _ _ | assumption | refine below_drewN ?_ _ | refine Below.drew ?_ | refine Below.alloc ?_ (by first | omega | (simp; omega) | (simp; done) | (simp at *; omega)) _ | refine Below.setCell ?_ (by first | omega | (simp; omega) | (simp; done) | (simp at *; omega)) _ | refine Below.trans ?_ (Below.mono (by assumption) (by first | omega | (simp; omega) | (simp; done) | (simp at *; omega)))))⟩
  · obtain ⟨hl1, hl2⟩ := series_len hs
    have HS0 := Lib.hid hs
    clear hs
    have hw1 : IntKind.i64.wrap ((cs.length : Int) - 1) = (cs.length : Int) - 1 := by rw [IntKind.wrap_i64]; omega
    cases hin : inB p 1 ((cs.length : Int) - 1)
    · have HIN := Lib.hid hin
      clear hin
      go_enter Try.func110, Try.ntmps110
      go_wp2_with (first | (go_at_call 60; refine (i_IsSeries _ cs _ HV.out.sl).mono ?_; rintro z w1 ⟨rfl, n1, rfl⟩; rw [HS0.out]) | (go_at_call 56; refine (i_within _ _ _ _).mono ?_; rintro z w2 ⟨rfl, n2, rfl⟩; rw [HIN.out]))
      go_ret2
      exact ⟨LB.no _ _ _ (by rw [lagQ, HS0.out, HIN.out]; rfl), by (repeat (first | exact Below.refl _ _ | assumption | refine below_drewN ?_ _ | refine Below.drew ?_ | refine Below.alloc ?_ (by first | omega | (simp; omega) | (simp; done) | (simp at *; omega)) _ | refine Below.setCell ?_ (by first | omega | (simp; omega) | (simp; done) | (simp at *; omega)) _ | refine Below.trans ?_ (Below.mono (by assumption) (by first | omega | (simp; omega) | (simp; done) | (simp at *; omega)))))⟩
    have hin' := hin
    simp only [Bool.and_eq_true, inB, decide_eq_true_eq] at hin'
    obtain ⟨hp1, hp2⟩ := hin'
    obtain ⟨q, rfl⟩ := Int.eq_ofNat_of_zero_le (show 0 ≤ p by omega)
    have hq1 : 1 ≤ q := by omega
    have hq2 : q + 1 ≤ cs.length := by omega
    have HIN := Lib.hid hin
    clear hin hp1 hp2
    have j1 : 0 ≤ (q : Int) := by omega
    have j2 : (q : Int) ≤ (cs.length : Int) := by omega
    have j3 : (q : Int).toNat = q := by omega
    go_enter Try.func110, Try.ntmps110
    go_wp2_with (first | (go_at_call 60; refine (i_IsSeries _ cs _ HV.out.sl).mono ?_; rintro z w1 ⟨rfl, n1, rfl⟩; rw [HS0.out]) | (go_at_call 56; refine (i_within _ _ _ _).mono ?_; rintro z w2 ⟨rfl, n2, rfl⟩; rw [HIN.out]))
    have HS1 := Lib.hid (by have h := SB.sub HV.out (lo := q) (hi := cs.length) (by omega) (Nat.le_refl _); rw [if_neg (by omega)] at h; exact h)
    have HLD := Lib.hid (show ((cs.drop q).take (cs.length - q)).length = cs.length - q by simp)
    have HQ := Lib.hid (show lagQ cs (q : Int) = given (lagL cs q (cs.length - q)) by unfold lagQ; rw [HS0.out, HIN.out]; rfl)
    have HDT := Lib.hid (show (cs.drop q).take (cs.length - q) = cs.drop q from List.take_of_length_le (by simp))
    go_wp2_with fail
    refine (i_lessG _ _ ((cs.drop q).take (cs.length - q)) cs _ (HS1.out.drewN _) (HV.out.drewN _) (by rw [HLD.out]; omega) hl2 (by rw [HLD.out]; omega)).mono ?_; rintro e w3 ⟨⟨u, rfl, ho⟩, hb3⟩; rw [HLD.out, HDT.out, lessL_drop] at ho; have HO := Lib.hid ho; clear ho
    go_wp2_with fail
    refine (i_ifAll _ _ _ HO.out.sb.sl).mono ?_; rintro z w4 ⟨⟨u4, q', rfl, hu, hq⟩, n4, rfl⟩; have HU := Lib.hid hu; have HQ2 := Lib.hid hq; clear hu hq
    go_wp2_with fail
    go_ret2
    exact ⟨LB.given (OW.drewN HO.out _) HU.out HQ2.out HQ.out, below_drewN (below_undrew hb3) _⟩

end Go.Proofs.Ytkkomajokdlkeaa
