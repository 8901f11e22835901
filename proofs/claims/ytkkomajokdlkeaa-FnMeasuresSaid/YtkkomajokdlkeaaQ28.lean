/- Contracts: sizes and the best of three places, by the reference. Written by mk161.py. -/
import Derived.BigQuiet
import Derived.Test.YtkkomajokdlkeaaQ2
import Derived.Test.YtkkomajokdlkeaaQ3
import Derived.Test.YtkkomajokdlkeaaQ8
import Derived.Test.YtkkomajokdlkeaaQ21
import Derived.Test.YtkkomajokdlkeaaQ26
import Derived.Test.YtkkomajokdlkeaaQ27
namespace Go.Proofs.Ytkkomajokdlkeaa
set_option linter.unusedSimpArgs false
set_option linter.unusedVariables false
set_option maxRecDepth 100000
set_option maxHeartbeats 4000000
open Go.RowKit
attribute [local go_sem] run_store_float run_store_complex alloc_drewN setCell_drewN
/-- The way to what is best, as the reference hands it on. -/
def wbW (o : Option (Nat × Nat)) : Int := match o with | none => -1 | some b => (b.1 : Int)
theorem order_of_lssW {x y : Nat} {b : Bool} (h : fc .lss .f32 (cn .f32 x) (cn .f32 y) = b) : (FloatKind.f32.format.order x y == some .lt) = b := by
  rw [← order_cn]
  exact h

end Go.Proofs.Ytkkomajokdlkeaa

namespace Go.Proofs.Ytkkomajokdlkeaa
set_option linter.unusedSimpArgs false
set_option linter.unusedVariables false
set_option maxRecDepth 100000
set_option maxHeartbeats 4000000
open Go.RowKit
attribute [local go_sem] run_store_float run_store_complex alloc_drewN setCell_drewN
/-- An operation whose result is no NaN, at every world. -/
theorem run_arx {P : Program} (op : BinOp) (x y D : Nat) (hD : ar op .f32 (cn .f32 x) (cn .f32 y) = D) (hn : (S.read D).isNaN = false) (t : TypeId) (w : World) :
    (binOp op t (.float .f32 x) (.float .f32 y)).run P w = .ok (.float .f32 D) w := by
  rw [ar_cn] at hD
  cases h : floatBits op .f32 x y with
  | some r =>
    have : r = D := by rw [← hD]; simp [ar, h]
    subst this
    exact run_float_arith w op t .f32 x y r h
  | none =>
    have : D = qnan .f32 := by rw [← hD]; simp [ar, h]
    subst this
    have h2 : (S.read (qnan .f32)).isNaN = true := qnan_isNaN .f32
    rw [h2] at hn; cases hn
theorem getD_under {A B : List Nat} {i : Nat} (h : i < A.length) : (A ++ B).getD i 0 = A.getD i 0 := by
  simp [List.getElem?_append_left h]
theorem set_end (A : List Nat) (x y n : Nat) : (A ++ x :: List.replicate n 0).set A.length y = A ++ y :: List.replicate n 0 := by
  rw [List.set_append_right _ _ (Nat.le_refl _), Nat.sub_self]; rfl
theorem rep_open {n m : Nat} (h : n < m) : List.replicate (m - n) 0 = 0 :: List.replicate (m - (n + 1)) (0 : Nat) := by
  rw [show m - n = (m - (n + 1)) + 1 by omega]; rfl
theorem cand_place {wide n m zz : Nat} (hz : zz = n * wide + m) {b : Nat} (hb : b < 3) (h0 : 0 ≤ candI b n) (h1 : 0 ≤ candK b m) :
    ∃ yy : Nat, (candI b n).toNat * wide + (candK b m).toNat = yy ∧ (b = 0 ∧ (zz : Int) - (wide : Int) = (yy : Int) ∨ b = 1 ∧ (zz : Int) - 1 = (yy : Int) ∨ b = 2 ∧ (zz : Int) - (wide : Int) - 1 = (yy : Int)) := by
  refine ⟨_, rfl, ?_⟩
  have h3 : b = 0 ∨ b = 1 ∨ b = 2 := by omega
  rcases h3 with rfl | rfl | rfl
  · have h0' : 0 ≤ (n : Int) - 1 := h0
    obtain ⟨k, rfl⟩ : ∃ k, n = k + 1 := ⟨n - 1, by omega⟩
    have e1 : (candI 0 ((k + 1 : Nat) : Int)).toNat = k := by show (((k + 1 : Nat) : Int) - 1).toNat = k; omega
    have e2 : (candK 0 (m : Int)).toNat = m := by show ((m : Int)).toNat = m; omega
    rw [e1, e2, hz, Nat.add_mul]
    exact .inl ⟨rfl, by omega⟩
  · have h1' : 0 ≤ (m : Int) - 1 := h1
    have e1 : (candI 1 (n : Int)).toNat = n := by show ((n : Int)).toNat = n; omega
    have e2 : (candK 1 (m : Int)).toNat = m - 1 := by show ((m : Int) - 1).toNat = m - 1; omega
    rw [e1, e2, hz]
    exact .inr (.inl ⟨rfl, by omega⟩)
  · have h0' : 0 ≤ (n : Int) - 1 := h0
    have h1' : 0 ≤ (m : Int) - 1 := h1
    obtain ⟨k, rfl⟩ : ∃ k, n = k + 1 := ⟨n - 1, by omega⟩
    have e1 : (candI 2 ((k + 1 : Nat) : Int)).toNat = k := by show (((k + 1 : Nat) : Int) - 1).toNat = k; omega
    have e2 : (candK 2 (m : Int)).toNat = m - 1 := by show ((m : Int) - 1).toNat = m - 1; omega
    rw [e1, e2, hz, Nat.add_mul]
    exact .inr (.inr ⟨rfl, by omega⟩)
theorem szS_notNaN {x : Nat} (h : x < 4294967296) (hn : (S.read x).isNaN = false) : (S.read (szS x)).isNaN = false := by
  unfold szS
  split
  · exact negw_notNaN h hn
  · exact hn

end Go.Proofs.Ytkkomajokdlkeaa

namespace Go.Proofs.Ytkkomajokdlkeaa
set_option linter.unusedSimpArgs false
set_option linter.unusedVariables false
set_option maxRecDepth 100000
set_option maxHeartbeats 4000000
open Go.RowKit
attribute [local go_sem] run_store_float run_store_complex alloc_drewN setCell_drewN
/-- A list turned round from both ends, so far. -/
def revL (xs : List Int) (k : Nat) : List Int := (List.range xs.length).map fun i => if i < k ∨ xs.length - k ≤ i then xs.getD (xs.length - 1 - i) 0 else xs.getD i 0
theorem revL_length (xs : List Int) (k : Nat) : (revL xs k).length = xs.length := by simp [revL]
theorem revL_get (xs : List Int) (k i : Nat) (h : i < xs.length) : (revL xs k).getD i 0 = if i < k ∨ xs.length - k ≤ i then xs.getD (xs.length - 1 - i) 0 else xs.getD i 0 := by
  simp [revL, List.getD_eq_getElem?_getD, List.getElem?_map, List.getElem?_range h]
theorem list_ext_getD {a b : List Int} (hl : a.length = b.length) (h : ∀ i, i < a.length → a.getD i 0 = b.getD i 0) : a = b := by
  refine List.ext_getElem hl fun i h1 h2 => ?_
  have := h i h1
  rw [List.getD_eq_getElem?_getD, List.getD_eq_getElem?_getD, List.getElem?_eq_getElem h1, List.getElem?_eq_getElem h2] at this
  exact this
theorem revL_zero (xs : List Int) : revL xs 0 = xs := by
  refine list_ext_getD (revL_length _ _) fun i hi => ?_
  rw [revL_length] at hi
  rw [revL_get _ _ _ hi, if_neg (by omega)]
theorem getD_setI (l : List Int) (k i : Nat) (x : Int) (hk : k < l.length) : (l.set k x).getD i 0 = if i = k then x else l.getD i 0 := by
  rw [List.getD_eq_getElem?_getD, List.getElem?_set, List.getD_eq_getElem?_getD]
  by_cases h : k = i
  · subst h; simp [hk]
  · rw [if_neg h, if_neg (fun e => h e.symm)]
theorem revL_step (xs : List Int) (k j : Nat) (hj : j + k + 1 = xs.length) (hk : k < j) : ((revL xs k).set k (xs.getD j 0)).set j (xs.getD k 0) = revL xs (k + 1) := by
  refine list_ext_getD (by simp [revL_length]) fun i hi => ?_
  have hi' : i < xs.length := by simpa [revL_length] using hi
  rw [getD_setI _ _ _ _ (by rw [List.length_set, revL_length]; omega), getD_setI _ _ _ _ (by rw [revL_length]; omega), revL_get _ _ _ hi', revL_get _ _ _ hi']
  by_cases h1 : i = j
  · rw [if_pos h1, if_pos (by omega), h1, show xs.length - 1 - j = k by omega]
  · rw [if_neg h1]
    by_cases h2 : i = k
    · rw [if_pos h2, if_pos (by omega), h2, show xs.length - 1 - k = j by omega]
    · rw [if_neg h2]
      by_cases h3 : i < k ∨ xs.length - k ≤ i
      · rw [if_pos h3, if_pos (by omega)]
      · rw [if_neg h3, if_neg (by omega)]
theorem revL_end (xs : List Int) (k : Nat) (h : xs.length ≤ 2 * k + 1) : revL xs k = xs.reverse := by
  refine list_ext_getD (by simp [revL_length]) fun i hi => ?_
  have hi' : i < xs.length := by simpa [revL_length] using hi
  have hr : xs.reverse.getD i 0 = xs.getD (xs.length - 1 - i) 0 := by
    rw [List.getD_eq_getElem?_getD, List.getElem?_reverse hi', List.getD_eq_getElem?_getD]
  rw [revL_get _ _ _ hi', hr]
  split
  · rfl
  · rw [show xs.length - 1 - i = i by omega]
theorem grown_transW {w w1 w2 : World} {r : Option Nat} (h : w.grownBy w1 r) (h' : w1.grownBy w2 r) : w.grownBy w2 r :=
  grown_trans h h'
/-- The costs, if all are finite; the least cost. -/
def costsQ (sz : Nat → Nat) (ge : Nat → Bool) (cs ds : List Nat) (window : Int) : List Nat × Bool := if wpOk cs ds window then given (wpC sz ge cs ds window) else ([], false)
def wfarQ (sz : Nat → Nat) (ge : Nat → Bool) (cs ds : List Nat) (window : Int) : Nat × Bool := if wpYes sz ge cs ds window then ((wpC sz ge cs ds window).getD (cs.length * ds.length - 1) 0, true) else (0, false)
theorem wpOk_parts {cs ds : List Nat} {window : Int} (h : wpOk cs ds window = true) : allFin cs = true ∧ allFin ds = true ∧ 1 ≤ cs.length ∧ cs.length ≤ 96 ∧ 1 ≤ ds.length ∧ ds.length ≤ 96 ∧ 0 ≤ window ∧ window ≤ 96 := by
  simp only [wpOk, series, Bool.and_eq_true, decide_eq_true_eq] at h
  obtain ⟨⟨⟨⟨⟨h1, h2⟩, h3⟩, ⟨h4, h5⟩, h6⟩, h7⟩, h8⟩ := h
  exact ⟨h3, h6, h1, h2, h4, h5, h7, h8⟩
theorem wpC_length (sz : Nat → Nat) (ge : Nat → Bool) (cs ds : List Nat) (window : Int) : (wpC sz ge cs ds window).length = cs.length * ds.length := wList_length ..

theorem i_isWindow (u v : Value) (cs ds : List Nat) (window : Int) (w : World) (hu : SL w u cs) (hv : SL w v ds) :
    Calls Try.prog 90 #[u, v, .int .i64 window] w fun e w' => e = .returned (.bool (wpOk cs ds window)) ∧ Dr w w' := by
  have hq : wpOk cs ds window = (series cs && series ds && inB window 0 96) := by unfold wpOk inB; rw [Bool.and_assoc]
  rw [hq]
  clear hq
  have HU := Lib.hid hu
  have HV := Lib.hid hv
  clear hu hv
  cases h1 : series cs
  all_goals
    have H1 := Lib.hid h1
    clear h1
    cases h2 : series ds
    all_goals
      have H2 := Lib.hid h2
      clear h2
      go_enter Try.func90, Try.ntmps90
      go_wp2_with fail
      refine (i_IsSeries _ cs _ HU.out).mono ?_; rintro e w1 ⟨rfl, n1, rfl⟩
      rw [H1.out]
      go_wp2_with fail
      first
        | (go_ret; exact ⟨rfl, Dr.mk _ _⟩)
        | (refine (i_IsSeries _ ds _ (HV.out.drewN _)).mono ?_; rintro e w2 ⟨rfl, n2, rfl⟩
           rw [H2.out]
           go_wp2_with fail
           first
             | (go_ret; exact ⟨rfl, Dr.mk _ _⟩)
             | (refine (i_within _ _ _ _).mono ?_; rintro e w3 ⟨rfl, n3, rfl⟩
                go_wp2_with fail
                go_ret
                exact ⟨rfl, Dr.mk _ _⟩))

theorem fldW (a : Option Addr) (b c : Nat) (i : Int) (w : World) : (Instr.field 126 (.agg #[.slice a b c, .int .i64 i]) 0).run Try.prog w = .ok (.slice a b c) w := by
  have hs : ∀ w, (sizeOf 26).run Try.prog w = .ok 1 w := by intro w; go_simp
  simp [Instr.field, run_underlying Try.underlying126, go_sem, hs, asAgg, part]
theorem i_WarpCosts (u v : Value) (cs ds : List Nat) (window : Int) (w : World) (hu : SB w u cs) (hv : SB w v ds) :
    Calls Try.prog 132 #[u, v, .int .i64 window] w fun e w' => LB 33 w.heap.size w' e (costsQ szI geI cs ds window) ∧ Below w.heap.size w w' := by
  have HU := Lib.hid hu
  have HV := Lib.hid hv
  clear hu hv
  cases hok : wpOk cs ds window
  · have HOK := Lib.hid hok
    clear hok
    go_enter Try.func132, Try.ntmps132
    go_wp2_with fail
    refine (i_isWindow _ _ cs ds window _ HU.out.sl HV.out.sl).mono ?_; rintro e w1 ⟨rfl, n1, rfl⟩
    rw [HOK.out]
    go_wp2_with fail
    go_ret2
    exact ⟨LB.no _ _ _ (by rw [costsQ, HOK.out]; rfl), by (repeat (first | exact Below.refl _ _ | assumption | refine below_drewN ?_ _ | refine Below.drew ?_ | refine Below.alloc ?_ (by first | omega | (simp; omega) | (simp; done) | (simp at *; omega)) _ | refine Below.setCell ?_ (by first | omega | (simp; omega) | (simp; done) | (simp at *; omega)) _ | refine Below.trans ?_ (Below.mono (by assumption) (by first | omega | (simp; omega) | (simp; done) | (simp at *; omega)))))⟩
  · obtain ⟨p1, p2, p3, p4, p5, p6, p7, p8⟩ := wpOk_parts hok
    have HOK := Lib.hid hok
    clear hok
    go_enter Try.func132, Try.ntmps132
    go_wp2_with fail
    refine (i_isWindow _ _ cs ds window _ HU.out.sl HV.out.sl).mono ?_; rintro e w1 ⟨rfl, n1, rfl⟩
    rw [HOK.out]
    go_wp2_with fail
    refine (i_warped _ _ cs ds window _ (HU.out.drewN _) (HV.out.drewN _) p1 p2 p3 p4 p5 p6).mono ?_; rintro e w2 ⟨⟨s, rfl, hs⟩, hb⟩
    have HS := Lib.hid hs
    have hb2 : Below w.heap.size w w2 := (below_drewN (Below.refl _ w) n1).trans hb
    obtain ⟨so, sc, rfl, -⟩ := hs.sb.sl.slice
    clear hs hb
    have FW := fun w => fldW so (wpC szI geI cs ds window).length sc ds.length w
    go_wp2_with fail
    have HQ := Lib.hid (show costsQ szI geI cs ds window = given (wpC szI geI cs ds window) by rw [costsQ, HOK.out]; rfl)
    cases hp : allFin (wpC szI geI cs ds window)
    all_goals
      refine (i_ifAll _ _ _ HS.out.sb.sl).mono ?_; rintro e w3 ⟨⟨r, b, rfl, hr, hbb⟩, n3, rfl⟩
      have HG := Lib.hid (LB.given (OW.drewN (HS.out.down (base' := w.heap.size) (by simp)) n3) hr hbb HQ.out)
      rw [hp] at hr hbb
      subst hbb
      simp only [if_true, Bool.false_eq_true, if_false] at hr
      subst hr
      go_wp2_with fail
      go_ret2
      exact ⟨HG.out, below_drewN hb2 n3⟩

end Go.Proofs.Ytkkomajokdlkeaa

namespace Go.Proofs.Ytkkomajokdlkeaa
set_option linter.unusedSimpArgs false
set_option linter.unusedVariables false
set_option maxRecDepth 100000
set_option maxHeartbeats 4000000
open Go.RowKit
attribute [local go_sem] run_store_float run_store_complex alloc_drewN setCell_drewN
theorem costs_some {sz : Nat → Nat} {ge : Nat → Bool} {cs ds : List Nat} {window : Int} (h : (costsQ sz ge cs ds window).2 = true) : wpOk cs ds window = true ∧ allFin (wpC sz ge cs ds window) = true ∧ (costsQ sz ge cs ds window).1 = wpC sz ge cs ds window := by
  cases ho : wpOk cs ds window
  · rw [costsQ, ho] at h; cases h
  · rw [costsQ, ho] at h ⊢
    have h' : allFin (wpC sz ge cs ds window) = true := h
    refine ⟨rfl, h', ?_⟩
    show (if allFin (wpC sz ge cs ds window) then wpC sz ge cs ds window else []) = _
    rw [h']; rfl
theorem yes_none {sz : Nat → Nat} {ge : Nat → Bool} {cs ds : List Nat} {window : Int} (h : (costsQ sz ge cs ds window).2 = false) : wpYes sz ge cs ds window = false := by
  cases ho : wpOk cs ds window
  · rw [wpYes, ho]; rfl
  · rw [costsQ, ho] at h
    have h' : allFin (wpC sz ge cs ds window) = false := h
    rw [wpYes, ho, h']; rfl
theorem last_lt {n m : Nat} (hn : 1 ≤ n) (hm : 1 ≤ m) : n * m - 1 < n * m := by
  have : 1 * 1 ≤ n * m := Nat.mul_le_mul hn hm
  omega
theorem wBack_more (ge : Nat → Bool) (hg : ge neg1 = false) (C : List Nat) (wide : Nat) : ∀ (n m : Nat) (i k : Int), 0 ≤ i → 0 ≤ k → (i + k).toNat < n → (i + k).toNat < m → wBack ge C wide n i k = wBack ge C wide m i k
  | 0, _, _, _, _, _, h, _ => by omega
  | _ + 1, 0, _, _, _, _, _, h => by omega
  | n + 1, m + 1, i, k, hi, hk, h1, h2 => by
    rw [wBack, wBack]
    cases h : wThree ge C wide i k 3 with
    | none => rfl
    | some b =>
      obtain ⟨p1, p2, p3, p4, p5⟩ := wThree_place hg h
      dsimp only
      rw [wBack_more ge hg C wide n m _ _ p1 p2 (by omega) (by omega)]

theorem i_WarpFar (u v : Value) (cs ds : List Nat) (window : Int) (w : World) (hu : SB w u cs) (hv : SB w v ds) :
    Calls Try.prog 92 #[u, v, .int .i64 window] w fun e w' => (∃ r b, e = .returned (.tuple #[.float .f32 r, .bool b]) ∧ r < 4294967296 ∧ cn .f32 r = (wfarQ szI geI cs ds window).1 ∧ b = (wfarQ szI geI cs ds window).2) ∧ Below w.heap.size w w' := by
  have HU := Lib.hid hu
  have HV := Lib.hid hv
  clear hu hv
  cases hok : (costsQ szI geI cs ds window).2
  · have HOK := Lib.hid hok
    have HNO := Lib.hid (yes_none hok)
    clear hok
    go_enter Try.func92, Try.ntmps92
    go_wp2_with fail
    refine (i_WarpCosts _ _ cs ds window _ HU.out HV.out).mono ?_; rintro e w1 ⟨⟨s, b, rfl, hs, hb⟩, hbl⟩
    rw [HOK.out] at hb
    subst hb
    go_wp2_with fail
    go_ret2
    exact ⟨⟨_, _, rfl, by decide, by rw [wfarQ, HNO.out]; exact cn0, by rw [wfarQ, HNO.out]; rfl⟩, hbl⟩
  · obtain ⟨hko, hka, hkl⟩ := costs_some hok
    obtain ⟨p1, p2, p3, p4, p5, p6, p7, p8⟩ := wpOk_parts hko
    have HOK := Lib.hid hok
    have HYE := Lib.hid (show wpYes szI geI cs ds window = !fc .lss .f32 ((wpC szI geI cs ds window).getD (cs.length * ds.length - 1) 0) 0 by rw [wpYes, hko, hka]; rfl)
    have HKL := Lib.hid hkl
    clear hok hkl
    have HQF := Lib.hid (fun (h : fc .lss .f32 ((wpC szI geI cs ds window).getD (cs.length * ds.length - 1) 0) 0 = false) => show wfarQ szI geI cs ds window = ((wpC szI geI cs ds window).getD (cs.length * ds.length - 1) 0, true) by rw [wfarQ, HYE.out, h]; rfl)
    have HQT := Lib.hid (fun (h : fc .lss .f32 ((wpC szI geI cs ds window).getD (cs.length * ds.length - 1) 0) 0 = true) => show wfarQ szI geI cs ds window = (0, false) by rw [wfarQ, HYE.out, h]; rfl)
    clear HYE
    have hNN : cs.length * ds.length ≤ 96 * 96 := Nat.mul_le_mul p4 p6
    have hlast := last_lt p3 p5
    have HCL := Lib.hid (wpC_length szI geI cs ds window)
    generalize cs.length * ds.length = NN at *
    cases hl : fc .lss .f32 ((wpC szI geI cs ds window).getD (NN - 1) 0) 0
    all_goals
      have HL := Lib.hid hl
      clear hl
      go_enter Try.func92, Try.ntmps92
      go_wp2_with fail
      refine (i_WarpCosts _ _ cs ds window _ HU.out HV.out).mono ?_; rintro e w1 ⟨⟨s, b, rfl, hs, hb⟩, hbl⟩
      rw [HOK.out] at hb
      subst hb
      rw [HKL.out] at hs
      obtain ⟨so, sc, rfl, -, -, hget⟩ := hs.sb.get HCL.out
      obtain ⟨bb, oo, r, rfl, hbl1, hcell, hr, hcr⟩ := hget (NN - 1) hlast
      have hoL := order_of_lssW (x := r) (y := 0) ((show fc .lss .f32 (cn .f32 r) (cn .f32 0) = fc .lss .f32 ((wpC szI geI cs ds window).getD (NN - 1) 0) 0 by rw [hcr, cn0]).trans HL.out)
      have hz1 : (NN : Int) - 1 = ((NN - 1 : Nat) : Int) := by omega
      have hw1 : IntKind.i64.wrap ((NN : Int) - 1) = ((NN - 1 : Nat) : Int) := by rw [IntKind.wrap_i64]; omega
      have HCR := Lib.hid hcr
      clear hs hget hcr
      generalize hn1 : NN - 1 = n1 at *
      have hzi : (n1 : Int) < (NN : Int) := by omega
      have hz0 : 0 ≤ (n1 : Int) := by omega
      have hzn : ((n1 : Int)).toNat = n1 := by omega
      go_wp2_with fail
      go_ret2
    · exact ⟨⟨_, _, rfl, hr, by rw [HQF.out HL.out]; exact HCR.out, by rw [HQF.out HL.out]⟩, hbl⟩
    · exact ⟨⟨_, _, rfl, by decide, by rw [HQT.out HL.out]; exact cn0, by rw [HQT.out HL.out]⟩, hbl⟩
theorem two_cells (w : World) (x y : Int) (T : TypeId) : ∀ i u, [x, y][i]? = some u → (w.alloc (.cells #[.int .i64 x, .int .i64 y] T)).cell? ⟨w.heap.size, i, none⟩ = some (.int .i64 u)
  | 0, u, h => by simp at h; subst h; simp
  | 1, u, h => by simp at h; subst h; simp
  | i + 2, u, h => by simp at h

end Go.Proofs.Ytkkomajokdlkeaa

namespace Go.Proofs.Ytkkomajokdlkeaa
set_option linter.unusedSimpArgs false
set_option linter.unusedVariables false
set_option maxRecDepth 100000
set_option maxHeartbeats 4000000
open Go.RowKit
attribute [local go_sem] run_store_float run_store_complex alloc_drewN setCell_drewN
/-- The first of the least ones among the first k + 1. -/
def nwI (f : Nat → Nat) : Nat → Nat
  | 0 => 0
  | k + 1 => if fc .lss .f32 (f (k + 1)) (f (nwI f k)) then k + 1 else nwI f k
theorem nwI_le (f : Nat → Nat) : ∀ k, nwI f k ≤ k
  | 0 => Nat.le_refl _
  | k + 1 => by rw [nwI]; split; exact Nat.le_refl _; exact Nat.le_succ_of_le (nwI_le f k)

theorem i_areWorkers (n : Int) (w : World) : Calls Try.prog 91 #[.int .i64 n] w fun e w' => e = .returned (.bool (inB n 1 8)) ∧ Dr w w' := by
  go_enter Try.func91, Try.ntmps91
  go_wp2_with fail
  refine (i_within _ _ _ _).mono ?_; rintro e w1 ⟨rfl, n1, rfl⟩
  go_wp2_with fail
  go_ret
  exact ⟨rfl, _, rfl⟩

theorem i_NearestWarped (u v : Value) (css : List (List Nat)) (xs : List Nat) (window workers : Int) (f : Nat → Nat) (w : World) (hu : SS w u css) (hv : SB w v xs) (hl : listOk css = true) (h1 : 1 ≤ css.length) (h2 : css.length ≤ 16) (hw : wpOk (rowL css 0) xs window = true) (hk : inB workers 1 8 = true)
    (hf : ∀ i, i < css.length → wfarQ szI geI (rowL css i) xs window = (f i, true)) :
    Calls Try.prog 33 #[u, v, .int .i64 window, .int .i64 workers] w fun e w' => (∃ r, e = .returned (.tuple #[.int .i64 (nwI f (css.length - 1) : Nat), .float .f32 r, .bool true]) ∧ r < 4294967296 ∧ cn .f32 r = f (nwI f (css.length - 1))) ∧ Below w.heap.size w w' := by
  have HU := Lib.hid hu
  have HV := Lib.hid hv
  obtain ⟨ao, c, rfl, hc1, hc2, hget⟩ := hu.get rfl
  have HG := Lib.hid hget
  have HL := Lib.hid hl
  have HW := Lib.hid hw
  have HK := Lib.hid hk
  have HF := Lib.hid hf
  clear hget hu hv hl hw hk hf
  obtain ⟨b0, off0, u0, e0, hbl0, hc0, hs0⟩ := HG.out 0 (by omega)
  subst e0
  rw [Nat.add_zero] at hc0
  have HS0 := Lib.hid (show SB w u0 (rowL css 0) from hs0)
  clear hs0
  have h00 : (0 : Int) < (css.length : Int) := by omega
  go_enter Try.func33, Try.ntmps33
  go_wp2_with fail
  refine (i_areShapes _ css _ HU.out).mono ?_; rintro e w1 ⟨rfl, hb1⟩
  rw [HL.out]
  have hc0' := (hb1.cell (p := ⟨b0, off0, none⟩) hbl0).trans hc0
  have hz1 := hb1.size
  go_wp2_with fail
  refine (i_isWindow _ _ (rowL css 0) xs window _ (HS0.out.keep hb1).sl (HV.out.keep hb1).sl).mono ?_; rintro e w2 ⟨rfl, n2, rfl⟩
  rw [HW.out]
  go_wp2_with fail
  refine (i_areWorkers workers _).mono ?_; rintro e w3 ⟨rfl, n3, rfl⟩
  rw [HK.out]
  have HB3 := Lib.hid (below_drewN hb1 (n2 + n3))
  clear hb1 hc0' hz1
  go_wp2_with fail
  go_loopw [11, 12, 36] (fun bv lv iv wr => ∃ k : Nat, k ≤ css.length ∧ iv = .int .i64 (k : Int) ∧ Hid (bv = .int .i64 (if k = 0 then (-1 : Int) else ((nwI f (k - 1) : Nat) : Int))) ∧ (∃ r, lv = .float .f32 r ∧ r < 4294967296 ∧ Hid (0 < k → cn .f32 r = f (nwI f (k - 1)))) ∧ Below w.heap.size w wr) (fun _ _ iv _ => css.length - (intOf iv).toNat)
  case atStart => exact ⟨0, Nat.zero_le _, rfl, Lib.hid rfl, ⟨0, rfl, by omega, Lib.hid (fun h => by omega)⟩, HB3.out⟩
  case round =>
    clear HB3
    obtain ⟨k, hk, rfl, HBV, ⟨rl, rfl, hrl, HRL⟩, hb⟩ := hrel
    have hz := hb.size
    obtain ⟨bi, hbi⟩ : ∃ bi : Int, bi = (if k = 0 then (-1 : Int) else ((nwI f (k - 1) : Nat) : Int)) := ⟨_, rfl⟩
    have HBI := Lib.hid hbi
    rw [← hbi] at HBV
    obtain rfl := HBV.out
    have hb0 : k = 0 → bi < 0 := fun h => by rw [hbi, if_pos h]; decide
    have hb1 : 0 < k → ¬ bi < 0 := fun h => by rw [hbi, if_neg (by omega)]; omega
    clear hbi HBV
    by_cases hlt : k < css.length
    · obtain ⟨b1, o1, l, e1, hbl1, hcl, hsl⟩ := HG.out k hlt
      simp only [Option.some.injEq, Addr.mk.injEq, and_true] at e1
      obtain ⟨rfl, rfl⟩ := e1
      have hcl' := (hb.cell (p := ⟨b0, off0 + k, none⟩) hbl1).trans hcl
      have HSL := Lib.hid (show SB w l (rowL css k) from hsl)
      have HFK := Lib.hid (HF.out k hlt)
      clear hcl hsl
      have hki : (k : Int) < (css.length : Int) := by omega
      go_wp2_with fail
      refine (i_WarpFar _ _ (rowL css k) xs window _ (HSL.out.keep hb) (HV.out.keep hb)).mono ?_; rintro e w5 ⟨⟨r, b, rfl, hr, hcr, hbb⟩, hb5⟩
      rw [HFK.out] at hcr hbb
      subst hbb
      have hbw5 : Below w.heap.size w w5 := hb.trans (hb5.mono hz)
      clear hb5 hcl'
      rcases Nat.eq_zero_or_pos k with h0 | h0
      · have hbn := hb0 h0
        have HCR := Lib.hid hcr
        have HK0 := Lib.hid h0
        clear h0 hb0 hb1 hcr
        go_wp2_with fail
        refine ⟨⟨k + 1, by omega, by go_num, Lib.hid ?_, ⟨r, rfl, hr, Lib.hid (fun _ => ?_)⟩, hbw5⟩, by simp [intOf]; omega⟩
        · rw [HK0.out]; rfl
        · rw [HCR.out, HK0.out]; rfl
      · have hbn := hb1 h0
        have HLC := Lib.hid (HRL.out h0)
        have HST := Lib.hid (show nwI f k = if fc .lss .f32 (f k) (f (nwI f (k - 1))) then k else nwI f (k - 1) by
          obtain ⟨m, rfl⟩ : ∃ m, k = m + 1 := ⟨k - 1, by omega⟩
          rfl)
        have HBV2 := Lib.hid (show bi = (nwI f (k - 1) : Nat) by rw [HBI.out, if_neg (by omega)])
        cases hl : fc .lss .f32 (f k) (f (nwI f (k - 1)))
        all_goals
          have oL := order_of_lssW (x := r) (y := rl) ((show fc .lss .f32 (cn .f32 r) (cn .f32 rl) = fc .lss .f32 (f k) (f (nwI f (k - 1))) by rw [hcr, HLC.out]).trans hl)
          rw [hl] at HST
          have HCR := Lib.hid hcr
          clear hcr hb0 hb1 hl
          go_wp2_with fail
        · refine ⟨⟨k + 1, by omega, by go_num, Lib.hid ?_, ⟨rl, rfl, hrl, Lib.hid (fun _ => ?_)⟩, hbw5⟩, by simp [intOf]; omega⟩
          · rw [if_neg (by omega), show k + 1 - 1 = k by omega, HST.out, HBV2.out]; rfl
          · rw [HLC.out, show k + 1 - 1 = k by omega, HST.out]; rfl
        · refine ⟨⟨k + 1, by omega, by go_num, Lib.hid ?_, ⟨r, rfl, hr, Lib.hid (fun _ => ?_)⟩, hbw5⟩, by simp [intOf]; omega⟩
          · rw [if_neg (by omega), show k + 1 - 1 = k by omega, HST.out]; rfl
          · rw [HCR.out, show k + 1 - 1 = k by omega, HST.out]; rfl
    · obtain rfl : k = css.length := by omega
      have hbn := hb1 (by omega)
      have HLC := Lib.hid (HRL.out (by omega))
      have HBV2 := Lib.hid (show bi = (nwI f (css.length - 1) : Nat) by rw [HBI.out, if_neg (by omega)])
      clear hb0 hb1
      go_wp2_with fail
      go_ret3
      exact ⟨⟨rl, by rw [← HBV2.out]; rfl, hrl, HLC.out⟩, hb⟩

end Go.Proofs.Ytkkomajokdlkeaa
