/- Contracts: costs, least costs and ways, by the program. -/
import Derived.Test.YtnhenklopigfnaaK163
import Derived.Test.YtnhenklopigfnaaGen
import Derived.Test.YtnhenklopigfnaaK4
import Derived.Test.YtnhenklopigfnaaK19
import Derived.Test.YtnhenklopigfnaaBk2
namespace Go.Proofs.Ytnhenklopigfnaa
set_option linter.unusedSimpArgs false
set_option linter.unusedVariables false
set_option maxRecDepth 100000
set_option maxHeartbeats 4000000
open Go.RowKit
attribute [local go_sem] run_store_float run_store_complex alloc_drewN setCell_drewN
/-- A list turned round from both ends, so far. -/
def revL (xs : List Int) (k : Nat) : List Int := (List.range xs.length).map fun i => if i < k ∨ xs.length - k ≤ i then xs.getD (xs.length - 1 - i) 0 else xs.getD i 0
theorem revL_length (xs : List Int) (k : Nat) : (revL xs k).length = xs.length := by simp [revL]
theorem revL_get (xs : List Int) (k i : Nat) (h : i < xs.length) : (revL xs k).getD i 0 = if i < k ∨ xs.length - k ≤ i then xs.getD (xs.length - 1 - i) 0 else xs.getD i 0 := by
  simp [revL, List.getD_eq_getElem?_getD, List.getElem?_map, List.getElem?_range h]
theorem list_ext_getD {a b : List Int} (hl : a.length = b.length) (h : ∀ i, i < a.length → a.getD i 0 = b.getD i 0) : a = b := by
  refine List.ext_getElem hl fun i h1 h2 => ?_
  have := h i h1
  rw [List.getD_eq_getElem?_getD, List.getD_eq_getElem?_getD, List.getElem?_eq_getElem h1, List.getElem?_eq_getElem h2] at this
  exact this
theorem revL_zero (xs : List Int) : revL xs 0 = xs := by
  refine list_ext_getD (revL_length _ _) fun i hi => ?_
  rw [revL_length] at hi
  rw [revL_get _ _ _ hi, if_neg (by omega)]
theorem getD_setI (l : List Int) (k i : Nat) (x : Int) (hk : k < l.length) : (l.set k x).getD i 0 = if i = k then x else l.getD i 0 := by
  rw [List.getD_eq_getElem?_getD, List.getElem?_set, List.getD_eq_getElem?_getD]
  by_cases h : k = i
  · subst h; simp [hk]
  · rw [if_neg h, if_neg (fun e => h e.symm)]
theorem revL_step (xs : List Int) (k j : Nat) (hj : j + k + 1 = xs.length) (hk : k < j) : ((revL xs k).set k (xs.getD j 0)).set j (xs.getD k 0) = revL xs (k + 1) := by
  refine list_ext_getD (by simp [revL_length]) fun i hi => ?_
  have hi' : i < xs.length := by simpa [revL_length] using hi
  rw [getD_setI _ _ _ _ (by rw [List.length_set, revL_length]; omega), getD_setI _ _ _ _ (by rw [revL_length]; omega), revL_get _ _ _ hi', revL_get _ _ _ hi']
  by_cases h1 : i = j
  · rw [if_pos h1, if_pos (by omega), h1, show xs.length - 1 - j = k by omega]
  · rw [if_neg h1]
    by_cases h2 : i = k
    · rw [if_pos h2, if_pos (by omega), h2, show xs.length - 1 - k = j by omega]
    · rw [if_neg h2]
      by_cases h3 : i < k ∨ xs.length - k ≤ i
      · rw [if_pos h3, if_pos (by omega)]
      · rw [if_neg h3, if_neg (by omega)]
theorem revL_end (xs : List Int) (k : Nat) (h : xs.length ≤ 2 * k + 1) : revL xs k = xs.reverse := by
  refine list_ext_getD (by simp [revL_length]) fun i hi => ?_
  have hi' : i < xs.length := by simpa [revL_length] using hi
  have hr : xs.reverse.getD i 0 = xs.getD (xs.length - 1 - i) 0 := by
    rw [List.getD_eq_getElem?_getD, List.getElem?_reverse hi', List.getD_eq_getElem?_getD]
  rw [revL_get _ _ _ hi', hr]
  split
  · rfl
  · rw [show xs.length - 1 - i = i by omega]
theorem grown_transW {w w1 w2 : World} {r : Option Nat} (h : w.grownBy w1 r) (h' : w1.grownBy w2 r) : w.grownBy w2 r :=
  grown_trans h h'

theorem f_Reverse (v : Value) (xs : List Int) (lo : Nat) (w : World) (hv : GO (Value.int .i64) 2 lo w v xs) (hl : xs.length < 1000000) :
    Calls Try.prog 97 #[v] w fun e w' => e = .returned (.tuple #[]) ∧ GO (Value.int .i64) 2 lo w' v xs.reverse ∧ (∀ B, (∀ g, v.ownBlock = some g → B ≤ g) → ∀ s, Below B s w → Below B s w') ∧ w.grownBy w' v.ownBlock := by
  obtain ⟨ao, c, rfl, -, -⟩ := hv.slice
  have HV := Lib.hid hv
  clear hv
  have hw1 : IntKind.i64.wrap ((xs.length : Int) - 1) = (xs.length : Int) - 1 := by rw [IntKind.wrap_i64]; omega
  go_enter Try.func97, Try.ntmps97
  go_wp2_with fail
  go_loopw [2, 3] (fun i j wr => ∃ k : Nat, k ≤ xs.length ∧ i = .int .i64 (k : Int) ∧ j = .int .i64 ((xs.length : Int) - 1 - (k : Int)) ∧ Hid (GO (Value.int .i64) 2 lo wr (.slice ao xs.length c) (revL xs k)) ∧ Hid (∀ B, (∀ g, (Value.slice ao xs.length c).ownBlock = some g → B ≤ g) → ∀ s, Below B s w → Below B s wr) ∧ Hid (w.grownBy wr (Value.slice ao xs.length c).ownBlock)) (fun i _ _ => xs.length - (intOf i).toNat)
  case atStart => exact ⟨0, Nat.zero_le _, rfl, by go_num, Lib.hid (by rw [revL_zero]; exact HV.out), Lib.hid (fun _ _ _ h => h), Lib.hid (grown_of_below (Below.refl _ w) _)⟩
  case round =>
    obtain ⟨k, hk, rfl, rfl, HG, HB, HR⟩ := hrel
    by_cases hlt : (k : Int) < (xs.length : Int) - 1 - (k : Int)
    · obtain ⟨j, hj⟩ : ∃ j : Nat, j + k + 1 = xs.length := ⟨xs.length - 1 - k, by omega⟩
      have hji : (xs.length : Int) - 1 - (k : Int) = (j : Int) := by omega
      rw [hji] at hlt ⊢
      have hkj : k < j := by omega
      have HST := Lib.hid (revL_step xs k j hj hkj)
      have hk1 : k < (revL xs k).length := by rw [revL_length]; omega
      have hj1 : j < (revL xs k).length := by rw [revL_length]; omega
      have e1 : (revL xs k)[k] = xs.getD k 0 := by
        have := revL_get xs k k (by omega)
        rw [if_neg (by omega), List.getD_eq_getElem?_getD, List.getElem?_eq_getElem hk1] at this
        exact this
      have e2 : (revL xs k)[j] = xs.getD j 0 := by
        have := revL_get xs k j (by omega)
        rw [if_neg (by omega), List.getD_eq_getElem?_getD, List.getElem?_eq_getElem hj1] at this
        exact this
      obtain ⟨g, cap, hv1, hg1, hg2, hc1, hf1, hs1⟩ := HG.out.at_ hk1
      rw [e1] at hc1
      simp only [Value.slice.injEq] at hv1
      obtain ⟨rfl, -, -⟩ := hv1
      obtain ⟨g', cap', hv2, -, -, hc2, hf2, -⟩ := HG.out.at_ hj1
      rw [e2] at hc2
      simp only [Value.slice.injEq, Option.some.injEq, Addr.mk.injEq, and_true] at hv2
      obtain ⟨rfl, -, -⟩ := hv2
      obtain ⟨y1, hy1⟩ : ∃ y, y = xs.getD k 0 := ⟨_, rfl⟩
      obtain ⟨y2, hy2⟩ : ∃ y, y = xs.getD j 0 := ⟨_, rfl⟩
      rw [← hy1] at hc1 HST
      rw [← hy2] at hc2 HST
      clear e1 e2 hy1 hy2
      obtain ⟨h3, h4⟩ := hs1 y2
      obtain ⟨g'', cap'', hv3, -, -, -, -, hs2⟩ := h3.at_ (k := j) (by rw [List.length_set]; exact hj1)
      simp only [Value.slice.injEq, Option.some.injEq, Addr.mk.injEq, and_true] at hv3
      obtain ⟨rfl, -, -⟩ := hv3
      obtain ⟨h5, h6⟩ := hs2 y1
      rw [HST.out] at h5
      have HG5 := Lib.hid h5
      have HR5 := Lib.hid (grown_transW (grown_transW HR.out h4) h6)
      clear h3 h4 h5 h6 hs1 hs2 HST hk1 hj1
      have hji2 : (j : Int) < (xs.length : Int) := by omega
      have hki2 : (k : Int) < (xs.length : Int) := by omega
      have hj0 : 0 ≤ (j : Int) := by omega
      have hk0 : 0 ≤ (k : Int) := by omega
      have hjn : ((j : Int)).toNat = j := by omega
      have hkn : ((k : Int)).toNat = k := by omega
      have hne : k ≠ j := by omega
      have hne2 : j ≠ k := by omega
      go_wp2_with fail
      go_region
      go_wp2_with fail
      refine ⟨⟨k + 1, by omega, by go_num, by first | (go_num; done) | (rw [← hji]; congr 1; omega) | (congr 1; omega), Lib.hid (GO.drew HG5.out), ?_, Lib.hid (grown_transW HR5.out (grown_of_below (Below.drew (Below.refl _ _)) _))⟩, by simp [intOf]; omega⟩
      exact Lib.hid (fun B hB s h => (((HB.out B hB s h).setCell (p := ⟨g, k, none⟩) (hB g rfl) (.int .i64 y2)).setCell (p := ⟨g, j, none⟩) (hB g rfl) (.int .i64 y1)).drew)
    · go_wp2_with fail
      (try simp only [Exit.inBlock, Exit.then])
      refine bodyPost_end (v := .tuple #[]) (by simp [results, Try.results97, go_sem]; try rfl) rfl ?_
      refine ⟨rfl, ?_, HB.out, HR.out⟩
      have h1 := HG.out
      rw [revL_end xs k (by omega)] at h1
      exact h1
/-- The costs, if all are finite; the least cost. -/
def costsQ (sz : Nat → Nat) (ge : Nat → Bool) (cs ds : List Nat) (window : Int) : List Nat × Bool := if wpOk cs ds window then given (wpC sz ge cs ds window) else ([], false)
def wfarQ (sz : Nat → Nat) (ge : Nat → Bool) (cs ds : List Nat) (window : Int) : Nat × Bool := if wpYes sz ge cs ds window then ((wpC sz ge cs ds window).getD (cs.length * ds.length - 1) 0, true) else (0, false)
theorem wpOk_parts {cs ds : List Nat} {window : Int} (h : wpOk cs ds window = true) : allFin cs = true ∧ allFin ds = true ∧ 1 ≤ cs.length ∧ cs.length ≤ 96 ∧ 1 ≤ ds.length ∧ ds.length ≤ 96 ∧ 0 ≤ window ∧ window ≤ 96 := by
  simp only [wpOk, series, Bool.and_eq_true, decide_eq_true_eq] at h
  obtain ⟨⟨⟨⟨⟨h1, h2⟩, h3⟩, ⟨h4, h5⟩, h6⟩, h7⟩, h8⟩ := h
  exact ⟨h3, h6, h1, h2, h4, h5, h7, h8⟩
theorem wpC_length (sz : Nat → Nat) (ge : Nat → Bool) (cs ds : List Nat) (window : Int) : (wpC sz ge cs ds window).length = cs.length * ds.length := wList_length ..

theorem i_isWindow (u v : Value) (cs ds : List Nat) (window : Int) (w : World) (hu : SL w u cs) (hv : SL w v ds) :
    Calls Try.prog 98 #[u, v, .int .i64 window] w fun e w' => e = .returned (.bool (wpOk cs ds window)) ∧ Dr w w' := by
  have hq : wpOk cs ds window = (series cs && series ds && inB window 0 96) := by unfold wpOk inB; rw [Bool.and_assoc]
  rw [hq]
  clear hq
  have HU := Lib.hid hu
  have HV := Lib.hid hv
  clear hu hv
  cases h1 : series cs
  all_goals
    have H1 := Lib.hid h1
    clear h1
    cases h2 : series ds
    all_goals
      have H2 := Lib.hid h2
      clear h2
      go_enter Try.func98, Try.ntmps98
      go_wp2_with fail
      refine (i_IsSeries _ cs _ HU.out).mono ?_; rintro e w1 ⟨rfl, n1, rfl⟩
      rw [H1.out]
      go_wp2_with fail
      first
        | (go_ret; exact ⟨rfl, Dr.mk _ _⟩)
        | (refine (i_IsSeries _ ds _ (HV.out.drewN _)).mono ?_; rintro e w2 ⟨rfl, n2, rfl⟩
           rw [H2.out]
           go_wp2_with fail
           first
             | (go_ret; exact ⟨rfl, Dr.mk _ _⟩)
             | (refine (i_within _ _ _ _).mono ?_; rintro e w3 ⟨rfl, n3, rfl⟩
                go_wp2_with fail
                go_ret
                exact ⟨rfl, Dr.mk _ _⟩))

theorem fldW (a : Option Addr) (b c : Nat) (i : Int) (w : World) : (Instr.field 102 (.agg #[.slice a b c, .int .i64 i]) 0).run Try.prog w = .ok (.slice a b c) w := by
  have hs : ∀ w, (sizeOf 25).run Try.prog w = .ok 1 w := by intro w; go_simp
  simp [Instr.field, run_underlying Try.underlying102, go_sem, hs, asAgg, part]
theorem i_WarpCosts (u v : Value) (cs ds : List Nat) (window : Int) (w : World) (hu : SB w u cs) (hv : SB w v ds) :
    Calls Try.prog 46 #[u, v, .int .i64 window] w fun e w' => LB 27 w.heap.size w' e (costsQ szI geI cs ds window) ∧ Below w.heap.size w w' := by
  have HU := Lib.hid hu
  have HV := Lib.hid hv
  clear hu hv
  cases hok : wpOk cs ds window
  · have HOK := Lib.hid hok
    clear hok
    go_enter Try.func46, Try.ntmps46
    go_wp2_with fail
    refine (i_isWindow _ _ cs ds window _ HU.out.sl HV.out.sl).mono ?_; rintro e w1 ⟨rfl, n1, rfl⟩
    rw [HOK.out]
    go_wp2_with fail
    go_ret2
    exact ⟨LB.no _ _ _ (by rw [costsQ, HOK.out]; rfl), by (repeat (first | exact Below.refl _ _ | assumption | refine below_drewN ?_ _ | refine Below.drew ?_ | refine Below.alloc ?_ (by first | omega | (simp; omega) | (simp; done) | (simp at *; omega)) _ | refine Below.setCell ?_ (by first | omega | (simp; omega) | (simp; done) | (simp at *; omega)) _ | refine Below.trans ?_ (Below.mono (by assumption) (by first | omega | (simp; omega) | (simp; done) | (simp at *; omega)))))⟩
  · obtain ⟨p1, p2, p3, p4, p5, p6, p7, p8⟩ := wpOk_parts hok
    have HOK := Lib.hid hok
    clear hok
    go_enter Try.func46, Try.ntmps46
    go_wp2_with fail
    refine (i_isWindow _ _ cs ds window _ HU.out.sl HV.out.sl).mono ?_; rintro e w1 ⟨rfl, n1, rfl⟩
    rw [HOK.out]
    go_wp2_with fail
    refine (i_warped _ _ cs ds window _ (HU.out.drewN _) (HV.out.drewN _) p1 p2 p3 p4 p5 p6).mono ?_; rintro e w2 ⟨⟨s, rfl, hs⟩, hb⟩
    have HS := Lib.hid hs
    have hb2 : Below w.heap.size w w2 := (below_drewN (Below.refl _ w) n1).trans hb
    obtain ⟨so, sc, rfl, -⟩ := hs.sb.sl.slice
    clear hs hb
    have FW := fun w => fldW so (wpC szI geI cs ds window).length sc ds.length w
    go_wp2_with fail
    have HQ := Lib.hid (show costsQ szI geI cs ds window = given (wpC szI geI cs ds window) by rw [costsQ, HOK.out]; rfl)
    cases hp : allFin (wpC szI geI cs ds window)
    all_goals
      refine (i_ifAll _ _ _ HS.out.sb.sl).mono ?_; rintro e w3 ⟨⟨r, b, rfl, hr, hbb⟩, n3, rfl⟩
      have HG := Lib.hid (LB.given (OW.drewN (HS.out.down (base' := w.heap.size) (by simp)) n3) hr hbb HQ.out)
      rw [hp] at hr hbb
      subst hbb
      simp only [if_true, Bool.false_eq_true, if_false] at hr
      subst hr
      go_wp2_with fail
      go_ret2
      exact ⟨HG.out, below_drewN hb2 n3⟩

end Go.Proofs.Ytnhenklopigfnaa
