/- Contracts: ranks by misses, by the reference. -/
import Derived.Test.YtgonpgfhajfjpaaK171
namespace Go.Proofs.Ytgonpgfhajfjpaa
set_option linter.unusedSimpArgs false
set_option linter.unusedVariables false
set_option maxRecDepth 100000
set_option maxHeartbeats 4000000
open Go.RowKit
attribute [local go_sem] run_store_float run_store_complex alloc_drewN setCell_drewN
theorem getD_app {X Z : List Int} {i : Nat} (h : i < X.length) : (X ++ Z).getD i 0 = X.getD i 0 := by
  rw [List.getD_eq_getElem?_getD, List.getElem?_append_left h, List.getD_eq_getElem?_getD]
theorem swapI_app {X Z : List Int} {j : Nat} (h : j + 1 < X.length) : swapI (X ++ Z) j = swapI X j ++ Z := by
  unfold swapI
  rw [getD_app h, getD_app (by omega), List.set_append_left _ _ h, List.set_append_left _ _ (by rw [List.length_set]; omega)]
theorem insI_app (cmp : Int → Int → Int) (Z : List Int) : ∀ (j : Nat) (X : List Int), j < X.length → insI cmp (X ++ Z) j = insI cmp X j ++ Z
  | 0, _, _ => rfl
  | j + 1, X, h => by
    rw [insI, insI, getD_app h, getD_app (by omega)]
    split
    · rw [swapI_app h, insI_app cmp Z j _ (by rw [swapI_length]; omega)]
    · rfl
theorem isortI_app (cmp : Int → Int → Int) (X Z : List Int) : ∀ k, k < X.length → isortI cmp (X ++ Z) k = isortI cmp X k ++ Z
  | 0, _ => rfl
  | k + 1, h => by rw [isortI, isortI, isortI_app cmp X Z k (by omega), insI_app cmp Z _ _ (by rw [isortI_length]; exact h)]
/-- The order of the first k + 1. -/
theorem order_succ (cmp : Int → Int → Int) (k : Nat) : isortI cmp (numsI (k + 2)) (k + 1) = insI cmp (isortI cmp (numsI (k + 1)) k ++ [((k + 1 : Nat) : Int)]) (k + 1) := by
  rw [isortI, numsI_succ (k + 1), isortI_app cmp _ _ k (by rw [numsI_length]; omega)]
theorem fin_of_mod {c : Nat} (hc : c < 4294967296) (h : c % 2147483648 < 2139095040) : fin c = true := by
  have hr := read_fin hc h
  show fc .eql .f32 (((S.sub c c)).getD (qnan .f32)) 0 = true
  unfold Ieee.Format.sub
  rw [hr]
  generalize decide (2147483648 ≤ c) = s
  generalize fM (c % 2147483648) = m
  generalize -149 + (fK (c % 2147483648) : Int) = p
  have e : ∃ q, (Ieee.Datum.number s m p).sum (Ieee.Datum.number s m p).opposite = some (.number false 0 q) := by
    show ∃ q, (Ieee.Datum.number s m p).sum (.number (!s) m p) = _
    unfold Ieee.Datum.sum
    have e0 : Ieee.signed s m (p - min p p).toNat + Ieee.signed (!s) m (p - min p p).toNat = 0 := by
      unfold Ieee.signed
      cases s <;> simp <;> omega
    dsimp only
    rw [e0, if_pos rfl]
    exact ⟨min p p, by cases s <;> rfl⟩
  obtain ⟨q, e⟩ := e
  rw [e, Option.map_some, Option.getD_some]
  have e2 : S.write (.number false 0 q) = 0 := by
    show S.nearest false 0 q = 0
    unfold Ieee.Format.nearest
    rw [if_pos rfl]; rfl
  rw [e2]
  decide +kernel
theorem root_fin {a b : Nat} (h : fin (divF a b) = false) : fin (rootF (divF a b)) = false := by
  have hlt : divF a b < 4294967296 := ar_lt .quo a b
  have hcn : cn .f32 (divF a b) = divF a b := cn_ar .quo .f32 a b
  generalize divF a b = c at *
  cases hn : (S.read c).isNaN with
  | true =>
    have : c = qnan .f32 := by rw [← hcn]; exact cn_of_nan (k := .f32) hn
    subst this
    decide +kernel
  | false =>
    have h1 := mod_notNaN hn
    have h2 : ¬ c % 2147483648 < 2139095040 := fun hh => by rw [fin_of_mod hlt hh] at h; cases h
    have : c = 2139095040 ∨ c = 4286578688 := by omega
    rcases this with rfl | rfl <;> decide +kernel
/-- A root is told if it is finite. -/
theorem rms_of {xs gs : List Nat} (h : twoOk xs gs = true) : (rmsQ xs gs).2 = fin (rootF (msMean xs gs)) ∧ ((rmsQ xs gs).2 = true → (rmsQ xs gs).1 = rootF (msMean xs gs)) := by
  have hm : msQ xs gs = numB (msMean xs gs) := by rw [msQ, h]; rfl
  unfold rmsQ
  rw [hm]
  cases hf : fin (msMean xs gs)
  · have h2 : fin (rootF (msMean xs gs)) = false := root_fin hf
    rw [show (numB (msMean xs gs)).2 = false from hf, h2]
    exact ⟨rfl, fun h => by cases h⟩
  · rw [show (numB (msMean xs gs)).2 = true from hf, if_pos rfl, show (numB (msMean xs gs)).1 = msMean xs gs by show (if fin (msMean xs gs) then _ else _) = _; rw [hf]; rfl]
    refine ⟨rfl, fun h3 => ?_⟩
    show (if fin (rootF (msMean xs gs)) then _ else _) = _
    rw [show fin (rootF (msMean xs gs)) = true from h3]; rfl
theorem rms_two {xs gs : List Nat} (h : twoOk xs gs = false) : (rmsQ xs gs).2 = false := by
  unfold rmsQ
  rw [show msQ xs gs = (0, false) by rw [msQ, h]; rfl]
  rfl
theorem ways_two {css : List (List Nat)} {xs : List Nat} (h : waysOk css = true) (h2 : twoOk xs (headL css) = true) {k : Nat} (hk : k < css.length) : twoOk xs (rowL css k) = true := by
  simp only [waysOk, Bool.and_eq_true, List.all_eq_true] at h
  have h3 := h.2 css[k] (List.getElem_mem hk)
  have e : rowL css k = css[k] := by unfold rowL; simp [hk]
  rw [← e] at h3
  simp only [twoOk, Bool.and_eq_true, decide_eq_true_eq] at h3 h2 ⊢
  exact ⟨⟨h2.1.1, h3.1.1⟩, by omega⟩
theorem rkQ_two {css : List (List Nat)} {xs : List Nat} (h : twoOk xs (headL css) = false) : rkQ css xs = ([], false) := by
  cases hw : waysOk css
  · rw [rkQ, hw]; rfl
  · have h1 : 1 ≤ css.length := by simp only [waysOk, Bool.and_eq_true, decide_eq_true_eq] at hw; exact hw.1.1
    have h2 : (rmsQ xs (rowL css 0)).2 = false := rms_two h
    rw [rkQ, rkAll_no (k := 0) h1 h2, Bool.and_false]; rfl
def ordL (R : List Nat) : Nat → List Int
  | 0 => []
  | k + 1 => isortI (rkCmp R) (numsI (k + 1)) k
theorem ordL_length (R : List Nat) : ∀ k, (ordL R k).length = k
  | 0 => rfl
  | k + 1 => by rw [ordL, isortI_length, numsI_length]
theorem ordL_succ (R : List Nat) (k : Nat) : ordL R (k + 1) = insI (rkCmp R) (ordL R k ++ [(k : Int)]) k := by
  cases k with
  | zero => rfl
  | succ k => exact order_succ (rkCmp R) k
theorem ordL_mem (R : List Nat) : ∀ k, ∀ a ∈ ordL R k, 0 ≤ a ∧ a < (k : Int)
  | 0, a, h => by cases h
  | k + 1, a, h => by
    refine isortI_mem (D := fun a => 0 ≤ a ∧ a < ((k + 1 : Nat) : Int)) (rkCmp R) (fun a ha => ?_) k (by rw [numsI_length]; omega) a h
    obtain ⟨i, hi, rfl⟩ := List.mem_map.1 ha
    have := List.mem_range.1 hi
    omega
theorem rkCmp_lt (R : List Nat) (a b : Int) : (rkCmp R a b < 0) = (fc .lss .f32 (R.getD a.toNat 0) (R.getD b.toNat 0) = true) := by
  unfold rkCmp sgnF
  cases h : fc .lss .f32 (R.getD a.toNat 0) (R.getD b.toNat 0)
  · simp; split <;> omega
  · simp
theorem rkR_get {xs : List Nat} {css : List (List Nat)} {n k i : Nat} (h : i < k) (hk : k ≤ n) : (rkR xs css n).getD i 0 = (rkR xs css k).getD i 0 := by
  simp [rkR, List.getD_eq_getElem?_getD, List.getElem?_map, List.getElem?_range (show i < n by omega), List.getElem?_range h]

theorem oneI64S : OneC Try.prog 25 2 (.int .i64 0) 8 := oneC_of Try.underlying25 (by kernel_rfl) rfl (by decide)
theorem s_RanksMiss (u v : Value) (css : List (List Nat)) (xs : List Nat) (w : World) (hu : SS w u css) (hv : SB w v xs) :
    Calls Try.prog 5 #[u, v] w fun z w' => IB 2 w.heap.size w' z (rkQ css xs) ∧ Below w.heap.size w w' := by
  have HU := Lib.hid hu
  have HV := Lib.hid hv
  obtain ⟨ao, c, rfl, hc1, hc2, hget⟩ := hu.get rfl
  have HG := Lib.hid hget
  clear hget hu hv
  cases hok : waysOk css
  · have HOK := Lib.hid hok
    clear hok
    go_enter Try.func5, Try.ntmps5
    go_wp2_with fail
    refine (s_l06Lists _ css _ HU.out).mono ?_; rintro e w1 ⟨rfl, n1, rfl⟩
    rw [HOK.out]
    go_wp2_with fail
    go_ret2
    exact ⟨IB.no _ _ _ (by rw [rkQ, HOK.out]; rfl), by (repeat (first | with_reducible exact Below.refl _ _ | with_reducible assumption | with_reducible refine below_drewN ?_ _ | with_reducible refine Below.drew ?_ | with_reducible refine Below.alloc ?_ (by first | omega | (simp; omega) | (simp; done) | (simp at *; omega)) _ | with_reducible refine Below.setCell ?_ (by first | omega | (simp; omega) | (simp; done) | (simp at *; omega)) _ | refine Below.trans ?_ (Below.mono (by with_reducible assumption) (by first | omega | (simp; omega) | (simp; done) | (simp at *; omega)))))⟩
  · have HOK := Lib.hid hok
    have hlen : 1 ≤ css.length ∧ css.length ≤ 8 := by simp only [waysOk, Bool.and_eq_true, decide_eq_true_eq] at hok; exact hok.1
    obtain ⟨hl1, hl2⟩ := hlen
    obtain ⟨b0, off0, u0, e0, hbl0, hc0, hs0⟩ := HG.out 0 (by omega)
    subst e0
    rw [Nat.add_zero] at hc0
    have HS0 := Lib.hid (show SB w u0 (headL css) from hs0)
    clear hs0
    have h00 : (0 : Int) < (css.length : Int) := by omega
    cases htw : twoOk xs (headL css)
    · have HTW := Lib.hid htw
      clear htw hok
      go_enter Try.func5, Try.ntmps5
      go_wp2_with fail
      refine (s_l06Lists _ css _ HU.out).mono ?_; rintro e w1 ⟨rfl, n1, rfl⟩
      rw [HOK.out]
      go_wp2_with fail
      refine (s_l06Two _ _ xs (headL css) _ (HV.out.sl.drewN n1) (HS0.out.sl.drewN n1)).mono ?_; rintro e w2 ⟨rfl, n2, rfl⟩
      rw [HTW.out]
      go_wp2_with fail
      go_ret2
      exact ⟨IB.no _ _ _ (rkQ_two HTW.out), by (repeat (first | with_reducible exact Below.refl _ _ | with_reducible assumption | with_reducible refine below_drewN ?_ _ | with_reducible refine Below.drew ?_ | with_reducible refine Below.alloc ?_ (by first | omega | (simp; omega) | (simp; done) | (simp at *; omega)) _ | with_reducible refine Below.setCell ?_ (by first | omega | (simp; omega) | (simp; done) | (simp at *; omega)) _ | refine Below.trans ?_ (Below.mono (by with_reducible assumption) (by first | omega | (simp; omega) | (simp; done) | (simp at *; omega)))))⟩
    · have HTW := Lib.hid htw
      have HQF := Lib.hid (fun k (hk : k < css.length) (h : (rmsQ xs (rowL css k)).2 = false) => show rkQ css xs = ([], false) by rw [rkQ, rkAll_no hk h, Bool.and_false]; rfl)
      have HQT := Lib.hid (fun (h : rkAll xs css css.length = true) => show rkQ css xs = (isortI (rkCmp (rkR xs css css.length)) (numsI css.length) (css.length - 1), true) by rw [rkQ, hok, h]; rfl)
      clear htw hok
      go_enter Try.func5, Try.ntmps5
      go_wp2_with fail
      refine (s_l06Lists _ css _ HU.out).mono ?_; rintro e w1 ⟨rfl, n1, rfl⟩
      rw [HOK.out]
      go_wp2_with fail
      refine (s_l06Two _ _ xs (headL css) _ (HV.out.sl.drewN n1) (HS0.out.sl.drewN n1)).mono ?_; rintro e w2 ⟨rfl, n2, rfl⟩
      rw [HTW.out]
      go_wp2_with fail
      obtain ⟨R, hR⟩ : ∃ R, R = rkR xs css css.length := ⟨_, rfl⟩
      have HR := Lib.hid hR
      rw [← hR] at HQT
      clear hR
      go_loopw [6, 7, 8] (fun m o i wr => ∃ k : Nat, k ≤ css.length ∧ i = .int .i64 (k : Int) ∧ Hid (OW 37 w.heap.size wr m (rkR xs css k)) ∧ Hid (GO (Value.int .i64) 2 w.heap.size wr o (ordL R k)) ∧ Hid (rkAll xs css k = true) ∧ Below w.heap.size w wr) (fun _ _ i _ => css.length - (intOf i).toNat)
      case atStart => exact ⟨0, Nat.zero_le _, rfl, Lib.hid (by first | exact OW.alloc (OW.empty _ _ (by simp) (by simp)) _ | exact OW.alloc (OW.drewN (OW.empty _ _ rfl (Nat.le_refl _)) _) _), Lib.hid (GO.empty _ _ (by simp) (by simp)), rfl, by (repeat (first | with_reducible exact Below.refl _ _ | with_reducible assumption | with_reducible refine below_drewN ?_ _ | with_reducible refine Below.drew ?_ | with_reducible refine Below.alloc ?_ (by first | omega | (simp; omega) | (simp; done) | (simp at *; omega)) _ | with_reducible refine Below.setCell ?_ (by first | omega | (simp; omega) | (simp; done) | (simp at *; omega)) _ | refine Below.trans ?_ (Below.mono (by with_reducible assumption) (by first | omega | (simp; omega) | (simp; done) | (simp at *; omega)))))⟩
      case round =>
        obtain ⟨k, hk, rfl, HM, HO, HAL, hb⟩ := hrel
        have hz := hb.size
        by_cases hlt : k < css.length
        · obtain ⟨b1, o1, l, e1, hbl1, hcl, hsl⟩ := HG.out k hlt
          simp only [Option.some.injEq, Addr.mk.injEq, and_true] at e1
          obtain ⟨rfl, rfl⟩ := e1
          have hcl' := (hb.cell (p := ⟨b0, off0 + k, none⟩) hbl1).trans hcl
          have HSL := Lib.hid (show SB w l (rowL css k) from hsl)
          have HTK := Lib.hid (ways_two HOK.out HTW.out hlt)
          have HRM := Lib.hid (rms_of HTK.out)
          clear hcl hsl
          have hki : (k : Int) < (css.length : Int) := by omega
          go_wp2_with fail
          refine (s_l06Root _ _ xs (rowL css k) _ (HV.out.keep hb) (HSL.out.keep hb) HTK.out).mono ?_; rintro e w4 ⟨⟨r, rfl, hr, hcr⟩, hb4⟩
          have HM4 := Lib.hid (HM.out.keep hb4)
          have HO4 := Lib.hid (HO.out.keep hb4)
          have hbw4 : Below w.heap.size w w4 := hb.trans (hb4.mono hz)
          have hz4 := hbw4.size
          clear HM HO hb4 hb hcl'
          go_wp2_with fail
          refine (s_l01Finite r _).mono ?_; rintro e w5 ⟨rfl, n5, rfl⟩
          rw [hcr, ← HRM.out.1]
          cases hq : (rmsQ xs (rowL css k)).2
          · have HNQ := Lib.hid (HQF.out k hlt hq)
            go_wp2_with fail
            go_ret2
            exact ⟨IB.no _ _ _ HNQ.out, by (repeat (first | with_reducible exact Below.refl _ _ | with_reducible assumption | with_reducible refine below_drewN ?_ _ | with_reducible refine Below.drew ?_ | with_reducible refine Below.alloc ?_ (by first | omega | (simp; omega) | (simp; done) | (simp at *; omega)) _ | with_reducible refine Below.setCell ?_ (by first | omega | (simp; omega) | (simp; done) | (simp at *; omega)) _ | refine Below.trans ?_ (Below.mono (by with_reducible assumption) (by first | omega | (simp; omega) | (simp; done) | (simp at *; omega)))))⟩
          · have HAL2 := Lib.hid (show rkAll xs css (k + 1) = true by rw [rkAll_succ, HAL.out, hq]; rfl)
            have HCR := Lib.hid (show cn .f32 r = (rmsQ xs (rowL css k)).1 by rw [hcr]; exact (HRM.out.2 hq).symm)
            have HM5 := Lib.hid (OW.drewN HM4.out n5)
            have HO5 := Lib.hid (GO.drewN HO4.out n5)
            have hbw5 := below_drewN hbw4 n5
            have HRL := Lib.hid (rkR_length xs css k)
            have HNL := Lib.hid (ordL_length R k)
            clear hq hcr HM4 HO4 hbw4
            have hz5 : w.heap.size ≤ (w4.drewN n5).heap.size := hbw5.size
            generalize World.drewN w4 n5 = w6 at *
            have HNE1 := Lib.hid (own_sym (HM5.out.ne_goR HO5.out (by decide)))
            go_wp2_with (first
              | (at_builtin; refine wpList_app1 f32sRk w.heap.size _ (rkR xs css k) rfl (OW.alloc HM5.out _) _ _ rfl (by first | (simp; done) | (simp; rfl)) hr (by rw [HRL.out]; omega) (by first | omega | (simp; done) | (simp; omega)) ?_; intro s3 w3 ho3 hg3; have HO6 := Lib.hid (GO.kept (GO.alloc HO5.out _) hg3 HNE1.out); have hb3 : Below w.heap.size w w3 := below_of_grown (by (repeat (first | with_reducible exact Below.refl _ _ | with_reducible assumption | with_reducible refine below_drewN ?_ _ | with_reducible refine Below.drew ?_ | with_reducible refine Below.alloc ?_ (by first | omega | (simp; omega) | (simp; done) | (simp at *; omega)) _ | with_reducible refine Below.setCell ?_ (by first | omega | (simp; omega) | (simp; done) | (simp at *; omega)) _ | refine Below.trans ?_ (Below.mono (by with_reducible assumption) (by first | omega | (simp; omega) | (simp; done) | (simp at *; omega)))))) hg3 (by first | omega | (simp; done) | (simp; omega)) HM5.out.own_ge; have hz3 := hb3.size; have HM6 := Lib.hid ho3; clear ho3 hg3)
              | (at_builtin; refine wpList_gapp (inj := Value.int .i64) oneI64S (fun _ => rfl) w.heap.size _ (ordL R k) rfl (GO.alloc HO6.out _) [(k : Int)] _ 1 rfl rfl (by intro i u hu; cases i with | zero => (simp only [List.getElem?_cons_zero, Option.some.injEq] at hu; subst hu; simp) | succ i => simp at hu) (by have := HNL.out; simp only [List.length_cons, List.length_nil]; omega) (by first | omega | (simp; done) | (simp; omega)) ?_; intro s8 w8 ho8 hg8; have HM8 := Lib.hid (OW.kept (OW.alloc HM6.out _) hg8 (HM6.out.ne_goR HO6.out (by decide))); have hb8 : Below w.heap.size w w8 := below_of_grown (by (repeat (first | with_reducible exact Below.refl _ _ | with_reducible assumption | with_reducible refine below_drewN ?_ _ | with_reducible refine Below.drew ?_ | with_reducible refine Below.alloc ?_ (by first | omega | (simp; omega) | (simp; done) | (simp at *; omega)) _ | with_reducible refine Below.setCell ?_ (by first | omega | (simp; omega) | (simp; done) | (simp at *; omega)) _ | refine Below.trans ?_ (Below.mono (by with_reducible assumption) (by first | omega | (simp; omega) | (simp; done) | (simp at *; omega)))))) hg8 (by first | omega | (simp; done) | (simp; omega)) HO6.out.own_ge; have HO8 := Lib.hid ho8; clear ho8 hg8))
            rw [HCR.out, ← rkR_succ] at HM8
            obtain ⟨mo, mc, hms, -⟩ := HM8.out.sb.sl.slice
            rw [rkR_length] at hms
            subst hms
            have HOS := Lib.hid (ordL_succ R k)
            obtain ⟨oo, oc, hos, -, -⟩ := HO8.out.slice
            rw [List.length_append, HNL.out, List.length_singleton] at hos
            subst hos
            have HY0 := Lib.hid (show (ordL R k ++ [(k : Int)]).length = k + 1 by rw [List.length_append, HNL.out]; rfl)
            have HD0 := Lib.hid (show ∀ a ∈ ordL R k ++ [(k : Int)], 0 ≤ a ∧ a < ((k + 1 : Nat) : Int) from fun a ha => by
              rcases List.mem_append.1 ha with h | h
              · have := ordL_mem R k a h; omega
              · have := List.mem_singleton.1 h; omega)
            clear HM6 HO6 HM5 HO5 HNE1 hb3 hz3
            go_loopw [10] (fun jv wr => ∃ (j : Nat) (Y : List Int), j ≤ k ∧ jv = .int .i64 (j : Int) ∧ Hid (Y.length = k + 1) ∧ Hid (∀ a ∈ Y, 0 ≤ a ∧ a < ((k + 1 : Nat) : Int)) ∧ Hid (insI (rkCmp R) Y j = ordL R (k + 1)) ∧ Hid (GO (Value.int .i64) 2 w.heap.size wr (.slice oo (k + 1) oc) Y) ∧ Hid (OW 37 w.heap.size wr (.slice mo (k + 1) mc) (rkR xs css (k + 1))) ∧ Below w.heap.size w wr) (fun jv _ => (intOf jv).toNat)
            case atStart => exact ⟨k, _, Nat.le_refl _, rfl, HY0, HD0, Lib.hid HOS.out.symm, HO8, HM8, hb8⟩
            case round =>
              clear HY0 HD0 HO8 HM8 hb8 HOS
              obtain ⟨j, Y, hj, rfl, HYL, HYD, HIN, HG8, HM8, hb⟩ := hrel
              have hzr := hb.size
              obtain ⟨ji, hji⟩ : ∃ ji : Int, ji = (j : Int) := ⟨_, rfl⟩
              rw [← hji]
              have HJI := Lib.hid hji
              rcases j with _ | j
              · have hj0 : ¬ (0 < ji) := by omega
                have hd0 : decide (0 < ji) = false := decide_eq_false hj0
                have HX := Lib.hid (show Y = ordL R (k + 1) from HIN.out)
                clear hji
                go_wp2_with fail
                go_quiet (fail)
                go_wp2_with fail
                exact ⟨⟨k + 1, by omega, by go_num, Lib.hid (OW.drewN HM8.out _), Lib.hid (by rw [← HX.out]; exact GO.drewN HG8.out _), HAL2, below_drewN hb _⟩, by simp [intOf]; omega⟩
              · have hj1 : j + 1 < Y.length := by rw [HYL.out]; omega
                obtain ⟨g, cap, hv1, hg1, hg2, hc1, hf1, hs1⟩ := HG8.out.at_ hj1
                obtain ⟨g', cap', hv2, -, -, hc2, hf2, -⟩ := HG8.out.at_ (k := j) (by omega)
                simp only [Value.slice.injEq] at hv1
                obtain ⟨rfl, -, -⟩ := hv1
                simp only [Value.slice.injEq, Option.some.injEq, Addr.mk.injEq, and_true] at hv2
                obtain ⟨rfl, -, -⟩ := hv2
                have e1 : Y[j + 1] = Y.getD (j + 1) 0 := by rw [List.getD_eq_getElem?_getD, List.getElem?_eq_getElem hj1]; rfl
                have e2 : Y[j]'(by omega) = Y.getD j 0 := by rw [List.getD_eq_getElem?_getD, List.getElem?_eq_getElem (by omega)]; rfl
                rw [e1] at hc1
                rw [e2] at hc2
                have hm1 := HYD.out _ (getD_mem hj1)
                have hm2 := HYD.out _ (getD_mem (show j < Y.length by omega))
                obtain ⟨av, cv, hva, -, -, hgm⟩ := HM8.out.sb.get (rkR_length xs css (k + 1))
                obtain ⟨bm, om, xa, ea, hba, hca, hxa, hcxa⟩ := hgm (Y.getD (j + 1) 0).toNat (by omega)
                obtain ⟨bm2, om2, xb, eb, hbb, hcb, hxb, hcxb⟩ := hgm (Y.getD j 0).toNat (by omega)
                simp only [Value.slice.injEq] at hva
                obtain ⟨rfl, -, -⟩ := hva
                subst ea
                simp only [Option.some.injEq, Addr.mk.injEq, and_true] at eb
                obtain ⟨rfl, rfl⟩ := eb
                rw [← rkR_get (n := css.length) (by omega) (by omega), ← HR.out] at hcxa hcxb
                have HSW := Lib.hid (show insI (rkCmp R) Y (j + 1) = if rkCmp R (Y.getD (j + 1) 0) (Y.getD j 0) < 0 then insI (rkCmp R) (swapI Y j) j else Y from rfl)
                have HLT := Lib.hid (rkCmp_lt R (Y.getD (j + 1) 0) (Y.getD j 0))
                have HSY := Lib.hid (show swapI Y j = (Y.set (j + 1) (Y.getD j 0)).set j (Y.getD (j + 1) 0) from rfl)
                obtain ⟨h3, h4⟩ := hs1 (Y.getD j 0)
                obtain ⟨g'', cap'', hv3, -, -, -, -, hs2⟩ := h3.at_ (k := j) (by rw [List.length_set]; omega)
                simp only [Value.slice.injEq, Option.some.injEq, Addr.mk.injEq, and_true] at hv3
                obtain ⟨rfl, -, -⟩ := hv3
                obtain ⟨h5, h6⟩ := hs2 (Y.getD (j + 1) 0)
                rw [← HSY.out] at h5
                have HG5 := Lib.hid h5
                have hne := HM8.out.ne_goR HG8.out (by decide)
                have HM9 := Lib.hid (OW.kept (OW.kept HM8.out h4 hne) h6 hne)
                have HYM := Lib.hid (swapI_mem hj1 HYD.out)
                have m1 : 0 < ji := by omega
                have m2 : 0 ≤ ji := by omega
                have m3 : ji < ((k + 1 : Nat) : Int) := by omega
                have m4 : ji.toNat = j + 1 := by omega
                have m5 : 0 ≤ ji - 1 := by omega
                have m6 : ji - 1 < ((k + 1 : Nat) : Int) := by omega
                have m7 : (ji - 1).toNat = j := by omega
                have m8 : IntKind.i64.wrap (ji - 1) = ji - 1 := by rw [IntKind.wrap_i64]; omega
                have m9 : j ≠ j + 1 := by omega
                have m10 : j + 1 ≠ j := by omega
                clear hji h3 h4 h5 h6 hs1 hs2 e1 e2 hne hgm
                generalize Y.getD (j + 1) 0 = ya at *
                generalize Y.getD j 0 = yb at *
                obtain ⟨ya0, ya1⟩ := hm1
                obtain ⟨yb0, yb1⟩ := hm2
                cases hl : fc .lss .f32 (R.getD ya.toNat 0) (R.getD yb.toNat 0)
                all_goals
                  have oL := order_of_lssW (x := xa) (y := xb) ((show fc .lss .f32 (cn .f32 xa) (cn .f32 xb) = fc .lss .f32 (R.getD ya.toNat 0) (R.getD yb.toNat 0) by rw [hcxa, hcxb]).trans hl)
                  rw [hl] at HLT
                  clear hcxa hcxb
                · have HX := Lib.hid (show Y = ordL R (k + 1) by rw [← HIN.out, HSW.out, if_neg (by rw [HLT.out]; decide)])
                  go_wp2_with fail
                  go_quiet (fail)
                  go_wp2_with fail
                  exact ⟨⟨k + 1, by omega, by go_num, Lib.hid (OW.drewN HM8.out _), Lib.hid (by rw [← HX.out]; exact GO.drewN HG8.out _), HAL2, below_drewN hb _⟩, by simp [intOf]; omega⟩
                · have HNX := Lib.hid (show insI (rkCmp R) (swapI Y j) j = ordL R (k + 1) by rw [← HIN.out, HSW.out, if_pos (by rw [HLT.out])])
                  go_wp2_with fail
                  go_quiet (fail)
                  go_wp2_with fail
                  exact ⟨⟨j, swapI Y j, by omega, by (have := HJI.out; congr 1; omega), Lib.hid (by rw [swapI_length, HYL.out]), HYM, HNX, Lib.hid (GO.drewN HG5.out nq), Lib.hid (OW.drewN HM9.out nq), ((below_drewN hb nq).setCell (p := ⟨g, j + 1, none⟩) hg1 (.int .i64 yb)).setCell (p := ⟨g, j, none⟩) hg1 (.int .i64 ya)⟩, by simp [intOf]; have := HJI.out; omega⟩
        · obtain rfl : k = css.length := by omega
          have HRQ := Lib.hid (HQT.out HAL.out)
          have HOX := Lib.hid (show ordL R css.length = isortI (rkCmp R) (numsI css.length) (css.length - 1) by
            obtain ⟨n, hn⟩ : ∃ n, css.length = n + 1 := ⟨css.length - 1, by omega⟩
            rw [hn]; rfl)
          go_wp2_with fail
          go_ret2
          exact ⟨⟨_, _, rfl, by rw [HRQ.out, ← HOX.out]; exact HO.out, by rw [HRQ.out]⟩, hb⟩

end Go.Proofs.Ytgonpgfhajfjpaa
