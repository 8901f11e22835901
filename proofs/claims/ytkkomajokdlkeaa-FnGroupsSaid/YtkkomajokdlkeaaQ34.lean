/- Contracts: how wide groups are. -/
import Derived.Test.YtkkomajokdlkeaaQ6
import Derived.Test.YtkkomajokdlkeaaQ24
import Derived.Test.YtkkomajokdlkeaaQ33
namespace Go.Proofs.Ytkkomajokdlkeaa
set_option linter.unusedSimpArgs false
set_option linter.unusedVariables false
set_option maxRecDepth 100000
set_option maxHeartbeats 4000000
open Go.RowKit
attribute [local go_sem] run_store_float run_store_complex alloc_drewN setCell_drewN

theorem sqsL_congr {f g : Nat → Nat} (h : ∀ i, mulF (f i) (f i) = mulF (g i) (g i)) (n : Nat) : sqsL f n = sqsL g n := by
  induction n with
  | zero => rfl
  | succ n ih => show addF _ _ = addF _ _; rw [ih, h]
theorem farL_comm {cs ds : List Nat} (h : cs.length = ds.length) : farL cs ds = farL ds cs := by
  rw [farL, farL, h, sqsL_congr (fun i => sq_sub _ _)]
def gp (gs : List Int) (i : Nat) : Int := gs.getD i 0
def wf2 (css : List (List Nat)) (i k : Nat) : Nat := farL (rowL css i) (rowL css k)
/-- The widest one so far, in row i. -/
def wcIn (css : List (List Nat)) (gs : List Int) (i s : Nat) : Nat → Nat
  | 0 => s
  | k + 1 => if gp gs i = gp gs k then mx (wcIn css gs i s k) (wf2 css i k) else wcIn css gs i s k
def wcOkIn (css : List (List Nat)) (gs : List Int) (i : Nat) : Nat → Bool
  | 0 => true
  | k + 1 => wcOkIn css gs i k && (decide (gp gs i ≠ gp gs k) || fin (wf2 css i k))
def wcAt (css : List (List Nat)) (gs : List Int) : Nat → Nat
  | 0 => 0
  | i + 1 => wcIn css gs i (wcAt css gs i) i
def wcOk (css : List (List Nat)) (gs : List Int) : Nat → Bool
  | 0 => true
  | i + 1 => wcOk css gs i && wcOkIn css gs i i
theorem wcOkIn_mono {css : List (List Nat)} {gs : List Int} {i k n : Nat} (hk : k ≤ n) (h : wcOkIn css gs i k = false) : wcOkIn css gs i n = false := by
  induction hk with
  | refl => exact h
  | step _ ih => show (_ && _) = false; rw [ih]; rfl
theorem wcOk_mono {css : List (List Nat)} {gs : List Int} {k n : Nat} (hk : k ≤ n) (h : wcOk css gs k = false) : wcOk css gs n = false := by
  induction hk with
  | refl => exact h
  | step _ ih => show (_ && _) = false; rw [ih]; rfl
def wcGood (css : List (List Nat)) (gs : List Int) : Bool := listOk css && decide (gs.length = css.length) && allIn gs 0 15
def wcQ (css : List (List Nat)) (gs : List Int) : Nat × Bool := if wcGood css gs && wcOk css gs css.length then (wcAt css gs css.length, true) else (0, false)
theorem wcQ_bad {css : List (List Nat)} {gs : List Int} (h : wcGood css gs = false) : wcQ css gs = (0, false) := by rw [wcQ, h]; rfl
theorem wcQ_no {css : List (List Nat)} {gs : List Int} {i k : Nat} (hi : i < css.length) (hk : k < i) (h1 : gp gs i = gp gs k) (h2 : fin (wf2 css i k) = false) : wcQ css gs = (0, false) := by
  have e1 : wcOkIn css gs i i = false := wcOkIn_mono (k := k + 1) hk (by show (_ && _) = false; rw [h2]; simp [h1])
  have e2 : wcOk css gs css.length = false := wcOk_mono (k := i + 1) hi (by show (_ && _) = false; rw [e1]; simp)
  rw [wcQ, e2]; simp
theorem wcQ_yes {css : List (List Nat)} {gs : List Int} (h1 : wcGood css gs = true) (h2 : wcOk css gs css.length = true) : wcQ css gs = (wcAt css gs css.length, true) := by rw [wcQ, h1, h2]; rfl
theorem wcIn_same {css : List (List Nat)} {gs : List Int} {i s k : Nat} (h : gp gs i = gp gs k) : wcIn css gs i s (k + 1) = mx (wcIn css gs i s k) (wf2 css i k) := by rw [wcIn, if_pos h]
theorem wcIn_other {css : List (List Nat)} {gs : List Int} {i s k : Nat} (h : gp gs i ≠ gp gs k) : wcIn css gs i s (k + 1) = wcIn css gs i s k := by rw [wcIn, if_neg h]
theorem wcOkIn_same {css : List (List Nat)} {gs : List Int} {i k : Nat} (h1 : wcOkIn css gs i k = true) (h : fin (wf2 css i k) = true) : wcOkIn css gs i (k + 1) = true := by show (_ && _) = true; rw [h1, h]; simp
theorem wcOkIn_other {css : List (List Nat)} {gs : List Int} {i k : Nat} (h1 : wcOkIn css gs i k = true) (h : gp gs i ≠ gp gs k) : wcOkIn css gs i (k + 1) = true := by show (_ && _) = true; rw [h1]; simp [h]
theorem wcGood_of {css : List (List Nat)} {gs : List Int} (h1 : listOk css = true) (h2 : gs.length = css.length) (h3 : allIn gs 0 15 = true) : wcGood css gs = true := by simp [wcGood, h1, h2, h3]
theorem allIn_no {gs : List Int} {k : Nat} (hk : k < gs.length) (h : inB (gp gs k) 0 15 = false) : allIn gs 0 15 = false := by
  unfold allIn
  rw [List.all_eq_false]
  refine ⟨gs[k], List.getElem_mem hk, ?_⟩
  have e : gp gs k = gs[k] := by simp [gp, hk]
  rw [← e, h]; simp
theorem allIn_yes {gs : List Int} (h : ∀ i, i < gs.length → inB (gp gs i) 0 15 = true) : allIn gs 0 15 = true := by
  unfold allIn
  rw [List.all_eq_true]
  intro x hx
  obtain ⟨i, hi, rfl⟩ := List.getElem_of_mem hx
  have e : gp gs i = gs[i] := by simp [gp, hi]
  rw [← e]; exact h i hi
theorem NB.no {q : Nat × Bool} (hq : q = (0, false)) : NB (.returned (.tuple #[.float .f32 0, .bool false])) q := by
  subst hq; exact ⟨_, _, rfl, by omega, cn0, rfl⟩
theorem inB_len {a b : Nat} : inB (a : Int) b b = decide (a = b) := by
  unfold inB; rw [Bool.eq_iff_iff]; simp; omega
theorem two_rows {css : List (List Nat)} (h : listOk css = true) {i k : Nat} (hi : i < css.length) (hk : k < css.length) : twoOk (rowL css k) (rowL css i) = true := by
  have h1 := two_iff.1 (listOk_two h hi)
  have h2 := two_iff.1 (listOk_two h hk)
  exact two_iff.2 ⟨h2.1, h1.1, by rw [h2.2.2, h1.2.2]⟩

theorem i_WidthOfCenters (v u : Value) (css : List (List Nat)) (gs : List Int) (w : World) (hv : SS w v css) (hu : GL (Value.int .i64) w u gs) (hwf : allWf gs) :
    Calls Try.prog 17 #[v, u] w fun e w' => NB e (wcQ css gs) ∧ Below w.heap.size w w' := by
  obtain ⟨ao, c, rfl, hc1, hc2, hget⟩ := hv.get rfl
  obtain ⟨bo, d, rfl, hd1, hd2, hget2⟩ := hu.get rfl
  have HV := Lib.hid hv
  have HU := Lib.hid hu
  have HG := Lib.hid hget
  have HG2 := Lib.hid hget2
  clear hget hget2 hv hu
  cases hok : listOk css
  · have HOK := Lib.hid hok
    have HQ := Lib.hid (wcQ_bad (css := css) (gs := gs) (by rw [wcGood, hok]; rfl))
    clear hok
    go_enter Try.func17, Try.ntmps17
    go_wp2_with (go_at_call 55; refine (i_areShapes _ css _ HV.out).mono ?_; rintro e w1 ⟨rfl, hb1⟩; rw [HOK.out])
    go_ret2
    exact ⟨NB.no HQ.out, by (repeat (first | with_reducible exact Below.refl _ _ | with_reducible assumption | with_reducible refine below_drewN ?_ _ | with_reducible refine Below.drew ?_ | with_reducible refine Below.alloc ?_ (by first | omega | (simp; omega) | (simp; done) | (simp at *; omega)) _ | with_reducible refine Below.setCell ?_ (by first | omega | (simp; omega) | (simp; done) | (simp at *; omega)) _ | refine Below.trans ?_ (Below.mono (by with_reducible assumption) (by first | omega | (simp; omega) | (simp; done) | (simp at *; omega)))))⟩
  · have HOK := Lib.hid hok
    cases ham : (inB (gs.length : Int) css.length css.length && allIn gs 0 15)
    · have HAM := Lib.hid ham
      have HQ := Lib.hid (wcQ_bad (css := css) (gs := gs) (by rw [inB_len] at ham; rw [wcGood, hok, Bool.true_and]; exact ham))
      clear hok ham
      go_enter Try.func17, Try.ntmps17
      go_wp2_with (first
        | (go_at_call 55; refine (i_areShapes _ css _ HV.out).mono ?_; rintro e w1 ⟨rfl, hb1⟩; rw [HOK.out])
        | (go_at_call 68; refine (i_areMany _ gs _ _ _ _ _ (HU.out.keep hb1) hwf).mono ?_; rintro e w2 ⟨rfl, hb2⟩; rw [HAM.out]; have hz1 := hb1.size))
      go_ret2
      exact ⟨NB.no HQ.out, by (repeat (first | with_reducible exact Below.refl _ _ | with_reducible assumption | with_reducible refine below_drewN ?_ _ | with_reducible refine Below.drew ?_ | with_reducible refine Below.alloc ?_ (by first | omega | (simp; omega) | (simp; done) | (simp at *; omega)) _ | with_reducible refine Below.setCell ?_ (by first | omega | (simp; omega) | (simp; done) | (simp at *; omega)) _ | refine Below.trans ?_ (Below.mono (by with_reducible assumption) (by first | omega | (simp; omega) | (simp; done) | (simp at *; omega)))))⟩
    · have HAM := Lib.hid ham
      have HL := Lib.hid (listOk_len hok)
      have hgl : gs.length = css.length := by
        rw [inB_len] at ham
        simp only [Bool.and_eq_true, decide_eq_true_eq] at ham
        exact ham.1
      have HGOOD := Lib.hid (wcGood_of hok hgl (by simp only [Bool.and_eq_true] at ham; exact ham.2))
      have HTWO := Lib.hid (fun i k (hi : i < css.length) (hk : k < css.length) => two_rows hok hi hk)
      have HGL := Lib.hid hgl
      clear hok ham hgl
      go_enter Try.func17, Try.ntmps17
      go_wp2_with (first
        | (go_at_call 55; refine (i_areShapes _ css _ HV.out).mono ?_; rintro e w1 ⟨rfl, hb1⟩; rw [HOK.out])
        | (go_at_call 68; refine (i_areMany _ gs _ _ _ _ _ (HU.out.keep hb1) hwf).mono ?_; rintro e w2 ⟨rfl, hb2⟩; rw [HAM.out]; have hz1 := hb1.size))
      have hb12 : Below w.heap.size w w2 := hb1.trans (hb2.mono hz1)
      clear hb2
      go_loopw [7, 26] (fun mo i wr => ∃ j : Nat, j ≤ css.length ∧ i = .int .i64 (j : Int) ∧ (∃ r, mo = .float .f32 r ∧ r < 4294967296 ∧ Hid (r = wcAt css gs j ∧ fin r = true)) ∧ Hid (wcOk css gs j = true) ∧ Below w.heap.size w wr) (fun _ i _ => css.length - (intOf i).toNat)
      case atStart => exact ⟨0, Nat.zero_le _, rfl, ⟨_, rfl, by omega, rfl, by decide +kernel⟩, rfl, by (repeat (first | with_reducible exact Below.refl _ _ | with_reducible assumption | with_reducible refine below_drewN ?_ _ | with_reducible refine Below.drew ?_ | with_reducible refine Below.alloc ?_ (by first | omega | (simp; omega) | (simp; done) | (simp at *; omega)) _ | with_reducible refine Below.setCell ?_ (by first | omega | (simp; omega) | (simp; done) | (simp at *; omega)) _ | refine Below.trans ?_ (Below.mono (by with_reducible assumption) (by first | omega | (simp; omega) | (simp; done) | (simp at *; omega)))))⟩
      case round =>
        obtain ⟨j, hj, rfl, ⟨r, rfl, hr, HR⟩, HOKJ, hb⟩ := hrel
        by_cases hlt : j < css.length
        · go_wp2_with fail
          obtain ⟨wo, hwo⟩ : ∃ wo, wo = wr := ⟨_, rfl⟩
          subst hwo
          go_loopw [7, 30] (fun mo i wr => ∃ k : Nat, k ≤ j ∧ i = .int .i64 (k : Int) ∧ (∃ r2, mo = .float .f32 r2 ∧ r2 < 4294967296 ∧ Hid (r2 = wcIn css gs j (wcAt css gs j) k ∧ fin r2 = true)) ∧ Hid (wcOkIn css gs j k = true) ∧ Below w.heap.size w wr) (fun _ i _ => j - (intOf i).toNat)
          case atStart => exact ⟨0, Nat.zero_le _, rfl, ⟨_, rfl, hr, HR.out⟩, rfl, hb⟩
          case round =>
            obtain ⟨k, hk, rfl, ⟨r2, rfl, hr2, HR2⟩, HOKK, hb3⟩ := hrel
            by_cases hlk : k < j
            · have hgj : j < gs.length := by have := HGL.out; omega
              have hgk : k < gs.length := by have := HGL.out; omega
              obtain ⟨b1, o1, e1, hbl1, hca⟩ := HG2.out j hgj
              obtain ⟨b2, o2, e2, hbl2, hcb⟩ := HG2.out k hgk
              subst e1
              simp only [Option.some.injEq, Addr.mk.injEq, and_true] at e2
              obtain ⟨rfl, rfl⟩ := e2
              have hca' := (hb3.cell (p := ⟨b1, o1 + j, none⟩) hbl1).trans hca
              have hcb' := (hb3.cell (p := ⟨b1, o1 + k, none⟩) hbl2).trans hcb
              obtain ⟨xj, hxj⟩ : ∃ xj, xj = gp gs j := ⟨_, rfl⟩
              obtain ⟨xk, hxk⟩ : ∃ xk, xk = gp gs k := ⟨_, rfl⟩
              have hca'' : wr.cell? ⟨b1, o1 + j, none⟩ = some (.int .i64 xj) := by rw [hca', hxj]; rfl
              have hcb'' : wr.cell? ⟨b1, o1 + k, none⟩ = some (.int .i64 xk) := by rw [hcb', hxk]; rfl
              clear hca hcb hca' hcb'
              have hgji : (j : Int) < (gs.length : Int) := by omega
              have hgki : (k : Int) < (gs.length : Int) := by omega
              by_cases hsame : xj = xk
              · have HSAME := Lib.hid (show gp gs j = gp gs k by rw [← hxj, ← hxk]; exact hsame)
                have hne : (xj != xk) = false := by simp [hsame]
                subst hsame
                obtain ⟨b4, o4, l1, e4, hbl4, hcl1, hsl1⟩ := HG.out j hlt
                obtain ⟨b5, o5, l2, e5, hbl5, hcl2, hsl2⟩ := HG.out k (by omega)
                subst e4
                simp only [Option.some.injEq, Addr.mk.injEq, and_true] at e5
                obtain ⟨rfl, rfl⟩ := e5
                have hcl1' := (hb3.cell (p := ⟨b4, o4 + j, none⟩) hbl4).trans hcl1
                have hcl2' := (hb3.cell (p := ⟨b4, o4 + k, none⟩) hbl5).trans hcl2
                have HS1 := Lib.hid (show SB wr l1 (rowL css j) from SB.below hsl1 hb3 (Nat.le_refl _))
                have HS2 := Lib.hid (show SB wr l2 (rowL css k) from SB.below hsl2 hb3 (Nat.le_refl _))
                have HFQ := Lib.hid ((farQ_two (HTWO.out j k hlt (by omega))).trans (by rw [farL_comm (two_iff.1 (HTWO.out j k hlt (by omega))).2.2]))
                have hjl : (j : Int) < (css.length : Int) := by omega
                have hkl : (k : Int) < (css.length : Int) := by omega
                clear hcl1 hcl2 hsl1 hsl2 hxj hxk
                cases hf : fin (wf2 css j k)
                · have HN := Lib.hid (show numB (farL (rowL css j) (rowL css k)) = (0, false) from numB_no hf)
                  have HQ2 := Lib.hid (wcQ_no hlt hlk HSAME.out hf)
                  clear hf
                  go_wp2_with fail
                  (try go_region)
                  go_wp2_with fail
                  go_region_with (go_at_call 34; refine (i_FarOfShapes _ _ (rowL css k) (rowL css j) _ (HS2.out.keep (by (repeat (first | with_reducible exact Below.refl _ _ | with_reducible assumption | with_reducible refine below_drewN ?_ _ | with_reducible refine Below.drew ?_ | with_reducible refine Below.alloc ?_ (by first | omega | (simp; omega) | (simp; done) | (simp at *; omega)) _ | with_reducible refine Below.setCell ?_ (by first | omega | (simp; omega) | (simp; done) | (simp at *; omega)) _ | refine Below.trans ?_ (Below.mono (by with_reducible assumption) (by first | omega | (simp; omega) | (simp; done) | (simp at *; omega))))))) (HS1.out.keep (by (repeat (first | with_reducible exact Below.refl _ _ | with_reducible assumption | with_reducible refine below_drewN ?_ _ | with_reducible refine Below.drew ?_ | with_reducible refine Below.alloc ?_ (by first | omega | (simp; omega) | (simp; done) | (simp at *; omega)) _ | with_reducible refine Below.setCell ?_ (by first | omega | (simp; omega) | (simp; done) | (simp at *; omega)) _ | refine Below.trans ?_ (Below.mono (by with_reducible assumption) (by first | omega | (simp; omega) | (simp; done) | (simp at *; omega)))))))).mono ?_; rintro e w3 ⟨⟨r3, b3, rfl, hr3, hr4, hr5⟩, hb4⟩; rw [HFQ.out, HN.out] at hr4 hr5; subst hr5; have HR4 := Lib.hid hr4; clear hr4; have hz3 := hb3.size)
                  all_goals
                    go_wp2_with fail
                    go_ret2
                    exact ⟨NB.no HQ2.out, by (repeat (first | with_reducible exact Below.refl _ _ | with_reducible assumption | with_reducible refine below_drewN ?_ _ | with_reducible refine Below.drew ?_ | with_reducible refine Below.alloc ?_ (by first | omega | (simp; omega) | (simp; done) | (simp at *; omega)) _ | with_reducible refine Below.setCell ?_ (by first | omega | (simp; omega) | (simp; done) | (simp at *; omega)) _ | refine Below.trans ?_ (Below.mono (by with_reducible assumption) (by first | omega | (simp; omega) | (simp; done) | (simp at *; omega)))))⟩
                · have HN := Lib.hid (show numB (farL (rowL css j) (rowL css k)) = (wf2 css j k, true) from numB_yes hf)
                  have HFF := Lib.hid hf
                  have HW := Lib.hid (wcIn_same (css := css) (s := wcAt css gs j) HSAME.out)
                  have HW2 := Lib.hid (wcOkIn_same HOKK.out hf)
                  clear hf
                  go_wp2_with fail
                  (try go_region)
                  go_wp2_with fail
                  go_region_with (go_at_call 34; refine (i_FarOfShapes _ _ (rowL css k) (rowL css j) _ (HS2.out.keep (by (repeat (first | with_reducible exact Below.refl _ _ | with_reducible assumption | with_reducible refine below_drewN ?_ _ | with_reducible refine Below.drew ?_ | with_reducible refine Below.alloc ?_ (by first | omega | (simp; omega) | (simp; done) | (simp at *; omega)) _ | with_reducible refine Below.setCell ?_ (by first | omega | (simp; omega) | (simp; done) | (simp at *; omega)) _ | refine Below.trans ?_ (Below.mono (by with_reducible assumption) (by first | omega | (simp; omega) | (simp; done) | (simp at *; omega))))))) (HS1.out.keep (by (repeat (first | with_reducible exact Below.refl _ _ | with_reducible assumption | with_reducible refine below_drewN ?_ _ | with_reducible refine Below.drew ?_ | with_reducible refine Below.alloc ?_ (by first | omega | (simp; omega) | (simp; done) | (simp at *; omega)) _ | with_reducible refine Below.setCell ?_ (by first | omega | (simp; omega) | (simp; done) | (simp at *; omega)) _ | refine Below.trans ?_ (Below.mono (by with_reducible assumption) (by first | omega | (simp; omega) | (simp; done) | (simp at *; omega)))))))).mono ?_; rintro e w3 ⟨⟨r3, b3, rfl, hr3, hr4, hr5⟩, hb4⟩; rw [HFQ.out, HN.out] at hr4 hr5; subst hr5; have HR4 := Lib.hid hr4; have hmx := fun (ts : Array TypeId) (t : TypeId) (w : World) => run_mx (P := Try.prog) ts t r2 r3 (fin_notNaN HR2.out.2) (raw_of hr4 HFF.out).2 w; clear hr4; have hz3 := hb3.size)
                  all_goals
                    go_wp2_with fail
                    have h4 := raw_of HR4.out HFF.out
                    refine ⟨⟨k + 1, by omega, by go_num, ⟨_, rfl, mx_lt hr2 hr3, ?_⟩, HW2.out, by (repeat (first | with_reducible exact Below.refl _ _ | with_reducible assumption | with_reducible refine below_drewN ?_ _ | with_reducible refine Below.drew ?_ | with_reducible refine Below.alloc ?_ (by first | omega | (simp; omega) | (simp; done) | (simp at *; omega)) _ | with_reducible refine Below.setCell ?_ (by first | omega | (simp; omega) | (simp; done) | (simp at *; omega)) _ | refine Below.trans ?_ (Below.mono (by with_reducible assumption) (by first | omega | (simp; omega) | (simp; done) | (simp at *; omega)))))⟩, by simp [intOf]; omega⟩
                    exact ⟨by rw [HW.out, HR2.out.1, h4.1], mx_fin HR2.out.2 (by rw [h4.1]; exact HFF.out)⟩
              · have hne : (xj != xk) = true := by simp [hsame]
                have HO := Lib.hid (show gp gs j ≠ gp gs k by rw [← hxj, ← hxk]; exact hsame)
                have HW := Lib.hid (wcIn_other (css := css) (s := wcAt css gs j) HO.out)
                have HW2 := Lib.hid (wcOkIn_other HOKK.out HO.out)
                clear hxj hxk hsame
                go_wp2_with fail
                (try go_region)
                all_goals
                  go_wp2_with fail
                  refine ⟨⟨k + 1, by omega, by go_num, ⟨_, rfl, hr2, ?_⟩, HW2.out, by (repeat (first | with_reducible exact Below.refl _ _ | with_reducible assumption | with_reducible refine below_drewN ?_ _ | with_reducible refine Below.drew ?_ | with_reducible refine Below.alloc ?_ (by first | omega | (simp; omega) | (simp; done) | (simp at *; omega)) _ | with_reducible refine Below.setCell ?_ (by first | omega | (simp; omega) | (simp; done) | (simp at *; omega)) _ | refine Below.trans ?_ (Below.mono (by with_reducible assumption) (by first | omega | (simp; omega) | (simp; done) | (simp at *; omega)))))⟩, by simp [intOf]; omega⟩
                  exact ⟨by rw [HW.out]; exact HR2.out.1, HR2.out.2⟩
            · obtain rfl : k = j := by omega
              go_wp2_with fail
              refine ⟨⟨k + 1, by omega, by go_num, ⟨_, rfl, hr2, HR2.out⟩, ?_, hb3⟩, by simp [intOf]; omega⟩
              show (_ && _) = true
              rw [HOKJ.out, HOKK.out]; rfl
        · go_wp2_with fail
          go_ret2
          obtain rfl : j = css.length := by omega
          have h1 := wcQ_yes HGOOD.out HOKJ.out
          refine ⟨⟨_, _, rfl, hr, ?_, ?_⟩, hb⟩
          · rw [h1, ← HR.out.1]
            exact cn_of_not (k := .f32) (fin_notNaN HR.out.2)
          · rw [h1]

theorem s_WidthOfCenters (v u : Value) (css : List (List Nat)) (gs : List Int) (w : World) (hv : SS w v css) (hu : GL (Value.int .i64) w u gs) (hwf : allWf gs) :
    Calls Try.prog 18 #[v, u] w fun e w' => NB e (wcQ css gs) ∧ Dr w w' := by
  obtain ⟨ao, c, rfl, hc1, hc2, hget⟩ := hv.get rfl
  obtain ⟨bo, d, rfl, hd1, hd2, hget2⟩ := hu.get rfl
  have HV := Lib.hid hv
  have HU := Lib.hid hu
  have HG := Lib.hid hget
  have HG2 := Lib.hid hget2
  clear hget hget2 hv hu
  cases hok : listOk css
  · have HOK := Lib.hid hok
    have HQ := Lib.hid (wcQ_bad (css := css) (gs := gs) (by rw [wcGood, hok]; rfl))
    clear hok
    go_enter Try.func18, Try.ntmps18
    go_wp2_with (go_at_call 61; refine (s_l07List _ css _ HV.out).mono ?_; rintro e w1 ⟨rfl, n1, rfl⟩; rw [HOK.out])
    go_ret2
    exact ⟨NB.no HQ.out, Dr.mk _ _⟩
  · have HOK := Lib.hid hok
    by_cases hgl : gs.length = css.length
    · have hl2 : ((gs.length : Int) != (css.length : Int)) = false := by simp; omega
      have HGL := Lib.hid hgl
      have HTWO := Lib.hid (fun i k (hi : i < css.length) (hk : k < css.length) => two_rows hok hi hk)
      clear hgl hok
      go_enter Try.func18, Try.ntmps18
      go_wp2_with (go_at_call 61; refine (s_l07List _ css _ HV.out).mono ?_; rintro e w1 ⟨rfl, n1, rfl⟩; rw [HOK.out])
      clear hl2
      go_loopw [6, 22] (fun mo i wr => ∃ j : Nat, j ≤ css.length ∧ i = .int .i64 (j : Int) ∧ (∃ r, mo = .float .f32 r ∧ r < 4294967296 ∧ Hid (r = wcAt css gs j ∧ fin r = true)) ∧ Hid (wcOk css gs j = true ∧ ∀ i, i < j → inB (gp gs i) 0 15 = true) ∧ ∃ d, wr = w.drewN d) (fun _ i _ => css.length - (intOf i).toNat)
      case atStart => exact ⟨0, Nat.zero_le _, rfl, ⟨_, rfl, by omega, rfl, by decide +kernel⟩, ⟨rfl, fun i hi => by omega⟩, _, rfl⟩
      case round =>
        obtain ⟨j, hj, rfl, ⟨r, rfl, hr, HR⟩, HOKJ, dn, rfl⟩ := hrel
        by_cases hlt : j < css.length
        · have hgj : j < gs.length := by have := HGL.out; omega
          obtain ⟨b1, o1, e1, hbl1, hca⟩ := HG2.out j hgj
          subst e1
          obtain ⟨xj, hxj⟩ : ∃ xj, xj = gp gs j := ⟨_, rfl⟩
          have hca' : w.cell? ⟨b1, o1 + j, none⟩ = some (.int .i64 xj) := by rw [hca, hxj]; rfl
          have hgji : (j : Int) < (gs.length : Int) := by omega
          have HXJ := Lib.hid hxj
          clear hca hxj
          cases hin : inB xj 0 15
          · have HIN := Lib.hid hin
            have HQ := Lib.hid (wcQ_bad (css := css) (gs := gs) (by rw [wcGood, allIn_no hgj (by rw [← HXJ.out]; exact hin)]; simp))
            clear hin
            go_wp2_with (go_at_call 62; refine (s_l00In _ _ _ _).mono ?_; rintro e w1 ⟨rfl, n1, rfl⟩; rw [HIN.out])
            go_ret2
            exact ⟨NB.no HQ.out, by first | exact ⟨_, rfl⟩ | exact ⟨_, (World.drewN_drewN ..).symm⟩⟩
          · have HIN := Lib.hid hin
            clear hin
            go_wp2_with (go_at_call 62; refine (s_l00In _ _ _ _).mono ?_; rintro e w1 ⟨rfl, n1, rfl⟩; rw [HIN.out])
            go_loopw [6, 8] (fun mo i wr => ∃ k : Nat, k ≤ j ∧ i = .int .i64 (k : Int) ∧ (∃ r2, mo = .float .f32 r2 ∧ r2 < 4294967296 ∧ Hid (r2 = wcIn css gs j (wcAt css gs j) k ∧ fin r2 = true)) ∧ Hid (wcOkIn css gs j k = true) ∧ ∃ d, wr = w.drewN d) (fun _ i _ => j - (intOf i).toNat)
            case atStart => exact ⟨0, Nat.zero_le _, rfl, ⟨_, rfl, hr, HR.out⟩, rfl, by first | exact ⟨_, rfl⟩ | exact ⟨_, World.drewN_drewN ..⟩⟩
            case round =>
              obtain ⟨k, hk, rfl, ⟨r2, rfl, hr2, HR2⟩, HOKK, dm, rfl⟩ := hrel
              by_cases hlk : k < j
              · have hgk : k < gs.length := by have := HGL.out; omega
                obtain ⟨b2, o2, e2, hbl2, hcb⟩ := HG2.out k hgk
                simp only [Option.some.injEq, Addr.mk.injEq, and_true] at e2
                obtain ⟨rfl, rfl⟩ := e2
                obtain ⟨xk, hxk⟩ : ∃ xk, xk = gp gs k := ⟨_, rfl⟩
                have hcb' : w.cell? ⟨b1, o1 + k, none⟩ = some (.int .i64 xk) := by rw [hcb, hxk]; rfl
                clear hcb
                have hgki : (k : Int) < (gs.length : Int) := by omega
                by_cases hsame : xj = xk
                · have HSAME := Lib.hid (show gp gs j = gp gs k by rw [← HXJ.out, ← hxk]; exact hsame)
                  subst hsame
                  obtain ⟨b4, o4, l1, e4, hbl4, hcl1, hsl1⟩ := HG.out j hlt
                  obtain ⟨b5, o5, l2, e5, hbl5, hcl2, hsl2⟩ := HG.out k (by omega)
                  subst e4
                  simp only [Option.some.injEq, Addr.mk.injEq, and_true] at e5
                  obtain ⟨rfl, rfl⟩ := e5
                  have HS1 := Lib.hid (show SB w l1 (rowL css j) from hsl1)
                  have HS2 := Lib.hid (show SB w l2 (rowL css k) from hsl2)
                  have HLE := Lib.hid ((two_iff.1 (HTWO.out k j (by omega) hlt)).2.2)
                  have HQF := Lib.hid (fun n => s_l07Far l1 l2 (rowL css j) (rowL css k) (w.drewN n) (HS1.out.drewN n) (HS2.out.drewN n) HLE.out)
                  have hjl : (j : Int) < (css.length : Int) := by omega
                  have hkl : (k : Int) < (css.length : Int) := by omega
                  clear hsl1 hsl2 hxk
                  cases hf : fin (wf2 css j k)
                  · have HFF := Lib.hid hf
                    have HQ2 := Lib.hid (wcQ_no hlt hlk HSAME.out hf)
                    clear hf
                    go_wp2_with fail
                    (try go_region)
                    go_wp2_with fail
                    go_region_with (go_at_call 67; refine (s_l07Far _ _ (rowL css j) (rowL css k) _ (HS1.out.drewN _) (HS2.out.drewN _) HLE.out).mono ?_; rintro e w3 ⟨⟨r3, rfl, hr3, hr4⟩, n3, rfl⟩; have HR4 := Lib.hid hr4; clear hr4)
                    all_goals
                      go_wp2_with (go_at_call 69; refine (s_l01Finite _ _).mono ?_; rintro e w4 ⟨rfl, n4, rfl⟩; rw [HR4.out]; rw [show fin (farL (rowL css j) (rowL css k)) = false from HFF.out])
                      go_ret2
                      exact ⟨NB.no HQ2.out, by first | exact ⟨_, rfl⟩ | exact ⟨_, (World.drewN_drewN ..).symm⟩⟩
                  · have HFF := Lib.hid hf
                    have HW := Lib.hid (wcIn_same (css := css) (s := wcAt css gs j) HSAME.out)
                    have HW2 := Lib.hid (wcOkIn_same HOKK.out hf)
                    clear hf
                    go_wp2_with fail
                    (try go_region)
                    go_wp2_with fail
                    go_region_with (go_at_call 67; refine (s_l07Far _ _ (rowL css j) (rowL css k) _ (HS1.out.drewN _) (HS2.out.drewN _) HLE.out).mono ?_; rintro e w3 ⟨⟨r3, rfl, hr3, hr4⟩, n3, rfl⟩; have HR4 := Lib.hid hr4; have hmx := fun (ts : Array TypeId) (t : TypeId) (w : World) => run_mx (P := Try.prog) ts t r2 r3 (fin_notNaN HR2.out.2) (raw_of hr4 HFF.out).2 w; clear hr4)
                    all_goals
                      go_wp2_with (go_at_call 69; refine (s_l01Finite _ _).mono ?_; rintro e w4 ⟨rfl, n4, rfl⟩; rw [HR4.out]; rw [show fin (farL (rowL css j) (rowL css k)) = true from HFF.out])
                      have h4 := raw_of HR4.out HFF.out
                      refine ⟨⟨k + 1, by omega, by go_num, ⟨_, rfl, mx_lt hr2 hr3, ?_⟩, HW2.out, by first | exact ⟨_, rfl⟩ | exact ⟨_, (World.drewN_drewN ..).symm⟩⟩, by simp [intOf]; omega⟩
                      exact ⟨by rw [HW.out, HR2.out.1, h4.1]; rfl, mx_fin HR2.out.2 (by rw [h4.1]; exact HFF.out)⟩
                · have HO := Lib.hid (show gp gs j ≠ gp gs k by rw [← HXJ.out, ← hxk]; exact hsame)
                  have hne : (xk == xj) = false := by simp; exact fun h => hsame h.symm
                  have HW := Lib.hid (wcIn_other (css := css) (s := wcAt css gs j) HO.out)
                  have HW2 := Lib.hid (wcOkIn_other HOKK.out HO.out)
                  clear hxk hsame
                  go_wp2_with fail
                  (try go_region)
                  all_goals
                    go_wp2_with fail
                    refine ⟨⟨k + 1, by omega, by go_num, ⟨_, rfl, hr2, ?_⟩, HW2.out, by first | exact ⟨_, rfl⟩ | exact ⟨_, (World.drewN_drewN ..).symm⟩⟩, by simp [intOf]; omega⟩
                    exact ⟨by rw [HW.out]; exact HR2.out.1, HR2.out.2⟩
              · obtain rfl : k = j := by omega
                go_wp2_with fail
                refine ⟨⟨k + 1, by omega, by go_num, ⟨_, rfl, hr2, HR2.out⟩, ⟨?_, ?_⟩, _, rfl⟩, by simp [intOf]; omega⟩
                · show (_ && _) = true
                  rw [HOKJ.out.1, HOKK.out]; rfl
                · intro i hi
                  rcases Nat.lt_or_ge i k with h | h
                  · exact HOKJ.out.2 i h
                  · obtain rfl : i = k := by omega
                    rw [← HXJ.out]; exact HIN.out
        · go_wp2_with fail
          go_ret2
          obtain rfl : j = css.length := by omega
          have h1 := wcQ_yes (wcGood_of HOK.out HGL.out (allIn_yes (by rw [HGL.out]; exact HOKJ.out.2))) HOKJ.out.1
          refine ⟨⟨_, _, rfl, hr, ?_, ?_⟩, _, rfl⟩
          · rw [h1, ← HR.out.1]
            exact cn_of_not (k := .f32) (fin_notNaN HR.out.2)
          · rw [h1]
    · have hl2 : ((gs.length : Int) != (css.length : Int)) = true := by simp; omega
      have HQ := Lib.hid (wcQ_bad (css := css) (gs := gs) (by simp [wcGood, hgl]))
      clear hgl hok
      go_enter Try.func18, Try.ntmps18
      go_wp2_with (go_at_call 61; refine (s_l07List _ css _ HV.out).mono ?_; rintro e w1 ⟨rfl, n1, rfl⟩; rw [HOK.out])
      go_ret2
      exact ⟨NB.no HQ.out, Dr.mk _ _⟩
theorem s_WidthOfCentersB (v u : Value) (css : List (List Nat)) (gs : List Int) (w : World) (hv : SS w v css) (hu : GL (Value.int .i64) w u gs) (hwf : allWf gs) :
    Calls Try.prog 18 #[v, u] w fun e w' => NB e (wcQ css gs) ∧ Below w.heap.size w w' :=
  (s_WidthOfCenters v u css gs w hv hu hwf).mono fun _ _ ⟨h, d⟩ => ⟨h, d.below _⟩

end Go.Proofs.Ytkkomajokdlkeaa
