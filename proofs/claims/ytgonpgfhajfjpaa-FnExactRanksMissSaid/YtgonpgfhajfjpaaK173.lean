/- Contracts: ranks by misses, by the program. -/
import Derived.Test.YtgonpgfhajfjpaaK170
import Derived.Test.YtgonpgfhajfjpaaK172
namespace Go.Proofs.Ytgonpgfhajfjpaa
set_option linter.unusedSimpArgs false
set_option linter.unusedVariables false
set_option maxRecDepth 100000
set_option maxHeartbeats 4000000
open Go.RowKit
attribute [local go_sem] run_store_float run_store_complex alloc_drewN setCell_drewN
def sgnF (x y : Nat) : Int := if fc .lss .f32 x y then -1 else if fc .gtr .f32 x y then 1 else 0
def rkR (xs : List Nat) (css : List (List Nat)) (n : Nat) : List Nat := (List.range n).map fun i => (rmsQ xs (rowL css i)).1
def rkCmp (R : List Nat) (a b : Int) : Int := sgnF (R.getD a.toNat 0) (R.getD b.toNat 0)
def numsI (n : Nat) : List Int := (List.range n).map fun (i : Nat) => (i : Int)
def rkAll (xs : List Nat) (css : List (List Nat)) (n : Nat) : Bool := (List.range n).all fun i => (rmsQ xs (rowL css i)).2
def rkQ (css : List (List Nat)) (xs : List Nat) : List Int × Bool :=
  if waysOk css && rkAll xs css css.length then (isortI (rkCmp (rkR xs css css.length)) (numsI css.length) (css.length - 1), true) else ([], false)
theorem rkR_length (xs : List Nat) (css : List (List Nat)) (n : Nat) : (rkR xs css n).length = n := by simp [rkR]
theorem rkR_succ (xs : List Nat) (css : List (List Nat)) (n : Nat) : rkR xs css (n + 1) = rkR xs css n ++ [(rmsQ xs (rowL css n)).1] := by simp [rkR, List.range_succ]
theorem numsI_length (n : Nat) : (numsI n).length = n := by simp [numsI]
theorem numsI_succ (n : Nat) : numsI (n + 1) = numsI n ++ [(n : Int)] := by simp [numsI, List.range_succ]
theorem rkAll_succ (xs : List Nat) (css : List (List Nat)) (n : Nat) : rkAll xs css (n + 1) = (rkAll xs css n && (rmsQ xs (rowL css n)).2) := by simp [rkAll, List.range_succ, List.all_append]
theorem rkAll_no {xs : List Nat} {css : List (List Nat)} {k n : Nat} (hk : k < n) (h : (rmsQ xs (rowL css k)).2 = false) : rkAll xs css n = false := by
  unfold rkAll
  rw [List.all_eq_false]
  exact ⟨k, List.mem_range.2 hk, by rw [h]; decide⟩
theorem rkQ_short (css : List (List Nat)) (xs : List Nat) : (rkQ css xs).1.length < 1000000 := by
  unfold rkQ
  split
  · rename_i h
    simp only [waysOk, Bool.and_eq_true, decide_eq_true_eq] at h
    dsimp only
    rw [isortI_length, numsI_length]
    omega
  · decide
/-- Slices of other elements lie in other blocks. -/
theorem OW.ne_goR {α : Type} {inj : α → Value} {T T' b b' : Nat} {w : World} {u v : Value} {cs : List Nat} {xs : List α} (h : OW T b w u cs) (h' : GO inj T' b' w v xs) (hne : T ≠ T') : u.ownBlock = none ∨ u.ownBlock ≠ v.ownBlock := by
  obtain ⟨ys, ho, -, -⟩ := h
  rcases ho.2 with ⟨rfl, -⟩ | ⟨g, cap, cur, rfl, -, hg, -⟩
  · exact .inl rfl
  · rcases h'.2 with ⟨rfl, -⟩ | ⟨g2, cap2, cur2, rfl, -, hg2, -⟩
    · exact .inr (by simp [Value.ownBlock])
    · refine .inr fun e => ?_
      have e2 : g = g2 := by simpa [Value.ownBlock] using e
      subst e2
      rw [hg] at hg2
      simp only [Option.some.injEq, Obj.cells.injEq] at hg2
      exact hne hg2.2.1
theorem GO.ne_goR {α β : Type} {inj : α → Value} {inj' : β → Value} {T T' b b' : Nat} {w : World} {u v : Value} {cs : List β} {xs : List α} (h : GO inj' T b w u cs) (h' : GO inj T' b' w v xs) (hne : T ≠ T') : u.ownBlock = none ∨ u.ownBlock ≠ v.ownBlock := by
  rcases h.2 with ⟨rfl, -⟩ | ⟨g, cap, cur, rfl, -, hg, -⟩
  · exact .inl rfl
  · rcases h'.2 with ⟨rfl, -⟩ | ⟨g2, cap2, cur2, rfl, -, hg2, -⟩
    · exact .inr (by simp [Value.ownBlock])
    · refine .inr fun e => ?_
      have e2 : g = g2 := by simpa [Value.ownBlock] using e
      subst e2
      rw [hg] at hg2
      simp only [Option.some.injEq, Obj.cells.injEq] at hg2
      exact hne hg2.2.1
theorem own_sym {a b : Option Nat} (h : a = none ∨ a ≠ b) : b = none ∨ b ≠ a := by
  rcases h with rfl | h
  · cases b with
    | none => exact .inl rfl
    | some g => exact .inr (by simp)
  · exact .inr (Ne.symm h)

theorem i_sign (x y : Nat) (w : World) : Calls Try.prog 25 #[.float .f32 x, .float .f32 y] w fun e w' => e = .returned (.int .i64 (sgnF (cn .f32 x) (cn .f32 y))) ∧ Dr w w' := by
  cases h1 : fc .lss .f32 (cn .f32 x) (cn .f32 y) <;> cases h2 : fc .gtr .f32 (cn .f32 x) (cn .f32 y)
  all_goals
    have H1 := Lib.hid h1
    have H2 := Lib.hid h2
    clear h1 h2
    go_enter Try.func25, Try.ntmps25
    go_wp2_with (first | (refine wpList_fc .f32 _ _ rfl rfl rfl ?_; first | rw [H1.out] | rw [H2.out]))
    go_ret
    exact ⟨by rw [sgnF, H1.out, H2.out]; rfl, Dr.refl _⟩

theorem i_cmpR (b : Nat) (ao : Option Addr) (n c : Nat) (R : List Nat) (w : World) (r : Option Nat) (hb : b < w.heap.size) (hbr : r ≠ some b) (hm : w.cell? ⟨b, 0, none⟩ = some (.slice ao n c)) (hs : SB w (.slice ao n c) R) (hn : R.length = n)
    (hao : ∀ g o, ao = some ⟨g, o, none⟩ → r ≠ some g) :
    CmpsI Try.prog 24 (.pointer (some ⟨b, 0, none⟩)) w r (fun a => 0 ≤ a ∧ a < (n : Int)) (rkCmp R) := by
  intro x y w' hx hy hg
  obtain ⟨av, cc, hv, -, -, hget⟩ := hs.get hn
  obtain ⟨xn, rfl⟩ := Int.eq_ofNat_of_zero_le hx.1
  obtain ⟨yn, rfl⟩ := Int.eq_ofNat_of_zero_le hy.1
  obtain ⟨b1, o1, x1, e1, hb1, hc1, hx1, hcx1⟩ := hget xn (by omega)
  obtain ⟨b2, o2, y1, e2, hb2, hc2, hy1, hcy1⟩ := hget yn (by omega)
  simp only [Value.slice.injEq] at hv
  obtain ⟨rfl, -, -⟩ := hv
  subst e1
  simp only [Option.some.injEq, Addr.mk.injEq, and_true] at e2
  obtain ⟨rfl, rfl⟩ := e2
  have hne := hao _ _ rfl
  have k0 : w'.cell? ⟨b, 0, none⟩ = some (.slice (some ⟨b1, o1, none⟩) n c) := (World.cell?_of_block (hg.block b hb (fun e => hbr e.symm))).trans hm
  have k1 : w'.cell? ⟨b1, o1 + xn, none⟩ = some (.float .f32 x1) := (World.cell?_of_block (hg.block b1 hb1 (fun e => hne e.symm))).trans hc1
  have k2 : w'.cell? ⟨b1, o1 + yn, none⟩ = some (.float .f32 y1) := (World.cell?_of_block (hg.block b1 hb2 (fun e => hne e.symm))).trans hc2
  have HS := Lib.hid (fun w => i_sign x1 y1 w)
  have hq : rkCmp R (xn : Int) (yn : Int) = sgnF (cn .f32 x1) (cn .f32 y1) := by rw [hcx1, hcy1]; rfl
  rw [hq]
  clear hget hm hs hc1 hc2 hcx1 hcy1 hg hq
  obtain ⟨hx0, hx2⟩ := hx
  obtain ⟨hy0, hy2⟩ := hy
  have t1 : ((xn : Int)).toNat = xn := by omega
  have t2 : ((yn : Int)).toNat = yn := by omega
  go_enter Try.func24, Try.ntmps24
  go_wp2_with fail
  go_quiet ((go_at_call 25; first | exact quiet_dr (HS.out _) | exact quiet_dr2 (HS.out _)))
  go_wp2_with fail
  go_ret
  exact ⟨rfl, by first | exact Dr.refl _ | exact Dr.mk _ _ | exact ⟨_, rfl⟩⟩

theorem oneI64R : OneC Try.prog 25 2 (.int .i64 0) 8 := oneC_of Try.underlying25 (by kernel_rfl) rfl (by decide)
theorem f32sRk : F32s Try.prog 23 37 := f32s_of Try.underlying23 (by kernel_rfl)
theorem GO.oneRow {T : Nat} (w : World) (v : Value) {lo : Nat} (hb : lo ≤ w.heap.size) : GO (fun v : Value => v) T lo (w.alloc (.cells #[v] T)) (.slice (some ⟨w.heap.size, 0, none⟩) 1 1) [v] := by
  have := World.ownsRow_lit (e := T) (size := 1) w #[v] 1 hb (by simp [maxLen]) rfl
  simpa [GO] using this
theorem i_RanksMiss (u v : Value) (css : List (List Nat)) (xs : List Nat) (w : World) (hu : SS w u css) (hv : SB w v xs) :
    Calls Try.prog 8 #[u, v] w fun z w' => IB 2 w.heap.size w' z (rkQ css xs) ∧ Below w.heap.size w w' := by
  have HU := Lib.hid hu
  have HV := Lib.hid hv
  obtain ⟨ao, c, rfl, hc1, hc2, hget⟩ := hu.get rfl
  clear hget hu hv
  cases hok : waysOk css
  · have HOK := Lib.hid hok
    clear hok
    go_enter Try.func8, Try.ntmps8
    go_wp2_with fail
    refine (i_areWays _ css _ HU.out).mono ?_; rintro e w1 ⟨rfl, hb1⟩
    rw [HOK.out]
    go_wp2_with fail
    go_ret2
    exact ⟨IB.no _ _ _ (by rw [rkQ, HOK.out]; rfl), hb1⟩
  · have HOK := Lib.hid hok
    have hlen : 1 ≤ css.length ∧ css.length ≤ 8 := by simp only [waysOk, Bool.and_eq_true, decide_eq_true_eq] at hok; exact hok.1
    obtain ⟨hl1, hl2⟩ := hlen
    have HQF := Lib.hid (fun k (hk : k < css.length) (h : (rmsQ xs (rowL css k)).2 = false) => show rkQ css xs = ([], false) by rw [rkQ, rkAll_no hk h, Bool.and_false]; rfl)
    have HQT := Lib.hid (fun (h : rkAll xs css css.length = true) => show rkQ css xs = (isortI (rkCmp (rkR xs css css.length)) (numsI css.length) (css.length - 1), true) by rw [rkQ, hok, h]; rfl)
    clear hok
    go_enter Try.func8, Try.ntmps8
    go_wp2_with fail
    refine (i_areWays _ css _ HU.out).mono ?_; rintro e w1 ⟨rfl, hb1⟩
    rw [HOK.out]
    have hz1 := hb1.size
    have HB1 := Lib.hid hb1
    clear hb1
    go_wp2_with fail
    go_loopw [7, 19] (fun o i wr => ∃ (k : Nat) (ms : Value), k ≤ css.length ∧ i = .int .i64 (k : Int) ∧ Hid (GO (fun v : Value => v) 23 w1.heap.size wr (.slice (some ⟨w1.heap.size + 1 + 1, 0, none⟩) 1 1) [ms]) ∧ Hid (OW 37 w1.heap.size wr ms (rkR xs css k)) ∧ Hid (GO (Value.int .i64) 2 w1.heap.size wr o (numsI k)) ∧ Hid (rkAll xs css k = true) ∧ Below w.heap.size w wr) (fun _ i _ => css.length - (intOf i).toNat)
    case atStart => exact ⟨0, _, Nat.zero_le _, rfl, Lib.hid (by have := GO.oneRow (T := 23) ((w1.alloc (.cells #[] 37)).alloc (.cells #[] 2)) (.slice (some ⟨w1.heap.size, 0, none⟩) 0 0) (lo := w1.heap.size) (by simp; omega); simpa using this), Lib.hid (OW.alloc (OW.alloc (OW.empty _ _ rfl (Nat.le_refl _)) _) _), Lib.hid (GO.alloc (GO.empty _ _ (by simp) (by simp)) _), rfl, by have := HB1.out; (repeat (first | with_reducible exact Below.refl _ _ | with_reducible assumption | with_reducible refine below_drewN ?_ _ | with_reducible refine Below.drew ?_ | with_reducible refine Below.alloc ?_ (by first | omega | (simp; omega) | (simp; done) | (simp at *; omega)) _ | with_reducible refine Below.setCell ?_ (by first | omega | (simp; omega) | (simp; done) | (simp at *; omega)) _ | refine Below.trans ?_ (Below.mono (by with_reducible assumption) (by first | omega | (simp; omega) | (simp; done) | (simp at *; omega)))))⟩
    case round =>
      obtain ⟨k, ms, hk, rfl, HVR, HM, HO, HAL, hb⟩ := hrel
      have hz := hb.size
      by_cases hlt : k < css.length
      · obtain ⟨ao', c', hvv, -, -, hget⟩ := (HU.out.keep hb).get rfl
        obtain ⟨b1, o1, l, e1, hbl1, hcl, hsl⟩ := hget k hlt
        simp only [Value.slice.injEq] at hvv
        obtain ⟨rfl, -, -⟩ := hvv
        subst e1
        have HSL := Lib.hid (show SB wr l (rowL css k) from hsl)
        obtain ⟨g, cap, hv1, -, hg2, hcm, hfm, hsm⟩ := HVR.out.at_ (k := 0) (by simp)
        simp only [Value.slice.injEq, Option.some.injEq, Addr.mk.injEq, and_true] at hv1
        obtain ⟨rfl, -, -⟩ := hv1
        have hcm' : wr.cell? ⟨w1.heap.size + 1 + 1, 0, none⟩ = some ms := hcm
        clear hget hsl hcm hsm hfm
        have hki : (k : Int) < (css.length : Int) := by omega
        go_wp2_with fail
        refine (i_RootMiss _ _ xs (rowL css k) _ (HV.out.keep hb) HSL.out).mono ?_; rintro e w2 ⟨⟨r, b, rfl, hr, hcr, hbb⟩, hd⟩
        have HVR2 := Lib.hid (HVR.out.keep (hd.below _))
        have HM2 := Lib.hid (HM.out.keep (hd.below _))
        have HO2 := Lib.hid (HO.out.keep (hd.below _))
        have hb2 : Below w.heap.size w w2 := hb.trans (hd.below _)
        have hz2 : wr.heap.size ≤ w2.heap.size := (hd.below wr.heap.size).size
        have hzb : w.heap.size ≤ w2.heap.size := hb2.size
        have hw12 : w1.heap.size ≤ w2.heap.size := by omega
        clear hd HVR HM HO hb hcm'
        cases hok : (rmsQ xs (rowL css k)).2
        · rw [hok] at hbb
          subst hbb
          have HNQ := Lib.hid (HQF.out k hlt hok)
          go_wp2_with fail
          go_ret2
          exact ⟨IB.no _ _ _ HNQ.out, hb2⟩
        · rw [hok] at hbb
          subst hbb
          have HAL2 := Lib.hid (show rkAll xs css (k + 1) = true by rw [rkAll_succ, HAL.out, hok]; rfl)
          have HCR := Lib.hid hcr
          obtain ⟨mo, mc, hms, -⟩ := HM2.out.sb.sl.slice
          subst hms
          obtain ⟨g, cap, hv1, -, hg3, hcm, -, -⟩ := HVR2.out.at_ (k := 0) (by simp)
          simp only [Value.slice.injEq, Option.some.injEq, Addr.mk.injEq, and_true] at hv1
          obtain ⟨rfl, -, -⟩ := hv1
          have hcm' : w2.cell? ⟨w1.heap.size + 1 + 1, 0, none⟩ = some (.slice mo (rkR xs css k).length mc) := hcm
          have HRL := Lib.hid (rkR_length xs css k)
          have HNL := Lib.hid (numsI_length k)
          clear hcm hok hcr
          have HNE0 := Lib.hid (HM2.out.ne_goR HVR2.out (by decide))
          have HNE1 := Lib.hid (own_sym (HM2.out.ne_goR HO2.out (by decide)))
          go_wp2_with (first
            | (at_builtin; refine wpList_app1 f32sRk w1.heap.size _ (rkR xs css k) rfl (OW.alloc HM2.out _) _ _ rfl (by first | (simp; done) | (simp; rfl)) hr (by rw [HRL.out]; omega) (by first | omega | (simp; done) | (simp; omega)) ?_; intro s3 w3 ho3 hg3; have HV3 := Lib.hid (GO.kept (GO.alloc HVR2.out _) hg3 (own_sym HNE0.out)); have HO3 := Lib.hid (GO.kept (GO.alloc HO2.out _) hg3 HNE1.out); have hb3 : Below w.heap.size w w3 := below_of_grown (by (repeat (first | with_reducible exact Below.refl _ _ | with_reducible assumption | with_reducible refine below_drewN ?_ _ | with_reducible refine Below.drew ?_ | with_reducible refine Below.alloc ?_ (by first | omega | (simp; omega) | (simp; done) | (simp at *; omega)) _ | with_reducible refine Below.setCell ?_ (by first | omega | (simp; omega) | (simp; done) | (simp at *; omega)) _ | refine Below.trans ?_ (Below.mono (by with_reducible assumption) (by first | omega | (simp; omega) | (simp; done) | (simp at *; omega)))))) hg3 (by first | omega | (simp; done) | (simp; omega)) (fun g h => by have := HM2.out.own_ge g h; omega); have hz3 := hg3.size; (try simp only [World.size_alloc] at hz3); have HM3 := Lib.hid ho3; clear ho3 hg3)
            | (at_builtin; refine wpList_gapp (inj := Value.int .i64) oneI64R (fun _ => rfl) w1.heap.size _ (numsI k) rfl (GO.alloc HO3.out _) [(k : Int)] _ 1 rfl rfl (by intro i u hu; cases i with | zero => (simp only [List.getElem?_cons_zero, Option.some.injEq] at hu; subst hu; simp) | succ i => simp at hu) (by have := HNL.out; simp only [List.length_cons, List.length_nil]; omega) (by first | omega | (simp; done) | (simp; omega)) ?_; intro s4 w4 ho4 hg4; have HM4 := Lib.hid (OW.kept (OW.alloc HM3.out _) hg4 (HM3.out.ne_goR HO3.out (by decide))); have HV4 := Lib.hid (GO.kept (GO.alloc HV3.out _) hg4 (GO.ne_goR HV3.out HO3.out (by decide))); have hb4 : Below w.heap.size w w4 := below_of_grown (by (repeat (first | with_reducible exact Below.refl _ _ | with_reducible assumption | with_reducible refine below_drewN ?_ _ | with_reducible refine Below.drew ?_ | with_reducible refine Below.alloc ?_ (by first | omega | (simp; omega) | (simp; done) | (simp at *; omega)) _ | with_reducible refine Below.setCell ?_ (by first | omega | (simp; omega) | (simp; done) | (simp at *; omega)) _ | refine Below.trans ?_ (Below.mono (by with_reducible assumption) (by first | omega | (simp; omega) | (simp; done) | (simp at *; omega)))))) hg4 (by first | omega | (simp; done) | (simp; omega)) (fun g h => by have := HO3.out.own_ge g h; omega); have HO4 := Lib.hid ho4; obtain ⟨mo4, mc4, hms4, -⟩ := HM4.out.sb.sl.slice; subst hms4; obtain ⟨g4, cap4, hv4, -, hg5, hcm4, hfm4, hst4⟩ := HV4.out.at_ (k := 0) (by simp); simp only [Value.slice.injEq, Option.some.injEq, Addr.mk.injEq, and_true] at hv4; obtain ⟨rfl, -, -⟩ := hv4; have hcm5 : w4.cell? ⟨w1.heap.size + 1 + 1, 0, none⟩ = some _ := hcm4; have HST := Lib.hid (hst4 (.slice mo4 (rkR xs css k ++ [cn .f32 r]).length mc4)); clear ho4 hg4 hcm4 hst4))
          have HM5 := Lib.hid (OW.kept HM4.out (grown_setCell w4 ⟨w1.heap.size + 1 + 1, 0, none⟩ (.slice mo4 (rkR xs css k ++ [cn .f32 r]).length mc4)) (HM4.out.ne_goR HV4.out (by decide)))
          have HO5 := Lib.hid (GO.kept HO4.out (grown_setCell w4 ⟨w1.heap.size + 1 + 1, 0, none⟩ (.slice mo4 (rkR xs css k ++ [cn .f32 r]).length mc4)) (GO.ne_goR HO4.out HV4.out (by decide)))
          have HB5 := Lib.hid (Below.setCell hb4 (p := ⟨w1.heap.size + 1 + 1, 0, none⟩) (show w.heap.size ≤ w1.heap.size + 1 + 1 by omega) (.slice mo4 (rkR xs css k ++ [cn .f32 r]).length mc4))
          have HST2 := Lib.hid (show GO (fun v : Value => v) 23 w1.heap.size (w4.setCell ⟨w1.heap.size + 1 + 1, 0, none⟩ (.slice mo4 (rkR xs css k ++ [cn .f32 r]).length mc4)) (.slice (some ⟨w1.heap.size + 1 + 1, 0, none⟩) 1 1) [.slice mo4 (rkR xs css k ++ [cn .f32 r]).length mc4] from HST.out.1)
          rw [HCR.out, ← rkR_succ] at HM5 HO5 HB5 HST2
          rw [← numsI_succ] at HO5
          rw [rkR_length] at HM5 HO5 HB5 HST2
          have HL1 := Lib.hid (show (rkR xs css k ++ [cn .f32 r]).length = k + 1 by rw [List.length_append, rkR_length]; rfl)
          rw [HRL.out]
          exact ⟨⟨k + 1, _, by omega, by go_num, HST2, HM5, HO5, HAL2, HB5.out⟩, by simp [intOf]; omega⟩
      · obtain rfl : k = css.length := by omega
        obtain ⟨g, cap, hv1, -, hg2, hcm, hfm, hsm⟩ := HVR.out.at_ (k := 0) (by simp)
        simp only [Value.slice.injEq, Option.some.injEq, Addr.mk.injEq, and_true] at hv1
        obtain ⟨rfl, -, -⟩ := hv1
        have hcm' : wr.cell? ⟨w1.heap.size + 1 + 1, 0, none⟩ = some ms := hcm
        obtain ⟨mo, mc, hms, -⟩ := HM.out.sb.sl.slice
        rw [rkR_length] at hms
        subst hms
        have HNL := Lib.hid (numsI_length css.length)
        have HCM := Lib.hid (i_cmpR (w1.heap.size + 1 + 1) mo css.length mc (rkR xs css css.length) wr u7.ownBlock hg2 (by
            rcases GO.ne_goR HO.out HVR.out (by decide) with h | h
            · rw [h]; simp
            · exact h) hcm' HM.out.sb (rkR_length ..) (by
            intro g o e
            subst e
            rcases own_sym (HM.out.ne_goR HO.out (by decide)) with h | h
            · rw [h]; simp
            · exact h))
        have hsort := f_SortStable 24 (.pointer (some ⟨w1.heap.size + 1 + 1, 0, none⟩)) _ _ (fun _ _ => by kernel_rfl) u7 (numsI css.length) w1.heap.size wr HO.out (by rw [HNL.out]; omega) (by rw [HNL.out]; omega) (by
          intro a ha
          obtain ⟨i, hi, rfl⟩ := List.mem_map.1 ha
          have := List.mem_range.1 hi
          omega) HCM.out
        rw [HNL.out] at hsort
        have HSO := Lib.hid hsort
        have HRQ := Lib.hid (HQT.out HAL.out)
        have HBR := Lib.hid (fun (w' : World) (h : ∀ B, (∀ g, u7.ownBlock = some g → B ≤ g) → ∀ s, Below B s wr → Below B s w') => h w.heap.size (fun g hg => by have := HO.out.own_ge g hg; omega) w hb)
        clear hcm hsm hsort HCM
        go_wp2_with fail
        refine HSO.out.mono ?_; rintro e w5 ⟨rfl, h2, h3, h4⟩
        have HF2 := Lib.hid h2
        have HBF := Lib.hid (HBR.out w5 h4)
        clear h2 h3 h4
        go_wp2_with fail
        go_ret2
        exact ⟨⟨_, _, rfl, by rw [HRQ.out]; exact HF2.out.down (by omega), by rw [HRQ.out]⟩, HBF.out⟩

end Go.Proofs.Ytgonpgfhajfjpaa
