/- Contracts: weights that are learned, number by number, by the program (LearnWeights). -/
import Derived.Test.YtkkomajokdlkeaaQ17
import Derived.Test.YtkkomajokdlkeaaQ33
import Derived.Test.YtkkomajokdlkeaaQ38
namespace Go.Proofs.Ytkkomajokdlkeaa
set_option linter.unusedSimpArgs false
set_option linter.unusedVariables false
set_option maxRecDepth 100000
set_option maxHeartbeats 4000000
set_option linter.unusedSimpArgs false
set_option linter.unusedVariables false
open Go.RowKit
attribute [local go_sem] run_store_float run_store_complex alloc_drewN setCell_drewN
/-- What the exponential is taken of. -/
def lwX (xs : List Nat) (css : List (List Nat)) (rate i k : Nat) : Nat := subF 0 (mulF rate (mulF (subF (xs.getD i 0) ((css.getD k []).getD i 0)) (subF (xs.getD i 0) ((css.getD k []).getD i 0))))
def lwV (xs : List Nat) (css : List (List Nat)) (rate : Nat) (W : List Nat) (i : Nat) : List Nat := (List.range css.length).map fun k => mulF (W.getD k 0) (expW (lwX xs css rate i k))
theorem lwV_length (xs : List Nat) (css : List (List Nat)) (rate : Nat) (W : List Nat) (i : Nat) : (lwV xs css rate W i).length = css.length := by simp [lwV]
theorem lwV_get (xs : List Nat) (css : List (List Nat)) (rate : Nat) (W : List Nat) (i : Nat) {k : Nat} (hk : k < css.length) : (lwV xs css rate W i)[k]? = some (mulF (W.getD k 0) (expW (lwX xs css rate i k))) := by simp [lwV, hk]
structure LwOk (css : List (List Nat)) (xs : List Nat) (rate : Nat) (W : Nat → List Nat) : Prop where
  ways : waysOk css = true
  two : twoOk xs (headL css) = true
  rt : allLeast [cn .f32 rate] = true
  rtn : (S.read rate).isNaN = false
  rlt : rate < 4294967296
  w0 : W 0 = List.replicate css.length (divF 1065353216 (fI css.length))
  wf : ∀ i, i ≤ xs.length → allFin (W i) = true
  wl : ∀ i, i ≤ xs.length → (W i).length = css.length
  vf : ∀ i, i < xs.length → allFin (lwV xs css rate (W i) i) = true
  vg : ∀ i, i < xs.length → fc .gtr .f32 (sumL (lwV xs css rate (W i) i)) 0 = true
  ws : ∀ i, i < xs.length → W (i + 1) = shL (lwV xs css rate (W i) i)
  n1 : ∀ i k, i < xs.length → k < css.length → (S.read (subF (xs.getD i 0) ((css.getD k []).getD i 0))).isNaN = false
  n2 : ∀ i k, i < xs.length → k < css.length → (S.read (mulF (subF (xs.getD i 0) ((css.getD k []).getD i 0)) (subF (xs.getD i 0) ((css.getD k []).getD i 0)))).isNaN = false
  n3 : ∀ i k, i < xs.length → k < css.length → (S.read (mulF rate (mulF (subF (xs.getD i 0) ((css.getD k []).getD i 0)) (subF (xs.getD i 0) ((css.getD k []).getD i 0))))).isNaN = false
  ex : ∀ i k, i < xs.length → k < css.length → ExOk (lwX xs css rate i k)
  en : ∀ i k, i < xs.length → k < css.length → (S.read (expW (lwX xs css rate i k))).isNaN = false
theorem m8_all : ((List.range 9).all fun m => decide (m = 0) || (fin (divF 1065353216 (fI (m : Int))))) = true := by decide +kernel
theorem m8_fin {m : Nat} (h1 : 1 ≤ m) (h2 : m ≤ 8) : fin (divF 1065353216 (fI (m : Int))) = true := by
  have := List.all_eq_true.1 m8_all m (List.mem_range.2 (by omega))
  simp only [Bool.or_eq_true, decide_eq_true_eq] at this
  rcases this with h | h
  · omega
  · exact h
theorem expW_is {r x : Nat} (h : cn .f32 r = expW x) (hn : (S.read (expW x)).isNaN = false) : r = expW x := cn32_rawT h hn

theorem i_LearnWeights (v y : Value) (css : List (List Nat)) (xs : List Nat) (rate : Nat) (w : World) (hv : SS w v css) (hy : SB w y xs) {W : Nat → List Nat} (hok : LwOk css xs rate W) :
    Calls Try.prog 52 #[v, y, .float .f32 rate] w fun e w' => LB 33 w.heap.size w' e (given (W xs.length)) ∧ Below w.heap.size w w' := by
  have HV := Lib.hid hv
  have HY := Lib.hid hy
  have HK := Lib.hid hok
  obtain ⟨l1, l2, l3, l4, l5⟩ := ways_len hok.ways
  obtain ⟨k1, k2, k3⟩ := two_len hok.two
  have HN := Lib.hid l5
  obtain ⟨ao, c, rfl, -, -, hget⟩ := hv.get rfl
  have HG := Lib.hid hget
  obtain ⟨b0, o0, u0, rfl, hb0, hc0, hs0⟩ := hget 0 (by omega)
  rw [Nat.add_zero] at hc0
  have hs0' : SB w u0 (headL css) := by
    have e : headL css = css.getD 0 [] := by cases css <;> rfl
    rw [e]; exact hs0
  have HS0 := Lib.hid hs0'
  obtain ⟨yo, yc, rfl, -, -, hgy⟩ := hy.get rfl
  have HGY := Lib.hid hgy
  have z0 : (0 : Int) < (css.length : Int) := by omega
  have HXL := Lib.hid k1
  clear hv hy hok hget hs0 hs0' hgy l5 k1
  go_enter Try.func52, Try.ntmps52
  go_wp2_with fail
  refine (i_areWays _ css _ HV.out).mono ?_; rintro e w1 ⟨rfl, hb⟩
  rw [HK.out.ways]
  have HB1 := Lib.hid hb
  have hc01 := (hb.cell (p := ⟨b0, o0, none⟩) hb0).trans hc0
  clear hb
  go_wp2_with fail
  refine (i_areTwo _ _ xs (headL css) _ (SL.keep HY.out.sl HB1.out) (SL.keep HS0.out.sl HB1.out)).mono ?_; rintro e w2 ⟨rfl, n2, rfl⟩
  rw [HK.out.two]
  go_wp2_with fail
  refine (i_areNotLess _ [cn .f32 rate] _ (SL.drewN187 (SL.lit w1 [rate] 33 (0, 0) (by have := HK.out.rlt; simp [this]) rfl rfl) n2)).mono ?_; rintro z w3 ⟨rfl, hd3⟩
  rw [HK.out.rt]
  have HB3 := Lib.hid (below_two187 hd3 HB1.out)
  have hz3 := HB3.out.size
  clear hd3 hc01
  have m8 := m8_fin l1 l2
  have m8n := fin_notNaN m8
  have RQ := fun t w => run_arxT (P := Try.prog) .quo 1065353216 (floatOfInt .f32 (css.length : Int)) (divF 1065353216 (fI css.length)) (by rw [show cn .f32 1065353216 = 1065353216 by decide +kernel, show cn .f32 (floatOfInt .f32 (css.length : Int)) = fI css.length from cn_fI _]; rfl) m8n t w
  have HQL := Lib.hid (show divF 1065353216 (fI css.length) < 4294967296 from ar_lt .quo _ _)
  have HQN := Lib.hid (cn_of_not (k := .f32) m8n)
  have HW0 := Lib.hid HK.out.w0
  clear m8 m8n
  generalize divF 1065353216 (fI css.length) = q0 at *
  have HO0 := Lib.hid (show OW 33 w.heap.size (w3.alloc (.cells #[] 33)) (.slice (some ⟨w3.heap.size, 0, none⟩) 0 0) (List.replicate 0 q0) from OW.empty _ _ rfl hz3)
  have HX0 := Lib.hid (HB3.out.alloc hz3 (.cells #[] 33))
  go_wp2_with fail
  go_loopw [34, 8] (fun i o wr => ∃ k : Nat, k ≤ css.length ∧ i = .int .i64 (k : Int) ∧ Hid (OW 33 w.heap.size wr o (List.replicate k q0)) ∧ Hid (Below w.heap.size w wr)) (fun i _ _ => css.length - (intOf i).toNat)
  case atStart => exact ⟨0, Nat.zero_le _, rfl, HO0, HX0⟩
  case round =>
    clear HO0 HX0
    obtain ⟨k, hk, rfl, HO, HX⟩ := hrel
    have hzr := HX.out.size
    by_cases hlt : k < css.length
    · have hji : (k : Int) < (css.length : Int) := by omega
      have HLN := Lib.hid (show (List.replicate k q0).length < 1099511627776 by rw [List.length_replicate]; omega)
      have hne : ∀ g, Value.ownBlock u8 = some g → w.heap.size ≤ g := HO.out.own_ge
      go_wp2_with (at_builtin; refine wpList_app1 f32s w.heap.size u8 (List.replicate k q0) rfl (OW.alloc HO.out _) _ q0 rfl (by first | (simp; done) | (simp; rfl)) HQL.out HLN.out (by simp; omega) ?_; intro v' w' ho' hg'; have HO' := Lib.hid ho'; have HG' := Lib.hid hg'; clear ho' hg')
      refine ⟨⟨k + 1, by omega, by go_num, ?_, Lib.hid ((HX.out.alloc HX.out.size _).grown HG'.out (by simp; omega) hne)⟩, by simp [intOf]; omega⟩
      show Hid (OW _ _ _ _ _)
      have e : List.replicate (k + 1) q0 = List.replicate k q0 ++ [cn .f32 q0] := by rw [HQN.out, List.replicate_succ']
      rw [e]
      exact HO'
    · obtain rfl : k = css.length := by omega
      rw [← HW0.out] at HO
      clear hlt hk RQ
      go_wp2_with fail
      go_loopw [46, 8] (fun i o wr => ∃ k : Nat, k ≤ xs.length ∧ i = .int .i64 (k : Int) ∧ Hid (OW 33 w.heap.size wr o (W k)) ∧ Hid (Below w.heap.size w wr)) (fun i _ _ => xs.length - (intOf i).toNat)
      case atStart => exact ⟨0, Nat.zero_le _, rfl, HO, HX⟩
      case round =>
        clear HO HX hzr
        obtain ⟨i, hi, rfl, HO, HX⟩ := hrel
        have hzr := HX.out.size
        by_cases hlt : i < xs.length
        · have hji : (i : Int) < (xs.length : Int) := by omega
          obtain ⟨b1, o1, x, rfl, hbl1, hc1, hx, hcx⟩ := HGY.out i hlt
          have hc1' := (HX.out.cell (p := ⟨b1, o1 + i, none⟩) hbl1).trans hc1
          have fx := fin_getD194 (show allFin xs = true by have h := HK.out.two; simp only [twoOk, series, Bool.and_eq_true] at h; exact h.1.1.2) i
          obtain ⟨rfl, -⟩ := raw_of hcx fx
          obtain ⟨hg, hd⟩ := HO.out.raw (HK.out.wf i hi)
          have HGO := Lib.hid hg
          have HDO := Lib.hid hd
          obtain ⟨wo, hwo⟩ : ∃ q, q = wr := ⟨_, rfl⟩
          subst hwo
          obtain ⟨go, gc, hu8, -, -⟩ := hg.slice
          have hwl := HK.out.wl i hi
          rw [hwl] at hu8
          subst hu8
          obtain ⟨xi, hxi⟩ : ∃ q, q = xs.getD i 0 := ⟨_, rfl⟩
          have HXI := Lib.hid hxi
          rw [← hxi] at hc1'
          clear hg hd hc1 hxi
          go_wp2_with fail
          go_loopw [53] (fun j wr => ∃ k : Nat, k ≤ css.length ∧ j = .int .i64 (k : Int) ∧ Hid (GO (Value.float .f32) 33 w.heap.size wr (.slice go css.length gc) (mixL (lwV xs css rate (W i) i) (W i) k)) ∧ Hid (Below w.heap.size w wr)) (fun j _ => css.length - (intOf j).toNat)
          case atStart => exact ⟨0, Nat.zero_le _, rfl, by rw [mixL_zero]; exact HGO, HX⟩
          case round =>
            clear HX hzr HO
            obtain ⟨k, hk, rfl, HM, HX⟩ := hrel
            have hzr := HX.out.size
            have hwv : (lwV xs css rate (W i) i).length = (W i).length := by rw [lwV_length, hwl]
            have hml := mixL_length hwv k
            by_cases hlt2 : k < css.length
            · have hjj : (k : Int) < (css.length : Int) := by omega
              have hkw : k < (W i).length := by omega
              obtain ⟨g, cap, hv1, hg1, hg2, hcw, hfw, hst⟩ := HM.out.at_ (k := k) (by omega)
              simp only [Value.slice.injEq] at hv1
              obtain ⟨rfl, -, -⟩ := hv1
              have e1 : (mixL (lwV xs css rate (W i) i) (W i) k)[k]'(by omega) = (W i).getD k 0 := by
                rw [← mixL_get hwv hkw 0, List.getD_eq_getElem?_getD, List.getElem?_eq_getElem (by omega)]; rfl
              rw [e1] at hcw
              have n1 := HK.out.n1 i k hlt hlt2
              have n2' := HK.out.n2 i k hlt hlt2
              have n3 := HK.out.n3 i k hlt hlt2
              have ex := HK.out.ex i k hlt hlt2
              have en := HK.out.en i k hlt hlt2
              obtain ⟨h3, h4⟩ := hst (mulF ((W i).getD k 0) (expW (lwX xs css rate i k)))
              rw [mixL_set hwv hkw (lwV_get xs css rate (W i) i hlt2)] at h3
              have fv := fin_getD194 (HK.out.vf i hlt) k
              rw [List.getD_eq_getElem?_getD, lwV_get xs css rate (W i) i hlt2, Option.getD_some] at fv
              have HV2 := Lib.hid h3
              have HE := Lib.hid (fun W' => (i_ExpNumberW (lwX xs css rate i k) ex W'))
              have HEN := Lib.hid en
              obtain ⟨b2, o2, us, e2, hbl2, hcu, hsb⟩ := HG.out k hlt2
              obtain ⟨rfl, rfl⟩ : b2 = b0 ∧ o2 = o0 := by simp only [Option.some.injEq, Addr.mk.injEq] at e2; exact ⟨e2.1.symm, e2.2.1.symm⟩
              have hcu' := (HX.out.cell (p := ⟨b2, o2 + k, none⟩) hbl2).trans hcu
              have hlj : (css.getD k []).length = xs.length := by
                rw [List.getD_eq_getElem?_getD, List.getElem?_eq_getElem hlt2, HXL.out]
                exact HN.out _ (List.getElem_mem _)
              obtain ⟨ao2, cc2, rfl, -, -, hget2⟩ := hsb.get hlj
              obtain ⟨b3, o3, y3, rfl, hbl3, hcy, hy3, hcn3⟩ := hget2 i hlt
              have hcy' := (HX.out.cell (p := ⟨b3, o3 + i, none⟩) hbl3).trans hcy
              have hfk : allFin (css.getD k []) = true := by
                have h := HK.out.ways
                simp only [waysOk, Bool.and_eq_true, List.all_eq_true] at h
                have h2 := h.2 (css.getD k []) (by rw [List.getD_eq_getElem?_getD, List.getElem?_eq_getElem hlt2]; exact List.getElem_mem _)
                simp only [twoOk, series, Bool.and_eq_true] at h2
                exact h2.1.1.2
              have fy := fin_getD194 hfk i
              obtain ⟨rfl, -⟩ := raw_of hcn3 fy
              have fw := fin_getD194 (HK.out.wf i hi) k
              have R1 := fun t w => run_arxT (P := Try.prog) .sub (xs.getD i 0) ((css.getD k []).getD i 0) (subF (xs.getD i 0) ((css.getD k []).getD i 0)) (by rw [cn_of_not (k := .f32) (fin_notNaN fx), cn_of_not (k := .f32) (fin_notNaN fy)]; rfl) n1 t w
              have R2 := fun t w => run_arxT (P := Try.prog) .mul (subF (xs.getD i 0) ((css.getD k []).getD i 0)) (subF (xs.getD i 0) ((css.getD k []).getD i 0)) (mulF (subF (xs.getD i 0) ((css.getD k []).getD i 0)) (subF (xs.getD i 0) ((css.getD k []).getD i 0))) (by rw [cn_of_not (k := .f32) n1]; rfl) n2' t w
              have R3 := fun t w => run_arxT (P := Try.prog) .mul rate (mulF (subF (xs.getD i 0) ((css.getD k []).getD i 0)) (subF (xs.getD i 0) ((css.getD k []).getD i 0))) (mulF rate (mulF (subF (xs.getD i 0) ((css.getD k []).getD i 0)) (subF (xs.getD i 0) ((css.getD k []).getD i 0)))) (by rw [cn_of_not (k := .f32) n2', cn_of_not (k := .f32) HK.out.rtn]; rfl) n3 t w
              have R4 := fun t w => run_arxT (P := Try.prog) .sub 0 (mulF rate (mulF (subF (xs.getD i 0) ((css.getD k []).getD i 0)) (subF (xs.getD i 0) ((css.getD k []).getD i 0)))) (lwX xs css rate i k) (by rw [cn_of_not (k := .f32) n3, show cn .f32 0 = 0 by decide +kernel]; rfl) ex.hx t w
              have R5 := fun t w => run_arxT (P := Try.prog) .mul ((W i).getD k 0) (expW (lwX xs css rate i k)) (mulF ((W i).getD k 0) (expW (lwX xs css rate i k))) (by rw [cn_of_not (k := .f32) en, cn_of_not (k := .f32) (fin_notNaN fw)]; rfl) (fin_notNaN fv) t w
              have HE2 : Hid (∀ W', Calls Try.prog 115 #[.float .f32 (lwX xs css rate i k)] W' fun e w' => e = .returned (.float .f32 (expW (lwX xs css rate i k))) ∧ Dr W' w') := Lib.hid (fun W' => (HE.out W').mono (by
                rintro z w' ⟨⟨r, rfl, hr, hcr⟩, hd⟩
                exact ⟨by rw [expW_is hcr HEN.out], hd⟩))
              clear n1 n2' n3 ex en fy fw fv hfk hcx hcn3 h3 h4 hst e1 HE HEN hget2 hsb hlj e2 hcu hcy fx HGO
              generalize mulF ((W i).getD k 0) (expW (lwX xs css rate i k)) = vv at *
              generalize expW (lwX xs css rate i k) = ee at *
              generalize lwX xs css rate i k = x4 at *
              generalize mulF rate (mulF (subF (xs.getD i 0) ((css.getD k []).getD i 0)) (subF (xs.getD i 0) ((css.getD k []).getD i 0))) = x3 at *
              generalize mulF (subF (xs.getD i 0) ((css.getD k []).getD i 0)) (subF (xs.getD i 0) ((css.getD k []).getD i 0)) = x2 at *
              generalize subF (xs.getD i 0) ((css.getD k []).getD i 0) = x1 at *
              have hgc : ∀ W', Below w.heap.size w W' → W'.cell? ⟨b3, o3 + i, none⟩ = wr.cell? ⟨b3, o3 + i, none⟩ := fun W' hb => ((hb.cell (p := ⟨b3, o3 + i, none⟩) hbl3)).trans (HX.out.cell (p := ⟨b3, o3 + i, none⟩) hbl3).symm
              clear hgc
              rw [← HXI.out] at R1
              generalize (css.getD k []).getD i 0 = yi at *
              generalize (W i).getD k 0 = wk at *
              go_wp2_with fail
              go_region_with ((go_at_call 115; refine (HE2.out _).mono ?_; rintro z w5 ⟨rfl, n5, rfl⟩))
              all_goals
                go_wp2_with fail
                exact ⟨⟨k + 1, by omega, by go_num, Lib.hid (GO.drewN HV2.out _), Lib.hid (below_drewN (HX.out.setCell (p := ⟨g, k, none⟩) hg1 _) _)⟩, by simp [intOf]; omega⟩
            · obtain rfl : k = css.length := by omega
              have hmix : mixL (lwV xs css rate (W i) i) (W i) css.length = lwV xs css rate (W i) i := mixL_all hwv (by omega)
              rw [hmix] at HM
              have hvf := HK.out.vf i hlt
              have hOV : OW 33 w.heap.size wr (.slice go css.length gc) (lwV xs css rate (W i) i) := OW.of_raw HM.out (by
                intro c hc
                refine ⟨List.all_eq_true.1 hvf c hc, ?_⟩
                simp only [lwV, List.mem_map] at hc
                obtain ⟨k', -, rfl⟩ := hc
                exact ar_lt .mul _ _)
              have HOV := Lib.hid hOV
              have HVG := Lib.hid (HK.out.vg i hlt)
              have HVS := Lib.hid (HK.out.ws i hlt)
              have HVL := Lib.hid (show (lwV xs css rate (W i) i).length ≤ 1000 by rw [lwV_length]; omega)
              clear hml hmix hvf hOV hwv HGO HDO hcx fx
              clear hlt2
              generalize lwV xs css rate (W i) i = V at *
              go_wp2_with fail
              refine (i_addUp _ V _ HOV.out.sb.sl).mono ?_; rintro z w5 ⟨⟨s, rfl, hs, hss⟩, dn, rfl⟩
              have hgt := HVG.out
              rw [← hss] at hgt
              have hgs : fc .gtr .f32 s 0 = true := by
                have hnn : (S.read (sumL V)).isNaN = false := (gtr_zero HVG.out).2.1
                have := cn32_rawT hss hnn
                rw [this]; exact HVG.out
              have ho : (FloatKind.f32.format.order s 0 == some .gt) = true := hgs
              clear hgt hgs hss
              go_wp2_with fail
              refine (i_shared _ V _ (HOV.out.sb.drewN dn) HVL.out).mono ?_; rintro z w6 ⟨⟨u, rfl, ho6⟩, hb6⟩
              have HX6 := Lib.hid ((below_drewN HX.out dn).trans (hb6.mono (by simp; omega)))
              have HO6 := Lib.hid (ho6.down (base' := w.heap.size) (by simp; omega))
              rw [← HVS.out] at HO6
              clear ho6 hb6
              go_wp2_with fail
              exact ⟨⟨i + 1, by omega, by go_num, HO6, HX6⟩, by simp [intOf]; omega⟩
        · obtain rfl : i = xs.length := by omega
          go_wp2_with fail
          refine (i_ifAll _ _ _ HO.out.sb.sl).mono ?_; rintro z w6 ⟨⟨u', b', rfl, hu', hb'⟩, hd⟩
          have HD := Lib.hid hd
          have HU6 := Lib.hid hu'
          have HB6 := Lib.hid hb'
          clear hd hu' hb'
          go_wp2_with fail
          go_ret2
          refine ⟨?_, HX.out.trans ((HD.out.below _).mono HX.out.size)⟩
          obtain ⟨d6, rfl⟩ := HD.out
          exact LB.given (HO.out.drewN _) HU6.out HB6.out rfl

end Go.Proofs.Ytkkomajokdlkeaa
