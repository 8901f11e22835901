/- Contracts: all costs of warped ways, by the reference. -/
import Derived.Test.YtnhenklopigfnaaK161
import Derived.Test.YtnhenklopigfnaaGen
import Derived.BigQuiet
namespace Go.Proofs.Ytnhenklopigfnaa
set_option linter.unusedSimpArgs false
set_option linter.unusedVariables false
set_option maxRecDepth 100000
set_option maxHeartbeats 4000000
open Go.RowKit
attribute [local go_sem] run_store_float run_store_complex alloc_drewN setCell_drewN
/-- An operation whose result is no NaN, at every world. -/
theorem run_arx {P : Program} (op : BinOp) (x y D : Nat) (hD : ar op .f32 (cn .f32 x) (cn .f32 y) = D) (hn : (S.read D).isNaN = false) (t : TypeId) (w : World) :
    (binOp op t (.float .f32 x) (.float .f32 y)).run P w = .ok (.float .f32 D) w := by
  rw [ar_cn] at hD
  cases h : floatBits op .f32 x y with
  | some r =>
    have : r = D := by rw [← hD]; simp [ar, h]
    subst this
    exact run_float_arith w op t .f32 x y r h
  | none =>
    have : D = qnan .f32 := by rw [← hD]; simp [ar, h]
    subst this
    have h2 : (S.read (qnan .f32)).isNaN = true := qnan_isNaN .f32
    rw [h2] at hn; cases hn
theorem getD_under {A B : List Nat} {i : Nat} (h : i < A.length) : (A ++ B).getD i 0 = A.getD i 0 := by
  simp [List.getElem?_append_left h]
theorem set_end (A : List Nat) (x y n : Nat) : (A ++ x :: List.replicate n 0).set A.length y = A ++ y :: List.replicate n 0 := by
  rw [List.set_append_right _ _ (Nat.le_refl _), Nat.sub_self]; rfl
theorem rep_open {n m : Nat} (h : n < m) : List.replicate (m - n) 0 = 0 :: List.replicate (m - (n + 1)) (0 : Nat) := by
  rw [show m - n = (m - (n + 1)) + 1 by omega]; rfl
theorem cand_place {wide n m zz : Nat} (hz : zz = n * wide + m) {b : Nat} (hb : b < 3) (h0 : 0 ≤ candI b n) (h1 : 0 ≤ candK b m) :
    ∃ yy : Nat, (candI b n).toNat * wide + (candK b m).toNat = yy ∧ (b = 0 ∧ (zz : Int) - (wide : Int) = (yy : Int) ∨ b = 1 ∧ (zz : Int) - 1 = (yy : Int) ∨ b = 2 ∧ (zz : Int) - (wide : Int) - 1 = (yy : Int)) := by
  refine ⟨_, rfl, ?_⟩
  have h3 : b = 0 ∨ b = 1 ∨ b = 2 := by omega
  rcases h3 with rfl | rfl | rfl
  · have h0' : 0 ≤ (n : Int) - 1 := h0
    obtain ⟨k, rfl⟩ : ∃ k, n = k + 1 := ⟨n - 1, by omega⟩
    have e1 : (candI 0 ((k + 1 : Nat) : Int)).toNat = k := by show (((k + 1 : Nat) : Int) - 1).toNat = k; omega
    have e2 : (candK 0 (m : Int)).toNat = m := by show ((m : Int)).toNat = m; omega
    rw [e1, e2, hz, Nat.add_mul]
    exact .inl ⟨rfl, by omega⟩
  · have h1' : 0 ≤ (m : Int) - 1 := h1
    have e1 : (candI 1 (n : Int)).toNat = n := by show ((n : Int)).toNat = n; omega
    have e2 : (candK 1 (m : Int)).toNat = m - 1 := by show ((m : Int) - 1).toNat = m - 1; omega
    rw [e1, e2, hz]
    exact .inr (.inl ⟨rfl, by omega⟩)
  · have h0' : 0 ≤ (n : Int) - 1 := h0
    have h1' : 0 ≤ (m : Int) - 1 := h1
    obtain ⟨k, rfl⟩ : ∃ k, n = k + 1 := ⟨n - 1, by omega⟩
    have e1 : (candI 2 ((k + 1 : Nat) : Int)).toNat = k := by show (((k + 1 : Nat) : Int) - 1).toNat = k; omega
    have e2 : (candK 2 (m : Int)).toNat = m - 1 := by show ((m : Int) - 1).toNat = m - 1; omega
    rw [e1, e2, hz, Nat.add_mul]
    exact .inr (.inr ⟨rfl, by omega⟩)
theorem szS_notNaN {x : Nat} (h : x < 4294967296) (hn : (S.read x).isNaN = false) : (S.read (szS x)).isNaN = false := by
  unfold szS
  split
  · exact negw_notNaN h hn
  · exact hn

set_option maxRecDepth 100000 in
theorem s_l07Warp (u v : Value) (cs ds : List Nat) (window : Int) (w : World) (hu : SB w u cs) (hv : SB w v ds) (hc : allFin cs = true) (hd : allFin ds = true) (hc1 : 1 ≤ cs.length) (hc2 : cs.length ≤ 96) (hd1 : 1 ≤ ds.length) (hd2 : ds.length ≤ 96) (hwn0 : 0 ≤ window) :
    Calls Try.prog 132 #[u, v, .int .i64 window] w fun e w' => (∃ s, e = .returned s ∧ OW 27 w.heap.size w' s (wpC szS geS cs ds window)) ∧ Below w.heap.size w w' := by
  obtain ⟨ao, c, rfl, -, -, hgu⟩ := hu.get rfl
  obtain ⟨bo, d, rfl, -, -, hgv⟩ := hv.get rfl
  have HGU := Lib.hid hgu
  have HGV := Lib.hid hgv
  have HFC := Lib.hid hc
  have HFD := Lib.hid hd
  clear hgu hgv hu hv hc hd
  have hNN : cs.length * ds.length ≤ 96 * 96 := Nat.mul_le_mul hc2 hd2
  have hmulN : (cs.length : Int) * (ds.length : Int) = ((cs.length * ds.length : Nat) : Int) := by rw [Int.natCast_mul]
  obtain ⟨NN, hN⟩ : ∃ NN, NN = cs.length * ds.length := ⟨_, rfl⟩
  have HN := Lib.hid hN
  rw [← hN] at hNN hmulN
  clear hN
  have hwN : IntKind.i64.wrap (NN : Int) = (NN : Int) := by rw [IntKind.wrap_i64]; omega
  go_enter Try.func132, Try.ntmps132
  go_wp2_with (refine wpList_make32 f32sW NN rfl rfl (by omega) ?_; intro w1 ho hg; have HO := Lib.hid ho; have hbm : Below w.heap.size w w1 := (Below.refl _ w).grown hg (Nat.le_refl _) (by simp); clear ho hg)
  go_loopw [23] (fun i wr => ∃ n : Nat, n ≤ cs.length ∧ i = .int .i64 (n : Int) ∧ Hid (OW 27 w.heap.size wr (.slice (some ⟨w.heap.size, 0, none⟩) NN NN) (wList szS geS window cs ds (n * ds.length) ++ List.replicate (NN - (n * ds.length)) 0)) ∧ Below w.heap.size w wr) (fun i _ => cs.length - (intOf i).toNat)
  case atStart => exact ⟨0, Nat.zero_le _, rfl, Lib.hid (by rw [Nat.zero_mul]; exact HO.out), hbm⟩
  case round =>
    clear HO hbm
    obtain ⟨n, hn, rfl, HO, hb⟩ := hrel
    by_cases hlt : n < cs.length
    · obtain ⟨b1, o1, x, rfl, hbl1, hcx, hx, hcx2⟩ := HGU.out n hlt
      have HX := Lib.hid hcx2
      have HCX := Lib.hid hcx
      clear hcx hcx2
      have HO0 := Lib.hid (show OW 27 w.heap.size wr (.slice (some ⟨w.heap.size, 0, none⟩) NN NN) (wList szS geS window cs ds (n * ds.length + 0) ++ List.replicate (NN - (n * ds.length + 0)) 0) from HO.out)
      obtain ⟨wo, hwo⟩ : ∃ wo, wo = wr := ⟨_, rfl⟩
      subst hwo
      go_wp2_with fail
      go_loopw [28] (fun k wr => ∃ m : Nat, m ≤ ds.length ∧ k = .int .i64 (m : Int) ∧ Hid (OW 27 w.heap.size wr (.slice (some ⟨w.heap.size, 0, none⟩) NN NN) (wList szS geS window cs ds (n * ds.length + m) ++ List.replicate (NN - (n * ds.length + m)) 0)) ∧ Below w.heap.size w wr) (fun k _ => ds.length - (intOf k).toNat)
      case atStart => exact ⟨0, Nat.zero_le _, rfl, HO0, hb⟩
      case round =>
        clear HO HO0 hb
        obtain ⟨m, hm, rfl, HO, hb⟩ := hrel
        have hz := hb.size
        by_cases hlt2 : m < ds.length
        · obtain ⟨b2, o2, y, rfl, hbl2, hcy, hy, hcy2⟩ := HGV.out m hlt2
          have HY := Lib.hid hcy2
          have HCY := Lib.hid hcy
          clear hcy hcy2
          obtain ⟨D, hD⟩ : ∃ D, D = subF (cs.getD n 0) (ds.getD m 0) := ⟨_, rfl⟩
          have HNN := Lib.hid (show (S.read D).isNaN = false by rw [hD]; exact subF_notNaN (fin_getD HFC.out n) (fin_getD HFD.out m))
          have HDL := Lib.hid (show D < 4294967296 by rw [hD]; exact ar_lt _ _ _)
          have RUN := fun t w => run_arx (P := Try.prog) .sub x y D (by rw [HX.out, HY.out]; exact hD.symm) HNN.out t w
          have HWL := wList_at (sz := szS) (ge := geS) (window := window) (cs := cs) (ds := ds) (i := n) (k := m) rfl hlt2
          have HLL := wList_length szS geS window cs ds (n * ds.length + m)
          rw [show subF (cs.getD n 0) (ds.getD m 0) = D from hD.symm] at HWL
          clear hD
          have hzlt : n * ds.length + m < NN := by
            rw [HN.out]
            have : (n + 1) * ds.length ≤ cs.length * ds.length := Nat.mul_le_mul_right _ hlt
            rw [Nat.add_mul] at this
            omega
          have hmul : (n : Int) * (ds.length : Int) = ((n * ds.length : Nat) : Int) := by rw [Int.natCast_mul]
          have h00 : n + m = 0 ↔ n * ds.length + m = 0 := by
            constructor
            · intro h; rw [show n = 0 by omega, show m = 0 by omega]; simp
            · intro h
              have h1 : n * ds.length = 0 := by omega
              rcases Nat.mul_eq_zero.1 h1 with h2 | h2 <;> omega
          have HPX := Lib.hid (fun p q h1 h2 h3 h4 h5 => before_lt (i := n) hlt2 p q h1 h2 h3 h4 h5)
          have HO' := HO.out
          obtain ⟨A, hA⟩ : ∃ A, A = wList szS geS window cs ds (n * ds.length + m) := ⟨_, rfl⟩
          rw [← hA] at HWL HLL HO'
          obtain ⟨zz, hzz⟩ : ∃ zz, zz = n * ds.length + m := ⟨_, rfl⟩
          have hadd : ((n * ds.length : Nat) : Int) + (m : Int) = (zz : Int) := by omega
          rw [← hzz] at HWL HLL hzlt h00 HPX HO'
          have HZZ := Lib.hid hzz
          have HAA := Lib.hid hA
          have HWW := Lib.hid HWL
          have HLA := Lib.hid HLL
          rw [rep_open hzlt] at HO'
          have hl2 : (A ++ 0 :: List.replicate (NN - (zz + 1)) 0).length = NN := by rw [List.length_append, HLL, List.length_cons, List.length_replicate]; omega
          have hnl : n * ds.length ≤ 96 * 96 := Nat.mul_le_mul (by omega) hd2
          generalize hTT : n * ds.length = tt at *
          have HTT := Lib.hid hTT
          clear hTT
          have hwt : IntKind.i64.wrap (tt : Int) = (tt : Int) := by rw [IntKind.wrap_i64]; omega
          have hwz : IntKind.i64.wrap (zz : Int) = (zz : Int) := by rw [IntKind.wrap_i64]; omega
          have hzi : (zz : Int) < (NN : Int) := by omega
          have hz0 : 0 ≤ (zz : Int) := by omega
          have hzn : ((zz : Int)).toNat = zz := by omega
          obtain ⟨g, cap, hv1, hg1, hg2, ⟨u0, hu0⟩, hfz, hst⟩ := HO'.at_ (k := zz) (by rw [hl2]; exact hzlt)
          rw [hl2] at hv1
          simp only [Value.slice.injEq, Option.some.injEq, Addr.mk.injEq, and_true, true_and] at hv1
          obtain ⟨rfl, rfl⟩ := hv1
          have HO2 := Lib.hid (hst 3212836864 (by decide)).1
          rw [show cn .f32 3212836864 = neg1 by decide +kernel, show zz = A.length from HLL.symm, set_end, HLL] at HO2
          clear hst hl2 HO' HO HWL HLL hA hzz
          have hc1' := (hb.cell (p := ⟨b1, o1 + n, none⟩) hbl1).trans HCX.out
          have hc2' := (hb.cell (p := ⟨b2, o2 + m, none⟩) hbl2).trans HCY.out
          have hw1 : IntKind.i64.wrap ((n : Int) - (m : Int)) = (n : Int) - (m : Int) := by rw [IntKind.wrap_i64]; omega
          have hw2 : IntKind.i64.wrap (-((n : Int) - (m : Int))) = -((n : Int) - (m : Int)) := by rw [IntKind.wrap_i64]; omega
          by_cases hfar : window < farI n m
          · have h0 : n + m ≠ 0 := by unfold farI at hfar; split at hfar <;> omega
            have HCO := Lib.hid (show wCost geS window A ds.length n m (szS D) = neg1 by
              cases ho : wThree geS A ds.length n m 3 with
              | none => exact wCost_none h0 ho
              | some b => exact wCost_far h0 ho hfar)
            have hfx : (n : Int) - (m : Int) < 0 ∧ window < -((n : Int) - (m : Int)) ∨ ¬ (n : Int) - (m : Int) < 0 ∧ window < (n : Int) - (m : Int) := by unfold farI at hfar; split at hfar <;> omega
            clear hfar
            rcases hfx with ⟨hf1, hf2⟩ | ⟨hf1, hf2⟩
            all_goals
              go_wp2_with fail
              refine ⟨⟨m + 1, by omega, by go_num, ?_, hb.setCell (Nat.le_refl _) _⟩, by simp [intOf]; omega⟩
              show Hid (OW _ _ _ _ (wList szS geS window cs ds (tt + (m + 1)) ++ List.replicate (NN - (tt + (m + 1))) 0))
              rw [show tt + (m + 1) = zz + 1 by have := HZZ.out; omega, HWW.out, HCO.out, List.append_assoc]
              exact HO2
          · have hfx : (n : Int) - (m : Int) < 0 ∧ ¬ window < -((n : Int) - (m : Int)) ∨ ¬ (n : Int) - (m : Int) < 0 ∧ ¬ window < (n : Int) - (m : Int) := by unfold farI at hfar; split at hfar <;> omega
            have HSZ := Lib.hid (fun w => s_l07SizeN D HNN.out w)
            have HB2 := Lib.hid (show Below w.heap.size w (wr.setCell ⟨w.heap.size, zz, none⟩ (.float .f32 3212836864)) from hb.setCell (Nat.le_refl _) _)
            have hc1'' := (HB2.out.cell (p := ⟨b1, o1 + n, none⟩) hbl1).trans HCX.out
            have hc2'' := (HB2.out.cell (p := ⟨b2, o2 + m, none⟩) hbl2).trans HCY.out
            rcases hfx with ⟨hf1, hf2⟩ | ⟨hf1, hf2⟩
            all_goals
              go_wp2_with fail
              clear hc1' hc2' hu0 hfz
              obtain ⟨w2, hw2e⟩ : ∃ w2, w2 = wr.setCell (Addr.mk w.heap.size zz none) (Value.float .f32 3212836864) := ⟨_, rfl⟩
              rw [← hw2e] at HO2 HB2 hc1'' hc2'' ⊢
              clear hw2e
              go_quiet ((go_at_call 80; first | exact quiet_dr (HSZ.out _) | exact quiet_dr2 (HSZ.out _)))
              have HO3 := Lib.hid (OW.drewN HO2.out nq)
              have HB3 := Lib.hid (below_drewN HB2.out nq)
              clear hc1'' hc2'' HO2 HB2 hf1 hf2
              generalize World.drewN w2 nq = w3 at *
              have hz3 := HB3.out.size
              have hl3 : (A ++ neg1 :: List.replicate (NN - (zz + 1)) 0).length = NN := by rw [List.length_append, HLA.out, List.length_cons, List.length_replicate]; omega
              obtain ⟨g, cap, hv1, -, hg2, ⟨u1, hu1⟩, hfz, hst⟩ := HO3.out.at_ (k := zz) (by rw [hl3]; exact hzlt)
              rw [hl3] at hv1
              simp only [Value.slice.injEq, Option.some.injEq, Addr.mk.injEq, and_true, true_and] at hv1
              obtain ⟨rfl, -⟩ := hv1
              have HQC := Lib.hid (cn_of_not (k := .f32) (szS_notNaN HDL.out HNN.out))
              have HQL := Lib.hid (show szS D < 4294967296 by unfold szS; split; exact (negw_mod HDL.out).1; exact HDL.out)
              have HST := Lib.hid (fun r (h : r < 4294967296) => (hst r h).1)
              generalize szS D = q at *
              clear hst
              by_cases h0 : zz = 0
              · have HCO := Lib.hid (show wCost geS window A ds.length n m q = q by unfold wCost; rw [if_pos (h00.2 h0)])
                have HO4 := Lib.hid (HST.out q HQL.out)
                rw [HQC.out, show zz = A.length from HLA.out.symm, set_end, HLA.out] at HO4
                subst h0
                clear HST h00
                go_wp2_with fail
                refine ⟨⟨m + 1, by omega, by go_num, ?_, HB3.out.setCell (Nat.le_refl _) _⟩, by simp [intOf]; omega⟩
                show Hid (OW _ _ _ _ (wList szS geS window cs ds (tt + (m + 1)) ++ List.replicate (NN - (tt + (m + 1))) 0))
                rw [show tt + (m + 1) = 0 + 1 by have := HZZ.out; omega, HWW.out, HCO.out, List.append_assoc]
                exact HO4
              · have hzz0 : ¬ (zz : Int) = 0 := by omega
                have hnm0 : n + m ≠ 0 := fun h => h0 (h00.1 h)
                clear h00
                have HTH := Lib.hid (s_l07Three _ (A ++ neg1 :: List.replicate (NN - (zz + 1)) 0) ds.length n m w3 HO3.out.sb (by omega) hlt2 hd2 (by rw [hl3, HTT.out]; have := HZZ.out; omega))
                have HTP := Lib.hid (show wThree geS (A ++ neg1 :: List.replicate (NN - (zz + 1)) 0) ds.length n m 3 = wThree geS A ds.length n m 3 from wThree_prefix _ _ _ _ _ _ (fun p q p1 q1 h1 p0 q0 => getD_under (by rw [HLA.out]; exact HPX.out p q p1 q1 h1 p0 q0)) 3)
                rw [HTP.out] at HTH
                have HCN := Lib.hid (fun h => wCost_none (ge := geS) (window := window) (C := A) (wide := ds.length) (d := q) hnm0 h)
                have HCE := Lib.hid (fun b h => wCost_near (ge := geS) (window := window) (C := A) (wide := ds.length) (d := q) (b := b) hnm0 h (by omega))
                have HPL := Lib.hid (fun b (h : wThree geS A ds.length n m 3 = some b) => And.intro (wThree_some h) (wThree_place neg1_ge.2 h))
                generalize wThree geS A ds.length n m 3 = o at *
                go_wp2_with fail
                refine HTH.out.mono ?_; rintro z w4 ⟨rfl, hd4⟩
                have HO4 := Lib.hid (HO3.out.keep (hd4.below _))
                have HB4 := Lib.hid (HB3.out.trans (hd4.below _))
                clear hu1 hfz HST HO3 HB3 hz3 hd4 HTH
                obtain ⟨g, cap, hv1, -, hg2, ⟨u1, hu1⟩, hfz, hst⟩ := HO4.out.at_ (k := zz) (by rw [hl3]; exact hzlt)
                rw [hl3] at hv1
                simp only [Value.slice.injEq, Option.some.injEq, Addr.mk.injEq, and_true, true_and] at hv1
                obtain ⟨rfl, -⟩ := hv1
                have HST := Lib.hid (fun r (h : r < 4294967296) => (hst r h).1)
                clear hst
                cases o with
                | none =>
                  have HCO := Lib.hid (HCN.out rfl)
                  have e0 : wbW none = -1 := rfl
                  rw [e0]
                  go_wp2_with fail
                  refine ⟨⟨m + 1, by omega, by go_num, ?_, HB4.out⟩, by simp [intOf]; omega⟩
                  show Hid (OW _ _ _ _ (wList szS geS window cs ds (tt + (m + 1)) ++ List.replicate (NN - (tt + (m + 1))) 0))
                  rw [show tt + (m + 1) = zz + 1 by have := HZZ.out; omega, HWW.out, HCO.out, List.append_assoc]
                  exact HO4
                | some b =>
                  obtain ⟨⟨hb3, hb2, -⟩, hp0, hp1, hp2, hp3, hp4⟩ := HPL.out b rfl
                  have HCO := Lib.hid (HCE.out b rfl)
                  obtain ⟨yy, hy1, hy2⟩ := cand_place (show zz = n * ds.length + m by rw [HTT.out]; exact HZZ.out) hb3 hp0 hp1
                  have hyz : yy < zz := by rw [← hy1]; exact HPX.out _ _ (by omega) (by omega) (by omega) hp0 hp1
                  have HBV := Lib.hid (show b.2 = A.getD yy 0 by rw [hb2, wAt, if_neg (by omega), hy1])
                  obtain ⟨av1, cc1, hv1, -, -, hget1⟩ := HO4.out.sb.get hl3
                  obtain ⟨bb, oo, ra, hao1, hbl1', hca, hra, hcra⟩ := hget1 yy (by omega)
                  simp only [Value.slice.injEq] at hv1
                  rw [← hv1.1] at hao1
                  simp only [Option.some.injEq, Addr.mk.injEq, and_true] at hao1
                  obtain ⟨rfl, rfl⟩ := hao1
                  rw [Nat.zero_add] at hca
                  have HRA := Lib.hid (show cn .f32 ra = b.2 by rw [hcra, HBV.out, getD_under (by rw [HLA.out]; exact hyz)])
                  have ewb : wbW (some b) = (b.1 : Int) := rfl
                  rw [ewb]
                  clear ewb hget1 hv1 hcra hb2 HPL HCE HCN hy1
                  have hyi : (yy : Int) < (NN : Int) := by omega
                  have hy0 : 0 ≤ (yy : Int) := by omega
                  have hyn : ((yy : Int)).toNat = yy := by omega
                  have hwy : IntKind.i64.wrap (yy : Int) = (yy : Int) := by rw [IntKind.wrap_i64]; omega
                  have hwy2 : IntKind.i64.wrap ((zz : Int) - (ds.length : Int)) = (zz : Int) - (ds.length : Int) := by rw [IntKind.wrap_i64]; omega
                  rcases hy2 with ⟨hb1', hyy⟩ | ⟨hb1', hyy⟩ | ⟨hb1', hyy⟩
                  all_goals
                    rw [hb1']
                    go_wp2_with (first | ((with_reducible refine wpList_ar .f32 ra q ?_ ?_ ?_ ?_); (· rfl); (· rfl); (· rfl); intro rs ns hrs hrsl; have HRS := Lib.hid (show cn .f32 rs = addF b.2 q by rw [hrs, HRA.out, HQC.out]; rfl); clear hrs))
                    have HO5 := Lib.hid (HST.out rs hrsl)
                    rw [HRS.out, show zz = A.length from HLA.out.symm, set_end, HLA.out] at HO5
                    refine ⟨⟨m + 1, by omega, by go_num, ?_, below_drewN (HB4.out.setCell (Nat.le_refl _) _) ns⟩, by simp [intOf]; omega⟩
                    show Hid (OW _ _ _ _ (wList szS geS window cs ds (tt + (m + 1)) ++ List.replicate (NN - (tt + (m + 1))) 0))
                    rw [show tt + (m + 1) = zz + 1 by have := HZZ.out; omega, HWW.out, HCO.out, List.append_assoc]
                    exact Lib.hid (OW.drewN HO5.out ns)
        · obtain rfl : m = ds.length := by omega
          go_wp2_with fail
          refine ⟨⟨n + 1, by omega, by go_num, ?_, hb⟩, by simp [intOf]; omega⟩
          show Hid (OW _ _ _ _ _)
          rw [Nat.add_mul, Nat.one_mul]
          exact HO
    · obtain rfl : n = cs.length := by omega
      go_wp2_with fail
      go_ret
      refine ⟨⟨_, rfl, ?_⟩, hb⟩
      have h1 := HO.out
      rw [← HN.out, Nat.sub_self, List.replicate_zero, List.append_nil] at h1
      rw [wpC, ← HN.out]
      exact h1

end Go.Proofs.Ytnhenklopigfnaa
