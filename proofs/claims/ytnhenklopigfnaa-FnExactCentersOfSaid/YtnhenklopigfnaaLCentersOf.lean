/- THE LAW FnExactCentersOf: the program's CentersOf returns what the reference's returns, for all arguments. No condition. -/
import Derived.Test.YtnhenklopigfnaaLawKit
import Derived.Test.YtnhenklopigfnaaK15
import Derived.Test.YtnhenklopigfnaaK49
import Derived.Test.YtnhenklopigfnaaK57
import Derived.Test.YtnhenklopigfnaaK58
import Derived.Test.YtnhenklopigfnaaK59
import Derived.Test.YtnhenklopigfnaaK63
namespace Go.Proofs.Ytnhenklopigfnaa
set_option linter.unusedSimpArgs false
set_option linter.unusedVariables false
set_option maxRecDepth 100000
set_option maxHeartbeats 4000000
open Go.ChangeShapes Go.WideShapes Go.ChangeAt Go.RowKit
set_option linter.unusedVariables false


theorem FnExactCentersOf_walk (w : World) (v0 : Value) (c0 : List (List Nat)) (hv0 : SS w v0 c0) (a1 : Int) (ha1 : (Lit.int .i64 a1).wf = true) (a2 : Int) (ha2 : (Lit.int .i64 a2).wf = true) :
    Calls Try.prog 10 #[v0, .int .i64 a1, .int .i64 a2] w fun z w' => z = .returned (.bool true) ∧ Below w.heap.size w w' := by
  obtain ⟨ao0, cp0, rfl, hcap0, hlen0⟩ := hv0.slice
  have HV0 := Lib.hid hv0
  clear hv0
  by_cases hsz0 : szL c0 1048576 < 0
  · have HSZ := Lib.hid (szQ_neg hsz0)
    clear hsz0
    go_enter Try.func10, Try.ntmps10
    go_wp2_with fail
    refine (l_szFloat32SS _ c0 _ _ HV0.out (by omega) (by omega)).mono ?_
    rintro z w1 ⟨rfl, hd⟩
    rw [HSZ.out]
    go_wp2_with fail
    go_ret
    exact ⟨rfl, hd.below _⟩
  have hsq0 := szQ_pos hsz0
  have hnn0 : 0 ≤ szL c0 1048576 := by omega
  have HSQ0 := Lib.hid hsq0
  clear hsq0
  have hsm0 := szL_len hnn0 (by omega)
  have HSE0 := Lib.hid (szL_each hnn0)
  generalize hQ : ceQ c0 a1 a2 = Q
  obtain ⟨hlq0, hlq1, hlq2⟩ : mkAt Q.1 1 Q.1.length ≤ 1 + 1536 ∧ Q.1.length ≤ 16 ∧ Q.2.1.length ≤ 16 := by rw [← hQ]; exact ceQ_few _ _ _ _
  generalize hM : mkAt Q.1 1 Q.1.length = M at hlq0
  have hM1 : 1 ≤ M := by rw [← hM]; exact mkAt_ge _ _
  have HM := Lib.hid hM
  clear hM
  have hN0 := mkAt_le_sz (k := 1) hnn0
  generalize hN : mkAt c0 1 c0.length = N0 at hN0
  have hO0 : 1 ≤ N0 := by rw [← hN]; exact mkAt_ge _ _
  have HN0 := Lib.hid hN
  clear hN
  have HQ := Lib.hid hQ
  clear hQ
  have HB0 := Lib.hid (Below.refl w.heap.size w)
  have hz0 : w.heap.size ≤ w.heap.size := Nat.le_refl _
  go_enter Try.func10, Try.ntmps10
  go_wp2_with fail
  refine (l_szFloat32SS _ c0 _ _ (HV0.out.below HB0.out (Nat.le_refl _)) (by omega) (by omega)).mono ?_
  rintro z w1 ⟨rfl, hd⟩
  have hw := Dr.wi hd
  have hz1 := hw.size
  have HB1 := Lib.hid (HB0.out.trans (hw.below (by omega) (by omega)))
  clear HB0 hw
  clear hd
  rw [HSQ0.out]
  go_wp2_with fail
  refine (l_toFloat32SD _ c0 _ (HV0.out.below HB1.out (Nat.le_refl _)) hsm0 HSE0.out).mono ?_
  rintro z w2 ⟨u1, rfl, ho, hb⟩
  have hw := Wi.of_below hb
  have hz2 := hw.size
  have HB2 := Lib.hid (HB1.out.trans (hw.below (by omega) (by omega)))
  clear HB1 hw
  have X1_2 := Lib.hid (SX.of ho)
  clear ho hb
  have hc2 := s_CentersOf u1 c0 a1 a2 _ X1_2.out.ss
  rw [HQ.out] at hc2
  go_wp2_with fail
  refine (hc2).mono ?_
  rintro z w3 ⟨⟨u2', v2', b2, rfl, ho, ho2, hb2⟩, hb⟩
  have hw := Wi.of_below hb
  have hz3 := hw.size
  have X1_3 := Lib.hid (X1_2.out.keep hw (by omega))
  clear X1_2
  have HB3 := Lib.hid (HB2.out.trans (hw.below (by omega) (by omega)))
  clear HB2 hw
  have X2_3 := Lib.hid (CG.of ho ho2)
  subst hb2
  clear ho ho2
  clear hb hc2
  clear X1_3
  go_wp2_with fail
  refine (l_toFloat32SD _ c0 _ (HV0.out.below HB3.out (Nat.le_refl _)) hsm0 HSE0.out).mono ?_
  rintro z w4 ⟨u3, rfl, ho, hb⟩
  have hw := Wi.of_below hb
  have hz4 := hw.size
  have X2_4 := Lib.hid (X2_3.out.keep hw (by omega))
  clear X2_3
  have HB4 := Lib.hid (HB3.out.trans (hw.below (by omega) (by omega)))
  clear HB3 hw
  have X3_4 := Lib.hid (SX.of ho)
  clear ho hb
  have hc4 := i_CentersOf u3 c0 a1 a2 _ X3_4.out.ss
  rw [HQ.out] at hc4
  go_wp2_with fail
  refine (hc4).mono ?_
  rintro z w5 ⟨⟨u4', v4', b4, rfl, ho, ho2, hb2⟩, hb⟩
  have hw := Wi.of_below hb
  have hz5 := hw.size
  have X2_5 := Lib.hid (X2_4.out.keep hw (by omega))
  clear X2_4
  have X3_5 := Lib.hid (X3_4.out.keep hw (by omega))
  clear X3_4
  have HB5 := Lib.hid (HB4.out.trans (hw.below (by omega) (by omega)))
  clear HB4 hw
  have X4_5 := Lib.hid (CG.of ho ho2)
  subst hb2
  clear ho ho2
  clear hb hc4
  go_wp2_with fail
  refine (l_eqFloat32SS u4' u2' (Q.1) _ X4_5.out.ss X2_5.out.ss).mono ?_
  rintro z w6 ⟨rfl, hd⟩
  have hw := Dr.wi hd
  have hz6 := hw.size
  have X2_6 := Lib.hid (X2_5.out.keep hw (by omega))
  clear X2_5
  have X3_6 := Lib.hid (X3_5.out.keep hw (by omega))
  clear X3_5
  have X4_6 := Lib.hid (X4_5.out.keep hw (by omega))
  clear X4_5
  have HB6 := Lib.hid (HB5.out.trans (hw.below (by omega) (by omega)))
  clear HB5 hw
  clear hd
  go_wp2_with fail
  refine (l_eqInt64S v4' v2' (Q.2.1) _ X4_6.out.gl X2_6.out.gl).mono ?_
  rintro z w7 ⟨rfl, hd⟩
  have hw := Dr.wi hd
  have hz7 := hw.size
  have X2_7 := Lib.hid (X2_6.out.keep hw (by omega))
  clear X2_6
  have X3_7 := Lib.hid (X3_6.out.keep hw (by omega))
  clear X3_6
  have X4_7 := Lib.hid (X4_6.out.keep hw (by omega))
  clear X4_6
  have HB7 := Lib.hid (HB6.out.trans (hw.below (by omega) (by omega)))
  clear HB6 hw
  clear hd
  go_wp2_with fail
  refine (l_toFloat32SD _ c0 _ (HV0.out.below HB7.out (Nat.le_refl _)) hsm0 HSE0.out).mono ?_
  rintro z w8 ⟨u5, rfl, ho, hb⟩
  have hw := Wi.of_below hb
  have hz8 := hw.size
  have X2_8 := Lib.hid (X2_7.out.keep hw (by omega))
  clear X2_7
  have X3_8 := Lib.hid (X3_7.out.keep hw (by omega))
  clear X3_7
  have X4_8 := Lib.hid (X4_7.out.keep hw (by omega))
  clear X4_7
  have HB8 := Lib.hid (HB7.out.trans (hw.below (by omega) (by omega)))
  clear HB7 hw
  have X5_8 := Lib.hid (SX.of ho)
  clear ho hb
  go_wp2_with fail
  refine (l_eqFloat32SS u3 u5 (c0) _ X3_8.out.ss X5_8.out.ss).mono ?_
  rintro z w9 ⟨rfl, hd⟩
  have hw := Dr.wi hd
  have hz9 := hw.size
  have X2_9 := Lib.hid (X2_8.out.keep hw (by omega))
  clear X2_8
  have X3_9 := Lib.hid (X3_8.out.keep hw (by omega))
  clear X3_8
  have X4_9 := Lib.hid (X4_8.out.keep hw (by omega))
  clear X4_8
  have X5_9 := Lib.hid (X5_8.out.keep hw (by omega))
  clear X5_8
  have HB9 := Lib.hid (HB8.out.trans (hw.below (by omega) (by omega)))
  clear HB8 hw
  clear hd
  clear X5_9
  go_wp2_with fail
  refine (l_markSX _ _ u3 (c0) (1) _ X3_9.out (by omega) (by rw [HN0.out]; omega) (by omega)).mono ?_
  rintro z w10 ⟨rfl, ho, hw0⟩
  have hw := hw0
  have hz10 := hw.size
  have X2_10 := Lib.hid (X2_9.out.keep hw (by omega))
  clear X2_9
  have X4_10 := Lib.hid (X4_9.out.keep hw (by omega))
  clear X4_9
  have HB10 := Lib.hid (HB9.out.trans (hw.below (by omega) (by omega)))
  clear HB9 hw
  have X3_10 := Lib.hid ho
  clear ho hw0 X3_9
  rw [HN0.out]
  clear X3_10
  go_wp2_with fail
  refine (l_eqFloat32SS u4' u2' (Q.1) _ X4_10.out.ss X2_10.out.ss).mono ?_
  rintro z w11 ⟨rfl, hd⟩
  have hw := Dr.wi hd
  have hz11 := hw.size
  have X2_11 := Lib.hid (X2_10.out.keep hw (by omega))
  clear X2_10
  have X4_11 := Lib.hid (X4_10.out.keep hw (by omega))
  clear X4_10
  have HB11 := Lib.hid (HB10.out.trans (hw.below (by omega) (by omega)))
  clear HB10 hw
  clear hd
  go_wp2_with fail
  refine (l_eqInt64S v4' v2' (Q.2.1) _ X4_11.out.gl X2_11.out.gl).mono ?_
  rintro z w12 ⟨rfl, hd⟩
  have hw := Dr.wi hd
  have hz12 := hw.size
  have X2_12 := Lib.hid (X2_11.out.keep hw (by omega))
  clear X2_11
  have X4_12 := Lib.hid (X4_11.out.keep hw (by omega))
  clear X4_11
  have HB12 := Lib.hid (HB11.out.trans (hw.below (by omega) (by omega)))
  clear HB11 hw
  clear hd
  go_wp2_with fail
  refine (l_markCG1 _ _ u4' v4' Q.1 Q.2.1 (1) _ X4_12.out (by omega) (by rw [HM.out]; omega) (by omega)).mono ?_
  rintro z w13 ⟨rfl, ho, hw0⟩
  have hw := hw0
  have hz13 := hw.size
  have X2_13 := Lib.hid (X2_12.out.keep hw (by omega))
  clear X2_12
  have HB13 := Lib.hid (HB12.out.trans (hw.below (by omega) (by omega)))
  clear HB12 hw
  have X4_13 := Lib.hid ho
  clear ho hw0 X4_12
  rw [HM.out]
  go_wp2_with fail
  refine (l_markCG2 _ _ u4' v4' (mkL Q.1 (1)) Q.2.1 M _ X4_13.out (by omega) (by omega) (by omega)).mono ?_
  rintro z w14 ⟨rfl, ho, hw0⟩
  have hw := hw0
  have hz14 := hw.size
  have X2_14 := Lib.hid (X2_13.out.keep hw (by omega))
  clear X2_13
  have HB14 := Lib.hid (HB13.out.trans (hw.below (by omega) (by omega)))
  clear HB13 hw
  have X4_14 := Lib.hid ho
  clear ho hw0 X4_13
  go_wp2_with fail
  refine (l_heldFloat32SS u4' Q.1 (1) _ X4_14.out.ss (by omega) (by rw [HM.out]; omega)).mono ?_
  rintro z w15 ⟨rfl, hd⟩
  have hw := Dr.wi hd
  have hz15 := hw.size
  have X2_15 := Lib.hid (X2_14.out.keep hw (by omega))
  clear X2_14
  have X4_15 := Lib.hid (X4_14.out.keep hw (by omega))
  clear X4_14
  have HB15 := Lib.hid (HB14.out.trans (hw.below (by omega) (by omega)))
  clear HB14 hw
  clear hd
  rw [HM.out]
  go_wp2_with fail
  refine (l_heldInt64S v4' M Q.2.1.length _ X4_15.out.gl (by omega) (by omega) (by omega)).mono ?_
  rintro z w16 ⟨rfl, hd⟩
  have hw := Dr.wi hd
  have hz16 := hw.size
  have X2_16 := Lib.hid (X2_15.out.keep hw (by omega))
  clear X2_15
  have X4_16 := Lib.hid (X4_15.out.keep hw (by omega))
  clear X4_15
  have HB16 := Lib.hid (HB15.out.trans (hw.below (by omega) (by omega)))
  clear HB15 hw
  clear hd
  go_wp2_with fail
  refine (l_toFloat32SD _ c0 _ (HV0.out.below HB16.out (Nat.le_refl _)) hsm0 HSE0.out).mono ?_
  rintro z w17 ⟨u6, rfl, ho, hb⟩
  have hw := Wi.of_below hb
  have hz17 := hw.size
  have X2_17 := Lib.hid (X2_16.out.keep hw (by omega))
  clear X2_16
  have X4_17 := Lib.hid (X4_16.out.keep hw (by omega))
  clear X4_16
  have HB17 := Lib.hid (HB16.out.trans (hw.below (by omega) (by omega)))
  clear HB16 hw
  have X6_17 := Lib.hid (SX.of ho)
  clear ho hb
  have hc7 := i_CentersOf u6 c0 a1 a2 _ X6_17.out.ss
  rw [HQ.out] at hc7
  go_wp2_with fail
  refine (hc7).mono ?_
  rintro z w18 ⟨⟨u7', v7', b7, rfl, ho, ho2, hb2⟩, hb⟩
  have hw := Wi.of_below hb
  have hz18 := hw.size
  have X2_18 := Lib.hid (X2_17.out.keep hw (by omega))
  clear X2_17
  have X4_18 := Lib.hid (X4_17.out.keep hw (by omega))
  clear X4_17
  have X6_18 := Lib.hid (X6_17.out.keep hw (by omega))
  clear X6_17
  have HB18 := Lib.hid (HB17.out.trans (hw.below (by omega) (by omega)))
  clear HB17 hw
  have X7_18 := Lib.hid (CG.of ho ho2)
  subst hb2
  clear ho ho2
  clear hb hc7
  clear X6_18
  go_wp2_with fail
  refine (l_eqFloat32SS u7' u2' (Q.1) _ X7_18.out.ss X2_18.out.ss).mono ?_
  rintro z w19 ⟨rfl, hd⟩
  have hw := Dr.wi hd
  have hz19 := hw.size
  have X2_19 := Lib.hid (X2_18.out.keep hw (by omega))
  clear X2_18
  have X4_19 := Lib.hid (X4_18.out.keep hw (by omega))
  clear X4_18
  have X7_19 := Lib.hid (X7_18.out.keep hw (by omega))
  clear X7_18
  have HB19 := Lib.hid (HB18.out.trans (hw.below (by omega) (by omega)))
  clear HB18 hw
  clear hd
  go_wp2_with fail
  refine (l_eqInt64S v7' v2' (Q.2.1) _ X7_19.out.gl X2_19.out.gl).mono ?_
  rintro z w20 ⟨rfl, hd⟩
  have hw := Dr.wi hd
  have hz20 := hw.size
  have X2_20 := Lib.hid (X2_19.out.keep hw (by omega))
  clear X2_19
  have X4_20 := Lib.hid (X4_19.out.keep hw (by omega))
  clear X4_19
  have X7_20 := Lib.hid (X7_19.out.keep hw (by omega))
  clear X7_19
  have HB20 := Lib.hid (HB19.out.trans (hw.below (by omega) (by omega)))
  clear HB19 hw
  clear hd
  go_wp2_with fail
  refine (l_heldFloat32SS u4' Q.1 (1) _ X4_20.out.ss (by omega) (by rw [HM.out]; omega)).mono ?_
  rintro z w21 ⟨rfl, hd⟩
  have hw := Dr.wi hd
  have hz21 := hw.size
  have X2_21 := Lib.hid (X2_20.out.keep hw (by omega))
  clear X2_20
  have X4_21 := Lib.hid (X4_20.out.keep hw (by omega))
  clear X4_20
  have X7_21 := Lib.hid (X7_20.out.keep hw (by omega))
  clear X7_20
  have HB21 := Lib.hid (HB20.out.trans (hw.below (by omega) (by omega)))
  clear HB20 hw
  clear hd
  rw [HM.out]
  go_wp2_with fail
  refine (l_heldInt64S v4' M Q.2.1.length _ X4_21.out.gl (by omega) (by omega) (by omega)).mono ?_
  rintro z w22 ⟨rfl, hd⟩
  have hw := Dr.wi hd
  have hz22 := hw.size
  have X2_22 := Lib.hid (X2_21.out.keep hw (by omega))
  clear X2_21
  have X4_22 := Lib.hid (X4_21.out.keep hw (by omega))
  clear X4_21
  have X7_22 := Lib.hid (X7_21.out.keep hw (by omega))
  clear X7_21
  have HB22 := Lib.hid (HB21.out.trans (hw.below (by omega) (by omega)))
  clear HB21 hw
  clear hd
  go_wp2_with fail
  go_ret
  exact ⟨rfl, HB22.out⟩
set_option maxRecDepth 100000 in
theorem FnExactCentersOf_lifted (os : Os) (started : os.Started) (H : Type) (enc : TypeId × Value → H) :
    ReturnsInHanded {} Try.checked os 10 .any (Rows.fnExactCentersOfSpec.pre6 enc Try.prog Try.f10 Rows.fnExactCentersOfRow.domain false) (Rows.fnExactCentersOfSpec.post enc Try.prog Try.f10 false true false false) := by
  refine returnsInHanded_of_change (C := Try.checked) own started (by kernel_rfl) Try.func10
    (ChangeSpec.witness6 (enc := enc) (C := Try.checked) false ⟨#[], #[.slice none 0 0, .int .i64 0, .int .i64 0], []⟩ 8 (by kernel_rfl) (by kernel_rfl) (by kernel_rfl) (by kernel_rfl)) ?_
  intro W base args ds gs before hval0 hW hcnd _
  have hval : ∀ (j : Nat) t v, Try.f10.params[j]? = some t → args[j]? = some v → Value.okWide Try.prog W .any base t v := hval0
  have hW' := hW
  obtain ⟨p, q, hA0, hV, rfl, hfz, hnd⟩ := hW
  have hA : DataW.TrodAll enc Try.prog W 0 (fun _ => true) true Try.f10.params.toList args.toList ds p := hA0
  rw [Try.params10] at hA hval
  obtain ⟨v0, vs0, d0, ds0, p0, q0, hargs, rfl, rfl, h0, r0⟩ := trodAll_cons hA
  obtain ⟨v1, vs1, d1, ds1, p1, q1, rfl, rfl, rfl, h1, r1⟩ := trodAll_cons r0
  obtain ⟨v2, vs2, d2, ds2, p2, q2, rfl, rfl, rfl, h2, r2⟩ := trodAll_cons r1
  obtain ⟨rfl, rfl, rfl⟩ := trodAll_nil r2
  obtain rfl : args = #[v0, v1, v2] := by cases args; simp_all
  obtain ⟨rfl, rfl⟩ := trodVars_none hV
  have k0 := h0
  have lt0 : ∀ x ∈ p0, x.block < W.heap.size := by obtain ⟨m, hm⟩ := k0; exact DataW.trod_lt m _ _ _ hm
  have k1 := h1
  have lt1 : ∀ x ∈ p1, x.block < W.heap.size := by obtain ⟨m, hm⟩ := k1; exact DataW.trod_lt m _ _ _ hm
  have k2 := h2
  have lt2 : ∀ x ∈ p2, x.block < W.heap.size := by obtain ⟨m, hm⟩ := k2; exact DataW.trod_lt m _ _ _ hm
  obtain ⟨b0, ln0, cp0, rfl⟩ := okWide_slice Try.underlying65 (hval 0 65 v0 rfl rfl)
  obtain ⟨c0, hc0⟩ : ∃ css, SS W (.slice b0 ln0 cp0) css := by obtain ⟨fuel, hfu⟩ := h0; exact open_f32ss Try.underlying65 (by kernel_rfl) Try.underlying25 Try.underlying27 (by kernel_rfl) hfu
  obtain ⟨a1, rfl, _, _, hi1⟩ := open_int Try.underlying2 (hval 1 2 v1 rfl rfl) h1
  obtain ⟨a2, rfl, _, _, hi2⟩ := open_int Try.underlying2 (hval 2 2 v2 rfl rfl) h2
  clear hA0 hval0
  refine (FnExactCentersOf_walk (w := W) _ c0 hc0 a1 hi1 a2 hi2).mono fun e W' ⟨he, bel⟩ => ?_
  subst he
  exact ⟨_, rfl, _, _, _, [], _, [], hW', trodAll_mk1 (shut_bool Try.underlying4 _), (trodAll_cons_mk (Below.trod laidOut (by kernel_rfl) (of_decide_eq_true (by kernel_rfl)) k0 bel lt0) (trodAll_cons_mk (Below.trod laidOut (by kernel_rfl) (of_decide_eq_true (by kernel_rfl)) k1 bel lt1) (trodAll_cons_mk (Below.trod laidOut (by kernel_rfl) (of_decide_eq_true (by kernel_rfl)) k2 bel lt2) trodAll_mk0))), rfl, bel.frame _, fun h => by cases h⟩

theorem fnExactCentersOf_holds : Rows.FnExactCentersOfSaid :=
  OpenClaim.holds_of_wide 10 Try.f10 rfl rfl rfl rfl rfl rfl rfl ⟨rfl, rfl, rfl, rfl, rfl⟩ rfl rfl rfl rfl rfl (by kernel_rfl) Try.func10 (by kernel_rfl)
    (of_decide_eq_true (by kernel_rfl)) (by unfold Func.isWrapper; first | (rw [if_pos (by decide +kernel)]; kernel_rfl) | (rw [if_neg (by decide +kernel)]; exact ⟨rfl, rfl⟩))
    (fun os started H enc _ => FnExactCentersOf_lifted os started H enc)
#print axioms fnExactCentersOf_holds

end Go.Proofs.Ytnhenklopigfnaa
