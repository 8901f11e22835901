/- THE LAW FnExactRanksMiss: the program's RanksMiss returns what the reference's returns, for all arguments. No condition. -/
import Derived.Test.YtgonpgfhajfjpaaLawKit
import Derived.Test.YtgonpgfhajfjpaaK10
import Derived.Test.YtgonpgfhajfjpaaK15
import Derived.Test.YtgonpgfhajfjpaaK21
import Derived.Test.YtgonpgfhajfjpaaK58
import Derived.Test.YtgonpgfhajfjpaaK63
import Derived.Test.YtgonpgfhajfjpaaK173
import Derived.Test.YtgonpgfhajfjpaaK174
namespace Go.Proofs.Ytgonpgfhajfjpaa
set_option linter.unusedSimpArgs false
set_option linter.unusedVariables false
set_option maxRecDepth 100000
set_option maxHeartbeats 4000000
open Go.ChangeShapes Go.WideShapes Go.ChangeAt Go.RowKit
set_option linter.unusedVariables false


theorem FnExactRanksMiss_walk (w : World) (v0 : Value) (c0 : List (List Nat)) (hv0 : SS w v0 c0) (v1 : Value) (c1 : List Nat) (hv1 : SB w v1 c1) :
    Calls Try.prog 3 #[v0, v1] w fun z w' => z = .returned (.bool true) ∧ Below w.heap.size w w' := by
  obtain ⟨ao0, cp0, rfl, hcap0, hlen0⟩ := hv0.slice
  have HV0 := Lib.hid hv0
  clear hv0
  obtain ⟨ao1, cp1, rfl, hcap1, hlen1⟩ := hv1.sl.slice2
  have HV1 := Lib.hid hv1
  clear hv1
  by_cases hbig1 : (1048576 : Int) < (c1.length : Int)
  · go_enter Try.func3, Try.ntmps3
    go_wp2_with fail
    go_ret
    exact ⟨rfl, Below.refl _ _⟩
  have hsm1 : c1.length < 1099511627776 := by omega
  by_cases hsz0 : szL c0 1048576 < 0
  · have HSZ := Lib.hid (szQ_neg hsz0)
    clear hsz0
    go_enter Try.func3, Try.ntmps3
    go_wp2_with fail
    refine (l_szFloat32SS _ c0 _ _ HV0.out (by omega) (by omega)).mono ?_
    rintro z w1 ⟨rfl, hd⟩
    rw [HSZ.out]
    go_wp2_with fail
    go_ret
    exact ⟨rfl, hd.below _⟩
  have hsq0 := szQ_pos hsz0
  have hnn0 : 0 ≤ szL c0 1048576 := by omega
  have HSQ0 := Lib.hid hsq0
  clear hsq0
  have hsm0 := szL_len hnn0 (by omega)
  have HSE0 := Lib.hid (szL_each hnn0)
  generalize hQ : rkQ c0 c1 = Q
  have hlq0 : Q.1.length < 1000000 := by rw [← hQ]; exact rkQ_short _ _
  have hN0 := mkAt_le_sz (k := 1) hnn0
  generalize hN : mkAt c0 1 c0.length = N0 at hN0
  have hO0 : 1 ≤ N0 := by rw [← hN]; exact mkAt_ge _ _
  have HN0 := Lib.hid hN
  clear hN
  have HQ := Lib.hid hQ
  clear hQ
  have HB0 := Lib.hid (Below.refl w.heap.size w)
  have hz0 : w.heap.size ≤ w.heap.size := Nat.le_refl _
  go_enter Try.func3, Try.ntmps3
  go_wp2_with fail
  refine (l_szFloat32SS _ c0 _ _ (HV0.out.below HB0.out (Nat.le_refl _)) (by omega) (by omega)).mono ?_
  rintro z w1 ⟨rfl, hd⟩
  have hw := Dr.wi hd
  have hz1 := hw.size
  have HB1 := Lib.hid (HB0.out.trans (hw.below (by omega) (by omega)))
  clear HB0 hw
  clear hd
  rw [HSQ0.out]
  go_wp2_with fail
  refine (l_toFloat32SD _ c0 _ (HV0.out.below HB1.out (Nat.le_refl _)) hsm0 HSE0.out).mono ?_
  rintro z w2 ⟨u1, rfl, ho, hb⟩
  have hw := Wi.of_below hb
  have hz2 := hw.size
  have HB2 := Lib.hid (HB1.out.trans (hw.below (by omega) (by omega)))
  clear HB1 hw
  have X1_2 := Lib.hid (SX.of ho)
  clear ho hb
  go_wp2_with fail
  refine (l_toFloat32S _ c1 _ (HV1.out.below HB2.out (Nat.le_refl _)) hsm1).mono ?_
  rintro z w3 ⟨u2, rfl, ho, hb⟩
  have hw := Wi.of_below hb
  have hz3 := hw.size
  have X1_3 := Lib.hid (X1_2.out.keep hw (by omega))
  clear X1_2
  have HB3 := Lib.hid (HB2.out.trans (hw.below (by omega) (by omega)))
  clear HB2 hw
  have X2_3 := Lib.hid (FW.of ho)
  clear ho hb
  have hc3 := s_RanksMiss u1 u2 c0 c1 _ X1_3.out.ss X2_3.out.sb
  rw [HQ.out] at hc3
  go_wp2_with fail
  refine (hc3).mono ?_
  rintro z w4 ⟨⟨v3', b3, rfl, ho, hb2⟩, hb⟩
  have hw := Wi.of_below hb
  have hz4 := hw.size
  have X1_4 := Lib.hid (X1_3.out.keep hw (by omega))
  clear X1_3
  have X2_4 := Lib.hid (X2_3.out.keep hw (by omega))
  clear X2_3
  have HB4 := Lib.hid (HB3.out.trans (hw.below (by omega) (by omega)))
  clear HB3 hw
  have X3_4 := Lib.hid (GW.of ho)
  subst hb2
  clear ho
  clear hb hc3
  clear X1_4
  clear X2_4
  go_wp2_with fail
  refine (l_toFloat32SD _ c0 _ (HV0.out.below HB4.out (Nat.le_refl _)) hsm0 HSE0.out).mono ?_
  rintro z w5 ⟨u4, rfl, ho, hb⟩
  have hw := Wi.of_below hb
  have hz5 := hw.size
  have X3_5 := Lib.hid (X3_4.out.keep hw (by omega))
  clear X3_4
  have HB5 := Lib.hid (HB4.out.trans (hw.below (by omega) (by omega)))
  clear HB4 hw
  have X4_5 := Lib.hid (SX.of ho)
  clear ho hb
  go_wp2_with fail
  refine (l_toFloat32S _ c1 _ (HV1.out.below HB5.out (Nat.le_refl _)) hsm1).mono ?_
  rintro z w6 ⟨u5, rfl, ho, hb⟩
  have hw := Wi.of_below hb
  have hz6 := hw.size
  have X3_6 := Lib.hid (X3_5.out.keep hw (by omega))
  clear X3_5
  have X4_6 := Lib.hid (X4_5.out.keep hw (by omega))
  clear X4_5
  have HB6 := Lib.hid (HB5.out.trans (hw.below (by omega) (by omega)))
  clear HB5 hw
  have X5_6 := Lib.hid (FW.of ho)
  clear ho hb
  have hc6 := i_RanksMiss u4 u5 c0 c1 _ X4_6.out.ss X5_6.out.sb
  rw [HQ.out] at hc6
  go_wp2_with fail
  refine (hc6).mono ?_
  rintro z w7 ⟨⟨v6', b6, rfl, ho, hb2⟩, hb⟩
  have hw := Wi.of_below hb
  have hz7 := hw.size
  have X3_7 := Lib.hid (X3_6.out.keep hw (by omega))
  clear X3_6
  have X4_7 := Lib.hid (X4_6.out.keep hw (by omega))
  clear X4_6
  have X5_7 := Lib.hid (X5_6.out.keep hw (by omega))
  clear X5_6
  have HB7 := Lib.hid (HB6.out.trans (hw.below (by omega) (by omega)))
  clear HB6 hw
  have X6_7 := Lib.hid (GW.of ho)
  subst hb2
  clear ho
  clear hb hc6
  go_wp2_with fail
  refine (l_eqInt64S v6' v3' (Q.1) _ X6_7.out.gl X3_7.out.gl).mono ?_
  rintro z w8 ⟨rfl, hd⟩
  have hw := Dr.wi hd
  have hz8 := hw.size
  have X3_8 := Lib.hid (X3_7.out.keep hw (by omega))
  clear X3_7
  have X4_8 := Lib.hid (X4_7.out.keep hw (by omega))
  clear X4_7
  have X5_8 := Lib.hid (X5_7.out.keep hw (by omega))
  clear X5_7
  have X6_8 := Lib.hid (X6_7.out.keep hw (by omega))
  clear X6_7
  have HB8 := Lib.hid (HB7.out.trans (hw.below (by omega) (by omega)))
  clear HB7 hw
  clear hd
  go_wp2_with fail
  refine (l_toFloat32SD _ c0 _ (HV0.out.below HB8.out (Nat.le_refl _)) hsm0 HSE0.out).mono ?_
  rintro z w9 ⟨u7, rfl, ho, hb⟩
  have hw := Wi.of_below hb
  have hz9 := hw.size
  have X3_9 := Lib.hid (X3_8.out.keep hw (by omega))
  clear X3_8
  have X4_9 := Lib.hid (X4_8.out.keep hw (by omega))
  clear X4_8
  have X5_9 := Lib.hid (X5_8.out.keep hw (by omega))
  clear X5_8
  have X6_9 := Lib.hid (X6_8.out.keep hw (by omega))
  clear X6_8
  have HB9 := Lib.hid (HB8.out.trans (hw.below (by omega) (by omega)))
  clear HB8 hw
  have X7_9 := Lib.hid (SX.of ho)
  clear ho hb
  go_wp2_with fail
  refine (l_eqFloat32SS u4 u7 (c0) _ X4_9.out.ss X7_9.out.ss).mono ?_
  rintro z w10 ⟨rfl, hd⟩
  have hw := Dr.wi hd
  have hz10 := hw.size
  have X3_10 := Lib.hid (X3_9.out.keep hw (by omega))
  clear X3_9
  have X4_10 := Lib.hid (X4_9.out.keep hw (by omega))
  clear X4_9
  have X5_10 := Lib.hid (X5_9.out.keep hw (by omega))
  clear X5_9
  have X6_10 := Lib.hid (X6_9.out.keep hw (by omega))
  clear X6_9
  have X7_10 := Lib.hid (X7_9.out.keep hw (by omega))
  clear X7_9
  have HB10 := Lib.hid (HB9.out.trans (hw.below (by omega) (by omega)))
  clear HB9 hw
  clear hd
  clear X7_10
  go_wp2_with fail
  refine (l_toFloat32S _ c1 _ (HV1.out.below HB10.out (Nat.le_refl _)) hsm1).mono ?_
  rintro z w11 ⟨u8, rfl, ho, hb⟩
  have hw := Wi.of_below hb
  have hz11 := hw.size
  have X3_11 := Lib.hid (X3_10.out.keep hw (by omega))
  clear X3_10
  have X4_11 := Lib.hid (X4_10.out.keep hw (by omega))
  clear X4_10
  have X5_11 := Lib.hid (X5_10.out.keep hw (by omega))
  clear X5_10
  have X6_11 := Lib.hid (X6_10.out.keep hw (by omega))
  clear X6_10
  have HB11 := Lib.hid (HB10.out.trans (hw.below (by omega) (by omega)))
  clear HB10 hw
  have X8_11 := Lib.hid (FW.of ho)
  clear ho hb
  go_wp2_with fail
  refine (l_eqFloat32S u5 u8 (c1) _ X5_11.out.sl X8_11.out.sl).mono ?_
  rintro z w12 ⟨rfl, hd⟩
  have hw := Dr.wi hd
  have hz12 := hw.size
  have X3_12 := Lib.hid (X3_11.out.keep hw (by omega))
  clear X3_11
  have X4_12 := Lib.hid (X4_11.out.keep hw (by omega))
  clear X4_11
  have X5_12 := Lib.hid (X5_11.out.keep hw (by omega))
  clear X5_11
  have X6_12 := Lib.hid (X6_11.out.keep hw (by omega))
  clear X6_11
  have X8_12 := Lib.hid (X8_11.out.keep hw (by omega))
  clear X8_11
  have HB12 := Lib.hid (HB11.out.trans (hw.below (by omega) (by omega)))
  clear HB11 hw
  clear hd
  clear X8_12
  go_wp2_with fail
  refine (l_markSX _ _ u4 (c0) (1) _ X4_12.out (by omega) (by rw [HN0.out]; omega) (by omega)).mono ?_
  rintro z w13 ⟨rfl, ho, hw0⟩
  have hw := hw0
  have hz13 := hw.size
  have X3_13 := Lib.hid (X3_12.out.keep hw (by omega))
  clear X3_12
  have X5_13 := Lib.hid (X5_12.out.keep hw (by omega))
  clear X5_12
  have X6_13 := Lib.hid (X6_12.out.keep hw (by omega))
  clear X6_12
  have HB13 := Lib.hid (HB12.out.trans (hw.below (by omega) (by omega)))
  clear HB12 hw
  have X4_13 := Lib.hid ho
  clear ho hw0 X4_12
  rw [HN0.out]
  clear X4_13
  go_wp2_with fail
  refine (l_markFW _ _ u5 (c1) (N0) _ X5_13.out (by omega) (by omega) (by omega)).mono ?_
  rintro z w14 ⟨rfl, ho, hw0⟩
  have hw := hw0
  have hz14 := hw.size
  have X3_14 := Lib.hid (X3_13.out.keep hw (by omega))
  clear X3_13
  have X6_14 := Lib.hid (X6_13.out.keep hw (by omega))
  clear X6_13
  have HB14 := Lib.hid (HB13.out.trans (hw.below (by omega) (by omega)))
  clear HB13 hw
  have X5_14 := Lib.hid ho
  clear ho hw0 X5_13
  clear X5_14
  go_wp2_with fail
  refine (l_eqInt64S v6' v3' (Q.1) _ X6_14.out.gl X3_14.out.gl).mono ?_
  rintro z w15 ⟨rfl, hd⟩
  have hw := Dr.wi hd
  have hz15 := hw.size
  have X3_15 := Lib.hid (X3_14.out.keep hw (by omega))
  clear X3_14
  have X6_15 := Lib.hid (X6_14.out.keep hw (by omega))
  clear X6_14
  have HB15 := Lib.hid (HB14.out.trans (hw.below (by omega) (by omega)))
  clear HB14 hw
  clear hd
  go_wp2_with fail
  refine (l_markInt64S _ _ v6' (Q.1) (1) _ X6_15.out (by omega) (by omega) (by omega)).mono ?_
  rintro z w16 ⟨rfl, ho, hw0⟩
  have hw := hw0
  have hz16 := hw.size
  have X3_16 := Lib.hid (X3_15.out.keep hw (by omega))
  clear X3_15
  have HB16 := Lib.hid (HB15.out.trans (hw.below (by omega) (by omega)))
  clear HB15 hw
  have X6_16 := Lib.hid ho
  clear ho hw0 X6_15
  go_wp2_with fail
  refine (l_heldInt64S v6' (1) (Q.1.length) _ X6_16.out.gl (by omega) (by omega) (by omega)).mono ?_
  rintro z w17 ⟨rfl, hd⟩
  have hw := Dr.wi hd
  have hz17 := hw.size
  have X3_17 := Lib.hid (X3_16.out.keep hw (by omega))
  clear X3_16
  have X6_17 := Lib.hid (X6_16.out.keep hw (by omega))
  clear X6_16
  have HB17 := Lib.hid (HB16.out.trans (hw.below (by omega) (by omega)))
  clear HB16 hw
  clear hd
  go_wp2_with fail
  refine (l_toFloat32SD _ c0 _ (HV0.out.below HB17.out (Nat.le_refl _)) hsm0 HSE0.out).mono ?_
  rintro z w18 ⟨u9, rfl, ho, hb⟩
  have hw := Wi.of_below hb
  have hz18 := hw.size
  have X3_18 := Lib.hid (X3_17.out.keep hw (by omega))
  clear X3_17
  have X6_18 := Lib.hid (X6_17.out.keep hw (by omega))
  clear X6_17
  have HB18 := Lib.hid (HB17.out.trans (hw.below (by omega) (by omega)))
  clear HB17 hw
  have X9_18 := Lib.hid (SX.of ho)
  clear ho hb
  go_wp2_with fail
  refine (l_toFloat32S _ c1 _ (HV1.out.below HB18.out (Nat.le_refl _)) hsm1).mono ?_
  rintro z w19 ⟨u10, rfl, ho, hb⟩
  have hw := Wi.of_below hb
  have hz19 := hw.size
  have X3_19 := Lib.hid (X3_18.out.keep hw (by omega))
  clear X3_18
  have X6_19 := Lib.hid (X6_18.out.keep hw (by omega))
  clear X6_18
  have X9_19 := Lib.hid (X9_18.out.keep hw (by omega))
  clear X9_18
  have HB19 := Lib.hid (HB18.out.trans (hw.below (by omega) (by omega)))
  clear HB18 hw
  have X10_19 := Lib.hid (FW.of ho)
  clear ho hb
  have hc11 := i_RanksMiss u9 u10 c0 c1 _ X9_19.out.ss X10_19.out.sb
  rw [HQ.out] at hc11
  go_wp2_with fail
  refine (hc11).mono ?_
  rintro z w20 ⟨⟨v11', b11, rfl, ho, hb2⟩, hb⟩
  have hw := Wi.of_below hb
  have hz20 := hw.size
  have X3_20 := Lib.hid (X3_19.out.keep hw (by omega))
  clear X3_19
  have X6_20 := Lib.hid (X6_19.out.keep hw (by omega))
  clear X6_19
  have X9_20 := Lib.hid (X9_19.out.keep hw (by omega))
  clear X9_19
  have X10_20 := Lib.hid (X10_19.out.keep hw (by omega))
  clear X10_19
  have HB20 := Lib.hid (HB19.out.trans (hw.below (by omega) (by omega)))
  clear HB19 hw
  have X11_20 := Lib.hid (GW.of ho)
  subst hb2
  clear ho
  clear hb hc11
  clear X9_20
  clear X10_20
  go_wp2_with fail
  refine (l_eqInt64S v11' v3' (Q.1) _ X11_20.out.gl X3_20.out.gl).mono ?_
  rintro z w21 ⟨rfl, hd⟩
  have hw := Dr.wi hd
  have hz21 := hw.size
  have X3_21 := Lib.hid (X3_20.out.keep hw (by omega))
  clear X3_20
  have X6_21 := Lib.hid (X6_20.out.keep hw (by omega))
  clear X6_20
  have X11_21 := Lib.hid (X11_20.out.keep hw (by omega))
  clear X11_20
  have HB21 := Lib.hid (HB20.out.trans (hw.below (by omega) (by omega)))
  clear HB20 hw
  clear hd
  go_wp2_with fail
  refine (l_heldInt64S v6' (1) (Q.1.length) _ X6_21.out.gl (by omega) (by omega) (by omega)).mono ?_
  rintro z w22 ⟨rfl, hd⟩
  have hw := Dr.wi hd
  have hz22 := hw.size
  have X3_22 := Lib.hid (X3_21.out.keep hw (by omega))
  clear X3_21
  have X6_22 := Lib.hid (X6_21.out.keep hw (by omega))
  clear X6_21
  have X11_22 := Lib.hid (X11_21.out.keep hw (by omega))
  clear X11_21
  have HB22 := Lib.hid (HB21.out.trans (hw.below (by omega) (by omega)))
  clear HB21 hw
  clear hd
  go_wp2_with fail
  go_ret
  exact ⟨rfl, HB22.out⟩
set_option maxRecDepth 100000 in
theorem FnExactRanksMiss_lifted (os : Os) (started : os.Started) (H : Type) (enc : TypeId × Value → H) :
    ReturnsInHanded {} Try.checked os 3 .any (Rows.fnExactRanksMissSpec.pre6 enc Try.prog Try.f3 Rows.fnExactRanksMissRow.domain false) (Rows.fnExactRanksMissSpec.post enc Try.prog Try.f3 false true false false) := by
  refine returnsInHanded_of_change (C := Try.checked) own started (by kernel_rfl) Try.func3
    (ChangeSpec.witness6 (enc := enc) (C := Try.checked) false ⟨#[], #[.slice none 0 0, .slice none 0 0], []⟩ 8 (by kernel_rfl) (by kernel_rfl) (by kernel_rfl) (by kernel_rfl)) ?_
  intro W base args ds gs before hval0 hW hcnd _
  have hval : ∀ (j : Nat) t v, Try.f3.params[j]? = some t → args[j]? = some v → Value.okWide Try.prog W .any base t v := hval0
  have hW' := hW
  obtain ⟨p, q, hA0, hV, rfl, hfz, hnd⟩ := hW
  have hA : DataW.TrodAll enc Try.prog W 0 (fun _ => true) true Try.f3.params.toList args.toList ds p := hA0
  rw [Try.params3] at hA hval
  obtain ⟨v0, vs0, d0, ds0, p0, q0, hargs, rfl, rfl, h0, r0⟩ := trodAll_cons hA
  obtain ⟨v1, vs1, d1, ds1, p1, q1, rfl, rfl, rfl, h1, r1⟩ := trodAll_cons r0
  obtain ⟨rfl, rfl, rfl⟩ := trodAll_nil r1
  obtain rfl : args = #[v0, v1] := by cases args; simp_all
  obtain ⟨rfl, rfl⟩ := trodVars_none hV
  have k0 := h0
  have lt0 : ∀ x ∈ p0, x.block < W.heap.size := by obtain ⟨m, hm⟩ := k0; exact DataW.trod_lt m _ _ _ hm
  have k1 := h1
  have lt1 : ∀ x ∈ p1, x.block < W.heap.size := by obtain ⟨m, hm⟩ := k1; exact DataW.trod_lt m _ _ _ hm
  obtain ⟨b0, ln0, cp0, rfl⟩ := okWide_slice Try.underlying22 (hval 0 22 v0 rfl rfl)
  obtain ⟨c0, hc0⟩ : ∃ css, SS W (.slice b0 ln0 cp0) css := by obtain ⟨fuel, hfu⟩ := h0; exact open_f32ss Try.underlying22 (by kernel_rfl) Try.underlying23 Try.underlying37 (by kernel_rfl) hfu
  obtain ⟨b1, ln1, cp1, rfl⟩ := okWide_slice Try.underlying23 (hval 1 23 v1 rfl rfl)
  obtain ⟨c1, hc1⟩ : ∃ cs, SB W (.slice b1 ln1 cp1) cs := by obtain ⟨fuel, hfu⟩ := h1; exact open_f32s Try.underlying23 Try.underlying37 (by kernel_rfl) hfu
  clear hA0 hval0
  refine (FnExactRanksMiss_walk (w := W) _ c0 hc0 _ c1 hc1).mono fun e W' ⟨he, bel⟩ => ?_
  subst he
  exact ⟨_, rfl, _, _, _, [], _, [], hW', trodAll_mk1 (shut_bool Try.underlying4 _), (trodAll_cons_mk (Below.trod laidOut (by kernel_rfl) (of_decide_eq_true (by kernel_rfl)) k0 bel lt0) (trodAll_cons_mk (Below.trod laidOut (by kernel_rfl) (of_decide_eq_true (by kernel_rfl)) k1 bel lt1) trodAll_mk0)), rfl, bel.frame _, fun h => by cases h⟩

theorem fnExactRanksMiss_holds : Rows.FnExactRanksMissSaid :=
  OpenClaim.holds_of_wide 3 Try.f3 rfl rfl rfl rfl rfl rfl rfl ⟨rfl, rfl, rfl, rfl, rfl⟩ rfl rfl rfl rfl rfl (by kernel_rfl) Try.func3 (by kernel_rfl)
    (of_decide_eq_true (by kernel_rfl)) (by unfold Func.isWrapper; first | (rw [if_pos (by decide +kernel)]; kernel_rfl) | (rw [if_neg (by decide +kernel)]; exact ⟨rfl, rfl⟩))
    (fun os started H enc _ => FnExactRanksMiss_lifted os started H enc)
#print axioms fnExactRanksMiss_holds

end Go.Proofs.Ytgonpgfhajfjpaa
