/- THE LAW FnExactWarpWay: the program's WarpWay returns what the reference's returns, for all arguments. No condition. -/
import Derived.Test.YtnhenklopigfnaaLawKit
import Derived.Test.YtnhenklopigfnaaK15
import Derived.Test.YtnhenklopigfnaaK10
import Derived.Test.YtnhenklopigfnaaK166
namespace Go.Proofs.Ytnhenklopigfnaa
set_option linter.unusedSimpArgs false
set_option linter.unusedVariables false
set_option maxRecDepth 100000
set_option maxHeartbeats 4000000
open Go.ChangeShapes Go.WideShapes Go.ChangeAt Go.RowKit
set_option linter.unusedVariables false


theorem FnExactWarpWay_walk (w : World) (v0 : Value) (c0 : List Nat) (hv0 : SB w v0 c0) (v1 : Value) (c1 : List Nat) (hv1 : SB w v1 c1) (a2 : Int) (ha2 : (Lit.int .i64 a2).wf = true) :
    Calls Try.prog 6 #[v0, v1, .int .i64 a2] w fun z w' => z = .returned (.bool true) ∧ Below w.heap.size w w' := by
  obtain ⟨ao0, cp0, rfl, hcap0, hlen0⟩ := hv0.sl.slice2
  have HV0 := Lib.hid hv0
  clear hv0
  obtain ⟨ao1, cp1, rfl, hcap1, hlen1⟩ := hv1.sl.slice2
  have HV1 := Lib.hid hv1
  clear hv1
  by_cases hbig0 : (1048576 : Int) < (c0.length : Int)
  · go_enter Try.func6, Try.ntmps6
    go_wp2_with fail
    go_ret
    exact ⟨rfl, Below.refl _ _⟩
  by_cases hbig1 : (1048576 : Int) < (c1.length : Int)
  · go_enter Try.func6, Try.ntmps6
    go_wp2_with fail
    go_ret
    exact ⟨rfl, Below.refl _ _⟩
  have hsm0 : c0.length < 1099511627776 := by omega
  have hsm1 : c1.length < 1099511627776 := by omega
  generalize hQ : wayQ szI geI c0 c1 a2 = Q
  have hlq0 : Q.1.length < 1000000 := by rw [← hQ]; exact wayQ_short _ _ _ _ _
  have HQ := Lib.hid hQ
  clear hQ
  have HB0 := Lib.hid (Below.refl w.heap.size w)
  have hz0 : w.heap.size ≤ w.heap.size := Nat.le_refl _
  go_enter Try.func6, Try.ntmps6
  go_wp2_with fail
  refine (l_toFloat32S _ c0 _ (HV0.out.below HB0.out (Nat.le_refl _)) hsm0).mono ?_
  rintro z w1 ⟨u1, rfl, ho, hb⟩
  have hw := Wi.of_below hb
  have hz1 := hw.size
  have HB1 := Lib.hid (HB0.out.trans (hw.below (by omega) (by omega)))
  clear HB0 hw
  have X1_1 := Lib.hid (FW.of ho)
  clear ho hb
  go_wp2_with fail
  refine (l_toFloat32S _ c1 _ (HV1.out.below HB1.out (Nat.le_refl _)) hsm1).mono ?_
  rintro z w2 ⟨u2, rfl, ho, hb⟩
  have hw := Wi.of_below hb
  have hz2 := hw.size
  have X1_2 := Lib.hid (X1_1.out.keep hw (by omega))
  clear X1_1
  have HB2 := Lib.hid (HB1.out.trans (hw.below (by omega) (by omega)))
  clear HB1 hw
  have X2_2 := Lib.hid (FW.of ho)
  clear ho hb
  have hc3 := s_WarpWayB u1 u2 c0 c1 a2 _ X1_2.out.sb X2_2.out.sb
  rw [HQ.out] at hc3
  go_wp2_with fail
  refine (hc3).mono ?_
  rintro z w3 ⟨⟨v3', b3, rfl, ho, hb2⟩, hb⟩
  have hw := Wi.of_below hb
  have hz3 := hw.size
  have X1_3 := Lib.hid (X1_2.out.keep hw (by omega))
  clear X1_2
  have X2_3 := Lib.hid (X2_2.out.keep hw (by omega))
  clear X2_2
  have HB3 := Lib.hid (HB2.out.trans (hw.below (by omega) (by omega)))
  clear HB2 hw
  have X3_3 := Lib.hid (GW.of ho)
  subst hb2
  clear ho
  clear hb hc3
  clear X1_3
  clear X2_3
  go_wp2_with fail
  refine (l_toFloat32S _ c0 _ (HV0.out.below HB3.out (Nat.le_refl _)) hsm0).mono ?_
  rintro z w4 ⟨u4, rfl, ho, hb⟩
  have hw := Wi.of_below hb
  have hz4 := hw.size
  have X3_4 := Lib.hid (X3_3.out.keep hw (by omega))
  clear X3_3
  have HB4 := Lib.hid (HB3.out.trans (hw.below (by omega) (by omega)))
  clear HB3 hw
  have X4_4 := Lib.hid (FW.of ho)
  clear ho hb
  go_wp2_with fail
  refine (l_toFloat32S _ c1 _ (HV1.out.below HB4.out (Nat.le_refl _)) hsm1).mono ?_
  rintro z w5 ⟨u5, rfl, ho, hb⟩
  have hw := Wi.of_below hb
  have hz5 := hw.size
  have X3_5 := Lib.hid (X3_4.out.keep hw (by omega))
  clear X3_4
  have X4_5 := Lib.hid (X4_4.out.keep hw (by omega))
  clear X4_4
  have HB5 := Lib.hid (HB4.out.trans (hw.below (by omega) (by omega)))
  clear HB4 hw
  have X5_5 := Lib.hid (FW.of ho)
  clear ho hb
  have hc6 := i_WarpWay u4 u5 c0 c1 a2 _ X4_5.out.sb X5_5.out.sb
  rw [HQ.out] at hc6
  go_wp2_with fail
  refine (hc6).mono ?_
  rintro z w6 ⟨⟨v6', b6, rfl, ho, hb2⟩, hb⟩
  have hw := Wi.of_below hb
  have hz6 := hw.size
  have X3_6 := Lib.hid (X3_5.out.keep hw (by omega))
  clear X3_5
  have X4_6 := Lib.hid (X4_5.out.keep hw (by omega))
  clear X4_5
  have X5_6 := Lib.hid (X5_5.out.keep hw (by omega))
  clear X5_5
  have HB6 := Lib.hid (HB5.out.trans (hw.below (by omega) (by omega)))
  clear HB5 hw
  have X6_6 := Lib.hid (GW.of ho)
  subst hb2
  clear ho
  clear hb hc6
  go_wp2_with fail
  refine (l_eqInt64S v6' v3' (Q.1) _ X6_6.out.gl X3_6.out.gl).mono ?_
  rintro z w7 ⟨rfl, hd⟩
  have hw := Dr.wi hd
  have hz7 := hw.size
  have X3_7 := Lib.hid (X3_6.out.keep hw (by omega))
  clear X3_6
  have X4_7 := Lib.hid (X4_6.out.keep hw (by omega))
  clear X4_6
  have X5_7 := Lib.hid (X5_6.out.keep hw (by omega))
  clear X5_6
  have X6_7 := Lib.hid (X6_6.out.keep hw (by omega))
  clear X6_6
  have HB7 := Lib.hid (HB6.out.trans (hw.below (by omega) (by omega)))
  clear HB6 hw
  clear hd
  go_wp2_with fail
  refine (l_toFloat32S _ c0 _ (HV0.out.below HB7.out (Nat.le_refl _)) hsm0).mono ?_
  rintro z w8 ⟨u7, rfl, ho, hb⟩
  have hw := Wi.of_below hb
  have hz8 := hw.size
  have X3_8 := Lib.hid (X3_7.out.keep hw (by omega))
  clear X3_7
  have X4_8 := Lib.hid (X4_7.out.keep hw (by omega))
  clear X4_7
  have X5_8 := Lib.hid (X5_7.out.keep hw (by omega))
  clear X5_7
  have X6_8 := Lib.hid (X6_7.out.keep hw (by omega))
  clear X6_7
  have HB8 := Lib.hid (HB7.out.trans (hw.below (by omega) (by omega)))
  clear HB7 hw
  have X7_8 := Lib.hid (FW.of ho)
  clear ho hb
  go_wp2_with fail
  refine (l_eqFloat32S u4 u7 (c0) _ X4_8.out.sl X7_8.out.sl).mono ?_
  rintro z w9 ⟨rfl, hd⟩
  have hw := Dr.wi hd
  have hz9 := hw.size
  have X3_9 := Lib.hid (X3_8.out.keep hw (by omega))
  clear X3_8
  have X4_9 := Lib.hid (X4_8.out.keep hw (by omega))
  clear X4_8
  have X5_9 := Lib.hid (X5_8.out.keep hw (by omega))
  clear X5_8
  have X6_9 := Lib.hid (X6_8.out.keep hw (by omega))
  clear X6_8
  have X7_9 := Lib.hid (X7_8.out.keep hw (by omega))
  clear X7_8
  have HB9 := Lib.hid (HB8.out.trans (hw.below (by omega) (by omega)))
  clear HB8 hw
  clear hd
  clear X7_9
  go_wp2_with fail
  refine (l_toFloat32S _ c1 _ (HV1.out.below HB9.out (Nat.le_refl _)) hsm1).mono ?_
  rintro z w10 ⟨u8, rfl, ho, hb⟩
  have hw := Wi.of_below hb
  have hz10 := hw.size
  have X3_10 := Lib.hid (X3_9.out.keep hw (by omega))
  clear X3_9
  have X4_10 := Lib.hid (X4_9.out.keep hw (by omega))
  clear X4_9
  have X5_10 := Lib.hid (X5_9.out.keep hw (by omega))
  clear X5_9
  have X6_10 := Lib.hid (X6_9.out.keep hw (by omega))
  clear X6_9
  have HB10 := Lib.hid (HB9.out.trans (hw.below (by omega) (by omega)))
  clear HB9 hw
  have X8_10 := Lib.hid (FW.of ho)
  clear ho hb
  go_wp2_with fail
  refine (l_eqFloat32S u5 u8 (c1) _ X5_10.out.sl X8_10.out.sl).mono ?_
  rintro z w11 ⟨rfl, hd⟩
  have hw := Dr.wi hd
  have hz11 := hw.size
  have X3_11 := Lib.hid (X3_10.out.keep hw (by omega))
  clear X3_10
  have X4_11 := Lib.hid (X4_10.out.keep hw (by omega))
  clear X4_10
  have X5_11 := Lib.hid (X5_10.out.keep hw (by omega))
  clear X5_10
  have X6_11 := Lib.hid (X6_10.out.keep hw (by omega))
  clear X6_10
  have X8_11 := Lib.hid (X8_10.out.keep hw (by omega))
  clear X8_10
  have HB11 := Lib.hid (HB10.out.trans (hw.below (by omega) (by omega)))
  clear HB10 hw
  clear hd
  clear X8_11
  go_wp2_with fail
  refine (l_markFW _ _ u4 (c0) (1) _ X4_11.out (by omega) (by omega) (by omega)).mono ?_
  rintro z w12 ⟨rfl, ho, hw0⟩
  have hw := hw0
  have hz12 := hw.size
  have X3_12 := Lib.hid (X3_11.out.keep hw (by omega))
  clear X3_11
  have X5_12 := Lib.hid (X5_11.out.keep hw (by omega))
  clear X5_11
  have X6_12 := Lib.hid (X6_11.out.keep hw (by omega))
  clear X6_11
  have HB12 := Lib.hid (HB11.out.trans (hw.below (by omega) (by omega)))
  clear HB11 hw
  have X4_12 := Lib.hid ho
  clear ho hw0 X4_11
  clear X4_12
  go_wp2_with fail
  refine (l_markFW _ _ u5 (c1) (1 + (c0.length : Int)) _ X5_12.out (by omega) (by omega) (by omega)).mono ?_
  rintro z w13 ⟨rfl, ho, hw0⟩
  have hw := hw0
  have hz13 := hw.size
  have X3_13 := Lib.hid (X3_12.out.keep hw (by omega))
  clear X3_12
  have X6_13 := Lib.hid (X6_12.out.keep hw (by omega))
  clear X6_12
  have HB13 := Lib.hid (HB12.out.trans (hw.below (by omega) (by omega)))
  clear HB12 hw
  have X5_13 := Lib.hid ho
  clear ho hw0 X5_12
  clear X5_13
  go_wp2_with fail
  refine (l_eqInt64S v6' v3' (Q.1) _ X6_13.out.gl X3_13.out.gl).mono ?_
  rintro z w14 ⟨rfl, hd⟩
  have hw := Dr.wi hd
  have hz14 := hw.size
  have X3_14 := Lib.hid (X3_13.out.keep hw (by omega))
  clear X3_13
  have X6_14 := Lib.hid (X6_13.out.keep hw (by omega))
  clear X6_13
  have HB14 := Lib.hid (HB13.out.trans (hw.below (by omega) (by omega)))
  clear HB13 hw
  clear hd
  go_wp2_with fail
  refine (l_markInt64S _ _ v6' (Q.1) (1) _ X6_14.out (by omega) (by omega) (by omega)).mono ?_
  rintro z w15 ⟨rfl, ho, hw0⟩
  have hw := hw0
  have hz15 := hw.size
  have X3_15 := Lib.hid (X3_14.out.keep hw (by omega))
  clear X3_14
  have HB15 := Lib.hid (HB14.out.trans (hw.below (by omega) (by omega)))
  clear HB14 hw
  have X6_15 := Lib.hid ho
  clear ho hw0 X6_14
  go_wp2_with fail
  refine (l_heldInt64S v6' (1) (Q.1.length) _ X6_15.out.gl (by omega) (by omega) (by omega)).mono ?_
  rintro z w16 ⟨rfl, hd⟩
  have hw := Dr.wi hd
  have hz16 := hw.size
  have X3_16 := Lib.hid (X3_15.out.keep hw (by omega))
  clear X3_15
  have X6_16 := Lib.hid (X6_15.out.keep hw (by omega))
  clear X6_15
  have HB16 := Lib.hid (HB15.out.trans (hw.below (by omega) (by omega)))
  clear HB15 hw
  clear hd
  go_wp2_with fail
  refine (l_toFloat32S _ c0 _ (HV0.out.below HB16.out (Nat.le_refl _)) hsm0).mono ?_
  rintro z w17 ⟨u9, rfl, ho, hb⟩
  have hw := Wi.of_below hb
  have hz17 := hw.size
  have X3_17 := Lib.hid (X3_16.out.keep hw (by omega))
  clear X3_16
  have X6_17 := Lib.hid (X6_16.out.keep hw (by omega))
  clear X6_16
  have HB17 := Lib.hid (HB16.out.trans (hw.below (by omega) (by omega)))
  clear HB16 hw
  have X9_17 := Lib.hid (FW.of ho)
  clear ho hb
  go_wp2_with fail
  refine (l_toFloat32S _ c1 _ (HV1.out.below HB17.out (Nat.le_refl _)) hsm1).mono ?_
  rintro z w18 ⟨u10, rfl, ho, hb⟩
  have hw := Wi.of_below hb
  have hz18 := hw.size
  have X3_18 := Lib.hid (X3_17.out.keep hw (by omega))
  clear X3_17
  have X6_18 := Lib.hid (X6_17.out.keep hw (by omega))
  clear X6_17
  have X9_18 := Lib.hid (X9_17.out.keep hw (by omega))
  clear X9_17
  have HB18 := Lib.hid (HB17.out.trans (hw.below (by omega) (by omega)))
  clear HB17 hw
  have X10_18 := Lib.hid (FW.of ho)
  clear ho hb
  have hc11 := i_WarpWay u9 u10 c0 c1 a2 _ X9_18.out.sb X10_18.out.sb
  rw [HQ.out] at hc11
  go_wp2_with fail
  refine (hc11).mono ?_
  rintro z w19 ⟨⟨v11', b11, rfl, ho, hb2⟩, hb⟩
  have hw := Wi.of_below hb
  have hz19 := hw.size
  have X3_19 := Lib.hid (X3_18.out.keep hw (by omega))
  clear X3_18
  have X6_19 := Lib.hid (X6_18.out.keep hw (by omega))
  clear X6_18
  have X9_19 := Lib.hid (X9_18.out.keep hw (by omega))
  clear X9_18
  have X10_19 := Lib.hid (X10_18.out.keep hw (by omega))
  clear X10_18
  have HB19 := Lib.hid (HB18.out.trans (hw.below (by omega) (by omega)))
  clear HB18 hw
  have X11_19 := Lib.hid (GW.of ho)
  subst hb2
  clear ho
  clear hb hc11
  clear X9_19
  clear X10_19
  go_wp2_with fail
  refine (l_eqInt64S v11' v3' (Q.1) _ X11_19.out.gl X3_19.out.gl).mono ?_
  rintro z w20 ⟨rfl, hd⟩
  have hw := Dr.wi hd
  have hz20 := hw.size
  have X3_20 := Lib.hid (X3_19.out.keep hw (by omega))
  clear X3_19
  have X6_20 := Lib.hid (X6_19.out.keep hw (by omega))
  clear X6_19
  have X11_20 := Lib.hid (X11_19.out.keep hw (by omega))
  clear X11_19
  have HB20 := Lib.hid (HB19.out.trans (hw.below (by omega) (by omega)))
  clear HB19 hw
  clear hd
  go_wp2_with fail
  refine (l_heldInt64S v6' (1) (Q.1.length) _ X6_20.out.gl (by omega) (by omega) (by omega)).mono ?_
  rintro z w21 ⟨rfl, hd⟩
  have hw := Dr.wi hd
  have hz21 := hw.size
  have X3_21 := Lib.hid (X3_20.out.keep hw (by omega))
  clear X3_20
  have X6_21 := Lib.hid (X6_20.out.keep hw (by omega))
  clear X6_20
  have X11_21 := Lib.hid (X11_20.out.keep hw (by omega))
  clear X11_20
  have HB21 := Lib.hid (HB20.out.trans (hw.below (by omega) (by omega)))
  clear HB20 hw
  clear hd
  go_wp2_with fail
  go_ret
  exact ⟨rfl, HB21.out⟩
set_option maxRecDepth 100000 in
theorem FnExactWarpWay_lifted (os : Os) (started : os.Started) (H : Type) (enc : TypeId × Value → H) :
    ReturnsInHanded {} Try.checked os 6 .any (Rows.fnExactWarpWaySpec.pre6 enc Try.prog Try.f6 Rows.fnExactWarpWayRow.domain false) (Rows.fnExactWarpWaySpec.post enc Try.prog Try.f6 false true false false) := by
  refine returnsInHanded_of_change (C := Try.checked) own started (by kernel_rfl) Try.func6
    (ChangeSpec.witness6 (enc := enc) (C := Try.checked) false ⟨#[], #[.slice none 0 0, .slice none 0 0, .int .i64 0], []⟩ 8 (by kernel_rfl) (by kernel_rfl) (by kernel_rfl) (by kernel_rfl)) ?_
  intro W base args ds gs before hval0 hW hcnd _
  have hval : ∀ (j : Nat) t v, Try.f6.params[j]? = some t → args[j]? = some v → Value.okWide Try.prog W .any base t v := hval0
  have hW' := hW
  obtain ⟨p, q, hA0, hV, rfl, hfz, hnd⟩ := hW
  have hA : DataW.TrodAll enc Try.prog W 0 (fun _ => true) true Try.f6.params.toList args.toList ds p := hA0
  rw [Try.params6] at hA hval
  obtain ⟨v0, vs0, d0, ds0, p0, q0, hargs, rfl, rfl, h0, r0⟩ := trodAll_cons hA
  obtain ⟨v1, vs1, d1, ds1, p1, q1, rfl, rfl, rfl, h1, r1⟩ := trodAll_cons r0
  obtain ⟨v2, vs2, d2, ds2, p2, q2, rfl, rfl, rfl, h2, r2⟩ := trodAll_cons r1
  obtain ⟨rfl, rfl, rfl⟩ := trodAll_nil r2
  obtain rfl : args = #[v0, v1, v2] := by cases args; simp_all
  obtain ⟨rfl, rfl⟩ := trodVars_none hV
  have k0 := h0
  have lt0 : ∀ x ∈ p0, x.block < W.heap.size := by obtain ⟨m, hm⟩ := k0; exact DataW.trod_lt m _ _ _ hm
  have k1 := h1
  have lt1 : ∀ x ∈ p1, x.block < W.heap.size := by obtain ⟨m, hm⟩ := k1; exact DataW.trod_lt m _ _ _ hm
  have k2 := h2
  have lt2 : ∀ x ∈ p2, x.block < W.heap.size := by obtain ⟨m, hm⟩ := k2; exact DataW.trod_lt m _ _ _ hm
  obtain ⟨b0, ln0, cp0, rfl⟩ := okWide_slice Try.underlying25 (hval 0 25 v0 rfl rfl)
  obtain ⟨c0, hc0⟩ : ∃ cs, SB W (.slice b0 ln0 cp0) cs := by obtain ⟨fuel, hfu⟩ := h0; exact open_f32s Try.underlying25 Try.underlying27 (by kernel_rfl) hfu
  obtain ⟨b1, ln1, cp1, rfl⟩ := okWide_slice Try.underlying25 (hval 1 25 v1 rfl rfl)
  obtain ⟨c1, hc1⟩ : ∃ cs, SB W (.slice b1 ln1 cp1) cs := by obtain ⟨fuel, hfu⟩ := h1; exact open_f32s Try.underlying25 Try.underlying27 (by kernel_rfl) hfu
  obtain ⟨a2, rfl, _, _, hi2⟩ := open_int Try.underlying2 (hval 2 2 v2 rfl rfl) h2
  clear hA0 hval0
  refine (FnExactWarpWay_walk (w := W) _ c0 hc0 _ c1 hc1 a2 hi2).mono fun e W' ⟨he, bel⟩ => ?_
  subst he
  exact ⟨_, rfl, _, _, _, [], _, [], hW', trodAll_mk1 (shut_bool Try.underlying4 _), (trodAll_cons_mk (Below.trod laidOut (by kernel_rfl) (of_decide_eq_true (by kernel_rfl)) k0 bel lt0) (trodAll_cons_mk (Below.trod laidOut (by kernel_rfl) (of_decide_eq_true (by kernel_rfl)) k1 bel lt1) (trodAll_cons_mk (Below.trod laidOut (by kernel_rfl) (of_decide_eq_true (by kernel_rfl)) k2 bel lt2) trodAll_mk0))), rfl, bel.frame _, fun h => by cases h⟩

theorem fnExactWarpWay_holds : Rows.FnExactWarpWaySaid :=
  OpenClaim.holds_of_wide 6 Try.f6 rfl rfl rfl rfl rfl rfl rfl ⟨rfl, rfl, rfl, rfl, rfl⟩ rfl rfl rfl rfl rfl (by kernel_rfl) Try.func6 (by kernel_rfl)
    (of_decide_eq_true (by kernel_rfl)) (by unfold Func.isWrapper; first | (rw [if_pos (by decide +kernel)]; kernel_rfl) | (rw [if_neg (by decide +kernel)]; exact ⟨rfl, rfl⟩))
    (fun os started H enc _ => FnExactWarpWay_lifted os started H enc)
#print axioms fnExactWarpWay_holds

end Go.Proofs.Ytnhenklopigfnaa
