/- THE LAW FnExactProfileOf: the program's ProfileOf returns what the reference's returns, for all arguments. No condition. -/
import Derived.Test.YtaplnfdlcihhpaaLawKit
import Derived.Test.YtaplnfdlcihhpaaK10
import Derived.Test.YtaplnfdlcihhpaaK15
import Derived.Test.YtaplnfdlcihhpaaK42
import Derived.Test.YtaplnfdlcihhpaaK44
import Derived.Test.YtaplnfdlcihhpaaK45
namespace Go.Proofs.Ytaplnfdlcihhpaa
set_option maxRecDepth 100000
set_option maxHeartbeats 4000000
open Go.ChangeShapes Go.WideShapes Go.ChangeAt Go.RowKit
set_option linter.unusedVariables false


theorem FnExactProfileOf_walk (w : World) (v0 : Value) (c0 : List Nat) (hv0 : SB w v0 c0) (a1 : Int) (ha1 : (Lit.int .i64 a1).wf = true) :
    Calls Try.prog 4 #[v0, .int .i64 a1] w fun z w' => z = .returned (.bool true) ∧ Below w.heap.size w w' := by
  obtain ⟨ao0, cp0, rfl, hcap0, hlen0⟩ := hv0.sl.slice2
  have HV0 := Lib.hid hv0
  clear hv0
  by_cases hbig0 : (1048576 : Int) < (c0.length : Int)
  · go_enter Try.func4, Try.ntmps4
    go_wp2_with fail
    go_ret
    exact ⟨rfl, Below.refl _ _⟩
  have hsm0 : c0.length < 1099511627776 := by omega
  generalize hQ : pfQ c0 a1 = Q
  have hlq0 : Q.1.length < 1000000 := by rw [← hQ]; exact (pfQ_short _ _).1
  have hlq1 : Q.2.1.length < 1000000 := by rw [← hQ]; exact (pfQ_short _ _).2
  have HQ := Lib.hid hQ
  clear hQ
  have HB0 := Lib.hid (Below.refl w.heap.size w)
  have hz0 : w.heap.size ≤ w.heap.size := Nat.le_refl _
  go_enter Try.func4, Try.ntmps4
  go_wp2_with fail
  refine (l_toFloat32S _ c0 _ (HV0.out.below HB0.out (Nat.le_refl _)) hsm0).mono ?_
  rintro z w1 ⟨u1, rfl, ho, hb⟩
  have hw := Wi.of_below hb
  have hz1 := hw.size
  have HB1 := Lib.hid (HB0.out.trans (hw.below (by omega) (by omega)))
  clear HB0 hw
  have X1_1 := Lib.hid (FW.of ho)
  clear ho hb
  have hc2 := s_ProfileOf u1 c0 a1 _ X1_1.out.sb
  rw [HQ.out] at hc2
  go_wp2_with fail
  refine (hc2).mono ?_
  rintro z w2 ⟨⟨u2', v2', b2, rfl, ho, ho2, hb2⟩, hb⟩
  have hw := Wi.of_below hb
  have hz2 := hw.size
  have X1_2 := Lib.hid (X1_1.out.keep hw (by omega))
  clear X1_1
  have HB2 := Lib.hid (HB1.out.trans (hw.below (by omega) (by omega)))
  clear HB1 hw
  obtain ⟨p2, q2, r2, s2, hp2, hq2, hr2, hs2, hd2, hf, hg⟩ := OW.split ho ho2 (by decide) hb.size
  have X2_2 := Lib.hid hf
  have Y2_2 := Lib.hid hg
  subst hb2
  clear ho ho2 hf hg
  clear hb hc2
  clear X1_2
  go_wp2_with fail
  refine (l_toFloat32S _ c0 _ (HV0.out.below HB2.out (Nat.le_refl _)) hsm0).mono ?_
  rintro z w3 ⟨u3, rfl, ho, hb⟩
  have hw := Wi.of_below hb
  have hz3 := hw.size
  have X2_3 := Lib.hid (X2_2.out.keep hw (by omega))
  clear X2_2
  have Y2_3 := Lib.hid (Y2_2.out.keep hw (by omega))
  clear Y2_2
  have HB3 := Lib.hid (HB2.out.trans (hw.below (by omega) (by omega)))
  clear HB2 hw
  have X3_3 := Lib.hid (FW.of ho)
  clear ho hb
  have hc4 := i_ProfileOf u3 c0 a1 _ X3_3.out.sb
  rw [HQ.out] at hc4
  go_wp2_with fail
  refine (hc4).mono ?_
  rintro z w4 ⟨⟨u4', v4', b4, rfl, ho, ho2, hb2⟩, hb⟩
  have hw := Wi.of_below hb
  have hz4 := hw.size
  have X2_4 := Lib.hid (X2_3.out.keep hw (by omega))
  clear X2_3
  have Y2_4 := Lib.hid (Y2_3.out.keep hw (by omega))
  clear Y2_3
  have X3_4 := Lib.hid (X3_3.out.keep hw (by omega))
  clear X3_3
  have HB4 := Lib.hid (HB3.out.trans (hw.below (by omega) (by omega)))
  clear HB3 hw
  obtain ⟨p4, q4, r4, s4, hp4, hq4, hr4, hs4, hd4, hf, hg⟩ := OW.split ho ho2 (by decide) hb.size
  have X4_4 := Lib.hid hf
  have Y4_4 := Lib.hid hg
  subst hb2
  clear ho ho2 hf hg
  clear hb hc4
  go_wp2_with fail
  refine (l_eqFloat32S u4' u2' (Q.1) _ X4_4.out.sl X2_4.out.sl).mono ?_
  rintro z w5 ⟨rfl, hd⟩
  have hw := Dr.wi hd
  have hz5 := hw.size
  have X2_5 := Lib.hid (X2_4.out.keep hw (by omega))
  clear X2_4
  have Y2_5 := Lib.hid (Y2_4.out.keep hw (by omega))
  clear Y2_4
  have X3_5 := Lib.hid (X3_4.out.keep hw (by omega))
  clear X3_4
  have X4_5 := Lib.hid (X4_4.out.keep hw (by omega))
  clear X4_4
  have Y4_5 := Lib.hid (Y4_4.out.keep hw (by omega))
  clear Y4_4
  have HB5 := Lib.hid (HB4.out.trans (hw.below (by omega) (by omega)))
  clear HB4 hw
  clear hd
  go_wp2_with fail
  refine (l_eqInt64S v4' v2' (Q.2.1) _ Y4_5.out.gl Y2_5.out.gl).mono ?_
  rintro z w6 ⟨rfl, hd⟩
  have hw := Dr.wi hd
  have hz6 := hw.size
  have X2_6 := Lib.hid (X2_5.out.keep hw (by omega))
  clear X2_5
  have Y2_6 := Lib.hid (Y2_5.out.keep hw (by omega))
  clear Y2_5
  have X3_6 := Lib.hid (X3_5.out.keep hw (by omega))
  clear X3_5
  have X4_6 := Lib.hid (X4_5.out.keep hw (by omega))
  clear X4_5
  have Y4_6 := Lib.hid (Y4_5.out.keep hw (by omega))
  clear Y4_5
  have HB6 := Lib.hid (HB5.out.trans (hw.below (by omega) (by omega)))
  clear HB5 hw
  clear hd
  go_wp2_with fail
  refine (l_toFloat32S _ c0 _ (HV0.out.below HB6.out (Nat.le_refl _)) hsm0).mono ?_
  rintro z w7 ⟨u5, rfl, ho, hb⟩
  have hw := Wi.of_below hb
  have hz7 := hw.size
  have X2_7 := Lib.hid (X2_6.out.keep hw (by omega))
  clear X2_6
  have Y2_7 := Lib.hid (Y2_6.out.keep hw (by omega))
  clear Y2_6
  have X3_7 := Lib.hid (X3_6.out.keep hw (by omega))
  clear X3_6
  have X4_7 := Lib.hid (X4_6.out.keep hw (by omega))
  clear X4_6
  have Y4_7 := Lib.hid (Y4_6.out.keep hw (by omega))
  clear Y4_6
  have HB7 := Lib.hid (HB6.out.trans (hw.below (by omega) (by omega)))
  clear HB6 hw
  have X5_7 := Lib.hid (FW.of ho)
  clear ho hb
  go_wp2_with fail
  refine (l_eqFloat32S u3 u5 (c0) _ X3_7.out.sl X5_7.out.sl).mono ?_
  rintro z w8 ⟨rfl, hd⟩
  have hw := Dr.wi hd
  have hz8 := hw.size
  have X2_8 := Lib.hid (X2_7.out.keep hw (by omega))
  clear X2_7
  have Y2_8 := Lib.hid (Y2_7.out.keep hw (by omega))
  clear Y2_7
  have X3_8 := Lib.hid (X3_7.out.keep hw (by omega))
  clear X3_7
  have X4_8 := Lib.hid (X4_7.out.keep hw (by omega))
  clear X4_7
  have Y4_8 := Lib.hid (Y4_7.out.keep hw (by omega))
  clear Y4_7
  have X5_8 := Lib.hid (X5_7.out.keep hw (by omega))
  clear X5_7
  have HB8 := Lib.hid (HB7.out.trans (hw.below (by omega) (by omega)))
  clear HB7 hw
  clear hd
  clear X5_8
  go_wp2_with fail
  refine (l_markFW _ _ u3 (c0) (1) _ X3_8.out (by omega) (by omega) (by omega)).mono ?_
  rintro z w9 ⟨rfl, ho, hw0⟩
  have hw := hw0
  have hz9 := hw.size
  have X2_9 := Lib.hid (X2_8.out.keep hw (by omega))
  clear X2_8
  have Y2_9 := Lib.hid (Y2_8.out.keep hw (by omega))
  clear Y2_8
  have X4_9 := Lib.hid (X4_8.out.keep hw (by omega))
  clear X4_8
  have Y4_9 := Lib.hid (Y4_8.out.keep hw (by omega))
  clear Y4_8
  have HB9 := Lib.hid (HB8.out.trans (hw.below (by omega) (by omega)))
  clear HB8 hw
  have X3_9 := Lib.hid ho
  clear ho hw0 X3_8
  clear X3_9
  go_wp2_with fail
  refine (l_eqFloat32S u4' u2' (Q.1) _ X4_9.out.sl X2_9.out.sl).mono ?_
  rintro z w10 ⟨rfl, hd⟩
  have hw := Dr.wi hd
  have hz10 := hw.size
  have X2_10 := Lib.hid (X2_9.out.keep hw (by omega))
  clear X2_9
  have Y2_10 := Lib.hid (Y2_9.out.keep hw (by omega))
  clear Y2_9
  have X4_10 := Lib.hid (X4_9.out.keep hw (by omega))
  clear X4_9
  have Y4_10 := Lib.hid (Y4_9.out.keep hw (by omega))
  clear Y4_9
  have HB10 := Lib.hid (HB9.out.trans (hw.below (by omega) (by omega)))
  clear HB9 hw
  clear hd
  go_wp2_with fail
  refine (l_eqInt64S v4' v2' (Q.2.1) _ Y4_10.out.gl Y2_10.out.gl).mono ?_
  rintro z w11 ⟨rfl, hd⟩
  have hw := Dr.wi hd
  have hz11 := hw.size
  have X2_11 := Lib.hid (X2_10.out.keep hw (by omega))
  clear X2_10
  have Y2_11 := Lib.hid (Y2_10.out.keep hw (by omega))
  clear Y2_10
  have X4_11 := Lib.hid (X4_10.out.keep hw (by omega))
  clear X4_10
  have Y4_11 := Lib.hid (Y4_10.out.keep hw (by omega))
  clear Y4_10
  have HB11 := Lib.hid (HB10.out.trans (hw.below (by omega) (by omega)))
  clear HB10 hw
  clear hd
  go_wp2_with fail
  refine (l_markFW _ _ u4' (Q.1) (1) _ X4_11.out (by omega) (by omega) (by omega)).mono ?_
  rintro z w12 ⟨rfl, ho, hw0⟩
  have hw := hw0
  have hz12 := hw.size
  have X2_12 := Lib.hid (X2_11.out.keep hw (by omega))
  clear X2_11
  have Y2_12 := Lib.hid (Y2_11.out.keep hw (by omega))
  clear Y2_11
  have Y4_12 := Lib.hid (Y4_11.out.keep hw (by omega))
  clear Y4_11
  have HB12 := Lib.hid (HB11.out.trans (hw.below (by omega) (by omega)))
  clear HB11 hw
  have X4_12 := Lib.hid ho
  clear ho hw0 X4_11
  go_wp2_with fail
  refine (l_markInt64S _ _ v4' (Q.2.1) (1 + (Q.1.length : Int)) _ Y4_12.out (by omega) (by omega) (by omega)).mono ?_
  rintro z w13 ⟨rfl, ho, hw0⟩
  have hw := hw0
  have hz13 := hw.size
  have X2_13 := Lib.hid (X2_12.out.keep hw (by omega))
  clear X2_12
  have Y2_13 := Lib.hid (Y2_12.out.keep hw (by omega))
  clear Y2_12
  have X4_13 := Lib.hid (X4_12.out.keep hw (by omega))
  clear X4_12
  have HB13 := Lib.hid (HB12.out.trans (hw.below (by omega) (by omega)))
  clear HB12 hw
  have Y4_13 := Lib.hid ho
  clear ho hw0 Y4_12
  go_wp2_with fail
  refine (l_heldFloat32S u4' (1) (Q.1.length) _ X4_13.out.sl (by omega) (by omega) (by omega)).mono ?_
  rintro z w14 ⟨rfl, hd⟩
  have hw := Dr.wi hd
  have hz14 := hw.size
  have X2_14 := Lib.hid (X2_13.out.keep hw (by omega))
  clear X2_13
  have Y2_14 := Lib.hid (Y2_13.out.keep hw (by omega))
  clear Y2_13
  have X4_14 := Lib.hid (X4_13.out.keep hw (by omega))
  clear X4_13
  have Y4_14 := Lib.hid (Y4_13.out.keep hw (by omega))
  clear Y4_13
  have HB14 := Lib.hid (HB13.out.trans (hw.below (by omega) (by omega)))
  clear HB13 hw
  clear hd
  go_wp2_with fail
  refine (l_heldInt64S v4' (1 + (Q.1.length : Int)) (Q.2.1.length) _ Y4_14.out.gl (by omega) (by omega) (by omega)).mono ?_
  rintro z w15 ⟨rfl, hd⟩
  have hw := Dr.wi hd
  have hz15 := hw.size
  have X2_15 := Lib.hid (X2_14.out.keep hw (by omega))
  clear X2_14
  have Y2_15 := Lib.hid (Y2_14.out.keep hw (by omega))
  clear Y2_14
  have X4_15 := Lib.hid (X4_14.out.keep hw (by omega))
  clear X4_14
  have Y4_15 := Lib.hid (Y4_14.out.keep hw (by omega))
  clear Y4_14
  have HB15 := Lib.hid (HB14.out.trans (hw.below (by omega) (by omega)))
  clear HB14 hw
  clear hd
  go_wp2_with fail
  refine (l_toFloat32S _ c0 _ (HV0.out.below HB15.out (Nat.le_refl _)) hsm0).mono ?_
  rintro z w16 ⟨u6, rfl, ho, hb⟩
  have hw := Wi.of_below hb
  have hz16 := hw.size
  have X2_16 := Lib.hid (X2_15.out.keep hw (by omega))
  clear X2_15
  have Y2_16 := Lib.hid (Y2_15.out.keep hw (by omega))
  clear Y2_15
  have X4_16 := Lib.hid (X4_15.out.keep hw (by omega))
  clear X4_15
  have Y4_16 := Lib.hid (Y4_15.out.keep hw (by omega))
  clear Y4_15
  have HB16 := Lib.hid (HB15.out.trans (hw.below (by omega) (by omega)))
  clear HB15 hw
  have X6_16 := Lib.hid (FW.of ho)
  clear ho hb
  have hc7 := i_ProfileOf u6 c0 a1 _ X6_16.out.sb
  rw [HQ.out] at hc7
  go_wp2_with fail
  refine (hc7).mono ?_
  rintro z w17 ⟨⟨u7', v7', b7, rfl, ho, ho2, hb2⟩, hb⟩
  have hw := Wi.of_below hb
  have hz17 := hw.size
  have X2_17 := Lib.hid (X2_16.out.keep hw (by omega))
  clear X2_16
  have Y2_17 := Lib.hid (Y2_16.out.keep hw (by omega))
  clear Y2_16
  have X4_17 := Lib.hid (X4_16.out.keep hw (by omega))
  clear X4_16
  have Y4_17 := Lib.hid (Y4_16.out.keep hw (by omega))
  clear Y4_16
  have X6_17 := Lib.hid (X6_16.out.keep hw (by omega))
  clear X6_16
  have HB17 := Lib.hid (HB16.out.trans (hw.below (by omega) (by omega)))
  clear HB16 hw
  obtain ⟨p7, q7, r7, s7, hp7, hq7, hr7, hs7, hd7, hf, hg⟩ := OW.split ho ho2 (by decide) hb.size
  have X7_17 := Lib.hid hf
  have Y7_17 := Lib.hid hg
  subst hb2
  clear ho ho2 hf hg
  clear hb hc7
  clear X6_17
  go_wp2_with fail
  refine (l_eqFloat32S u7' u2' (Q.1) _ X7_17.out.sl X2_17.out.sl).mono ?_
  rintro z w18 ⟨rfl, hd⟩
  have hw := Dr.wi hd
  have hz18 := hw.size
  have X2_18 := Lib.hid (X2_17.out.keep hw (by omega))
  clear X2_17
  have Y2_18 := Lib.hid (Y2_17.out.keep hw (by omega))
  clear Y2_17
  have X4_18 := Lib.hid (X4_17.out.keep hw (by omega))
  clear X4_17
  have Y4_18 := Lib.hid (Y4_17.out.keep hw (by omega))
  clear Y4_17
  have X7_18 := Lib.hid (X7_17.out.keep hw (by omega))
  clear X7_17
  have Y7_18 := Lib.hid (Y7_17.out.keep hw (by omega))
  clear Y7_17
  have HB18 := Lib.hid (HB17.out.trans (hw.below (by omega) (by omega)))
  clear HB17 hw
  clear hd
  go_wp2_with fail
  refine (l_eqInt64S v7' v2' (Q.2.1) _ Y7_18.out.gl Y2_18.out.gl).mono ?_
  rintro z w19 ⟨rfl, hd⟩
  have hw := Dr.wi hd
  have hz19 := hw.size
  have X2_19 := Lib.hid (X2_18.out.keep hw (by omega))
  clear X2_18
  have Y2_19 := Lib.hid (Y2_18.out.keep hw (by omega))
  clear Y2_18
  have X4_19 := Lib.hid (X4_18.out.keep hw (by omega))
  clear X4_18
  have Y4_19 := Lib.hid (Y4_18.out.keep hw (by omega))
  clear Y4_18
  have X7_19 := Lib.hid (X7_18.out.keep hw (by omega))
  clear X7_18
  have Y7_19 := Lib.hid (Y7_18.out.keep hw (by omega))
  clear Y7_18
  have HB19 := Lib.hid (HB18.out.trans (hw.below (by omega) (by omega)))
  clear HB18 hw
  clear hd
  go_wp2_with fail
  refine (l_heldFloat32S u4' (1) (Q.1.length) _ X4_19.out.sl (by omega) (by omega) (by omega)).mono ?_
  rintro z w20 ⟨rfl, hd⟩
  have hw := Dr.wi hd
  have hz20 := hw.size
  have X2_20 := Lib.hid (X2_19.out.keep hw (by omega))
  clear X2_19
  have Y2_20 := Lib.hid (Y2_19.out.keep hw (by omega))
  clear Y2_19
  have X4_20 := Lib.hid (X4_19.out.keep hw (by omega))
  clear X4_19
  have Y4_20 := Lib.hid (Y4_19.out.keep hw (by omega))
  clear Y4_19
  have X7_20 := Lib.hid (X7_19.out.keep hw (by omega))
  clear X7_19
  have Y7_20 := Lib.hid (Y7_19.out.keep hw (by omega))
  clear Y7_19
  have HB20 := Lib.hid (HB19.out.trans (hw.below (by omega) (by omega)))
  clear HB19 hw
  clear hd
  go_wp2_with fail
  refine (l_heldInt64S v4' (1 + (Q.1.length : Int)) (Q.2.1.length) _ Y4_20.out.gl (by omega) (by omega) (by omega)).mono ?_
  rintro z w21 ⟨rfl, hd⟩
  have hw := Dr.wi hd
  have hz21 := hw.size
  have X2_21 := Lib.hid (X2_20.out.keep hw (by omega))
  clear X2_20
  have Y2_21 := Lib.hid (Y2_20.out.keep hw (by omega))
  clear Y2_20
  have X4_21 := Lib.hid (X4_20.out.keep hw (by omega))
  clear X4_20
  have Y4_21 := Lib.hid (Y4_20.out.keep hw (by omega))
  clear Y4_20
  have X7_21 := Lib.hid (X7_20.out.keep hw (by omega))
  clear X7_20
  have Y7_21 := Lib.hid (Y7_20.out.keep hw (by omega))
  clear Y7_20
  have HB21 := Lib.hid (HB20.out.trans (hw.below (by omega) (by omega)))
  clear HB20 hw
  clear hd
  go_wp2_with fail
  go_ret
  exact ⟨rfl, HB21.out⟩
set_option maxRecDepth 100000 in
theorem FnExactProfileOf_lifted (os : Os) (started : os.Started) (H : Type) (enc : TypeId × Value → H) :
    ReturnsInHanded {} Try.checked os 4 .any (Rows.fnExactProfileOfSpec.pre6 enc Try.prog Try.f4 Rows.fnExactProfileOfRow.domain false) (Rows.fnExactProfileOfSpec.post enc Try.prog Try.f4 false true false false) := by
  refine returnsInHanded_of_change (C := Try.checked) own started (by kernel_rfl) Try.func4
    (ChangeSpec.witness6 (enc := enc) (C := Try.checked) false ⟨#[], #[.slice none 0 0, .int .i64 0], []⟩ 8 (by kernel_rfl) (by kernel_rfl) (by kernel_rfl) (by kernel_rfl)) ?_
  intro W base args ds gs before hval0 hW hcnd _
  have hval : ∀ (j : Nat) t v, Try.f4.params[j]? = some t → args[j]? = some v → Value.okWide Try.prog W .any base t v := hval0
  have hW' := hW
  obtain ⟨p, q, hA0, hV, rfl, hfz, hnd⟩ := hW
  have hA : DataW.TrodAll enc Try.prog W 0 (fun _ => true) true Try.f4.params.toList args.toList ds p := hA0
  rw [Try.params4] at hA hval
  obtain ⟨v0, vs0, d0, ds0, p0, q0, hargs, rfl, rfl, h0, r0⟩ := trodAll_cons hA
  obtain ⟨v1, vs1, d1, ds1, p1, q1, rfl, rfl, rfl, h1, r1⟩ := trodAll_cons r0
  obtain ⟨rfl, rfl, rfl⟩ := trodAll_nil r1
  obtain rfl : args = #[v0, v1] := by cases args; simp_all
  obtain ⟨rfl, rfl⟩ := trodVars_none hV
  have k0 := h0
  have lt0 : ∀ x ∈ p0, x.block < W.heap.size := by obtain ⟨m, hm⟩ := k0; exact DataW.trod_lt m _ _ _ hm
  have k1 := h1
  have lt1 : ∀ x ∈ p1, x.block < W.heap.size := by obtain ⟨m, hm⟩ := k1; exact DataW.trod_lt m _ _ _ hm
  obtain ⟨b0, ln0, cp0, rfl⟩ := okWide_slice Try.underlying32 (hval 0 32 v0 rfl rfl)
  obtain ⟨c0, hc0⟩ : ∃ cs, SB W (.slice b0 ln0 cp0) cs := by obtain ⟨fuel, hfu⟩ := h0; exact open_f32s Try.underlying32 Try.underlying25 (by kernel_rfl) hfu
  obtain ⟨a1, rfl, _, _, hi1⟩ := open_int Try.underlying2 (hval 1 2 v1 rfl rfl) h1
  clear hA0 hval0
  refine (FnExactProfileOf_walk (w := W) _ c0 hc0 a1 hi1).mono fun e W' ⟨he, bel⟩ => ?_
  subst he
  exact ⟨_, rfl, _, _, _, [], _, [], hW', trodAll_mk1 (shut_bool Try.underlying4 _), (trodAll_cons_mk (Below.trod laidOut (by kernel_rfl) (of_decide_eq_true (by kernel_rfl)) k0 bel lt0) (trodAll_cons_mk (Below.trod laidOut (by kernel_rfl) (of_decide_eq_true (by kernel_rfl)) k1 bel lt1) trodAll_mk0)), rfl, bel.frame _, fun h => by cases h⟩

theorem fnExactProfileOf_holds : Rows.FnExactProfileOfSaid :=
  OpenClaim.holds_of_wide 4 Try.f4 rfl rfl rfl rfl rfl rfl rfl ⟨rfl, rfl, rfl, rfl, rfl⟩ rfl rfl rfl rfl rfl (by kernel_rfl) Try.func4 (by kernel_rfl)
    (of_decide_eq_true (by kernel_rfl)) (by unfold Func.isWrapper; first | (rw [if_pos (by decide +kernel)]; kernel_rfl) | (rw [if_neg (by decide +kernel)]; exact ⟨rfl, rfl⟩))
    (fun os started H enc _ => FnExactProfileOf_lifted os started H enc)
#print axioms fnExactProfileOf_holds

end Go.Proofs.Ytaplnfdlcihhpaa
