/- THE LAW FnExactDriftDown: the program's DriftDown returns what the reference's returns, for all arguments. No condition. -/
import Derived.Test.YtcnfdmnjeklbiaaLawKit
import Derived.Test.YtcnfdmnjeklbiaaK14
import Derived.Test.YtcnfdmnjeklbiaaK15
namespace Go.Proofs.Ytcnfdmnjeklbiaa
set_option maxRecDepth 100000
set_option maxHeartbeats 4000000
open Go.ChangeShapes Go.WideShapes Go.ChangeAt Go.RowKit
set_option linter.unusedVariables false


theorem FnExactDriftDown_walk (w : World) (v0 : Value) (c0 : List Nat) (hv0 : SB w v0 c0) (a1 : Nat) (ha1 : a1 < 4294967296) (a2 : Nat) (ha2 : a2 < 4294967296) :
    Calls Try.prog 3 #[v0, .float .f32 a1, .float .f32 a2] w fun z w' => z = .returned (.bool true) ∧ Below w.heap.size w w' := by
  obtain ⟨ao0, cp0, rfl, hcap0, hlen0⟩ := hv0.sl.slice2
  have HV0 := Lib.hid hv0
  clear hv0
  by_cases hbig0 : (1048576 : Int) < (c0.length : Int)
  · go_enter Try.func3, Try.ntmps3
    go_wp2_with fail
    go_ret
    exact ⟨rfl, Below.refl _ _⟩
  have hsm0 : c0.length < 1099511627776 := by omega
  generalize hQ : driftQ true c0 (cn .f32 a1) (cn .f32 a2) = Q
  have hlq0 : Q.1.length < 1000000 := by rw [← hQ]; exact driftQ_short _ _ _ _
  have HQ := Lib.hid hQ
  clear hQ
  have HB0 := Lib.hid (Below.refl w.heap.size w)
  have hz0 : w.heap.size ≤ w.heap.size := Nat.le_refl _
  go_enter Try.func3, Try.ntmps3
  go_wp2_with fail
  refine (l_toFloat32S _ c0 _ (HV0.out.below HB0.out (Nat.le_refl _)) hsm0).mono ?_
  rintro z w1 ⟨u1, rfl, ho, hb⟩
  have hw := Wi.of_below hb
  have hz1 := hw.size
  have HB1 := Lib.hid (HB0.out.trans (hw.below (by omega) (by omega)))
  clear HB0 hw
  have X1_1 := Lib.hid (FW.of ho)
  clear ho hb
  have hc2 := s_DriftDown u1 c0 a1 a2 _ X1_1.out.sb
  rw [HQ.out] at hc2
  go_wp2_with fail
  refine (hc2).mono ?_
  rintro z w2 ⟨⟨v2', b2, rfl, ho, hb2⟩, hb⟩
  have hw := Wi.of_below hb
  have hz2 := hw.size
  have X1_2 := Lib.hid (X1_1.out.keep hw (by omega))
  clear X1_1
  have HB2 := Lib.hid (HB1.out.trans (hw.below (by omega) (by omega)))
  clear HB1 hw
  have X2_2 := Lib.hid (FW.of ho)
  subst hb2
  clear ho
  clear hb hc2
  clear X1_2
  go_wp2_with fail
  refine (l_toFloat32S _ c0 _ (HV0.out.below HB2.out (Nat.le_refl _)) hsm0).mono ?_
  rintro z w3 ⟨u3, rfl, ho, hb⟩
  have hw := Wi.of_below hb
  have hz3 := hw.size
  have X2_3 := Lib.hid (X2_2.out.keep hw (by omega))
  clear X2_2
  have HB3 := Lib.hid (HB2.out.trans (hw.below (by omega) (by omega)))
  clear HB2 hw
  have X3_3 := Lib.hid (FW.of ho)
  clear ho hb
  have hc4 := i_DriftDown u3 c0 a1 a2 _ X3_3.out.sb
  rw [HQ.out] at hc4
  go_wp2_with fail
  refine (hc4).mono ?_
  rintro z w4 ⟨⟨v4', b4, rfl, ho, hb2⟩, hb⟩
  have hw := Wi.of_below hb
  have hz4 := hw.size
  have X2_4 := Lib.hid (X2_3.out.keep hw (by omega))
  clear X2_3
  have X3_4 := Lib.hid (X3_3.out.keep hw (by omega))
  clear X3_3
  have HB4 := Lib.hid (HB3.out.trans (hw.below (by omega) (by omega)))
  clear HB3 hw
  have X4_4 := Lib.hid (FW.of ho)
  subst hb2
  clear ho
  clear hb hc4
  go_wp2_with fail
  refine (l_eqFloat32S v4' v2' (Q.1) _ X4_4.out.sl X2_4.out.sl).mono ?_
  rintro z w5 ⟨rfl, hd⟩
  have hw := Dr.wi hd
  have hz5 := hw.size
  have X2_5 := Lib.hid (X2_4.out.keep hw (by omega))
  clear X2_4
  have X3_5 := Lib.hid (X3_4.out.keep hw (by omega))
  clear X3_4
  have X4_5 := Lib.hid (X4_4.out.keep hw (by omega))
  clear X4_4
  have HB5 := Lib.hid (HB4.out.trans (hw.below (by omega) (by omega)))
  clear HB4 hw
  clear hd
  go_wp2_with fail
  refine (l_toFloat32S _ c0 _ (HV0.out.below HB5.out (Nat.le_refl _)) hsm0).mono ?_
  rintro z w6 ⟨u5, rfl, ho, hb⟩
  have hw := Wi.of_below hb
  have hz6 := hw.size
  have X2_6 := Lib.hid (X2_5.out.keep hw (by omega))
  clear X2_5
  have X3_6 := Lib.hid (X3_5.out.keep hw (by omega))
  clear X3_5
  have X4_6 := Lib.hid (X4_5.out.keep hw (by omega))
  clear X4_5
  have HB6 := Lib.hid (HB5.out.trans (hw.below (by omega) (by omega)))
  clear HB5 hw
  have X5_6 := Lib.hid (FW.of ho)
  clear ho hb
  go_wp2_with fail
  refine (l_eqFloat32S u3 u5 (c0) _ X3_6.out.sl X5_6.out.sl).mono ?_
  rintro z w7 ⟨rfl, hd⟩
  have hw := Dr.wi hd
  have hz7 := hw.size
  have X2_7 := Lib.hid (X2_6.out.keep hw (by omega))
  clear X2_6
  have X3_7 := Lib.hid (X3_6.out.keep hw (by omega))
  clear X3_6
  have X4_7 := Lib.hid (X4_6.out.keep hw (by omega))
  clear X4_6
  have X5_7 := Lib.hid (X5_6.out.keep hw (by omega))
  clear X5_6
  have HB7 := Lib.hid (HB6.out.trans (hw.below (by omega) (by omega)))
  clear HB6 hw
  clear hd
  clear X5_7
  go_wp2_with fail
  refine (l_markFW _ _ u3 (c0) (1) _ X3_7.out (by omega) (by omega) (by omega)).mono ?_
  rintro z w8 ⟨rfl, ho, hw0⟩
  have hw := hw0
  have hz8 := hw.size
  have X2_8 := Lib.hid (X2_7.out.keep hw (by omega))
  clear X2_7
  have X4_8 := Lib.hid (X4_7.out.keep hw (by omega))
  clear X4_7
  have HB8 := Lib.hid (HB7.out.trans (hw.below (by omega) (by omega)))
  clear HB7 hw
  have X3_8 := Lib.hid ho
  clear ho hw0 X3_7
  clear X3_8
  go_wp2_with fail
  refine (l_eqFloat32S v4' v2' (Q.1) _ X4_8.out.sl X2_8.out.sl).mono ?_
  rintro z w9 ⟨rfl, hd⟩
  have hw := Dr.wi hd
  have hz9 := hw.size
  have X2_9 := Lib.hid (X2_8.out.keep hw (by omega))
  clear X2_8
  have X4_9 := Lib.hid (X4_8.out.keep hw (by omega))
  clear X4_8
  have HB9 := Lib.hid (HB8.out.trans (hw.below (by omega) (by omega)))
  clear HB8 hw
  clear hd
  go_wp2_with fail
  refine (l_markFW _ _ v4' (Q.1) (1) _ X4_9.out (by omega) (by omega) (by omega)).mono ?_
  rintro z w10 ⟨rfl, ho, hw0⟩
  have hw := hw0
  have hz10 := hw.size
  have X2_10 := Lib.hid (X2_9.out.keep hw (by omega))
  clear X2_9
  have HB10 := Lib.hid (HB9.out.trans (hw.below (by omega) (by omega)))
  clear HB9 hw
  have X4_10 := Lib.hid ho
  clear ho hw0 X4_9
  go_wp2_with fail
  refine (l_heldFloat32S v4' (1) (Q.1.length) _ X4_10.out.sl (by omega) (by omega) (by omega)).mono ?_
  rintro z w11 ⟨rfl, hd⟩
  have hw := Dr.wi hd
  have hz11 := hw.size
  have X2_11 := Lib.hid (X2_10.out.keep hw (by omega))
  clear X2_10
  have X4_11 := Lib.hid (X4_10.out.keep hw (by omega))
  clear X4_10
  have HB11 := Lib.hid (HB10.out.trans (hw.below (by omega) (by omega)))
  clear HB10 hw
  clear hd
  go_wp2_with fail
  refine (l_toFloat32S _ c0 _ (HV0.out.below HB11.out (Nat.le_refl _)) hsm0).mono ?_
  rintro z w12 ⟨u6, rfl, ho, hb⟩
  have hw := Wi.of_below hb
  have hz12 := hw.size
  have X2_12 := Lib.hid (X2_11.out.keep hw (by omega))
  clear X2_11
  have X4_12 := Lib.hid (X4_11.out.keep hw (by omega))
  clear X4_11
  have HB12 := Lib.hid (HB11.out.trans (hw.below (by omega) (by omega)))
  clear HB11 hw
  have X6_12 := Lib.hid (FW.of ho)
  clear ho hb
  have hc7 := i_DriftDown u6 c0 a1 a2 _ X6_12.out.sb
  rw [HQ.out] at hc7
  go_wp2_with fail
  refine (hc7).mono ?_
  rintro z w13 ⟨⟨v7', b7, rfl, ho, hb2⟩, hb⟩
  have hw := Wi.of_below hb
  have hz13 := hw.size
  have X2_13 := Lib.hid (X2_12.out.keep hw (by omega))
  clear X2_12
  have X4_13 := Lib.hid (X4_12.out.keep hw (by omega))
  clear X4_12
  have X6_13 := Lib.hid (X6_12.out.keep hw (by omega))
  clear X6_12
  have HB13 := Lib.hid (HB12.out.trans (hw.below (by omega) (by omega)))
  clear HB12 hw
  have X7_13 := Lib.hid (FW.of ho)
  subst hb2
  clear ho
  clear hb hc7
  clear X6_13
  go_wp2_with fail
  refine (l_eqFloat32S v7' v2' (Q.1) _ X7_13.out.sl X2_13.out.sl).mono ?_
  rintro z w14 ⟨rfl, hd⟩
  have hw := Dr.wi hd
  have hz14 := hw.size
  have X2_14 := Lib.hid (X2_13.out.keep hw (by omega))
  clear X2_13
  have X4_14 := Lib.hid (X4_13.out.keep hw (by omega))
  clear X4_13
  have X7_14 := Lib.hid (X7_13.out.keep hw (by omega))
  clear X7_13
  have HB14 := Lib.hid (HB13.out.trans (hw.below (by omega) (by omega)))
  clear HB13 hw
  clear hd
  go_wp2_with fail
  refine (l_heldFloat32S v4' (1) (Q.1.length) _ X4_14.out.sl (by omega) (by omega) (by omega)).mono ?_
  rintro z w15 ⟨rfl, hd⟩
  have hw := Dr.wi hd
  have hz15 := hw.size
  have X2_15 := Lib.hid (X2_14.out.keep hw (by omega))
  clear X2_14
  have X4_15 := Lib.hid (X4_14.out.keep hw (by omega))
  clear X4_14
  have X7_15 := Lib.hid (X7_14.out.keep hw (by omega))
  clear X7_14
  have HB15 := Lib.hid (HB14.out.trans (hw.below (by omega) (by omega)))
  clear HB14 hw
  clear hd
  go_wp2_with fail
  go_ret
  exact ⟨rfl, HB15.out⟩
set_option maxRecDepth 100000 in
theorem FnExactDriftDown_lifted (os : Os) (started : os.Started) (H : Type) (enc : TypeId × Value → H) :
    ReturnsInHanded {} Try.checked os 3 .any (Rows.fnExactDriftDownSpec.pre6 enc Try.prog Try.f3 Rows.fnExactDriftDownRow.domain false) (Rows.fnExactDriftDownSpec.post enc Try.prog Try.f3 false true false false) := by
  refine returnsInHanded_of_change (C := Try.checked) own started (by kernel_rfl) Try.func3
    (ChangeSpec.witness6 (enc := enc) (C := Try.checked) false ⟨#[], #[.slice none 0 0, .float .f32 0, .float .f32 0], []⟩ 8 (by kernel_rfl) (by kernel_rfl) (by kernel_rfl) (by kernel_rfl)) ?_
  intro W base args ds gs before hval0 hW hcnd _
  have hval : ∀ (j : Nat) t v, Try.f3.params[j]? = some t → args[j]? = some v → Value.okWide Try.prog W .any base t v := hval0
  have hW' := hW
  obtain ⟨p, q, hA0, hV, rfl, hfz, hnd⟩ := hW
  have hA : DataW.TrodAll enc Try.prog W 0 (fun _ => true) true Try.f3.params.toList args.toList ds p := hA0
  rw [Try.params3] at hA hval
  obtain ⟨v0, vs0, d0, ds0, p0, q0, hargs, rfl, rfl, h0, r0⟩ := trodAll_cons hA
  obtain ⟨v1, vs1, d1, ds1, p1, q1, rfl, rfl, rfl, h1, r1⟩ := trodAll_cons r0
  obtain ⟨v2, vs2, d2, ds2, p2, q2, rfl, rfl, rfl, h2, r2⟩ := trodAll_cons r1
  obtain ⟨rfl, rfl, rfl⟩ := trodAll_nil r2
  obtain rfl : args = #[v0, v1, v2] := by cases args; simp_all
  obtain ⟨rfl, rfl⟩ := trodVars_none hV
  have k0 := h0
  have lt0 : ∀ x ∈ p0, x.block < W.heap.size := by obtain ⟨m, hm⟩ := k0; exact DataW.trod_lt m _ _ _ hm
  have k1 := h1
  have lt1 : ∀ x ∈ p1, x.block < W.heap.size := by obtain ⟨m, hm⟩ := k1; exact DataW.trod_lt m _ _ _ hm
  have k2 := h2
  have lt2 : ∀ x ∈ p2, x.block < W.heap.size := by obtain ⟨m, hm⟩ := k2; exact DataW.trod_lt m _ _ _ hm
  obtain ⟨b0, ln0, cp0, rfl⟩ := okWide_slice Try.underlying22 (hval 0 22 v0 rfl rfl)
  obtain ⟨c0, hc0⟩ : ∃ cs, SB W (.slice b0 ln0 cp0) cs := by obtain ⟨fuel, hfu⟩ := h0; exact open_f32s Try.underlying22 Try.underlying23 (by kernel_rfl) hfu
  obtain ⟨a1, rfl, _, _, hf1⟩ := open_float Try.underlying23 (hval 1 23 v1 rfl rfl) h1
  obtain ⟨a2, rfl, _, _, hf2⟩ := open_float Try.underlying23 (hval 2 23 v2 rfl rfl) h2
  clear hA0 hval0
  refine (FnExactDriftDown_walk (w := W) _ c0 hc0 a1 (f32_lt hf1) a2 (f32_lt hf2)).mono fun e W' ⟨he, bel⟩ => ?_
  subst he
  exact ⟨_, rfl, _, _, _, [], _, [], hW', trodAll_mk1 (shut_bool Try.underlying4 _), (trodAll_cons_mk (Below.trod laidOut (by kernel_rfl) (of_decide_eq_true (by kernel_rfl)) k0 bel lt0) (trodAll_cons_mk (Below.trod laidOut (by kernel_rfl) (of_decide_eq_true (by kernel_rfl)) k1 bel lt1) (trodAll_cons_mk (Below.trod laidOut (by kernel_rfl) (of_decide_eq_true (by kernel_rfl)) k2 bel lt2) trodAll_mk0))), rfl, bel.frame _, fun h => by cases h⟩

theorem fnExactDriftDown_holds : Rows.FnExactDriftDownSaid :=
  OpenClaim.holds_of_wide 3 Try.f3 rfl rfl rfl rfl rfl rfl rfl ⟨rfl, rfl, rfl, rfl, rfl⟩ rfl rfl rfl rfl rfl (by kernel_rfl) Try.func3 (by kernel_rfl)
    (of_decide_eq_true (by kernel_rfl)) (by unfold Func.isWrapper; first | (rw [if_pos (by decide +kernel)]; kernel_rfl) | (rw [if_neg (by decide +kernel)]; exact ⟨rfl, rfl⟩))
    (fun os started H enc _ => FnExactDriftDown_lifted os started H enc)
#print axioms fnExactDriftDown_holds

end Go.Proofs.Ytcnfdmnjeklbiaa
