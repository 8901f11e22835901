/- THE LAW FnExactSignFar: the program's SignFar returns what the reference's returns, for all arguments. No condition. -/
import Derived.Test.YtcnfdmnjeklbiaaLawKit
import Derived.Test.YtcnfdmnjeklbiaaK15
import Derived.Test.YtcnfdmnjeklbiaaK20
namespace Go.Proofs.Ytcnfdmnjeklbiaa
set_option maxRecDepth 100000
set_option maxHeartbeats 4000000
open Go.ChangeShapes Go.WideShapes Go.ChangeAt Go.RowKit
set_option linter.unusedVariables false


theorem FnExactSignFar_walk (w : World) (v0 : Value) (c0 : List Int) (hv0 : GL (Value.int .i64) w v0 c0) (hw0 : allWf c0) (v1 : Value) (c1 : List Int) (hv1 : GL (Value.int .i64) w v1 c1) (hw1 : allWf c1) (v2 : Value) (c2 : List Nat) (hv2 : SB w v2 c2) :
    Calls Try.prog 9 #[v0, v1, v2] w fun z w' => z = .returned (.bool true) ∧ Below w.heap.size w w' := by
  obtain ⟨ao0, cp0, rfl, hcap0, hlen0⟩ := hv0.slice
  have HV0 := Lib.hid hv0
  clear hv0
  obtain ⟨ao1, cp1, rfl, hcap1, hlen1⟩ := hv1.slice
  have HV1 := Lib.hid hv1
  clear hv1
  obtain ⟨ao2, cp2, rfl, hcap2, hlen2⟩ := hv2.sl.slice2
  have HV2 := Lib.hid hv2
  clear hv2
  by_cases hbig0 : (1048576 : Int) < (c0.length : Int)
  · go_enter Try.func9, Try.ntmps9
    go_wp2_with fail
    go_ret
    exact ⟨rfl, Below.refl _ _⟩
  by_cases hbig1 : (1048576 : Int) < (c1.length : Int)
  · go_enter Try.func9, Try.ntmps9
    go_wp2_with fail
    go_ret
    exact ⟨rfl, Below.refl _ _⟩
  by_cases hbig2 : (1048576 : Int) < (c2.length : Int)
  · go_enter Try.func9, Try.ntmps9
    go_wp2_with fail
    go_ret
    exact ⟨rfl, Below.refl _ _⟩
  have hsm0 : c0.length < 1099511627776 := by omega
  have hsm1 : c1.length < 1099511627776 := by omega
  have hsm2 : c2.length < 1099511627776 := by omega
  generalize hQ : sfQ c0 c1 c2 = Q
  have HQ := Lib.hid hQ
  clear hQ
  have HB0 := Lib.hid (Below.refl w.heap.size w)
  have hz0 : w.heap.size ≤ w.heap.size := Nat.le_refl _
  go_enter Try.func9, Try.ntmps9
  go_wp2_with fail
  refine (l_toInt64S _ c0 _ (HV0.out.below HB0.out (Nat.le_refl _)) hsm0).mono ?_
  rintro z w1 ⟨u1, rfl, ho, hb⟩
  have hw := Wi.of_below hb
  have hz1 := hw.size
  have HB1 := Lib.hid (HB0.out.trans (hw.below (by omega) (by omega)))
  clear HB0 hw
  have X1_1 := Lib.hid (GW.of ho)
  clear ho hb
  go_wp2_with fail
  refine (l_toInt64S _ c1 _ (HV1.out.below HB1.out (Nat.le_refl _)) hsm1).mono ?_
  rintro z w2 ⟨u2, rfl, ho, hb⟩
  have hw := Wi.of_below hb
  have hz2 := hw.size
  have X1_2 := Lib.hid (X1_1.out.keep hw (by omega))
  clear X1_1
  have HB2 := Lib.hid (HB1.out.trans (hw.below (by omega) (by omega)))
  clear HB1 hw
  have X2_2 := Lib.hid (GW.of ho)
  clear ho hb
  go_wp2_with fail
  refine (l_toFloat32S _ c2 _ (HV2.out.below HB2.out (Nat.le_refl _)) hsm2).mono ?_
  rintro z w3 ⟨u3, rfl, ho, hb⟩
  have hw := Wi.of_below hb
  have hz3 := hw.size
  have X1_3 := Lib.hid (X1_2.out.keep hw (by omega))
  clear X1_2
  have X2_3 := Lib.hid (X2_2.out.keep hw (by omega))
  clear X2_2
  have HB3 := Lib.hid (HB2.out.trans (hw.below (by omega) (by omega)))
  clear HB2 hw
  have X3_3 := Lib.hid (FW.of ho)
  clear ho hb
  have hc4 := s_SignFar u1 u2 u3 c0 c1 c2 _ X1_3.out.gl X2_3.out.gl X3_3.out.sb hw0 hw1 (by omega)
  rw [HQ.out] at hc4
  go_wp2_with fail
  refine (hc4).mono ?_
  rintro z w4 ⟨⟨r4, b4, rfl, hr, hr2, hb2⟩, hb⟩
  have hw := Wi.of_below hb
  have hz4 := hw.size
  have X1_4 := Lib.hid (X1_3.out.keep hw (by omega))
  clear X1_3
  have X2_4 := Lib.hid (X2_3.out.keep hw (by omega))
  clear X2_3
  have X3_4 := Lib.hid (X3_3.out.keep hw (by omega))
  clear X3_3
  have HB4 := Lib.hid (HB3.out.trans (hw.below (by omega) (by omega)))
  clear HB3 hw
  have R4 := Lib.hid hr2
  have hr4 := hr
  have HBB4 := Lib.hid hb2
  clear hr hr2 hb2
  clear hb hc4
  clear X1_4
  clear X2_4
  clear X3_4
  go_wp2_with fail
  refine (l_toInt64S _ c0 _ (HV0.out.below HB4.out (Nat.le_refl _)) hsm0).mono ?_
  rintro z w5 ⟨u5, rfl, ho, hb⟩
  have hw := Wi.of_below hb
  have hz5 := hw.size
  have HB5 := Lib.hid (HB4.out.trans (hw.below (by omega) (by omega)))
  clear HB4 hw
  have X5_5 := Lib.hid (GW.of ho)
  clear ho hb
  go_wp2_with fail
  refine (l_toInt64S _ c1 _ (HV1.out.below HB5.out (Nat.le_refl _)) hsm1).mono ?_
  rintro z w6 ⟨u6, rfl, ho, hb⟩
  have hw := Wi.of_below hb
  have hz6 := hw.size
  have X5_6 := Lib.hid (X5_5.out.keep hw (by omega))
  clear X5_5
  have HB6 := Lib.hid (HB5.out.trans (hw.below (by omega) (by omega)))
  clear HB5 hw
  have X6_6 := Lib.hid (GW.of ho)
  clear ho hb
  go_wp2_with fail
  refine (l_toFloat32S _ c2 _ (HV2.out.below HB6.out (Nat.le_refl _)) hsm2).mono ?_
  rintro z w7 ⟨u7, rfl, ho, hb⟩
  have hw := Wi.of_below hb
  have hz7 := hw.size
  have X5_7 := Lib.hid (X5_6.out.keep hw (by omega))
  clear X5_6
  have X6_7 := Lib.hid (X6_6.out.keep hw (by omega))
  clear X6_6
  have HB7 := Lib.hid (HB6.out.trans (hw.below (by omega) (by omega)))
  clear HB6 hw
  have X7_7 := Lib.hid (FW.of ho)
  clear ho hb
  have hc8 := i_SignFar u5 u6 u7 c0 c1 c2 _ X5_7.out.gl X6_7.out.gl X7_7.out.sb hw0 hw1 (by omega)
  rw [HQ.out] at hc8
  go_wp2_with fail
  refine (hc8).mono ?_
  rintro z w8 ⟨⟨r8, b8, rfl, hr, hr2, hb2⟩, hb⟩
  have hw := Wi.of_below hb
  have hz8 := hw.size
  have X5_8 := Lib.hid (X5_7.out.keep hw (by omega))
  clear X5_7
  have X6_8 := Lib.hid (X6_7.out.keep hw (by omega))
  clear X6_7
  have X7_8 := Lib.hid (X7_7.out.keep hw (by omega))
  clear X7_7
  have HB8 := Lib.hid (HB7.out.trans (hw.below (by omega) (by omega)))
  clear HB7 hw
  have R8 := Lib.hid hr2
  have hr8 := hr
  have HBB8 := Lib.hid hb2
  clear hr hr2 hb2
  clear hb hc8
  obtain rfl : b8 = b4 := (Hid.out HBB8).trans (Hid.out HBB4).symm
  go_wp2_with (refine wpList_wd (by kernel_rfl) (by kernel_rfl) _ rfl ?_; intro r n hr hlt; have HR := Lib.hid hr; clear hr)
  refine (l_sameFloat _ _ (by rw [Hid.out ‹Hid (cn .f64 _ = wd (cn .f32 r8))›, Hid.out ‹Hid (cn .f64 _ = wd (cn .f32 r4))›, R8.out, R4.out]) _).mono ?_
  rintro z w9 ⟨rfl, hd⟩
  have hw : Wi 0 0 w8 w9 := by first | exact Wi.undrew (Dr.wi hd) | exact Wi.undrew (Wi.undrew (Dr.wi hd)) | exact Dr.wi hd
  have hz9 := hw.size
  have X5_9 := Lib.hid (X5_8.out.keep hw (by omega))
  clear X5_8
  have X6_9 := Lib.hid (X6_8.out.keep hw (by omega))
  clear X6_8
  have X7_9 := Lib.hid (X7_8.out.keep hw (by omega))
  clear X7_8
  have HB9 := Lib.hid (HB8.out.trans (hw.below (by omega) (by omega)))
  clear HB8 hw hd
  go_wp2_with fail
  refine (l_toInt64S _ c0 _ (HV0.out.below HB9.out (Nat.le_refl _)) hsm0).mono ?_
  rintro z w10 ⟨u9, rfl, ho, hb⟩
  have hw := Wi.of_below hb
  have hz10 := hw.size
  have X5_10 := Lib.hid (X5_9.out.keep hw (by omega))
  clear X5_9
  have X6_10 := Lib.hid (X6_9.out.keep hw (by omega))
  clear X6_9
  have X7_10 := Lib.hid (X7_9.out.keep hw (by omega))
  clear X7_9
  have HB10 := Lib.hid (HB9.out.trans (hw.below (by omega) (by omega)))
  clear HB9 hw
  have X9_10 := Lib.hid (GW.of ho)
  clear ho hb
  go_wp2_with fail
  refine (l_eqInt64S u5 u9 (c0) _ X5_10.out.gl X9_10.out.gl).mono ?_
  rintro z w11 ⟨rfl, hd⟩
  have hw := Dr.wi hd
  have hz11 := hw.size
  have X5_11 := Lib.hid (X5_10.out.keep hw (by omega))
  clear X5_10
  have X6_11 := Lib.hid (X6_10.out.keep hw (by omega))
  clear X6_10
  have X7_11 := Lib.hid (X7_10.out.keep hw (by omega))
  clear X7_10
  have X9_11 := Lib.hid (X9_10.out.keep hw (by omega))
  clear X9_10
  have HB11 := Lib.hid (HB10.out.trans (hw.below (by omega) (by omega)))
  clear HB10 hw
  clear hd
  clear X9_11
  go_wp2_with fail
  refine (l_toInt64S _ c1 _ (HV1.out.below HB11.out (Nat.le_refl _)) hsm1).mono ?_
  rintro z w12 ⟨u10, rfl, ho, hb⟩
  have hw := Wi.of_below hb
  have hz12 := hw.size
  have X5_12 := Lib.hid (X5_11.out.keep hw (by omega))
  clear X5_11
  have X6_12 := Lib.hid (X6_11.out.keep hw (by omega))
  clear X6_11
  have X7_12 := Lib.hid (X7_11.out.keep hw (by omega))
  clear X7_11
  have HB12 := Lib.hid (HB11.out.trans (hw.below (by omega) (by omega)))
  clear HB11 hw
  have X10_12 := Lib.hid (GW.of ho)
  clear ho hb
  go_wp2_with fail
  refine (l_eqInt64S u6 u10 (c1) _ X6_12.out.gl X10_12.out.gl).mono ?_
  rintro z w13 ⟨rfl, hd⟩
  have hw := Dr.wi hd
  have hz13 := hw.size
  have X5_13 := Lib.hid (X5_12.out.keep hw (by omega))
  clear X5_12
  have X6_13 := Lib.hid (X6_12.out.keep hw (by omega))
  clear X6_12
  have X7_13 := Lib.hid (X7_12.out.keep hw (by omega))
  clear X7_12
  have X10_13 := Lib.hid (X10_12.out.keep hw (by omega))
  clear X10_12
  have HB13 := Lib.hid (HB12.out.trans (hw.below (by omega) (by omega)))
  clear HB12 hw
  clear hd
  clear X10_13
  go_wp2_with fail
  refine (l_toFloat32S _ c2 _ (HV2.out.below HB13.out (Nat.le_refl _)) hsm2).mono ?_
  rintro z w14 ⟨u11, rfl, ho, hb⟩
  have hw := Wi.of_below hb
  have hz14 := hw.size
  have X5_14 := Lib.hid (X5_13.out.keep hw (by omega))
  clear X5_13
  have X6_14 := Lib.hid (X6_13.out.keep hw (by omega))
  clear X6_13
  have X7_14 := Lib.hid (X7_13.out.keep hw (by omega))
  clear X7_13
  have HB14 := Lib.hid (HB13.out.trans (hw.below (by omega) (by omega)))
  clear HB13 hw
  have X11_14 := Lib.hid (FW.of ho)
  clear ho hb
  go_wp2_with fail
  refine (l_eqFloat32S u7 u11 (c2) _ X7_14.out.sl X11_14.out.sl).mono ?_
  rintro z w15 ⟨rfl, hd⟩
  have hw := Dr.wi hd
  have hz15 := hw.size
  have X5_15 := Lib.hid (X5_14.out.keep hw (by omega))
  clear X5_14
  have X6_15 := Lib.hid (X6_14.out.keep hw (by omega))
  clear X6_14
  have X7_15 := Lib.hid (X7_14.out.keep hw (by omega))
  clear X7_14
  have X11_15 := Lib.hid (X11_14.out.keep hw (by omega))
  clear X11_14
  have HB15 := Lib.hid (HB14.out.trans (hw.below (by omega) (by omega)))
  clear HB14 hw
  clear hd
  clear X11_15
  go_wp2_with fail
  go_ret
  exact ⟨rfl, HB15.out⟩
set_option maxRecDepth 100000 in
theorem FnExactSignFar_lifted (os : Os) (started : os.Started) (H : Type) (enc : TypeId × Value → H) :
    ReturnsInHanded {} Try.checked os 9 .any (Rows.fnExactSignFarSpec.pre6 enc Try.prog Try.f9 Rows.fnExactSignFarRow.domain false) (Rows.fnExactSignFarSpec.post enc Try.prog Try.f9 false true false false) := by
  refine returnsInHanded_of_change (C := Try.checked) own started (by kernel_rfl) Try.func9
    (ChangeSpec.witness6 (enc := enc) (C := Try.checked) false ⟨#[], #[.slice none 0 0, .slice none 0 0, .slice none 0 0], []⟩ 8 (by kernel_rfl) (by kernel_rfl) (by kernel_rfl) (by kernel_rfl)) ?_
  intro W base args ds gs before hval0 hW hcnd _
  have hval : ∀ (j : Nat) t v, Try.f9.params[j]? = some t → args[j]? = some v → Value.okWide Try.prog W .any base t v := hval0
  have hW' := hW
  obtain ⟨p, q, hA0, hV, rfl, hfz, hnd⟩ := hW
  have hA : DataW.TrodAll enc Try.prog W 0 (fun _ => true) true Try.f9.params.toList args.toList ds p := hA0
  rw [Try.params9] at hA hval
  obtain ⟨v0, vs0, d0, ds0, p0, q0, hargs, rfl, rfl, h0, r0⟩ := trodAll_cons hA
  obtain ⟨v1, vs1, d1, ds1, p1, q1, rfl, rfl, rfl, h1, r1⟩ := trodAll_cons r0
  obtain ⟨v2, vs2, d2, ds2, p2, q2, rfl, rfl, rfl, h2, r2⟩ := trodAll_cons r1
  obtain ⟨rfl, rfl, rfl⟩ := trodAll_nil r2
  obtain rfl : args = #[v0, v1, v2] := by cases args; simp_all
  obtain ⟨rfl, rfl⟩ := trodVars_none hV
  have k0 := h0
  have lt0 : ∀ x ∈ p0, x.block < W.heap.size := by obtain ⟨m, hm⟩ := k0; exact DataW.trod_lt m _ _ _ hm
  have k1 := h1
  have lt1 : ∀ x ∈ p1, x.block < W.heap.size := by obtain ⟨m, hm⟩ := k1; exact DataW.trod_lt m _ _ _ hm
  have k2 := h2
  have lt2 : ∀ x ∈ p2, x.block < W.heap.size := by obtain ⟨m, hm⟩ := k2; exact DataW.trod_lt m _ _ _ hm
  obtain ⟨b0, ln0, cp0, rfl⟩ := okWide_slice Try.underlying37 (hval 0 37 v0 rfl rfl)
  obtain ⟨c0, hc0⟩ : ∃ cs, GL (Value.int .i64) W (.slice b0 ln0 cp0) cs ∧ allWf cs := by obtain ⟨fuel, hfu⟩ := h0; exact open_i64s Try.underlying37 Try.underlying2 (by kernel_rfl) hfu
  obtain ⟨b1, ln1, cp1, rfl⟩ := okWide_slice Try.underlying37 (hval 1 37 v1 rfl rfl)
  obtain ⟨c1, hc1⟩ : ∃ cs, GL (Value.int .i64) W (.slice b1 ln1 cp1) cs ∧ allWf cs := by obtain ⟨fuel, hfu⟩ := h1; exact open_i64s Try.underlying37 Try.underlying2 (by kernel_rfl) hfu
  obtain ⟨b2, ln2, cp2, rfl⟩ := okWide_slice Try.underlying22 (hval 2 22 v2 rfl rfl)
  obtain ⟨c2, hc2⟩ : ∃ cs, SB W (.slice b2 ln2 cp2) cs := by obtain ⟨fuel, hfu⟩ := h2; exact open_f32s Try.underlying22 Try.underlying23 (by kernel_rfl) hfu
  clear hA0 hval0
  refine (FnExactSignFar_walk (w := W) _ c0 hc0.1 hc0.2 _ c1 hc1.1 hc1.2 _ c2 hc2).mono fun e W' ⟨he, bel⟩ => ?_
  subst he
  exact ⟨_, rfl, _, _, _, [], _, [], hW', trodAll_mk1 (shut_bool Try.underlying4 _), (trodAll_cons_mk (Below.trod laidOut (by kernel_rfl) (of_decide_eq_true (by kernel_rfl)) k0 bel lt0) (trodAll_cons_mk (Below.trod laidOut (by kernel_rfl) (of_decide_eq_true (by kernel_rfl)) k1 bel lt1) (trodAll_cons_mk (Below.trod laidOut (by kernel_rfl) (of_decide_eq_true (by kernel_rfl)) k2 bel lt2) trodAll_mk0))), rfl, bel.frame _, fun h => by cases h⟩

theorem fnExactSignFar_holds : Rows.FnExactSignFarSaid :=
  OpenClaim.holds_of_wide 9 Try.f9 rfl rfl rfl rfl rfl rfl rfl ⟨rfl, rfl, rfl, rfl, rfl⟩ rfl rfl rfl rfl rfl (by kernel_rfl) Try.func9 (by kernel_rfl)
    (of_decide_eq_true (by kernel_rfl)) (by unfold Func.isWrapper; first | (rw [if_pos (by decide +kernel)]; kernel_rfl) | (rw [if_neg (by decide +kernel)]; exact ⟨rfl, rfl⟩))
    (fun os started H enc _ => FnExactSignFar_lifted os started H enc)
#print axioms fnExactSignFar_holds

end Go.Proofs.Ytcnfdmnjeklbiaa
