/- THE LAW FnExactWidthOfCenters: the program's WidthOfCenters returns what the reference's returns, for all arguments. No condition. -/
import Derived.Test.YtcnfdmnjeklbiaaLawKit
import Derived.Test.YtcnfdmnjeklbiaaK15
import Derived.Test.YtcnfdmnjeklbiaaK21
import Derived.Test.YtcnfdmnjeklbiaaK25
namespace Go.Proofs.Ytcnfdmnjeklbiaa
set_option maxRecDepth 100000
set_option maxHeartbeats 4000000
open Go.ChangeShapes Go.WideShapes Go.ChangeAt Go.RowKit
set_option linter.unusedVariables false


theorem FnExactWidthOfCenters_walk (w : World) (v0 : Value) (c0 : List (List Nat)) (hv0 : SS w v0 c0) (v1 : Value) (c1 : List Int) (hv1 : GL (Value.int .i64) w v1 c1) (hw1 : allWf c1) :
    Calls Try.prog 11 #[v0, v1] w fun z w' => z = .returned (.bool true) ∧ Below w.heap.size w w' := by
  obtain ⟨ao0, cp0, rfl, hcap0, hlen0⟩ := hv0.slice
  have HV0 := Lib.hid hv0
  clear hv0
  obtain ⟨ao1, cp1, rfl, hcap1, hlen1⟩ := hv1.slice
  have HV1 := Lib.hid hv1
  clear hv1
  by_cases hbig1 : (1048576 : Int) < (c1.length : Int)
  · go_enter Try.func11, Try.ntmps11
    go_wp2_with fail
    go_ret
    exact ⟨rfl, Below.refl _ _⟩
  have hsm1 : c1.length < 1099511627776 := by omega
  by_cases hsz0 : szL c0 1048576 < 0
  · have HSZ := Lib.hid (szQ_neg hsz0)
    clear hsz0
    go_enter Try.func11, Try.ntmps11
    go_wp2_with fail
    refine (l_szFloat32SS _ c0 _ _ HV0.out (by omega) (by omega)).mono ?_
    rintro z w1 ⟨rfl, hd⟩
    rw [HSZ.out]
    go_wp2_with fail
    go_ret
    exact ⟨rfl, hd.below _⟩
  have hsq0 := szQ_pos hsz0
  have hnn0 : 0 ≤ szL c0 1048576 := by omega
  have HSQ0 := Lib.hid hsq0
  clear hsq0
  have hsm0 := szL_len hnn0 (by omega)
  have HSE0 := Lib.hid (szL_each hnn0)
  generalize hQ : wcQ c0 c1 = Q
  have HQ := Lib.hid hQ
  clear hQ
  have HB0 := Lib.hid (Below.refl w.heap.size w)
  have hz0 : w.heap.size ≤ w.heap.size := Nat.le_refl _
  go_enter Try.func11, Try.ntmps11
  go_wp2_with fail
  refine (l_szFloat32SS _ c0 _ _ (HV0.out.below HB0.out (Nat.le_refl _)) (by omega) (by omega)).mono ?_
  rintro z w1 ⟨rfl, hd⟩
  have hw := Dr.wi hd
  have hz1 := hw.size
  have HB1 := Lib.hid (HB0.out.trans (hw.below (by omega) (by omega)))
  clear HB0 hw
  clear hd
  rw [HSQ0.out]
  go_wp2_with fail
  refine (l_toFloat32SS _ c0 _ (HV0.out.below HB1.out (Nat.le_refl _)) hsm0 HSE0.out).mono ?_
  rintro z w2 ⟨u1, rfl, ho, hb⟩
  have hw := Wi.of_below hb
  have hz2 := hw.size
  have HB2 := Lib.hid (HB1.out.trans (hw.below (by omega) (by omega)))
  clear HB1 hw
  have X1_2 := Lib.hid (SW.of ho)
  clear ho hb
  go_wp2_with fail
  refine (l_toInt64S _ c1 _ (HV1.out.below HB2.out (Nat.le_refl _)) hsm1).mono ?_
  rintro z w3 ⟨u2, rfl, ho, hb⟩
  have hw := Wi.of_below hb
  have hz3 := hw.size
  have X1_3 := Lib.hid (X1_2.out.keep hw (by omega))
  clear X1_2
  have HB3 := Lib.hid (HB2.out.trans (hw.below (by omega) (by omega)))
  clear HB2 hw
  have X2_3 := Lib.hid (GW.of ho)
  clear ho hb
  have hc3 := s_WidthOfCentersB u1 u2 c0 c1 _ X1_3.out.ss X2_3.out.gl hw1
  rw [HQ.out] at hc3
  go_wp2_with fail
  refine (hc3).mono ?_
  rintro z w4 ⟨⟨r3, b3, rfl, hr, hr2, hb2⟩, hb⟩
  have hw := Wi.of_below hb
  have hz4 := hw.size
  have X1_4 := Lib.hid (X1_3.out.keep hw (by omega))
  clear X1_3
  have X2_4 := Lib.hid (X2_3.out.keep hw (by omega))
  clear X2_3
  have HB4 := Lib.hid (HB3.out.trans (hw.below (by omega) (by omega)))
  clear HB3 hw
  have R3 := Lib.hid hr2
  have hr3 := hr
  have HBB3 := Lib.hid hb2
  clear hr hr2 hb2
  clear hb hc3
  clear X1_4
  clear X2_4
  go_wp2_with fail
  refine (l_toFloat32SS _ c0 _ (HV0.out.below HB4.out (Nat.le_refl _)) hsm0 HSE0.out).mono ?_
  rintro z w5 ⟨u4, rfl, ho, hb⟩
  have hw := Wi.of_below hb
  have hz5 := hw.size
  have HB5 := Lib.hid (HB4.out.trans (hw.below (by omega) (by omega)))
  clear HB4 hw
  have X4_5 := Lib.hid (SW.of ho)
  clear ho hb
  go_wp2_with fail
  refine (l_toInt64S _ c1 _ (HV1.out.below HB5.out (Nat.le_refl _)) hsm1).mono ?_
  rintro z w6 ⟨u5, rfl, ho, hb⟩
  have hw := Wi.of_below hb
  have hz6 := hw.size
  have X4_6 := Lib.hid (X4_5.out.keep hw (by omega))
  clear X4_5
  have HB6 := Lib.hid (HB5.out.trans (hw.below (by omega) (by omega)))
  clear HB5 hw
  have X5_6 := Lib.hid (GW.of ho)
  clear ho hb
  have hc6 := i_WidthOfCenters u4 u5 c0 c1 _ X4_6.out.ss X5_6.out.gl hw1
  rw [HQ.out] at hc6
  go_wp2_with fail
  refine (hc6).mono ?_
  rintro z w7 ⟨⟨r6, b6, rfl, hr, hr2, hb2⟩, hb⟩
  have hw := Wi.of_below hb
  have hz7 := hw.size
  have X4_7 := Lib.hid (X4_6.out.keep hw (by omega))
  clear X4_6
  have X5_7 := Lib.hid (X5_6.out.keep hw (by omega))
  clear X5_6
  have HB7 := Lib.hid (HB6.out.trans (hw.below (by omega) (by omega)))
  clear HB6 hw
  have R6 := Lib.hid hr2
  have hr6 := hr
  have HBB6 := Lib.hid hb2
  clear hr hr2 hb2
  clear hb hc6
  obtain rfl : b6 = b3 := (Hid.out HBB6).trans (Hid.out HBB3).symm
  go_wp2_with (first | (refine wpList_wd (by kernel_rfl) (by kernel_rfl) _ rfl ?_; intro r n hr hlt; have HR := Lib.hid hr; clear hr) | (refine wpList_wd_g rfl (by kernel_rfl) (by kernel_rfl) _ rfl ?_; intro r n hr hlt; have HR := Lib.hid hr; clear hr))
  refine (l_sameFloat _ _ (by rw [Hid.out ‹Hid (cn .f64 _ = wd (cn .f32 r6))›, Hid.out ‹Hid (cn .f64 _ = wd (cn .f32 r3))›, R6.out, R3.out]) _).mono ?_
  rintro z w8 ⟨rfl, hd⟩
  have hw : Wi 0 0 w7 w8 := by first | exact Wi.undrew (Dr.wi hd) | exact Wi.undrew (Wi.undrew (Dr.wi hd)) | exact Dr.wi hd
  have hz8 := hw.size
  have X4_8 := Lib.hid (X4_7.out.keep hw (by omega))
  clear X4_7
  have X5_8 := Lib.hid (X5_7.out.keep hw (by omega))
  clear X5_7
  have HB8 := Lib.hid (HB7.out.trans (hw.below (by omega) (by omega)))
  clear HB7 hw hd
  go_wp2_with fail
  refine (l_toFloat32SS _ c0 _ (HV0.out.below HB8.out (Nat.le_refl _)) hsm0 HSE0.out).mono ?_
  rintro z w9 ⟨u7, rfl, ho, hb⟩
  have hw := Wi.of_below hb
  have hz9 := hw.size
  have X4_9 := Lib.hid (X4_8.out.keep hw (by omega))
  clear X4_8
  have X5_9 := Lib.hid (X5_8.out.keep hw (by omega))
  clear X5_8
  have HB9 := Lib.hid (HB8.out.trans (hw.below (by omega) (by omega)))
  clear HB8 hw
  have X7_9 := Lib.hid (SW.of ho)
  clear ho hb
  go_wp2_with fail
  refine (l_eqFloat32SS u4 u7 (c0) _ X4_9.out.ss X7_9.out.ss).mono ?_
  rintro z w10 ⟨rfl, hd⟩
  have hw := Dr.wi hd
  have hz10 := hw.size
  have X4_10 := Lib.hid (X4_9.out.keep hw (by omega))
  clear X4_9
  have X5_10 := Lib.hid (X5_9.out.keep hw (by omega))
  clear X5_9
  have X7_10 := Lib.hid (X7_9.out.keep hw (by omega))
  clear X7_9
  have HB10 := Lib.hid (HB9.out.trans (hw.below (by omega) (by omega)))
  clear HB9 hw
  clear hd
  clear X7_10
  go_wp2_with fail
  refine (l_toInt64S _ c1 _ (HV1.out.below HB10.out (Nat.le_refl _)) hsm1).mono ?_
  rintro z w11 ⟨u8, rfl, ho, hb⟩
  have hw := Wi.of_below hb
  have hz11 := hw.size
  have X4_11 := Lib.hid (X4_10.out.keep hw (by omega))
  clear X4_10
  have X5_11 := Lib.hid (X5_10.out.keep hw (by omega))
  clear X5_10
  have HB11 := Lib.hid (HB10.out.trans (hw.below (by omega) (by omega)))
  clear HB10 hw
  have X8_11 := Lib.hid (GW.of ho)
  clear ho hb
  go_wp2_with fail
  refine (l_eqInt64S u5 u8 (c1) _ X5_11.out.gl X8_11.out.gl).mono ?_
  rintro z w12 ⟨rfl, hd⟩
  have hw := Dr.wi hd
  have hz12 := hw.size
  have X4_12 := Lib.hid (X4_11.out.keep hw (by omega))
  clear X4_11
  have X5_12 := Lib.hid (X5_11.out.keep hw (by omega))
  clear X5_11
  have X8_12 := Lib.hid (X8_11.out.keep hw (by omega))
  clear X8_11
  have HB12 := Lib.hid (HB11.out.trans (hw.below (by omega) (by omega)))
  clear HB11 hw
  clear hd
  clear X8_12
  go_wp2_with fail
  go_ret
  exact ⟨rfl, HB12.out⟩
set_option maxRecDepth 100000 in
theorem FnExactWidthOfCenters_lifted (os : Os) (started : os.Started) (H : Type) (enc : TypeId × Value → H) :
    ReturnsInHanded {} Try.checked os 11 .any (Rows.fnExactWidthOfCentersSpec.pre6 enc Try.prog Try.f11 Rows.fnExactWidthOfCentersRow.domain false) (Rows.fnExactWidthOfCentersSpec.post enc Try.prog Try.f11 false true false false) := by
  refine returnsInHanded_of_change (C := Try.checked) own started (by kernel_rfl) Try.func11
    (ChangeSpec.witness6 (enc := enc) (C := Try.checked) false ⟨#[], #[.slice none 0 0, .slice none 0 0], []⟩ 8 (by kernel_rfl) (by kernel_rfl) (by kernel_rfl) (by kernel_rfl)) ?_
  intro W base args ds gs before hval0 hW hcnd _
  have hval : ∀ (j : Nat) t v, Try.f11.params[j]? = some t → args[j]? = some v → Value.okWide Try.prog W .any base t v := hval0
  have hW' := hW
  obtain ⟨p, q, hA0, hV, rfl, hfz, hnd⟩ := hW
  have hA : DataW.TrodAll enc Try.prog W 0 (fun _ => true) true Try.f11.params.toList args.toList ds p := hA0
  rw [Try.params11] at hA hval
  obtain ⟨v0, vs0, d0, ds0, p0, q0, hargs, rfl, rfl, h0, r0⟩ := trodAll_cons hA
  obtain ⟨v1, vs1, d1, ds1, p1, q1, rfl, rfl, rfl, h1, r1⟩ := trodAll_cons r0
  obtain ⟨rfl, rfl, rfl⟩ := trodAll_nil r1
  obtain rfl : args = #[v0, v1] := by cases args; simp_all
  obtain ⟨rfl, rfl⟩ := trodVars_none hV
  have k0 := h0
  have lt0 : ∀ x ∈ p0, x.block < W.heap.size := by obtain ⟨m, hm⟩ := k0; exact DataW.trod_lt m _ _ _ hm
  have k1 := h1
  have lt1 : ∀ x ∈ p1, x.block < W.heap.size := by obtain ⟨m, hm⟩ := k1; exact DataW.trod_lt m _ _ _ hm
  obtain ⟨b0, ln0, cp0, rfl⟩ := okWide_slice Try.underlying48 (hval 0 48 v0 rfl rfl)
  obtain ⟨c0, hc0⟩ : ∃ css, SS W (.slice b0 ln0 cp0) css := by obtain ⟨fuel, hfu⟩ := h0; exact open_f32ss Try.underlying48 (by kernel_rfl) Try.underlying22 Try.underlying23 (by kernel_rfl) hfu
  obtain ⟨b1, ln1, cp1, rfl⟩ := okWide_slice Try.underlying37 (hval 1 37 v1 rfl rfl)
  obtain ⟨c1, hc1⟩ : ∃ cs, GL (Value.int .i64) W (.slice b1 ln1 cp1) cs ∧ allWf cs := by obtain ⟨fuel, hfu⟩ := h1; exact open_i64s Try.underlying37 Try.underlying2 (by kernel_rfl) hfu
  clear hA0 hval0
  refine (FnExactWidthOfCenters_walk (w := W) _ c0 hc0 _ c1 hc1.1 hc1.2).mono fun e W' ⟨he, bel⟩ => ?_
  subst he
  exact ⟨_, rfl, _, _, _, [], _, [], hW', trodAll_mk1 (shut_bool Try.underlying4 _), (trodAll_cons_mk (Below.trod laidOut (by kernel_rfl) (of_decide_eq_true (by kernel_rfl)) k0 bel lt0) (trodAll_cons_mk (Below.trod laidOut (by kernel_rfl) (of_decide_eq_true (by kernel_rfl)) k1 bel lt1) trodAll_mk0)), rfl, bel.frame _, fun h => by cases h⟩

theorem fnExactWidthOfCenters_holds : Rows.FnExactWidthOfCentersSaid :=
  OpenClaim.holds_of_wide 11 Try.f11 rfl rfl rfl rfl rfl rfl rfl ⟨rfl, rfl, rfl, rfl, rfl⟩ rfl rfl rfl rfl rfl (by kernel_rfl) Try.func11 (by kernel_rfl)
    (of_decide_eq_true (by kernel_rfl)) (by unfold Func.isWrapper; first | (rw [if_pos (by decide +kernel)]; kernel_rfl) | (rw [if_neg (by decide +kernel)]; exact ⟨rfl, rfl⟩))
    (fun os started H enc _ => FnExactWidthOfCenters_lifted os started H enc)
#print axioms fnExactWidthOfCenters_holds

end Go.Proofs.Ytcnfdmnjeklbiaa
