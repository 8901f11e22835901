/- THE LAW FnExactDriftAt: the program's DriftAt returns what the reference's returns, for all arguments. No condition. -/
import Derived.Test.YtcnfdmnjeklbiaaLawKit
import Derived.Test.YtcnfdmnjeklbiaaK14
import Derived.Test.YtcnfdmnjeklbiaaK15
namespace Go.Proofs.Ytcnfdmnjeklbiaa
set_option maxRecDepth 100000
set_option maxHeartbeats 4000000
open Go.ChangeShapes Go.WideShapes Go.ChangeAt Go.RowKit
set_option linter.unusedVariables false


theorem FnExactDriftAt_walk (w : World) (v0 : Value) (c0 : List Nat) (hv0 : SB w v0 c0) (a1 : Nat) (ha1 : a1 < 4294967296) (a2 : Nat) (ha2 : a2 < 4294967296) (a3 : Nat) (ha3 : a3 < 4294967296) :
    Calls Try.prog 5 #[v0, .float .f32 a1, .float .f32 a2, .float .f32 a3] w fun z w' => z = .returned (.bool true) ∧ Below w.heap.size w w' := by
  obtain ⟨ao0, cp0, rfl, hcap0, hlen0⟩ := hv0.sl.slice2
  have HV0 := Lib.hid hv0
  clear hv0
  by_cases hbig0 : (1048576 : Int) < (c0.length : Int)
  · go_enter Try.func5, Try.ntmps5
    go_wp2_with fail
    go_ret
    exact ⟨rfl, Below.refl _ _⟩
  have hsm0 : c0.length < 1099511627776 := by omega
  generalize hQ : daQ c0 (cn .f32 a1) (cn .f32 a2) (cn .f32 a3) = Q
  have HQ := Lib.hid hQ
  clear hQ
  have HB0 := Lib.hid (Below.refl w.heap.size w)
  have hz0 : w.heap.size ≤ w.heap.size := Nat.le_refl _
  go_enter Try.func5, Try.ntmps5
  go_wp2_with fail
  refine (l_toFloat32S _ c0 _ (HV0.out.below HB0.out (Nat.le_refl _)) hsm0).mono ?_
  rintro z w1 ⟨u1, rfl, ho, hb⟩
  have hw := Wi.of_below hb
  have hz1 := hw.size
  have HB1 := Lib.hid (HB0.out.trans (hw.below (by omega) (by omega)))
  clear HB0 hw
  have X1_1 := Lib.hid (FW.of ho)
  clear ho hb
  have hc2 := s_DriftAt u1 c0 a1 a2 a3 _ X1_1.out.sb
  rw [HQ.out] at hc2
  go_wp2_with fail
  refine (hc2).mono ?_
  rintro z w2 ⟨rfl, hb⟩
  have hw := Wi.of_below hb
  have hz2 := hw.size
  have X1_2 := Lib.hid (X1_1.out.keep hw (by omega))
  clear X1_1
  have HB2 := Lib.hid (HB1.out.trans (hw.below (by omega) (by omega)))
  clear HB1 hw
  clear hb hc2
  clear X1_2
  go_wp2_with fail
  refine (l_toFloat32S _ c0 _ (HV0.out.below HB2.out (Nat.le_refl _)) hsm0).mono ?_
  rintro z w3 ⟨u3, rfl, ho, hb⟩
  have hw := Wi.of_below hb
  have hz3 := hw.size
  have HB3 := Lib.hid (HB2.out.trans (hw.below (by omega) (by omega)))
  clear HB2 hw
  have X3_3 := Lib.hid (FW.of ho)
  clear ho hb
  have hc4 := i_DriftAt u3 c0 a1 a2 a3 _ X3_3.out.sb
  rw [HQ.out] at hc4
  go_wp2_with fail
  refine (hc4).mono ?_
  rintro z w4 ⟨rfl, hb⟩
  have hw := Wi.of_below hb
  have hz4 := hw.size
  have X3_4 := Lib.hid (X3_3.out.keep hw (by omega))
  clear X3_3
  have HB4 := Lib.hid (HB3.out.trans (hw.below (by omega) (by omega)))
  clear HB3 hw
  clear hb hc4
  go_wp2_with fail
  refine (l_toFloat32S _ c0 _ (HV0.out.below HB4.out (Nat.le_refl _)) hsm0).mono ?_
  rintro z w5 ⟨u5, rfl, ho, hb⟩
  have hw := Wi.of_below hb
  have hz5 := hw.size
  have X3_5 := Lib.hid (X3_4.out.keep hw (by omega))
  clear X3_4
  have HB5 := Lib.hid (HB4.out.trans (hw.below (by omega) (by omega)))
  clear HB4 hw
  have X5_5 := Lib.hid (FW.of ho)
  clear ho hb
  go_wp2_with fail
  refine (l_eqFloat32S u3 u5 (c0) _ X3_5.out.sl X5_5.out.sl).mono ?_
  rintro z w6 ⟨rfl, hd⟩
  have hw := Dr.wi hd
  have hz6 := hw.size
  have X3_6 := Lib.hid (X3_5.out.keep hw (by omega))
  clear X3_5
  have X5_6 := Lib.hid (X5_5.out.keep hw (by omega))
  clear X5_5
  have HB6 := Lib.hid (HB5.out.trans (hw.below (by omega) (by omega)))
  clear HB5 hw
  clear hd
  clear X5_6
  go_wp2_with fail
  go_ret
  exact ⟨rfl, HB6.out⟩
set_option maxRecDepth 100000 in
theorem FnExactDriftAt_lifted (os : Os) (started : os.Started) (H : Type) (enc : TypeId × Value → H) :
    ReturnsInHanded {} Try.checked os 5 .any (Rows.fnExactDriftAtSpec.pre6 enc Try.prog Try.f5 Rows.fnExactDriftAtRow.domain false) (Rows.fnExactDriftAtSpec.post enc Try.prog Try.f5 false true false false) := by
  refine returnsInHanded_of_change (C := Try.checked) own started (by kernel_rfl) Try.func5
    (ChangeSpec.witness6 (enc := enc) (C := Try.checked) false ⟨#[], #[.slice none 0 0, .float .f32 0, .float .f32 0, .float .f32 0], []⟩ 8 (by kernel_rfl) (by kernel_rfl) (by kernel_rfl) (by kernel_rfl)) ?_
  intro W base args ds gs before hval0 hW hcnd _
  have hval : ∀ (j : Nat) t v, Try.f5.params[j]? = some t → args[j]? = some v → Value.okWide Try.prog W .any base t v := hval0
  have hW' := hW
  obtain ⟨p, q, hA0, hV, rfl, hfz, hnd⟩ := hW
  have hA : DataW.TrodAll enc Try.prog W 0 (fun _ => true) true Try.f5.params.toList args.toList ds p := hA0
  rw [Try.params5] at hA hval
  obtain ⟨v0, vs0, d0, ds0, p0, q0, hargs, rfl, rfl, h0, r0⟩ := trodAll_cons hA
  obtain ⟨v1, vs1, d1, ds1, p1, q1, rfl, rfl, rfl, h1, r1⟩ := trodAll_cons r0
  obtain ⟨v2, vs2, d2, ds2, p2, q2, rfl, rfl, rfl, h2, r2⟩ := trodAll_cons r1
  obtain ⟨v3, vs3, d3, ds3, p3, q3, rfl, rfl, rfl, h3, r3⟩ := trodAll_cons r2
  obtain ⟨rfl, rfl, rfl⟩ := trodAll_nil r3
  obtain rfl : args = #[v0, v1, v2, v3] := by cases args; simp_all
  obtain ⟨rfl, rfl⟩ := trodVars_none hV
  have k0 := h0
  have lt0 : ∀ x ∈ p0, x.block < W.heap.size := by obtain ⟨m, hm⟩ := k0; exact DataW.trod_lt m _ _ _ hm
  have k1 := h1
  have lt1 : ∀ x ∈ p1, x.block < W.heap.size := by obtain ⟨m, hm⟩ := k1; exact DataW.trod_lt m _ _ _ hm
  have k2 := h2
  have lt2 : ∀ x ∈ p2, x.block < W.heap.size := by obtain ⟨m, hm⟩ := k2; exact DataW.trod_lt m _ _ _ hm
  have k3 := h3
  have lt3 : ∀ x ∈ p3, x.block < W.heap.size := by obtain ⟨m, hm⟩ := k3; exact DataW.trod_lt m _ _ _ hm
  obtain ⟨b0, ln0, cp0, rfl⟩ := okWide_slice Try.underlying22 (hval 0 22 v0 rfl rfl)
  obtain ⟨c0, hc0⟩ : ∃ cs, SB W (.slice b0 ln0 cp0) cs := by obtain ⟨fuel, hfu⟩ := h0; exact open_f32s Try.underlying22 Try.underlying23 (by kernel_rfl) hfu
  obtain ⟨a1, rfl, _, _, hf1⟩ := open_float Try.underlying23 (hval 1 23 v1 rfl rfl) h1
  obtain ⟨a2, rfl, _, _, hf2⟩ := open_float Try.underlying23 (hval 2 23 v2 rfl rfl) h2
  obtain ⟨a3, rfl, _, _, hf3⟩ := open_float Try.underlying23 (hval 3 23 v3 rfl rfl) h3
  clear hA0 hval0
  refine (FnExactDriftAt_walk (w := W) _ c0 hc0 a1 (f32_lt hf1) a2 (f32_lt hf2) a3 (f32_lt hf3)).mono fun e W' ⟨he, bel⟩ => ?_
  subst he
  exact ⟨_, rfl, _, _, _, [], _, [], hW', trodAll_mk1 (shut_bool Try.underlying4 _), (trodAll_cons_mk (Below.trod laidOut (by kernel_rfl) (of_decide_eq_true (by kernel_rfl)) k0 bel lt0) (trodAll_cons_mk (Below.trod laidOut (by kernel_rfl) (of_decide_eq_true (by kernel_rfl)) k1 bel lt1) (trodAll_cons_mk (Below.trod laidOut (by kernel_rfl) (of_decide_eq_true (by kernel_rfl)) k2 bel lt2) (trodAll_cons_mk (Below.trod laidOut (by kernel_rfl) (of_decide_eq_true (by kernel_rfl)) k3 bel lt3) trodAll_mk0)))), rfl, bel.frame _, fun h => by cases h⟩

theorem fnExactDriftAt_holds : Rows.FnExactDriftAtSaid :=
  OpenClaim.holds_of_wide 5 Try.f5 rfl rfl rfl rfl rfl rfl rfl ⟨rfl, rfl, rfl, rfl, rfl⟩ rfl rfl rfl rfl rfl (by kernel_rfl) Try.func5 (by kernel_rfl)
    (of_decide_eq_true (by kernel_rfl)) (by unfold Func.isWrapper; first | (rw [if_pos (by decide +kernel)]; kernel_rfl) | (rw [if_neg (by decide +kernel)]; exact ⟨rfl, rfl⟩))
    (fun os started H enc _ => FnExactDriftAt_lifted os started H enc)
#print axioms fnExactDriftAt_holds

end Go.Proofs.Ytcnfdmnjeklbiaa
