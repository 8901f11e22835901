/- THE LAW FnExactMotifOf: the program's MotifOf returns what the reference's returns, for all arguments. No condition. -/
import Derived.Test.YtaplnfdlcihhpaaLawKit
import Derived.Test.YtaplnfdlcihhpaaK15
import Derived.Test.YtaplnfdlcihhpaaK47
namespace Go.Proofs.Ytaplnfdlcihhpaa
set_option maxRecDepth 100000
set_option maxHeartbeats 4000000
open Go.ChangeShapes Go.WideShapes Go.ChangeAt Go.RowKit
set_option linter.unusedVariables false


theorem FnExactMotifOf_walk (w : World) (v0 : Value) (c0 : List Nat) (hv0 : SB w v0 c0) (a1 : Int) (ha1 : (Lit.int .i64 a1).wf = true) :
    Calls Try.prog 5 #[v0, .int .i64 a1] w fun z w' => z = .returned (.bool true) ∧ Below w.heap.size w w' := by
  obtain ⟨ao0, cp0, rfl, hcap0, hlen0⟩ := hv0.sl.slice2
  have HV0 := Lib.hid hv0
  clear hv0
  by_cases hbig0 : (1048576 : Int) < (c0.length : Int)
  · go_enter Try.func5, Try.ntmps5
    go_wp2_with fail
    go_ret
    exact ⟨rfl, Below.refl _ _⟩
  have hsm0 : c0.length < 1099511627776 := by omega
  generalize hQ : mtQ c0 a1 = Q
  have HQ := Lib.hid hQ
  clear hQ
  have HB0 := Lib.hid (Below.refl w.heap.size w)
  have hz0 : w.heap.size ≤ w.heap.size := Nat.le_refl _
  go_enter Try.func5, Try.ntmps5
  go_wp2_with fail
  refine (l_toFloat32S _ c0 _ (HV0.out.below HB0.out (Nat.le_refl _)) hsm0).mono ?_
  rintro z w1 ⟨u1, rfl, ho, hb⟩
  have hw := Wi.of_below hb
  have hz1 := hw.size
  have HB1 := Lib.hid (HB0.out.trans (hw.below (by omega) (by omega)))
  clear HB0 hw
  have X1_1 := Lib.hid (FW.of ho)
  clear ho hb
  have hc2 := s_MotifOf u1 c0 a1 _ X1_1.out.sb
  rw [HQ.out] at hc2
  go_wp2_with fail
  refine (hc2).mono ?_
  rintro z w2 ⟨⟨n2, m2, r2, b2, rfl, hr, hn2, hm2, hr2, hb2⟩, hb⟩
  have hw := Wi.of_below hb
  have hz2 := hw.size
  have X1_2 := Lib.hid (X1_1.out.keep hw (by omega))
  clear X1_1
  have HB2 := Lib.hid (HB1.out.trans (hw.below (by omega) (by omega)))
  clear HB1 hw
  have R2 := Lib.hid hr2
  have hr2 := hr
  have HBB2 := Lib.hid hb2
  subst hn2
  subst hm2
  clear hr hr2 hb2
  clear hb hc2
  clear X1_2
  go_wp2_with fail
  refine (l_toFloat32S _ c0 _ (HV0.out.below HB2.out (Nat.le_refl _)) hsm0).mono ?_
  rintro z w3 ⟨u3, rfl, ho, hb⟩
  have hw := Wi.of_below hb
  have hz3 := hw.size
  have HB3 := Lib.hid (HB2.out.trans (hw.below (by omega) (by omega)))
  clear HB2 hw
  have X3_3 := Lib.hid (FW.of ho)
  clear ho hb
  have hc4 := i_MotifOf u3 c0 a1 _ X3_3.out.sb
  rw [HQ.out] at hc4
  go_wp2_with fail
  refine (hc4).mono ?_
  rintro z w4 ⟨⟨n4, m4, r4, b4, rfl, hr, hn2, hm2, hr2, hb2⟩, hb⟩
  have hw := Wi.of_below hb
  have hz4 := hw.size
  have X3_4 := Lib.hid (X3_3.out.keep hw (by omega))
  clear X3_3
  have HB4 := Lib.hid (HB3.out.trans (hw.below (by omega) (by omega)))
  clear HB3 hw
  have R4 := Lib.hid hr2
  have hr4 := hr
  have HBB4 := Lib.hid hb2
  subst hn2
  subst hm2
  clear hr hr2 hb2
  clear hb hc4
  obtain rfl : b4 = b2 := (Hid.out HBB4).trans (Hid.out HBB2).symm
  go_wp2_with (first | (refine wpList_wd (by kernel_rfl) (by kernel_rfl) _ rfl ?_; intro r n hr hlt; have HR := Lib.hid hr; clear hr) | (refine wpList_wd_g rfl (by kernel_rfl) (by kernel_rfl) _ rfl ?_; intro r n hr hlt; have HR := Lib.hid hr; clear hr))
  refine (l_sameFloat _ _ (by rw [Hid.out ‹Hid (cn .f64 _ = wd (cn .f32 r4))›, Hid.out ‹Hid (cn .f64 _ = wd (cn .f32 r2))›, R4.out, R2.out]) _).mono ?_
  rintro z w5 ⟨rfl, hd⟩
  have hw : Wi 0 0 w4 w5 := by first | exact Wi.undrew (Dr.wi hd) | exact Wi.undrew (Wi.undrew (Dr.wi hd)) | exact Dr.wi hd
  have hz5 := hw.size
  have X3_5 := Lib.hid (X3_4.out.keep hw (by omega))
  clear X3_4
  have HB5 := Lib.hid (HB4.out.trans (hw.below (by omega) (by omega)))
  clear HB4 hw hd
  go_wp2_with fail
  refine (l_toFloat32S _ c0 _ (HV0.out.below HB5.out (Nat.le_refl _)) hsm0).mono ?_
  rintro z w6 ⟨u5, rfl, ho, hb⟩
  have hw := Wi.of_below hb
  have hz6 := hw.size
  have X3_6 := Lib.hid (X3_5.out.keep hw (by omega))
  clear X3_5
  have HB6 := Lib.hid (HB5.out.trans (hw.below (by omega) (by omega)))
  clear HB5 hw
  have X5_6 := Lib.hid (FW.of ho)
  clear ho hb
  go_wp2_with fail
  refine (l_eqFloat32S u3 u5 (c0) _ X3_6.out.sl X5_6.out.sl).mono ?_
  rintro z w7 ⟨rfl, hd⟩
  have hw := Dr.wi hd
  have hz7 := hw.size
  have X3_7 := Lib.hid (X3_6.out.keep hw (by omega))
  clear X3_6
  have X5_7 := Lib.hid (X5_6.out.keep hw (by omega))
  clear X5_6
  have HB7 := Lib.hid (HB6.out.trans (hw.below (by omega) (by omega)))
  clear HB6 hw
  clear hd
  clear X5_7
  go_wp2_with fail
  go_ret
  exact ⟨rfl, HB7.out⟩
set_option maxRecDepth 100000 in
theorem FnExactMotifOf_lifted (os : Os) (started : os.Started) (H : Type) (enc : TypeId × Value → H) :
    ReturnsInHanded {} Try.checked os 5 .any (Rows.fnExactMotifOfSpec.pre6 enc Try.prog Try.f5 Rows.fnExactMotifOfRow.domain false) (Rows.fnExactMotifOfSpec.post enc Try.prog Try.f5 false true false false) := by
  refine returnsInHanded_of_change (C := Try.checked) own started (by kernel_rfl) Try.func5
    (ChangeSpec.witness6 (enc := enc) (C := Try.checked) false ⟨#[], #[.slice none 0 0, .int .i64 0], []⟩ 8 (by kernel_rfl) (by kernel_rfl) (by kernel_rfl) (by kernel_rfl)) ?_
  intro W base args ds gs before hval0 hW hcnd _
  have hval : ∀ (j : Nat) t v, Try.f5.params[j]? = some t → args[j]? = some v → Value.okWide Try.prog W .any base t v := hval0
  have hW' := hW
  obtain ⟨p, q, hA0, hV, rfl, hfz, hnd⟩ := hW
  have hA : DataW.TrodAll enc Try.prog W 0 (fun _ => true) true Try.f5.params.toList args.toList ds p := hA0
  rw [Try.params5] at hA hval
  obtain ⟨v0, vs0, d0, ds0, p0, q0, hargs, rfl, rfl, h0, r0⟩ := trodAll_cons hA
  obtain ⟨v1, vs1, d1, ds1, p1, q1, rfl, rfl, rfl, h1, r1⟩ := trodAll_cons r0
  obtain ⟨rfl, rfl, rfl⟩ := trodAll_nil r1
  obtain rfl : args = #[v0, v1] := by cases args; simp_all
  obtain ⟨rfl, rfl⟩ := trodVars_none hV
  have k0 := h0
  have lt0 : ∀ x ∈ p0, x.block < W.heap.size := by obtain ⟨m, hm⟩ := k0; exact DataW.trod_lt m _ _ _ hm
  have k1 := h1
  have lt1 : ∀ x ∈ p1, x.block < W.heap.size := by obtain ⟨m, hm⟩ := k1; exact DataW.trod_lt m _ _ _ hm
  obtain ⟨b0, ln0, cp0, rfl⟩ := okWide_slice Try.underlying32 (hval 0 32 v0 rfl rfl)
  obtain ⟨c0, hc0⟩ : ∃ cs, SB W (.slice b0 ln0 cp0) cs := by obtain ⟨fuel, hfu⟩ := h0; exact open_f32s Try.underlying32 Try.underlying25 (by kernel_rfl) hfu
  obtain ⟨a1, rfl, _, _, hi1⟩ := open_int Try.underlying2 (hval 1 2 v1 rfl rfl) h1
  clear hA0 hval0
  refine (FnExactMotifOf_walk (w := W) _ c0 hc0 a1 hi1).mono fun e W' ⟨he, bel⟩ => ?_
  subst he
  exact ⟨_, rfl, _, _, _, [], _, [], hW', trodAll_mk1 (shut_bool Try.underlying4 _), (trodAll_cons_mk (Below.trod laidOut (by kernel_rfl) (of_decide_eq_true (by kernel_rfl)) k0 bel lt0) (trodAll_cons_mk (Below.trod laidOut (by kernel_rfl) (of_decide_eq_true (by kernel_rfl)) k1 bel lt1) trodAll_mk0)), rfl, bel.frame _, fun h => by cases h⟩

theorem fnExactMotifOf_holds : Rows.FnExactMotifOfSaid :=
  OpenClaim.holds_of_wide 5 Try.f5 rfl rfl rfl rfl rfl rfl rfl ⟨rfl, rfl, rfl, rfl, rfl⟩ rfl rfl rfl rfl rfl (by kernel_rfl) Try.func5 (by kernel_rfl)
    (of_decide_eq_true (by kernel_rfl)) (by unfold Func.isWrapper; first | (rw [if_pos (by decide +kernel)]; kernel_rfl) | (rw [if_neg (by decide +kernel)]; exact ⟨rfl, rfl⟩))
    (fun os started H enc _ => FnExactMotifOf_lifted os started H enc)
#print axioms fnExactMotifOf_holds

end Go.Proofs.Ytaplnfdlcihhpaa
