/- THE LAW FnExactSameSaved: the program's SameSaved returns what the reference's returns, for all arguments. No condition. -/
import Derived.Test.YtfckfdaloamkdaaLawKit
import Derived.Test.YtfckfdaloamkdaaK71
namespace Go.Proofs.Ytfckfdaloamkdaa
set_option linter.unusedSimpArgs false
set_option linter.unusedVariables false
set_option maxRecDepth 100000
set_option maxHeartbeats 4000000
open Go.ChangeShapes Go.WideShapes Go.ChangeAt Go.RowKit


theorem FnExactSameSaved_walk (w : World) (u : Value) (L : List Sd) (hu : SVL w u L) (v : Value) (M : List Sd) (hv : SVL w v M) :
    Calls Try.prog 3 #[u, v] w fun z w' => z = .returned (.bool true) ∧ Below w.heap.size w w' := by
  have HU := Lib.hid hu
  have HV := Lib.hid hv
  clear hu hv
  by_cases h1 : (szP L L.length : Int) ≤ 1048576
  case neg =>
    have H1 := Lib.hid (show szL L 1048576 = -1 from if_neg h1)
    go_enter Try.func3, Try.ntmps3
    go_wp2_with fail
    refine (l_szSavedS _ L _ _ HU.out (by omega) (by omega)).mono ?_
    rintro z w1 ⟨rfl, hb1⟩
    rw [H1.out]
    go_wp2_with fail
    go_ret
    exact ⟨rfl, hb1⟩
  have H1 := Lib.hid (show szL L 1048576 = 1048576 - szP L L.length from if_pos h1)
  by_cases h2 : (szP M M.length : Int) ≤ 1048576 - szP L L.length
  case neg =>
    have H2 := Lib.hid (show szL M (1048576 - szP L L.length) = -1 from if_neg h2)
    go_enter Try.func3, Try.ntmps3
    go_wp2_with fail
    refine (l_szSavedS _ L _ _ HU.out (by omega) (by omega)).mono ?_
    rintro z w1 ⟨rfl, hb1⟩
    rw [H1.out]
    go_wp2_with fail
    refine (l_szSavedS _ M _ _ (HV.out.keep hb1) (by omega) (by omega)).mono ?_
    rintro z w2 ⟨rfl, hb2⟩
    rw [H2.out]
    replace hb1 := hb1.trans (hb2.mono hb1.size)
    clear hb2
    go_wp2_with fail
    go_ret
    exact ⟨rfl, hb1⟩
  have H2 := Lib.hid (show szL M (1048576 - szP L L.length) = 1048576 - szP L L.length - szP M M.length from if_pos h2)
  generalize hQ : svSame L M = Q
  have HQ := Lib.hid hQ
  clear hQ
  go_enter Try.func3, Try.ntmps3
  go_wp2_with fail
  refine (l_szSavedS _ L _ _ HU.out (by omega) (by omega)).mono ?_
  rintro z w1 ⟨rfl, hbw⟩
  rw [H1.out]
  go_wp2_with fail
  refine (l_szSavedS _ M _ _ (HV.out.keep hbw) (by omega) (by omega)).mono ?_
  rintro z w2 ⟨rfl, hb2⟩
  rw [H2.out]
  replace hbw := hbw.trans (hb2.mono hbw.size)
  clear hb2
  go_wp2_with fail
  refine (l_toSavedS _ L _ (HU.out.keep hbw) (by omega)).mono ?_
  rintro z w3 ⟨u3, rfl, hu3, hb3⟩
  replace hbw := hbw.trans (hb3.mono hbw.size)
  have HU3 := Lib.hid hu3
  clear hb3 hu3
  go_wp2_with fail
  refine (l_toSavedS _ M _ (HV.out.keep hbw) (by omega)).mono ?_
  rintro z w4 ⟨u4, rfl, hu4, hb4⟩
  replace hbw := hbw.trans (hb4.mono hbw.size)
  replace HU3 := Lib.hid (HU3.out.keep hb4)
  have HU4 := Lib.hid hu4
  clear hb4 hu4
  go_wp2_with fail
  refine (s_SameSaved _ _ L M _ HU3.out HU4.out).mono ?_
  rintro z w5 ⟨rfl, n5, rfl⟩
  rw [HQ.out]
  clear HU3 HU4
  go_wp2_with fail
  refine (l_toSavedS _ L _ (HU.out.keep (by first | exact hbw | exact below_drewN hbw _ | exact Below.drew hbw)) (by omega)).mono ?_
  rintro z w6 ⟨u6, rfl, hu6, hb6⟩
  replace hbw := (show Below w.heap.size w _ from by first | exact hbw | exact below_drewN hbw _ | exact Below.drew hbw).trans (hb6.mono (by have := hbw.size; (try simp only [World.heap_drewN]); exact this))
  have HU6 := Lib.hid hu6
  clear hb6 hu6
  obtain ⟨ao6, c6, rfl, e6, f6⟩ := HU6.out.slice
  go_wp2_with fail
  refine (l_toSavedS _ M _ (HV.out.keep hbw) (by omega)).mono ?_
  rintro z w7 ⟨u7, rfl, hu7, hb7⟩
  replace hbw := hbw.trans (hb7.mono hbw.size)
  replace HU6 := Lib.hid (HU6.out.keep hb7)
  have HU7 := Lib.hid hu7
  clear hb7 hu7
  obtain ⟨ao7, c7, rfl, e7, f7⟩ := HU7.out.slice
  go_wp2_with fail
  refine (i_SameSaved _ _ L M _ HU6.out HU7.out).mono ?_
  rintro z w8 ⟨rfl, hb8⟩
  rw [HQ.out]
  replace hbw := hbw.trans (hb8.mono hbw.size)
  replace HU6 := Lib.hid (HU6.out.keep hb8)
  replace HU7 := Lib.hid (HU7.out.keep hb8)
  clear hb8
  go_wp2_with fail
  refine (l_toSavedS _ L _ (HU.out.keep hbw) (by omega)).mono ?_
  rintro z w9 ⟨u9, rfl, hu9, hb9⟩
  replace hbw := hbw.trans (hb9.mono hbw.size)
  replace HU6 := Lib.hid (HU6.out.keep hb9)
  replace HU7 := Lib.hid (HU7.out.keep hb9)
  have HU9 := Lib.hid hu9
  clear hb9 hu9
  go_wp2_with fail
  refine (l_eqSavedS _ _ L _ HU6.out HU9.out).mono ?_
  rintro z w10 ⟨rfl, hb10⟩
  replace hbw := hbw.trans (hb10.mono hbw.size)
  replace HU7 := Lib.hid (HU7.out.keep hb10)
  clear hb10 HU6 HU9
  go_wp2_with fail
  refine (l_toSavedS _ M _ (HV.out.keep hbw) (by omega)).mono ?_
  rintro z w11 ⟨u11, rfl, hu11, hb11⟩
  replace hbw := hbw.trans (hb11.mono hbw.size)
  replace HU7 := Lib.hid (HU7.out.keep hb11)
  have HU11 := Lib.hid hu11
  clear hb11 hu11
  go_wp2_with fail
  refine (l_eqSavedS _ _ M _ HU7.out HU11.out).mono ?_
  rintro z w12 ⟨rfl, hb12⟩
  replace hbw := hbw.trans (hb12.mono hbw.size)
  clear hb12 HU7 HU11
  go_wp2_with fail
  go_ret
  exact ⟨rfl, hbw⟩
set_option maxRecDepth 100000 in
theorem FnExactSameSaved_lifted (os : Os) (started : os.Started) (H : Type) (enc : TypeId × Value → H) :
    ReturnsInHanded {} Try.checked os 3 .any (Rows.fnExactSameSavedSpec.pre6 enc Try.prog Try.f3 Rows.fnExactSameSavedRow.domain false) (Rows.fnExactSameSavedSpec.post enc Try.prog Try.f3 false true false false) := by
  refine returnsInHanded_of_change (C := Try.checked) own started (by kernel_rfl) Try.func3
    (ChangeSpec.witness6 (enc := enc) (C := Try.checked) false ⟨#[], #[.slice none 0 0, .slice none 0 0], []⟩ 8 (by kernel_rfl) (by kernel_rfl) (by kernel_rfl) (by kernel_rfl)) ?_
  intro W base args ds gs before hval0 hW hcnd _
  have hval : ∀ (j : Nat) t v, Try.f3.params[j]? = some t → args[j]? = some v → Value.okWide Try.prog W .any base t v := hval0
  have hW' := hW
  obtain ⟨p, q, hA0, hV, rfl, hfz, hnd⟩ := hW
  have hA : DataW.TrodAll enc Try.prog W 0 (fun _ => true) true Try.f3.params.toList args.toList ds p := hA0
  rw [Try.params3] at hA hval
  obtain ⟨v0, vs0, d0, ds0, p0, q0, hargs, rfl, rfl, h0, r0⟩ := trodAll_cons hA
  obtain ⟨v1, vs1, d1, ds1, p1, q1, rfl, rfl, rfl, h1, r1⟩ := trodAll_cons r0
  obtain ⟨rfl, rfl, rfl⟩ := trodAll_nil r1
  obtain rfl : args = #[v0, v1] := by cases args; simp_all
  obtain ⟨rfl, rfl⟩ := trodVars_none hV
  have k0 := h0
  have lt0 : ∀ x ∈ p0, x.block < W.heap.size := by obtain ⟨m, hm⟩ := k0; exact DataW.trod_lt m _ _ _ hm
  have k1 := h1
  have lt1 : ∀ x ∈ p1, x.block < W.heap.size := by obtain ⟨m, hm⟩ := k1; exact DataW.trod_lt m _ _ _ hm
  obtain ⟨b0, ln0, cp0, rfl⟩ := okWide_slice Try.underlying22 (hval 0 22 v0 rfl rfl)
  obtain ⟨c0, hc0⟩ : ∃ L, SVL W (.slice b0 ln0 cp0) L := by obtain ⟨fuel, hfu⟩ := h0; exact open_savedS hfu
  obtain ⟨b1, ln1, cp1, rfl⟩ := okWide_slice Try.underlying22 (hval 1 22 v1 rfl rfl)
  obtain ⟨c1, hc1⟩ : ∃ L, SVL W (.slice b1 ln1 cp1) L := by obtain ⟨fuel, hfu⟩ := h1; exact open_savedS hfu
  clear hA0 hval0
  refine (FnExactSameSaved_walk (w := W) _ c0 hc0 _ c1 hc1).mono fun e W' ⟨he, bel⟩ => ?_
  subst he
  exact ⟨_, rfl, _, _, _, [], _, [], hW', trodAll_mk1 (shut_bool Try.underlying4 _), (trodAll_cons_mk (Below.trod laidOut (by kernel_rfl) (of_decide_eq_true (by kernel_rfl)) k0 bel lt0) (trodAll_cons_mk (Below.trod laidOut (by kernel_rfl) (of_decide_eq_true (by kernel_rfl)) k1 bel lt1) trodAll_mk0)), rfl, bel.frame _, fun h => by cases h⟩

theorem fnExactSameSaved_holds : Rows.FnExactSameSavedSaid :=
  OpenClaim.holds_of_wide 3 Try.f3 rfl rfl rfl rfl rfl rfl rfl ⟨rfl, rfl, rfl, rfl, rfl⟩ rfl rfl rfl rfl rfl (by kernel_rfl) Try.func3 (by kernel_rfl)
    (of_decide_eq_true (by kernel_rfl)) (by unfold Func.isWrapper; first | (rw [if_pos (by decide +kernel)]; kernel_rfl) | (rw [if_neg (by decide +kernel)]; exact ⟨rfl, rfl⟩))
    (fun os started H enc _ => FnExactSameSaved_lifted os started H enc)
#print axioms fnExactSameSaved_holds

end Go.Proofs.Ytfckfdaloamkdaa
