/- THE LAW FnExactStoreAll: the program's StoreAll returns what the reference's returns, for all arguments. No condition. -/
import Derived.Test.YtfckfdaloamkdaaLawKit
import Derived.Test.YtfckfdaloamkdaaK76
namespace Go.Proofs.Ytfckfdaloamkdaa
set_option linter.unusedSimpArgs false
set_option linter.unusedVariables false
set_option maxRecDepth 100000
set_option maxHeartbeats 4000000
open Go.ChangeShapes Go.WideShapes Go.ChangeAt Go.RowKit


theorem FnExactStoreAll_walk (w : World) (u : Value) (L : List Sd) (hu : SVL w u L) :
    Calls Try.prog 5 #[u] w fun z w' => z = .returned (.bool true) ∧ Below w.heap.size w w' := by
  have HU := Lib.hid hu
  clear hu
  by_cases h1 : (szP L L.length : Int) ≤ 1048576
  case neg =>
    have H1 := Lib.hid (show szL L 1048576 = -1 from if_neg h1)
    go_enter Try.func5, Try.ntmps5
    go_wp2_with fail
    refine (l_szSavedS _ L _ _ HU.out (by omega) (by omega)).mono ?_
    rintro z w1 ⟨rfl, hb1⟩
    rw [H1.out]
    go_wp2_with fail
    go_ret
    exact ⟨rfl, hb1⟩
  have H1 := Lib.hid (show szL L 1048576 = 1048576 - szP L L.length from if_pos h1)
  generalize hQ : svAllQ L = Q
  have HQ := Lib.hid hQ
  clear hQ
  go_enter Try.func5, Try.ntmps5
  go_wp2_with fail
  refine (l_szSavedS _ L _ _ HU.out (by omega) (by omega)).mono ?_
  rintro z w1 ⟨rfl, hbw⟩
  rw [H1.out]
  go_wp2_with fail
  refine (l_toSavedS _ L _ (HU.out.keep hbw) (by omega)).mono ?_
  rintro z w3 ⟨u3, rfl, hu3, hb3⟩
  replace hbw := hbw.trans (hb3.mono hbw.size)
  have HU3 := Lib.hid hu3
  clear hb3 hu3
  go_wp2_with fail
  refine (s_StoreAll _ L _ HU3.out).mono ?_
  rintro z w5 ⟨rfl, hb5⟩
  rw [HQ.out]
  replace hbw := hbw.trans (hb5.mono hbw.size)
  clear HU3 hb5
  go_wp2_with fail
  refine (l_toSavedS _ L _ (HU.out.keep hbw) (by omega)).mono ?_
  rintro z w6 ⟨u6, rfl, hu6, hb6⟩
  replace hbw := hbw.trans (hb6.mono hbw.size)
  have HU6 := Lib.hid hu6
  clear hb6 hu6
  obtain ⟨ao6, c6, rfl, e6, f6⟩ := HU6.out.slice
  go_wp2_with fail
  refine (i_StoreAll _ L _ HU6.out).mono ?_
  rintro z w8 ⟨rfl, hb8⟩
  rw [HQ.out]
  replace hbw := hbw.trans (hb8.mono hbw.size)
  replace HU6 := Lib.hid (HU6.out.keep hb8)
  clear hb8
  go_wp2_with fail
  refine (l_toSavedS _ L _ (HU.out.keep hbw) (by omega)).mono ?_
  rintro z w9 ⟨u9, rfl, hu9, hb9⟩
  replace hbw := hbw.trans (hb9.mono hbw.size)
  replace HU6 := Lib.hid (HU6.out.keep hb9)
  have HU9 := Lib.hid hu9
  clear hb9 hu9
  go_wp2_with fail
  refine (l_eqSavedS _ _ L _ HU6.out HU9.out).mono ?_
  rintro z w10 ⟨rfl, hb10⟩
  replace hbw := hbw.trans (hb10.mono hbw.size)
  clear hb10 HU6 HU9
  go_wp2_with fail
  go_ret
  exact ⟨rfl, hbw⟩
set_option maxRecDepth 100000 in
theorem FnExactStoreAll_lifted (os : Os) (started : os.Started) (H : Type) (enc : TypeId × Value → H) :
    ReturnsInHanded {} Try.checked os 5 .any (Rows.fnExactStoreAllSpec.pre6 enc Try.prog Try.f5 Rows.fnExactStoreAllRow.domain false) (Rows.fnExactStoreAllSpec.post enc Try.prog Try.f5 false true false false) := by
  refine returnsInHanded_of_change (C := Try.checked) own started (by kernel_rfl) Try.func5
    (ChangeSpec.witness6 (enc := enc) (C := Try.checked) false ⟨#[], #[.slice none 0 0], []⟩ 8 (by kernel_rfl) (by kernel_rfl) (by kernel_rfl) (by kernel_rfl)) ?_
  intro W base args ds gs before hval0 hW hcnd _
  have hval : ∀ (j : Nat) t v, Try.f5.params[j]? = some t → args[j]? = some v → Value.okWide Try.prog W .any base t v := hval0
  have hW' := hW
  obtain ⟨p, q, hA0, hV, rfl, hfz, hnd⟩ := hW
  have hA : DataW.TrodAll enc Try.prog W 0 (fun _ => true) true Try.f5.params.toList args.toList ds p := hA0
  rw [Try.params5] at hA hval
  obtain ⟨v0, vs0, d0, ds0, p0, q0, hargs, rfl, rfl, h0, r0⟩ := trodAll_cons hA
  obtain ⟨rfl, rfl, rfl⟩ := trodAll_nil r0
  obtain rfl : args = #[v0] := by cases args; simp_all
  obtain ⟨rfl, rfl⟩ := trodVars_none hV
  have k0 := h0
  have lt0 : ∀ x ∈ p0, x.block < W.heap.size := by obtain ⟨m, hm⟩ := k0; exact DataW.trod_lt m _ _ _ hm
  obtain ⟨b0, ln0, cp0, rfl⟩ := okWide_slice Try.underlying22 (hval 0 22 v0 rfl rfl)
  obtain ⟨c0, hc0⟩ : ∃ L, SVL W (.slice b0 ln0 cp0) L := by obtain ⟨fuel, hfu⟩ := h0; exact open_savedS hfu
  clear hA0 hval0
  refine (FnExactStoreAll_walk (w := W) _ c0 hc0).mono fun e W' ⟨he, bel⟩ => ?_
  subst he
  exact ⟨_, rfl, _, _, _, [], _, [], hW', trodAll_mk1 (shut_bool Try.underlying4 _), (trodAll_cons_mk (Below.trod laidOut (by kernel_rfl) (of_decide_eq_true (by kernel_rfl)) k0 bel lt0) trodAll_mk0), rfl, bel.frame _, fun h => by cases h⟩

theorem fnExactStoreAll_holds : Rows.FnExactStoreAllSaid :=
  OpenClaim.holds_of_wide 5 Try.f5 rfl rfl rfl rfl rfl rfl rfl ⟨rfl, rfl, rfl, rfl, rfl⟩ rfl rfl rfl rfl rfl (by kernel_rfl) Try.func5 (by kernel_rfl)
    (of_decide_eq_true (by kernel_rfl)) (by unfold Func.isWrapper; first | (rw [if_pos (by decide +kernel)]; kernel_rfl) | (rw [if_neg (by decide +kernel)]; exact ⟨rfl, rfl⟩))
    (fun os started H enc _ => FnExactStoreAll_lifted os started H enc)
#print axioms fnExactStoreAll_holds

end Go.Proofs.Ytfckfdaloamkdaa
