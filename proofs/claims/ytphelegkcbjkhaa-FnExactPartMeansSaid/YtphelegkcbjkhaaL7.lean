/- THE LAW FnExactPartMeans: the program's PartMeans returns what the reference's returns, for all arguments. No condition. -/
import Derived.Test.YtphelegkcbjkhaaLawKit
import Derived.Test.YtphelegkcbjkhaaK8
namespace Go.Proofs.Ytphelegkcbjkhaa
open Go.ChangeShapes Go.WideShapes Go.ChangeAt Go.RowKit
set_option linter.unusedVariables false


theorem partsQ_len (cs : List Nat) (p : Int) : (partsQ cs p).1.length ≤ 96 := by
  unfold partsQ
  split
  · rename_i h
    simp only [Bool.and_eq_true, inB, decide_eq_true_eq] at h
    have := series_len h.1
    unfold given
    dsimp only
    split
    · rw [pmL_length]; omega
    · simp
  · simp
set_option maxRecDepth 100000 in
theorem FnExactPartMeans_walk (v : Value) (cs : List Nat) (w : World) (hv : SB w v cs) (n : Int) (hn : (Lit.int .i64 n).wf = true) :
    Calls Try.prog 9 #[v, .int .i64 n] w fun z w' => z = .returned (.bool true) ∧ Below w.heap.size w w' := by
  clear hn
  obtain ⟨ao, c, rfl, hcap, hlen⟩ := hv.sl.slice2
  have HV := Lib.hid hv
  clear hv
  by_cases hbig : (1048576 : Int) < (cs.length : Int)
  · go_enter Try.func9, Try.ntmps9
    go_wp2_with fail
    go_ret
    exact ⟨rfl, Below.refl _ _⟩
  · have hsm : cs.length < 1099511627776 := by omega
    generalize hQ : partsQ cs n = Q
    have hlq : Q.1.length ≤ 96 := by rw [← hQ]; exact partsQ_len _ _
    have HQ := Lib.hid hQ
    clear hQ
    go_enter Try.func9, Try.ntmps9
    go_wp2_with fail
    refine (l_toFloat32S _ cs _ HV.out hsm).mono ?_; rintro z w1 ⟨u1, rfl, ho1, hb1⟩; have hz1 := hb1.size
    have HO1 := Lib.hid ho1
    clear ho1
    go_wp2_with fail
    refine (s_PartMeans u1 cs n _ HO1.out.sb.sl).mono ?_; rintro z w2 ⟨⟨v2, b2, rfl, ho2, hq2⟩, hb2⟩; rw [HQ.out] at ho2 hq2; have hz2 := hb2.size
    have HO2 := Lib.hid ho2
    have HB2 := Lib.hid hq2
    clear ho2 hq2
    go_wp2_with fail
    have hB2 : Below w.heap.size w w2 := hb1.trans (hb2.mono hz1)
    refine (l_toFloat32S _ cs _ (HV.out.keep hB2) hsm).mono ?_; rintro z w3 ⟨u3, rfl, ho3, hb3⟩; have hz3 := hb3.size
    have HO3 := Lib.hid ho3
    clear ho3
    go_wp2_with fail
    refine (i_PartMeans u3 cs n _ HO3.out.sb.sl).mono ?_; rintro z w4 ⟨⟨v4, b4, rfl, ho4, hq4⟩, hb4⟩; rw [HQ.out] at ho4 hq4; have hz4 := hb4.size
    obtain rfl : b4 = b2 := hq4.trans HB2.out.symm
    have HO4 := Lib.hid ho4
    clear ho4 hq4
    have H24 := Lib.hid (HO2.out.keep (hb3.trans (hb4.mono hz3)))
    have H34 := Lib.hid (HO3.out.keep hb4)
    have hB4 : Below w.heap.size w w4 := hB2.trans ((hb3.trans (hb4.mono hz3)).mono (by omega))
    go_wp2_with fail
    refine (l_eqFloat32S v4 v2 Q.1 _ HO4.out.sb.sl H24.out.sb.sl).mono ?_; rintro z w5 ⟨rfl, n5, rfl⟩
    go_wp2_with fail
    refine (l_toFloat32S _ cs _ ((HV.out.keep hB4).drewN _) hsm).mono ?_; rintro z w5 ⟨u5, rfl, ho5, hb5'⟩
    have hb5 := below_undrew hb5'
    have hz5 := hb5.size
    have HO5 := Lib.hid ho5
    clear ho5 hb5'
    have H25 := Lib.hid (H24.out.keep hb5)
    have H35 := Lib.hid (H34.out.keep hb5)
    have H45 := Lib.hid (HO4.out.keep hb5)
    go_wp2_with fail
    refine (l_eqFloat32S u3 u5 cs _ H35.out.sb.sl HO5.out.sb.sl).mono ?_; rintro z w6 ⟨rfl, n6, rfl⟩
    go_wp2_with fail
    refine (l_markFloat32S w2.heap.size u3 cs 1 _ (H35.out.drewN n6) (by omega) (by omega) hsm).mono ?_; rintro z w6 ⟨rfl, ho6, hg6'⟩
    have hg6 := grown_drewN hg6'
    have hz6 := hg6.size
    have H26 := Lib.hid (H25.out.grown_low (HO2.out.low (Nat.le_refl _)) hg6 HO3.out.own_ge)
    have H46 := Lib.hid (H45.out.grown_keep hg6 (HO3.out.low (Nat.le_refl _)))
    have hB5 : Below w.heap.size w w5 := hB4.trans (hb5.mono (by omega))
    have hB6 : Below w.heap.size w w6 := hB5.trans (below_grown hg6 (by omega) (fun g h => by have := HO3.out.own_ge g h; omega))
    clear ho6 hg6' hg6
    go_wp2_with fail
    refine (l_eqFloat32S v4 v2 Q.1 _ H46.out.sb.sl H26.out.sb.sl).mono ?_; rintro z w7 ⟨rfl, n7, rfl⟩
    go_wp2_with fail
    refine (l_markFloat32S w3.heap.size v4 Q.1 1 _ (H46.out.drewN n7) (by omega) (by omega) (by omega)).mono ?_; rintro z w7 ⟨rfl, ho7, hg7'⟩
    have hg7 := grown_drewN hg7'
    have hz7 := hg7.size
    have H27 := Lib.hid (H26.out.grown_low (HO2.out.low hz3) hg7 HO4.out.own_ge)
    have H47 := Lib.hid ho7
    have hB7 : Below w.heap.size w w7 := hB6.trans (below_grown hg7 (by omega) (fun g h => by have := HO4.out.own_ge g h; omega))
    clear ho7 hg7' hg7
    go_wp2_with fail
    refine (l_heldFloat32S v4 1 Q.1.length _ H47.out.sb.sl (by omega) (by omega) (by omega)).mono ?_; rintro z w8 ⟨rfl, n8, rfl⟩
    go_wp2_with fail
    refine (l_toFloat32S _ cs _ ((HV.out.keep hB7).drewN _) hsm).mono ?_; rintro z w8 ⟨u8, rfl, ho8, hb8'⟩
    have hb8 := below_undrew hb8'
    have hz8 := hb8.size
    have HO8 := Lib.hid ho8
    clear ho8 hb8'
    go_wp2_with fail
    refine (i_PartMeans u8 cs n _ HO8.out.sb.sl).mono ?_; rintro z w9 ⟨⟨v9, b9, rfl, ho9, hq9⟩, hb9⟩; rw [HQ.out] at ho9 hq9; have hz9 := hb9.size
    obtain rfl : b9 = b4 := hq9.trans HB2.out.symm
    have HO9 := Lib.hid ho9
    clear ho9 hq9
    have hb79 : Below w7.heap.size w7 w9 := hb8.trans (hb9.mono hz8)
    go_wp2_with fail
    refine (l_eqFloat32S v9 v2 Q.1 _ HO9.out.sb.sl (H27.out.keep hb79).sb.sl).mono ?_; rintro z w10 ⟨rfl, n10, rfl⟩
    go_wp2_with fail
    refine (l_heldFloat32S v4 1 Q.1.length _ ((H47.out.keep hb79).sb.sl.drewN _) (by omega) (by omega) (by omega)).mono ?_; rintro z w11 ⟨rfl, n11, rfl⟩
    go_wp2_with fail
    go_ret
    exact ⟨rfl, below_drewN (hB7.trans (hb79.mono (by omega))) _⟩
set_option maxRecDepth 100000 in
theorem FnExactPartMeans_lifted (os : Os) (started : os.Started) (H : Type) (enc : TypeId × Value → H) :
    ReturnsInHanded {} Try.checked os 9 .any (Rows.fnExactPartMeansSpec.pre6 enc Try.prog Try.f9 Rows.fnExactPartMeansRow.domain false) (Rows.fnExactPartMeansSpec.post enc Try.prog Try.f9 false true false false) := by
  refine returnsInHanded_of_change (C := Try.checked) own started (by kernel_rfl) Try.func9
    (ChangeSpec.witness6 (enc := enc) (C := Try.checked) false ⟨#[], #[.slice none 0 0, .int .i64 0], []⟩ 8 (by kernel_rfl) (by kernel_rfl) (by kernel_rfl) (by kernel_rfl)) ?_
  intro W base args ds gs before hval0 hW hcnd _
  have hval : ∀ (j : Nat) t v, Try.f9.params[j]? = some t → args[j]? = some v → Value.okWide Try.prog W .any base t v := hval0
  have hW' := hW
  obtain ⟨p, q, hA0, hV, rfl, hfz, hnd⟩ := hW
  have hA : DataW.TrodAll enc Try.prog W 0 (fun _ => true) true Try.f9.params.toList args.toList ds p := hA0
  rw [Try.params9] at hA hval
  obtain ⟨v0, vs0, d0, ds0, p0, q0, hargs, rfl, rfl, h0, r0⟩ := trodAll_cons hA
  obtain ⟨v1, vs1, d1, ds1, p1, q1, rfl, rfl, rfl, h1, r1⟩ := trodAll_cons r0
  obtain ⟨rfl, rfl, rfl⟩ := trodAll_nil r1
  obtain rfl : args = #[v0, v1] := by cases args; simp_all
  obtain ⟨rfl, rfl⟩ := trodVars_none hV
  have k0 := h0
  have lt0 : ∀ x ∈ p0, x.block < W.heap.size := by obtain ⟨m, hm⟩ := k0; exact DataW.trod_lt m _ _ _ hm
  have k1 := h1
  have lt1 : ∀ x ∈ p1, x.block < W.heap.size := by obtain ⟨m, hm⟩ := k1; exact DataW.trod_lt m _ _ _ hm
  obtain ⟨b0, ln0, cp0, rfl⟩ := okWide_slice Try.underlying38 (hval 0 38 v0 rfl rfl)
  obtain ⟨c0, hc0⟩ : ∃ cs, SB W (.slice b0 ln0 cp0) cs := by obtain ⟨fuel, hfu⟩ := h0; exact open_f32s Try.underlying38 Try.underlying22 (by kernel_rfl) hfu
  obtain ⟨a1, rfl, _, _, hi1⟩ := open_int Try.underlying2 (hval 1 2 v1 rfl rfl) h1
  clear hA0 hval0
  refine (FnExactPartMeans_walk (w := W) _ c0 hc0 a1 hi1).mono fun e W' ⟨he, bel⟩ => ?_
  subst he
  exact ⟨_, rfl, _, _, _, [], _, [], hW', trodAll_mk1 (shut_bool Try.underlying4 _), (trodAll_cons_mk (Below.trod laidOut (by kernel_rfl) (of_decide_eq_true (by kernel_rfl)) k0 bel lt0) (trodAll_cons_mk (Below.trod laidOut (by kernel_rfl) (of_decide_eq_true (by kernel_rfl)) k1 bel lt1) trodAll_mk0)), rfl, bel.frame _, fun h => by cases h⟩

theorem fnExactPartMeans_holds : Rows.FnExactPartMeansSaid :=
  OpenClaim.holds_of_wide 9 Try.f9 rfl rfl rfl rfl rfl rfl rfl ⟨rfl, rfl, rfl, rfl, rfl⟩ rfl rfl rfl rfl rfl (by kernel_rfl) Try.func9 (by kernel_rfl)
    (of_decide_eq_true (by kernel_rfl)) (by unfold Func.isWrapper; first | (rw [if_pos (by decide +kernel)]; kernel_rfl) | (rw [if_neg (by decide +kernel)]; exact ⟨rfl, rfl⟩))
    (fun os started H enc _ => FnExactPartMeans_lifted os started H enc)
#print axioms fnExactPartMeans_holds

end Go.Proofs.Ytphelegkcbjkhaa
