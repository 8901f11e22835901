/- THE LAW FnExactLoadSaved: the program's LoadSaved returns what the reference's returns, for every text. -/
import Derived.Test.YtfckfdaloamkdaaLawKit
import Derived.Test.YtfckfdaloamkdaaK136
import Derived.Test.YtfckfdaloamkdaaK137
namespace Go.Proofs.Ytfckfdaloamkdaa
set_option linter.unusedSimpArgs false
set_option linter.unusedVariables false
set_option maxRecDepth 100000
set_option maxHeartbeats 4000000
open Go.ChangeShapes Go.WideShapes Go.ChangeAt Go.RowKit
open Go.ChangeMaps (open_string)

set_option maxRecDepth 100000 in
theorem FnExactLoadSaved_walk {w : World} (t : ByteArray) (ht : t.size ≤ maxLen) :
    Calls Try.prog 6 #[.string t] w fun z w' => z = .returned (.bool true) ∧ Below w.heap.size w w' := by
  have ht : t.size ≤ 9223372036854775807 := ht
  by_cases hbig : 1048576 < t.size
  · have hbi : (1048576 : Int) < (t.size : Int) := by omega
    go_enter Try.func6, Try.ntmps6
    go_wp2_with fail
    go_ret
    exact ⟨rfl, Below.refl _ _⟩
  have hbi : ¬ (1048576 : Int) < (t.size : Int) := by omega
  have HS := Lib.hid (fun w => s_LoadSaved t (by omega) w)
  have HI := Lib.hid (fun w => i_LoadSaved t (by omega) w)
  have HNL := Lib.hid (loQ_len t)
  clear hbig
  generalize loQ t = Q at HS HI HNL
  generalize hD : Q.getD (⟨#[]⟩, 0, []) = D at HS HI HNL
  generalize Q.isSome = B at HS HI
  obtain ⟨s0, d0, ns0⟩ := D
  clear hD
  have hns : ns0.length < 1000000 := HNL.out.1
  clear HNL Q
  have HB0 := Lib.hid (Below.refl w.heap.size w)
  go_enter Try.func6, Try.ntmps6
  go_wp2_with fail
  refine (HS.out _).mono ?_
  rintro z w1 ⟨⟨s, d, u, rfl, ns, hq, ho, hlt⟩, hb⟩
  obtain ⟨rfl, rfl, rfl⟩ : s0 = s ∧ d0 = d ∧ ns0 = ns := by injection hq with e1 e2; injection e2 with e2 e3; exact ⟨e1, e2, e3⟩
  clear hq
  obtain ⟨a0, c0, rfl, hc0⟩ := ho.slice
  have hw := Wi.of_below hb
  have hz1 := hw.size
  have HB1 := Lib.hid (HB0.out.trans (hw.below (by omega) (by omega))); clear HB0
  have X0_1 := Lib.hid (FW.of (GO.ow ho hlt))
  clear ho hb hw hlt
  go_wp2_with (refine wpList_storeAgg (us := [.string s0, .int .i64 d0, .slice a0 ns0.length c0]) (storeSd _ _ _ _ _ _ _) rfl rfl (by simp [Value.oneCell']) (BK.new _ [.string ⟨#[]⟩, .int .i64 0, .slice none 0 0] _) (by simp) ?_; intro w2 hB hO hL hZ hG; have hw := Wi.of_below (hL _ _ (Below.alloc (Below.refl w1.heap.size w1) (Nat.le_refl _) _) (Nat.le_refl _)); have T0_2' := Lib.hid hB; clear hB hO hL hG; (try simp only [World.size_alloc] at hZ); have hz2 := hw.size; have X0_2 := Lib.hid (X0_1.out.keep hw (by omega)); clear X0_1; have HB2 := Lib.hid (HB1.out.trans (hw.below (by omega) (by omega))); clear HB1; clear hw; simp [setsAt] at T0_2'; have T0_2 := T0_2'; clear T0_2'; have hcT0 := T0_2.out.cells)
  clear hcT0
  refine (HI.out _).mono ?_
  rintro z w3 ⟨⟨s, d, u, rfl, ns, hq, ho, hlt⟩, hb⟩
  obtain ⟨rfl, rfl, rfl⟩ : s0 = s ∧ d0 = d ∧ ns0 = ns := by injection hq with e1 e2; injection e2 with e2 e3; exact ⟨e1, e2, e3⟩
  clear hq
  obtain ⟨a1, c1, rfl, hc1⟩ := ho.slice
  have hw := Wi.of_below hb
  have hz3 := hw.size
  have X0_3 := Lib.hid (X0_2.out.keep hw (by omega)); clear X0_2
  have T0_3 := Lib.hid (T0_2.out.wiT hw (by omega)); clear T0_2
  have HB3 := Lib.hid (HB2.out.trans (hw.below (by omega) (by omega))); clear HB2
  have X1_3 := Lib.hid (FW.of (GO.ow ho hlt))
  clear ho hb hw hlt
  go_wp2_with (refine wpList_storeAgg (us := [.string s0, .int .i64 d0, .slice a1 ns0.length c1]) (storeSd _ _ _ _ _ _ _) rfl rfl (by simp [Value.oneCell']) (BK.new _ [.string ⟨#[]⟩, .int .i64 0, .slice none 0 0] _) (by simp) ?_; intro w4 hB hO hL hZ hG; have hw := Wi.of_below (hL _ _ (Below.alloc (Below.refl w3.heap.size w3) (Nat.le_refl _) _) (Nat.le_refl _)); have T1_4' := Lib.hid hB; clear hB hO hL hG; (try simp only [World.size_alloc] at hZ); have hz4 := hw.size; have X0_4 := Lib.hid (X0_3.out.keep hw (by omega)); clear X0_3; have T0_4 := Lib.hid (T0_3.out.wiT hw (by omega)); clear T0_3; have X1_4 := Lib.hid (X1_3.out.keep hw (by omega)); clear X1_3; have HB4 := Lib.hid (HB3.out.trans (hw.below (by omega) (by omega))); clear HB3; clear hw; simp [setsAt] at T1_4'; have T1_4 := T1_4'; clear T1_4'; have hcT0 := T0_4.out.cells; have hcT1 := T1_4.out.cells)
  clear hcT0 hcT1
  refine (l_eqSaved s0 d0 (.slice a1 ns0.length c1) (.slice a0 ns0.length c0) (ns0.map (cn .f32)) _ (X1_4.out.sl) (X0_4.out.sl)).mono ?_
  rintro z w5 ⟨rfl, hb⟩
  have hw := Wi.of_below hb
  have hz5 := hw.size
  have X0_5 := Lib.hid (X0_4.out.keep hw (by omega)); clear X0_4
  have T0_5 := Lib.hid (T0_4.out.wiT hw (by omega)); clear T0_4
  have X1_5 := Lib.hid (X1_4.out.keep hw (by omega)); clear X1_4
  have T1_5 := Lib.hid (T1_4.out.wiT hw (by omega)); clear T1_4
  have HB5 := Lib.hid (HB4.out.trans (hw.below (by omega) (by omega))); clear HB4
  clear hb hw
  have hcT0 := T0_5.out.cells; have hcT1 := T1_5.out.cells
  cases B
  all_goals
    go_wp2_with fail
    clear hcT0 hcT1
    refine (l_markSaved _ _ s0 d0 (.slice a1 ns0.length c1) (ns0.map (cn .f32)) 1 _ X1_5.out (by omega) (by omega) (by rw [List.length_map]; omega)).mono ?_
    rintro z w6 ⟨rfl, ho, hw⟩
    rw [List.length_map] at ho ⊢
    clear X1_5
    have hz6 := hw.size
    have X0_6 := Lib.hid (X0_5.out.keep hw (by omega)); clear X0_5
    have T0_6 := Lib.hid (T0_5.out.wiT hw (by omega)); clear T0_5
    have T1_6 := Lib.hid (T1_5.out.wiT hw (by omega)); clear T1_5
    have HB6 := Lib.hid (HB5.out.trans (hw.below (by omega) (by omega))); clear HB5
    have X1_6 := Lib.hid ho
    clear ho hw
    have hcT0 := T0_6.out.cells; have hcT1 := T1_6.out.cells
    go_wp2_with fail
    clear hcT0 hcT1
    refine (l_heldSaved s0 d0 (.slice a1 ns0.length c1) ns0.length 1 _ (X1_6.out.sl) (by omega) (by omega) (by omega)).mono ?_
    rintro z w7 ⟨rfl, hb⟩
    have hw := Wi.of_below hb
    have hz7 := hw.size
    have X0_7 := Lib.hid (X0_6.out.keep hw (by omega)); clear X0_6
    have T0_7 := Lib.hid (T0_6.out.wiT hw (by omega)); clear T0_6
    have T1_7 := Lib.hid (T1_6.out.wiT hw (by omega)); clear T1_6
    have X1_7 := Lib.hid (X1_6.out.keep hw (by omega)); clear X1_6
    have HB7 := Lib.hid (HB6.out.trans (hw.below (by omega) (by omega))); clear HB6
    clear hb hw
    have hge6 : ¬ ((1 : Int) + (ns0.length : Int)) < 0 := by omega
    have hcT0 := T0_7.out.cells; have hcT1 := T1_7.out.cells
    go_wp2_with fail
    clear hcT0 hcT1
    refine (HI.out _).mono ?_
    rintro z w8 ⟨⟨s, d, u, rfl, ns, hq, ho, hlt⟩, hb⟩
    obtain ⟨rfl, rfl, rfl⟩ : s0 = s ∧ d0 = d ∧ ns0 = ns := by injection hq with e1 e2; injection e2 with e2 e3; exact ⟨e1, e2, e3⟩
    clear hq
    obtain ⟨a2, c2, rfl, hc2⟩ := ho.slice
    have hw := Wi.of_below hb
    have hz8 := hw.size
    have X0_8 := Lib.hid (X0_7.out.keep hw (by omega)); clear X0_7
    have T0_8 := Lib.hid (T0_7.out.wiT hw (by omega)); clear T0_7
    have T1_8 := Lib.hid (T1_7.out.wiT hw (by omega)); clear T1_7
    have X1_8 := Lib.hid (X1_7.out.keep hw (by omega)); clear X1_7
    have HB8 := Lib.hid (HB7.out.trans (hw.below (by omega) (by omega))); clear HB7
    have X2_8 := Lib.hid (FW.of (GO.ow ho hlt))
    clear ho hb hw hlt
    go_wp2_with (refine wpList_storeAgg (us := [.string s0, .int .i64 d0, .slice a2 ns0.length c2]) (storeSd _ _ _ _ _ _ _) rfl rfl (by simp [Value.oneCell']) (BK.new _ [.string ⟨#[]⟩, .int .i64 0, .slice none 0 0] _) (by simp) ?_; intro w9 hB hO hL hZ hG; have hw := Wi.of_below (hL _ _ (Below.alloc (Below.refl w8.heap.size w8) (Nat.le_refl _) _) (Nat.le_refl _)); have T2_9' := Lib.hid hB; clear hB hO hL hG; (try simp only [World.size_alloc] at hZ); have hz9 := hw.size; have X0_9 := Lib.hid (X0_8.out.keep hw (by omega)); clear X0_8; have T0_9 := Lib.hid (T0_8.out.wiT hw (by omega)); clear T0_8; have T1_9 := Lib.hid (T1_8.out.wiT hw (by omega)); clear T1_8; have X1_9 := Lib.hid (X1_8.out.keep hw (by omega)); clear X1_8; have X2_9 := Lib.hid (X2_8.out.keep hw (by omega)); clear X2_8; have HB9 := Lib.hid (HB8.out.trans (hw.below (by omega) (by omega))); clear HB8; clear hw; simp [setsAt] at T2_9'; have T2_9 := T2_9'; clear T2_9'; have hcT0 := T0_9.out.cells; have hcT1 := T1_9.out.cells; have hcT2 := T2_9.out.cells)
    clear hcT0 hcT1 hcT2
    refine (l_eqSaved s0 d0 (.slice a2 ns0.length c2) (.slice a0 ns0.length c0) (ns0.map (cn .f32)) _ (X2_9.out.sl) (X0_9.out.sl)).mono ?_
    rintro z w10 ⟨rfl, hb⟩
    have hw := Wi.of_below hb
    have hz10 := hw.size
    have X0_10 := Lib.hid (X0_9.out.keep hw (by omega)); clear X0_9
    have T0_10 := Lib.hid (T0_9.out.wiT hw (by omega)); clear T0_9
    have T1_10 := Lib.hid (T1_9.out.wiT hw (by omega)); clear T1_9
    have X1_10 := Lib.hid (X1_9.out.keep hw (by omega)); clear X1_9
    have X2_10 := Lib.hid (X2_9.out.keep hw (by omega)); clear X2_9
    have T2_10 := Lib.hid (T2_9.out.wiT hw (by omega)); clear T2_9
    have HB10 := Lib.hid (HB9.out.trans (hw.below (by omega) (by omega))); clear HB9
    clear hb hw
    have hcT0 := T0_10.out.cells; have hcT1 := T1_10.out.cells; have hcT2 := T2_10.out.cells
    go_wp2_with fail
    clear hcT0 hcT1 hcT2
    refine (l_heldSaved s0 d0 (.slice a1 ns0.length c1) ns0.length 1 _ (X1_10.out.sl) (by omega) (by omega) (by omega)).mono ?_
    rintro z w11 ⟨rfl, hb⟩
    have hw := Wi.of_below hb
    have hz11 := hw.size
    have X0_11 := Lib.hid (X0_10.out.keep hw (by omega)); clear X0_10
    have T0_11 := Lib.hid (T0_10.out.wiT hw (by omega)); clear T0_10
    have T1_11 := Lib.hid (T1_10.out.wiT hw (by omega)); clear T1_10
    have X1_11 := Lib.hid (X1_10.out.keep hw (by omega)); clear X1_10
    have X2_11 := Lib.hid (X2_10.out.keep hw (by omega)); clear X2_10
    have T2_11 := Lib.hid (T2_10.out.wiT hw (by omega)); clear T2_10
    have HB11 := Lib.hid (HB10.out.trans (hw.below (by omega) (by omega))); clear HB10
    clear hb hw
    have hge10 : ¬ ((1 : Int) + (ns0.length : Int)) < 0 := by omega
    have hcT0 := T0_11.out.cells; have hcT1 := T1_11.out.cells; have hcT2 := T2_11.out.cells
    go_wp2_with fail
    clear hcT0 hcT1 hcT2
    go_ret
    exact ⟨rfl, HB11.out⟩
set_option maxRecDepth 100000 in
theorem FnExactLoadSaved_lifted (os : Os) (started : os.Started) (H : Type) (enc : TypeId × Value → H) :
    ReturnsInHanded {} Try.checked os 6 .any (Rows.fnExactLoadSavedSpec.pre6 enc Try.prog Try.f6 Rows.fnExactLoadSavedRow.domain false) (Rows.fnExactLoadSavedSpec.post enc Try.prog Try.f6 false true false false) := by
  refine returnsInHanded_of_change (C := Try.checked) own started (by kernel_rfl) Try.func6
    (ChangeSpec.witness6 (enc := enc) (C := Try.checked) false ⟨#[], #[.string ByteArray.empty], []⟩ 8 (by kernel_rfl) (by kernel_rfl) (by kernel_rfl) (by kernel_rfl)) ?_
  intro W base args ds gs before hval0 hW hcnd _
  have hval : ∀ (j : Nat) t v, Try.f6.params[j]? = some t → args[j]? = some v → Value.okWide Try.prog W .any base t v := hval0
  have hW' := hW
  obtain ⟨p, q, hA0, hV, rfl, hfz, hnd⟩ := hW
  have hA : DataW.TrodAll enc Try.prog W 0 (fun _ => true) true Try.f6.params.toList args.toList ds p := hA0
  rw [Try.params6] at hA hval
  obtain ⟨v0, vs0, d0, ds0, p0, q0, hargs, rfl, rfl, h0, r0⟩ := trodAll_cons hA
  obtain ⟨rfl, rfl, rfl⟩ := trodAll_nil r0
  obtain rfl : args = #[v0] := by cases args; simp_all
  obtain ⟨rfl, rfl⟩ := trodVars_none hV
  have k0 := h0
  have lt0 : ∀ x ∈ p0, x.block < W.heap.size := by obtain ⟨m, hm⟩ := k0; exact DataW.trod_lt m _ _ _ hm
  obtain ⟨a0, rfl, _, _, hs0⟩ := open_string Try.underlying9 (hval 0 9 v0 rfl rfl) h0
  clear hA0 hval0
  refine (FnExactLoadSaved_walk (w := W) a0 hs0).mono fun e W' ⟨he, bel⟩ => ?_
  subst he
  exact ⟨_, rfl, _, _, _, [], _, [], hW', trodAll_mk1 (shut_bool Try.underlying4 _), (trodAll_cons_mk (Below.trod laidOut (by kernel_rfl) (of_decide_eq_true (by kernel_rfl)) k0 bel lt0) trodAll_mk0), rfl, bel.frame _, fun h => by cases h⟩

theorem fnExactLoadSaved_holds : Rows.FnExactLoadSavedSaid :=
  OpenClaim.holds_of_wide 6 Try.f6 rfl rfl rfl rfl rfl rfl rfl ⟨rfl, rfl, rfl, rfl, rfl⟩ rfl rfl rfl rfl rfl (by kernel_rfl) Try.func6 (by kernel_rfl)
    (of_decide_eq_true (by kernel_rfl)) (by unfold Func.isWrapper; first | (rw [if_pos (by decide +kernel)]; kernel_rfl) | (rw [if_neg (by decide +kernel)]; exact ⟨rfl, rfl⟩))
    (fun os started H enc _ => FnExactLoadSaved_lifted os started H enc)
#print axioms fnExactLoadSaved_holds

end Go.Proofs.Ytfckfdaloamkdaa
