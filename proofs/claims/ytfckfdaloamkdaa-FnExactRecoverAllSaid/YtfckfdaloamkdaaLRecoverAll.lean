/- THE LAW FnExactRecoverAll: the program's RecoverAll returns what the reference's returns, for every text. -/
import Derived.Test.YtfckfdaloamkdaaLawKit
import Derived.Test.YtfckfdaloamkdaaK139
namespace Go.Proofs.Ytfckfdaloamkdaa
set_option linter.unusedSimpArgs false
set_option linter.unusedVariables false
set_option maxRecDepth 100000
set_option maxHeartbeats 4000000
open Go.ChangeShapes Go.WideShapes Go.ChangeAt Go.RowKit
open Go.ChangeMaps (open_string)
theorem RV.wi {T1 T2 lo hi a b : Nat} {w w' : World} {v : Value} {L : List Sd} (h : RV T1 T2 lo hi w v L) (hw : Wi a b w w') (hd : b ≤ lo ∨ hi ≤ a) : RV T1 T2 lo hi w' v L := by
  obtain ⟨P, h1, h2, h3, h4, h5⟩ := h
  refine ⟨P, h1, own_wi (hi := hi) h2 h5 hw hd, fun p hp => ?_, h4, h5⟩
  have hp := h3 p hp
  exact ⟨(FW.keep (⟨hp.1, hp.2.1⟩ : FW T2 lo hi w p.2 p.1.2.2) hw hd).1, hp.2⟩
theorem rcA_all : ∀ (n : Nat) (l : List UInt8), (rcA l n).1.length ≤ n ∧ ∀ x ∈ (rcA l n).1, x.1.size ≤ 8 ∧ x.2.2.length ≤ 96
  | 0, _ => ⟨Nat.le_refl _, by simp [rcA]⟩
  | n + 1, l => by
    rw [rcA]
    cases h : lsQ l with
    | none => exact ⟨Nat.zero_le _, by simp⟩
    | some q =>
      obtain ⟨s, d, ns, m⟩ := q
      have ih := rcA_all n (l.drop m)
      obtain ⟨f1, -, -, f4⟩ := savedOk_facts (lsQ_ok h)
      refine ⟨by simp only [List.length_cons]; omega, fun x hx => ?_⟩
      rcases List.mem_cons.1 hx with rfl | hx
      · exact ⟨f1, f4⟩
      · exact ih.2 x hx
theorem mkE_le : ∀ (L : List Sd) (k : Int), (∀ x ∈ L, x.2.2.length ≤ 96) → mkE L k ≤ k + 98 * L.length
  | [], k, _ => by simp [mkE]
  | x :: r, k, h => by
    have h1 := mkE_le r (k + 2 + x.2.2.length) (fun y hy => h y (by simp [hy]))
    have h2 := h x (by simp)
    rw [mkE, List.length_cons]
    omega

set_option maxRecDepth 100000 in
theorem FnExactRecoverAll_walk {w : World} (t : ByteArray) (ht : t.size ≤ maxLen) :
    Calls Try.prog 7 #[.string t] w fun z w' => z = .returned (.bool true) ∧ Below w.heap.size w w' := by
  have ht : t.size ≤ 9223372036854775807 := ht
  by_cases hbig : 1048576 < t.size
  · have hbi : (1048576 : Int) < (t.size : Int) := by omega
    go_enter Try.func7, Try.ntmps7
    go_wp2_with fail
    go_ret
    exact ⟨rfl, Below.refl _ _⟩
  have hbi : ¬ (1048576 : Int) < (t.size : Int) := by omega
  have HS := Lib.hid (fun w => s_RecoverAll t (by omega) w)
  have HI := Lib.hid (fun w => i_RecoverAll t (by omega) w)
  have hall := rcA_all 8 t.data.toList
  clear hbig
  generalize rcA t.data.toList 8 = Q at HS HI hall
  obtain ⟨L, n⟩ := Q
  have hln : L.length ≤ 8 := hall.1
  have hE := mkE_le L 1 (fun x hx => (hall.2 x hx).2)
  have hE0 := mkE_ge L 1
  obtain ⟨E, hEE⟩ : ∃ E, E = mkE L 1 := ⟨_, rfl⟩
  have HM := Lib.hid (fun lo hi v w (hv : RV 34 54 lo hi w v L) => show Calls Try.prog 32 #[v, .int .i64 1] w fun e w' => e = .returned (.int .i64 E) ∧ RV 34 54 lo hi w' v (mkS L 1) ∧ Wi lo hi w w' by rw [hEE]; exact l_markSavedS lo hi v L 1 w hv (by omega) (by omega) (by omega))
  have HH := Lib.hid (fun v w (hv : SVL w v (mkS L 1)) => show Calls Try.prog 33 #[v, .int .i64 1] w fun e w' => e = .returned (.int .i64 E) ∧ Below w.heap.size w w' by rw [hEE]; exact l_heldSavedS v L 1 w hv (by omega) (by omega) (by omega))
  have hE1 : ¬ E < 0 := by omega
  clear hE hE0 hEE hall hln
  go_enter Try.func7, Try.ntmps7
  go_wp2_with fail
  refine (HS.out _).mono ?_; rintro z w1 ⟨⟨v0, rfl, hv⟩, hb⟩
  have HB1 := Lib.hid hb
  have X0 := Lib.hid hv
  have hz1 := hb.size
  clear hv hb
  go_wp2_with fail
  refine (HI.out _).mono ?_; rintro z w2 ⟨⟨v1, rfl, hv⟩, hb⟩
  have HB2 := Lib.hid (HB1.out.trans (hb.mono hz1))
  have X0 := Lib.hid (X0.out.keep hb)
  have X1 := Lib.hid hv
  have hz2 := hb.size
  clear hv hb HB1
  go_wp2_with fail
  refine (l_eqSavedS v1 v0 L _ X1.out.svl X0.out.svl).mono ?_; rintro z w3 ⟨rfl, hb⟩
  have HB3 := Lib.hid (HB2.out.trans (hb.mono HB2.out.size))
  have X0 := Lib.hid (X0.out.keep hb)
  have X1 := Lib.hid (X1.out.keep hb)
  have hz3 := hb.size
  clear hb HB2
  go_wp2_with fail
  refine (HM.out _ _ _ _ X1.out).mono ?_; rintro z w4 ⟨rfl, hv, hw⟩
  have HB4 := Lib.hid (HB3.out.trans (hw.below (by omega) (by omega)))
  have X0 := Lib.hid (X0.out.wi hw (by omega))
  have X1 := Lib.hid hv
  have hz4 := hw.size
  clear hv hw HB3
  go_wp2_with fail
  refine (HH.out _ _ X1.out.svl).mono ?_; rintro z w5 ⟨rfl, hb⟩
  have HB5 := Lib.hid (HB4.out.trans (hb.mono HB4.out.size))
  have X0 := Lib.hid (X0.out.keep hb)
  have X1 := Lib.hid (X1.out.keep hb)
  have hz5 := hb.size
  clear hb HB4
  go_wp2_with fail
  refine (HI.out _).mono ?_; rintro z w6 ⟨⟨v2, rfl, hv⟩, hb⟩
  have HB6 := Lib.hid (HB5.out.trans (hb.mono HB5.out.size))
  have X0 := Lib.hid (X0.out.keep hb)
  have X1 := Lib.hid (X1.out.keep hb)
  have X2 := Lib.hid hv
  have hz6 := hb.size
  clear hv hb HB5
  go_wp2_with fail
  refine (l_eqSavedS v2 v0 L _ X2.out.svl X0.out.svl).mono ?_; rintro z w7 ⟨rfl, hb⟩
  have HB7 := Lib.hid (HB6.out.trans (hb.mono HB6.out.size))
  have X1 := Lib.hid (X1.out.keep hb)
  clear hb HB6 X2 X0
  go_wp2_with fail
  refine (HH.out _ _ X1.out.svl).mono ?_; rintro z w8 ⟨rfl, hb⟩
  have HB8 := Lib.hid (HB7.out.trans (hb.mono HB7.out.size))
  clear hb HB7
  go_wp2_with fail
  go_ret
  exact ⟨rfl, HB8.out⟩
set_option maxRecDepth 100000 in
theorem FnExactRecoverAll_lifted (os : Os) (started : os.Started) (H : Type) (enc : TypeId × Value → H) :
    ReturnsInHanded {} Try.checked os 7 .any (Rows.fnExactRecoverAllSpec.pre6 enc Try.prog Try.f7 Rows.fnExactRecoverAllRow.domain false) (Rows.fnExactRecoverAllSpec.post enc Try.prog Try.f7 false true false false) := by
  refine returnsInHanded_of_change (C := Try.checked) own started (by kernel_rfl) Try.func7
    (ChangeSpec.witness6 (enc := enc) (C := Try.checked) false ⟨#[], #[.string ByteArray.empty], []⟩ 8 (by kernel_rfl) (by kernel_rfl) (by kernel_rfl) (by kernel_rfl)) ?_
  intro W base args ds gs before hval0 hW hcnd _
  have hval : ∀ (j : Nat) t v, Try.f7.params[j]? = some t → args[j]? = some v → Value.okWide Try.prog W .any base t v := hval0
  have hW' := hW
  obtain ⟨p, q, hA0, hV, rfl, hfz, hnd⟩ := hW
  have hA : DataW.TrodAll enc Try.prog W 0 (fun _ => true) true Try.f7.params.toList args.toList ds p := hA0
  rw [Try.params7] at hA hval
  obtain ⟨v0, vs0, d0, ds0, p0, q0, hargs, rfl, rfl, h0, r0⟩ := trodAll_cons hA
  obtain ⟨rfl, rfl, rfl⟩ := trodAll_nil r0
  obtain rfl : args = #[v0] := by cases args; simp_all
  obtain ⟨rfl, rfl⟩ := trodVars_none hV
  have k0 := h0
  have lt0 : ∀ x ∈ p0, x.block < W.heap.size := by obtain ⟨m, hm⟩ := k0; exact DataW.trod_lt m _ _ _ hm
  obtain ⟨a0, rfl, _, _, hs0⟩ := open_string Try.underlying9 (hval 0 9 v0 rfl rfl) h0
  clear hA0 hval0
  refine (FnExactRecoverAll_walk (w := W) a0 hs0).mono fun e W' ⟨he, bel⟩ => ?_
  subst he
  exact ⟨_, rfl, _, _, _, [], _, [], hW', trodAll_mk1 (shut_bool Try.underlying4 _), (trodAll_cons_mk (Below.trod laidOut (by kernel_rfl) (of_decide_eq_true (by kernel_rfl)) k0 bel lt0) trodAll_mk0), rfl, bel.frame _, fun h => by cases h⟩

theorem fnExactRecoverAll_holds : Rows.FnExactRecoverAllSaid :=
  OpenClaim.holds_of_wide 7 Try.f7 rfl rfl rfl rfl rfl rfl rfl ⟨rfl, rfl, rfl, rfl, rfl⟩ rfl rfl rfl rfl rfl (by kernel_rfl) Try.func7 (by kernel_rfl)
    (of_decide_eq_true (by kernel_rfl)) (by unfold Func.isWrapper; first | (rw [if_pos (by decide +kernel)]; kernel_rfl) | (rw [if_neg (by decide +kernel)]; exact ⟨rfl, rfl⟩))
    (fun os started H enc _ => FnExactRecoverAll_lifted os started H enc)
#print axioms fnExactRecoverAll_holds

end Go.Proofs.Ytfckfdaloamkdaa
