/- THE LAW FnExactJournalOf: the program's JournalOf returns what the reference's returns, for all arguments. The condition: three tables of the library's start as the program's text lays them (the card ties them). -/
import Derived.Test.YtebahccjaieajaaDoorLawKitD
import Derived.Test.YtebahccjaieajaaDoorK93
import Derived.Test.YtebahccjaieajaaDoorK96
namespace Go.Proofs.YtebahccjaieajaaDoor
set_option linter.unusedSimpArgs false
set_option linter.unusedVariables false
set_option maxRecDepth 100000
set_option maxHeartbeats 4000000
open Go.ChangeShapes Go.WideShapes Go.ChangeAt Go.RowKit


theorem FnExactJournalOf_walk {w : World} (m : Int) (hm : w.cell? ⟨0, 0, none⟩ = some (.int .i64 m)) (htab : Lib.TabIs Tryd.prog w "internal/strconv.uint64pow10" .u64 Lib.pow10Tab) (v0 : Value) (c0 : List ByteArray) (hv0 : GL Value.string w v0 c0) (hs0 : allStr c0) :
    Calls Tryd.prog 4 #[v0] w fun z w' => z = .returned (.bool true) ∧ Below w.heap.size w w' := by
  have HT := Lib.hid (fun w' (h : Below w.heap.size w w') => tab_keep htab h)
  obtain ⟨ao, cp, rfl, hcap, hlen⟩ := hv0.slice
  have HV := Lib.hid hv0
  have HS := Lib.hid hs0
  clear hv0 hs0 htab hm
  by_cases hsz : (szTo c0 c0.length : Int) ≤ 1048576
  · have HZ := Lib.hid (show szSQ c0 1048576 = 1048576 - szTo c0 c0.length from if_pos hsz)
    have hl : c0.length ≤ szTo c0 c0.length := szTo_mono c0 (Nat.zero_le _)
    have hn : c0.length < 1099511627776 := by omega
    have HE := Lib.hid (show ∀ s ∈ c0, s.size ≤ 1048576 from fun s hs => by
      obtain ⟨i, hi, rfl⟩ := List.getElem_of_mem hs
      have h1 := szTo_mono c0 (show i + 1 ≤ c0.length from hi)
      have h2 : szTo c0 (i + 1) = szTo c0 i + c0[i].size := by rw [szTo, List.getD_eq_getElem?_getD, List.getElem?_eq_getElem hi]; rfl
      omega)
    have hp : ¬ (1048576 - (szTo c0 c0.length : Int) < 0) := by omega
    go_enter Tryd.func4, Tryd.ntmps4
    go_wp2_with fail
    refine (l_szStringS _ c0 _ _ HV.out HS.out (by omega) (by omega)).mono ?_; rintro z w1 ⟨rfl, hd⟩
    rw [HZ.out]
    have HB1 := Lib.hid (hd.below w.heap.size)
    clear hd
    go_wp2_with fail
    refine (l_toStringS _ c0 _ (HV.out.keep HB1.out) hn).mono ?_; rintro z w2 ⟨u2, rfl, ho2, hb⟩
    have HB2 := Lib.hid (HB1.out.trans (hb.mono HB1.out.size))
    clear hb
    go_wp2_with fail
    refine (s_JournalOf u2 c0 _ ho2.gl HE.out).mono ?_; rintro z w3 ⟨rfl, hb⟩
    have HB3 := Lib.hid (HB2.out.trans (hb.mono HB2.out.size))
    clear hb ho2
    go_wp2_with fail
    refine (l_toStringS _ c0 _ (HV.out.keep HB3.out) hn).mono ?_; rintro z w4 ⟨u4, rfl, ho4, hb⟩
    have HO4 := Lib.hid ho4.gl
    have HB4 := Lib.hid (HB3.out.trans (hb.mono HB3.out.size))
    clear hb ho4
    go_wp2_with fail
    refine (i_JournalOf u4 c0 _ HO4.out HE.out (HT.out _ HB4.out)).mono ?_; rintro z w5 ⟨rfl, hb⟩
    have HO5 := Lib.hid (HO4.out.keep hb)
    have HB5 := Lib.hid (HB4.out.trans (hb.mono HB4.out.size))
    clear hb
    generalize joQ (ln c0) = Q at *
    obtain ⟨q1, q2⟩ := Q
    go_wp2_with fail
    refine (l_toStringS _ c0 _ (HV.out.keep HB5.out) hn).mono ?_; rintro z w6 ⟨u6, rfl, ho6, hb⟩
    have HO6 := Lib.hid ho6.gl
    have HO7 := Lib.hid (HO5.out.keep hb)
    have HB6 := Lib.hid (HB5.out.trans (hb.mono HB5.out.size))
    clear hb ho6
    go_wp2_with fail
    refine (l_eqStringS u4 u6 c0 _ HO7.out HO6.out).mono ?_; rintro z w7 ⟨rfl, hd⟩
    have HB7 := Lib.hid (HB6.out.trans (hd.below w.heap.size))
    clear hd
    go_wp2_with fail
    go_ret
    exact ⟨rfl, HB7.out⟩
  · have HZ := Lib.hid (show szSQ c0 1048576 = -1 from if_neg hsz)
    go_enter Tryd.func4, Tryd.ntmps4
    go_wp2_with fail
    refine (l_szStringS _ c0 _ _ HV.out HS.out (by omega) (by omega)).mono ?_; rintro z w1 ⟨rfl, hd⟩
    rw [HZ.out]
    go_wp2_with fail
    go_ret
    exact ⟨rfl, hd.below _⟩
set_option maxRecDepth 100000 in
theorem FnExactJournalOf_lifted (os : Os) (started : os.Started) (H : Type) (enc : TypeId × Value → H) :
    ReturnsInHanded {} Tryd.checked os 4 .any (fun w args => (Rows.fnExactJournalOfSpec.pre enc Tryd.prog Tryd.f4 [] false w args ∧ laidMetH Tryd.prog laidT w) ∧ sizedMet enc Tryd.prog Tryd.f4 (OpenSpec.ofChange Rows.fnExactJournalOfSpec) false w args)
      (Rows.fnExactJournalOfSpec.post enc Tryd.prog Tryd.f4 false true false false) := by
  refine change_and_shaped (C := Tryd.checked) (X := fun w _ => laidMetH Tryd.prog laidT w) (fun _ _ _ hh h => h.of_heap hh) own started (by kernel_rfl) Tryd.func4
    (ChangeSpec.witness_shaped (enc := enc) (C := Tryd.checked) (os := os) (X := fun w _ => laidMetH Tryd.prog laidT w) false (World.doorLaid Tryd.prog 400 os) #[.slice none 0 0] 8 rfl (World.shaped_of_RefB (by kernel_rfl) (by kernel_rfl)) (by kernel_rfl) (by kernel_rfl) (by kernel_rfl) (door_met os _)) ?_
  intro W base args ds gs before hval0 hW hL hsh
  have htab := tab_of_laid hL
  obtain ⟨mx, hmx⟩ := max_of_shape hsh
  have hval : ∀ (j : Nat) t v, Tryd.f4.params[j]? = some t → args[j]? = some v → Value.okWide Tryd.prog W .any base t v := hval0
  have hW' := hW
  obtain ⟨p, q, hA0, hV, rfl, hfz, hnd⟩ := hW
  have hA : DataW.TrodAll enc Tryd.prog W 0 (fun _ => true) true Tryd.f4.params.toList args.toList ds p := hA0
  rw [Tryd.params4] at hA hval
  obtain ⟨v0, vs0, d0, ds0, p0, q0, hargs, rfl, rfl, h0, r0⟩ := trodAll_cons hA
  obtain ⟨rfl, rfl, rfl⟩ := trodAll_nil r0
  obtain rfl : args = #[v0] := by cases args; simp_all
  obtain ⟨rfl, rfl⟩ := trodVars_none hV
  have k0 := h0
  have lt0 : ∀ x ∈ p0, x.block < W.heap.size := by obtain ⟨m, hm⟩ := k0; exact DataW.trod_lt m _ _ _ hm
  obtain ⟨b0, ln0, cp0, rfl⟩ := okWide_slice Tryd.underlying25 (hval 0 25 v0 rfl rfl)
  obtain ⟨c0, hc0⟩ : ∃ ss, GL Value.string W (.slice b0 ln0 cp0) ss ∧ allStr ss := by obtain ⟨fuel, hfu⟩ := h0; exact open_strs Tryd.underlying25 Tryd.underlying9 (by kernel_rfl) hfu
  clear hA0 hval0
  refine (FnExactJournalOf_walk (w := W) mx hmx htab _ c0 hc0.1 hc0.2).mono fun e W' ⟨he, bel⟩ => ?_
  subst he
  exact ⟨_, rfl, _, _, _, [], _, [], hW', trodAll_mk1 (shut_bool Tryd.underlying4 _), (trodAll_cons_mk (Below.trod laidOut (by kernel_rfl) (of_decide_eq_true (by kernel_rfl)) k0 bel lt0) trodAll_mk0), rfl, bel.frame _, fun h => by cases h⟩

theorem fnExactJournalOf_row : Rows.FnExactJournalOfSaid :=
  OpenClaim.holds_of_wide 4 Tryd.f4 rfl rfl rfl rfl rfl rfl rfl ⟨rfl, rfl, rfl, rfl, rfl⟩ rfl rfl rfl rfl rfl (by kernel_rfl) Tryd.func4 (by kernel_rfl)
    (of_decide_eq_true (by kernel_rfl)) (by unfold Func.isWrapper; first | (rw [if_pos (by decide +kernel)]; kernel_rfl) | (rw [if_neg (by decide +kernel)]; exact ⟨rfl, rfl⟩))
    (fun os started H enc _ => FnExactJournalOf_lifted os started H enc)
/-- The tied card. -/
theorem fnExactJournalOf_holds : Rows.FnExactJournalOfCardSaid :=
  Claim7.holds_tied_plain_at .later [] [.data, .data, .data] true (true, "c7074ca69b511a19f7163cb84a4d6b1ee99fd0aecb37ccae4d191d2e8714b97b") true
    fnExactJournalOf_row (fun _ h => by cases h) (by kernel_rfl) (fun _ h => by cases h) fnExactJournalOf_row_tie rfl ⟨rfl, rfl⟩ (by kernel_rfl) rfl
    (fun f fn hf hfn => by
      obtain rfl : f = 4 := Option.some.inj ((show Tryd.prog.funcNamed "loop.example/g01375/laws.FnExactJournalOf" = some 4 by kernel_rfl).symm.trans hf) |>.symm
      obtain rfl : fn = Tryd.f4 := (Option.some.inj (Tryd.func4.symm.trans hfn)).symm
      exact ⟨by kernel_rfl, fun j t ht => by
        rw [Tryd.params4] at ht
        have hm : t ∈ [25] := by simpa using Array.mem_of_getElem? ht
        have hall : ([25].all fun u => !Tryd.prog.wantsStandIn u) = true := by kernel_rfl
        exact (show Tryd.prog.wantsStandIn t = false by simpa using List.all_eq_true.1 hall t hm)⟩)
    (by kernel_rfl)
#print axioms fnExactJournalOf_holds

end Go.Proofs.YtebahccjaieajaaDoor
