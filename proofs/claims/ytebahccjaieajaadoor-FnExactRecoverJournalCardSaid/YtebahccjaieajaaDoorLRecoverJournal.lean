/- THE LAW FnExactRecoverJournal: the program's RecoverJournal returns what the reference's returns, for all arguments. The condition: three tables of the library's start as the program's text lays them (the card ties them). -/
import Derived.Test.YtebahccjaieajaaDoorLawKitD
import Derived.Test.YtebahccjaieajaaDoorK94
import Derived.Test.YtebahccjaieajaaDoorK97
import Derived.Test.YtebahccjaieajaaDoorK98
namespace Go.Proofs.YtebahccjaieajaaDoor
set_option linter.unusedSimpArgs false
set_option linter.unusedVariables false
set_option maxRecDepth 100000
set_option maxHeartbeats 4000000
open Go.ChangeShapes Go.WideShapes Go.ChangeAt Go.RowKit
open Go.ChangeMaps (open_string)

theorem rcv_small : ∀ (n : Int) (ls : List (List UInt8)), (rcv n ls).1.length ≤ ls.length
  | _, [] => Nat.le_refl _
  | n, l :: ls => by
    rw [rcv]
    split
    · rename_i x _
      split
      · have := rcv_small (ckL n x) ls
        simp only [List.length_cons]
        omega
      · simp
    · simp
theorem rjQ_small (t : List UInt8) : (rjQ t).1.length ≤ 16001 := by
  rw [rjQ]
  split
  · have h1 := rcv_small 0 (cutC 10 t).dropLast
    have h2 := cutC_le 10 t
    rw [List.length_dropLast] at h1
    show (rcvT 0 t).1.length ≤ _
    rw [rcvT]
    omega
  · show ([] : List (List UInt8)).length ≤ _; simp

theorem FnExactRecoverJournal_walk {w : World} (m : Int) (hm : w.cell? ⟨0, 0, none⟩ = some (.int .i64 m)) (htab : Lib.TabIs Tryd.prog w "internal/strconv.uint64pow10" .u64 Lib.pow10Tab) (t : ByteArray) (ht : t.size ≤ maxLen) :
    Calls Tryd.prog 5 #[.string t] w fun z w' => z = .returned (.bool true) ∧ Below w.heap.size w w' := by
  have ht : t.size ≤ 9223372036854775807 := ht
  have HT := Lib.hid (fun w' (h : Below w.heap.size w w') => tab_keep htab h)
  have HM := Lib.hid (fun w' (h : Below w.heap.size w w') => (h.cell (p := ⟨0, 0, none⟩) (block_lt_of_cell hm)).trans hm)
  clear htab hm
  by_cases hbig : 1048576 < t.size
  · have hbi : (1048576 : Int) < (t.size : Int) := by omega
    go_enter Tryd.func5, Tryd.ntmps5
    go_wp2_with fail
    go_ret
    exact ⟨rfl, Below.refl _ _⟩
  have hbi : ¬ (1048576 : Int) < (t.size : Int) := by omega
  have hts : t.size ≤ 1000000000 := by omega
  have hsm := rjQ_small t.data.toList
  generalize hQ : rjQ t.data.toList = Q at hsm
  have HQ := Lib.hid hQ
  clear hQ hbig
  obtain ⟨q1, q2, q3⟩ := Q
  have hsm2 : (q1.map tx).length ≤ 16001 := by rw [List.length_map]; exact hsm
  generalize hXS : q1.map tx = xs at hsm2
  have HXS := Lib.hid hXS
  clear hXS hsm
  have HB0 := Lib.hid (Below.refl w.heap.size w)
  have hz0 : w.heap.size ≤ w.heap.size := Nat.le_refl _
  go_enter Tryd.func5, Tryd.ntmps5
  go_wp2_with fail
  refine (s_RecoverJournal t hts _).mono ?_
  rintro z w1 ⟨uX, rfl, ho, hb⟩
  have hw := Wi.of_below hb
  have hz1 := hw.size
  have HB1 := Lib.hid (HB0.out.trans (hw.below (by omega) (by omega)))
  clear HB0 hw
  rw [HQ.out] at ho
  simp only [HXS.out] at ho
  have X_1 := Lib.hid (GW.of ho)
  rw [HQ.out]
  clear ho hb
  go_wp2_with fail
  refine (i_RecoverJournal t m _ hts (HM.out _ HB1.out) (HT.out _ HB1.out)).mono ?_
  rintro z w2 ⟨uY, rfl, ho, hb⟩
  have hw := Wi.of_below hb
  have hz2 := hw.size
  have X_2 := Lib.hid (X_1.out.keep hw (by omega))
  clear X_1
  have HB2 := Lib.hid (HB1.out.trans (hw.below (by omega) (by omega)))
  clear HB1 hw
  rw [HQ.out] at ho
  simp only [HXS.out] at ho
  have Y_2 := Lib.hid (GW.of ho)
  rw [HQ.out]
  clear ho hb
  go_wp2_with fail
  refine (l_eqStringS uY uX xs _ Y_2.out.gl X_2.out.gl).mono ?_
  rintro z w3 ⟨rfl, hd⟩
  have hw := Dr.wi hd
  have hz3 := hw.size
  have X_3 := Lib.hid (X_2.out.keep hw (by omega))
  clear X_2
  have Y_3 := Lib.hid (Y_2.out.keep hw (by omega))
  clear Y_2
  have HB3 := Lib.hid (HB2.out.trans (hw.below (by omega) (by omega)))
  clear HB2 hw
  clear hd
  go_wp2_with fail
  refine (l_markStringS _ _ uY xs 1 _ Y_3.out (by omega) (by omega) (by omega)).mono ?_
  rintro z w4 ⟨rfl, ho, hw0⟩
  have hw := hw0
  have hz4 := hw.size
  have X_4 := Lib.hid (X_3.out.keep hw (by omega))
  clear X_3
  have HB4 := Lib.hid (HB3.out.trans (hw.below (by omega) (by omega)))
  clear HB3 hw
  have Y_4 := Lib.hid ho
  clear ho hw0 Y_3
  go_wp2_with fail
  refine (l_heldStringS uY 1 xs.length _ Y_4.out.gl (by omega) (by omega) (by omega)).mono ?_
  rintro z w5 ⟨rfl, hb⟩
  have hw := Wi.of_below hb
  have hz5 := hw.size
  have X_5 := Lib.hid (X_4.out.keep hw (by omega))
  clear X_4
  have Y_5 := Lib.hid (Y_4.out.keep hw (by omega))
  clear Y_4
  have HB5 := Lib.hid (HB4.out.trans (hw.below (by omega) (by omega)))
  clear HB4 hw
  clear hb
  go_wp2_with fail
  refine (i_RecoverJournal t m _ hts (HM.out _ HB5.out) (HT.out _ HB5.out)).mono ?_
  rintro z w6 ⟨uZ, rfl, ho, hb⟩
  have hw := Wi.of_below hb
  have hz6 := hw.size
  have X_6 := Lib.hid (X_5.out.keep hw (by omega))
  clear X_5
  have Y_6 := Lib.hid (Y_5.out.keep hw (by omega))
  clear Y_5
  have HB6 := Lib.hid (HB5.out.trans (hw.below (by omega) (by omega)))
  clear HB5 hw
  rw [HQ.out] at ho
  simp only [HXS.out] at ho
  have Z_6 := Lib.hid (GW.of ho)
  rw [HQ.out]
  clear ho hb
  go_wp2_with fail
  refine (l_eqStringS uZ uX xs _ Z_6.out.gl X_6.out.gl).mono ?_
  rintro z w7 ⟨rfl, hd⟩
  have hw := Dr.wi hd
  have hz7 := hw.size
  have X_7 := Lib.hid (X_6.out.keep hw (by omega))
  clear X_6
  have Y_7 := Lib.hid (Y_6.out.keep hw (by omega))
  clear Y_6
  have Z_7 := Lib.hid (Z_6.out.keep hw (by omega))
  clear Z_6
  have HB7 := Lib.hid (HB6.out.trans (hw.below (by omega) (by omega)))
  clear HB6 hw
  clear hd
  go_wp2_with fail
  refine (l_heldStringS uY 1 xs.length _ Y_7.out.gl (by omega) (by omega) (by omega)).mono ?_
  rintro z w8 ⟨rfl, hb⟩
  have hw := Wi.of_below hb
  have hz8 := hw.size
  have X_8 := Lib.hid (X_7.out.keep hw (by omega))
  clear X_7
  have Y_8 := Lib.hid (Y_7.out.keep hw (by omega))
  clear Y_7
  have Z_8 := Lib.hid (Z_7.out.keep hw (by omega))
  clear Z_7
  have HB8 := Lib.hid (HB7.out.trans (hw.below (by omega) (by omega)))
  clear HB7 hw
  clear hb
  go_wp2_with fail
  go_ret
  exact ⟨rfl, HB8.out⟩
set_option maxRecDepth 100000 in
theorem FnExactRecoverJournal_lifted (os : Os) (started : os.Started) (H : Type) (enc : TypeId × Value → H) :
    ReturnsInHanded {} Tryd.checked os 5 .any (fun w args => (Rows.fnExactRecoverJournalSpec.pre enc Tryd.prog Tryd.f5 [] false w args ∧ laidMetH Tryd.prog laidT w) ∧ sizedMet enc Tryd.prog Tryd.f5 (OpenSpec.ofChange Rows.fnExactRecoverJournalSpec) false w args)
      (Rows.fnExactRecoverJournalSpec.post enc Tryd.prog Tryd.f5 false true false false) := by
  refine change_and_shaped (C := Tryd.checked) (X := fun w _ => laidMetH Tryd.prog laidT w) (fun _ _ _ hh h => h.of_heap hh) own started (by kernel_rfl) Tryd.func5
    (ChangeSpec.witness_shaped (enc := enc) (C := Tryd.checked) (os := os) (X := fun w _ => laidMetH Tryd.prog laidT w) false (World.doorLaid Tryd.prog 400 os) #[.string ByteArray.empty] 8 rfl (World.shaped_of_RefB (by kernel_rfl) (by kernel_rfl)) (by kernel_rfl) (by kernel_rfl) (by kernel_rfl) (door_met os _)) ?_
  intro W base args ds gs before hval0 hW hL hsh
  have htab := tab_of_laid hL
  obtain ⟨mx, hmx⟩ := max_of_shape hsh
  have hval : ∀ (j : Nat) t v, Tryd.f5.params[j]? = some t → args[j]? = some v → Value.okWide Tryd.prog W .any base t v := hval0
  have hW' := hW
  obtain ⟨p, q, hA0, hV, rfl, hfz, hnd⟩ := hW
  have hA : DataW.TrodAll enc Tryd.prog W 0 (fun _ => true) true Tryd.f5.params.toList args.toList ds p := hA0
  rw [Tryd.params5] at hA hval
  obtain ⟨v0, vs0, d0, ds0, p0, q0, hargs, rfl, rfl, h0, r0⟩ := trodAll_cons hA
  obtain ⟨rfl, rfl, rfl⟩ := trodAll_nil r0
  obtain rfl : args = #[v0] := by cases args; simp_all
  obtain ⟨rfl, rfl⟩ := trodVars_none hV
  have k0 := h0
  have lt0 : ∀ x ∈ p0, x.block < W.heap.size := by obtain ⟨m, hm⟩ := k0; exact DataW.trod_lt m _ _ _ hm
  obtain ⟨a0, rfl, _, _, hs0⟩ := open_string Tryd.underlying9 (hval 0 9 v0 rfl rfl) h0
  clear hA0 hval0
  refine (FnExactRecoverJournal_walk (w := W) mx hmx htab a0 hs0).mono fun e W' ⟨he, bel⟩ => ?_
  subst he
  exact ⟨_, rfl, _, _, _, [], _, [], hW', trodAll_mk1 (shut_bool Tryd.underlying4 _), (trodAll_cons_mk (Below.trod laidOut (by kernel_rfl) (of_decide_eq_true (by kernel_rfl)) k0 bel lt0) trodAll_mk0), rfl, bel.frame _, fun h => by cases h⟩

theorem fnExactRecoverJournal_row : Rows.FnExactRecoverJournalSaid :=
  OpenClaim.holds_of_wide 5 Tryd.f5 rfl rfl rfl rfl rfl rfl rfl ⟨rfl, rfl, rfl, rfl, rfl⟩ rfl rfl rfl rfl rfl (by kernel_rfl) Tryd.func5 (by kernel_rfl)
    (of_decide_eq_true (by kernel_rfl)) (by unfold Func.isWrapper; first | (rw [if_pos (by decide +kernel)]; kernel_rfl) | (rw [if_neg (by decide +kernel)]; exact ⟨rfl, rfl⟩))
    (fun os started H enc _ => FnExactRecoverJournal_lifted os started H enc)
/-- The tied card. -/
theorem fnExactRecoverJournal_holds : Rows.FnExactRecoverJournalCardSaid :=
  Claim7.holds_tied_plain_at .later [] [.data, .data, .data] true (true, "c7074ca69b511a19f7163cb84a4d6b1ee99fd0aecb37ccae4d191d2e8714b97b") true
    fnExactRecoverJournal_row (fun _ h => by cases h) (by kernel_rfl) (fun _ h => by cases h) fnExactRecoverJournal_row_tie rfl ⟨rfl, rfl⟩ (by kernel_rfl) rfl
    (fun f fn hf hfn => by
      obtain rfl : f = 5 := Option.some.inj ((show Tryd.prog.funcNamed "loop.example/g01375/laws.FnExactRecoverJournal" = some 5 by kernel_rfl).symm.trans hf) |>.symm
      obtain rfl : fn = Tryd.f5 := (Option.some.inj (Tryd.func5.symm.trans hfn)).symm
      exact ⟨by kernel_rfl, fun j t ht => by
        rw [Tryd.params5] at ht
        have hm : t ∈ [9] := by simpa using Array.mem_of_getElem? ht
        have hall : ([9].all fun u => !Tryd.prog.wantsStandIn u) = true := by kernel_rfl
        exact (show Tryd.prog.wantsStandIn t = false by simpa using List.all_eq_true.1 hall t hm)⟩)
    (by kernel_rfl)
#print axioms fnExactRecoverJournal_holds

end Go.Proofs.YtebahccjaieajaaDoor
