/- THE LAW FnExactReadShares: the program's ReadShares returns what the reference's returns, for every text. The condition: seven variables of the library's start (tables, a pinned table, two sentinels) as the program's text lays them (the card ties them). -/
import Derived.Test.YtebahccjaieajaaDoorLawKitF
import Derived.Test.YtebahccjaieajaaDoorK120
namespace Go.Proofs.YtebahccjaieajaaDoor
set_option linter.unusedSimpArgs false
set_option linter.unusedVariables false
set_option maxRecDepth 100000
set_option maxHeartbeats 4000000
open Go.ChangeShapes Go.WideShapes Go.ChangeAt Go.RowKit
open Go.ChangeMaps (open_string)

theorem FnExactReadShares_walk {w : World} (m : Int) (hm : w.cell? ⟨0, 0, none⟩ = some (.int .i64 m)) (ev : Value) (hev : ev = .nilIface ∨ ∃ te pe, ev = .iface te pe)
    (hv : w.cell? ⟨3, 0, none⟩ = some ev) (hdb : w.cell? ⟨8, 15, none⟩ = some (.int .u8 4)) (htab : Lib.TabIs Tryd.prog w "internal/strconv.uint64pow10" .u64 Lib.pow10Tab) (t : ByteArray) (ht : t.size ≤ maxLen) :
    Calls Tryd.prog 8 #[.string t] w fun z w' => z = .returned (.bool true) ∧ Below w.heap.size w w' := by
  have ht : t.size ≤ 9223372036854775807 := ht
  have HM := Lib.hid (fun w' (h : Below w.heap.size w w') => (h.cell (p := ⟨0, 0, none⟩) (block_lt_of_cell hm)).trans hm)
  have HV := Lib.hid (fun w' (h : Below w.heap.size w w') => (h.cell (p := ⟨3, 0, none⟩) (block_lt_of_cell hv)).trans hv)
  have HD := Lib.hid (fun w' (h : Below w.heap.size w w') => (h.cell (p := ⟨8, 15, none⟩) (block_lt_of_cell hdb)).trans hdb)
  clear hm hv hdb htab
  by_cases hbig : 1048576 < t.size
  · have hbi : (1048576 : Int) < (t.size : Int) := by omega
    go_enter Tryd.func8, Tryd.ntmps8
    go_wp2_with fail
    go_ret
    exact ⟨rfl, Below.refl _ _⟩
  have hbi : ¬ (1048576 : Int) < (t.size : Int) := by omega
  have HS := Lib.hid (s_ReadShares t (by omega))
  have HI := Lib.hid (fun w hm hd hv => i_ReadShares t m ev hev w (by omega) hm hd hv)
  clear hbig hev
  generalize rsQ t.data.toList = Q at HS HI
  have HX := Lib.hid (show ∃ a b c d, shV Q = .agg #[.float .f32 a, .float .f32 b, .float .f32 c, .float .f32 d] by
    cases Q with
    | none => exact ⟨0, 0, 0, 0, rfl⟩
    | some q => obtain ⟨a, b, c, d⟩ := q; exact ⟨a, b, c, d, rfl⟩)
  generalize shV Q = v at HS HI HX
  generalize Q.isSome = B at HS HI
  obtain ⟨a, b, c, d, rfl⟩ := HX.out
  clear HX Q
  have HB0 := Lib.hid (Below.refl w.heap.size w)
  go_enter Tryd.func8, Tryd.ntmps8
  go_wp2_with fail
  refine (HS.out _).mono ?_
  rintro z w1 ⟨rfl, hb⟩
  have HB1 := Lib.hid (hb.alloc hb.size (.cells [.float .f32 0, .float .f32 0, .float .f32 0, .float .f32 0].toArray 38))
  have hz1 := hb.size
  clear hb HB0
  go_wp2_with (refine wpList_storeAgg (us := [.float .f32 a, .float .f32 b, .float .f32 c, .float .f32 d]) (storeSh _ _ _ _ _ _) rfl rfl (by simp [Value.oneCell']) (BK.new _ [.float .f32 0, .float .f32 0, .float .f32 0, .float .f32 0] _) (by simp) ?_; intro W hE hO hL hZ hG; have HB2 := Lib.hid (hL _ _ HB1.out hz1); simp [setsAt] at hE; have HE1 := Lib.hid hE; clear hE hO hL hG hZ)
  generalize w1.heap.size = p at *
  clear HB1
  refine (HI.out _ (HM.out _ HB2.out) (HD.out _ HB2.out) (HV.out _ HB2.out)).mono ?_
  rintro z w2 ⟨rfl, hb⟩
  have HE2 := Lib.hid (BK.alloc (HE1.out.keep hb) (.cells [.float .f32 0, .float .f32 0, .float .f32 0, .float .f32 0].toArray 38))
  have hb3 := HB2.out.trans (hb.mono HB2.out.size)
  have HB3 := Lib.hid (hb3.alloc hb3.size (.cells [.float .f32 0, .float .f32 0, .float .f32 0, .float .f32 0].toArray 38))
  have hz3 := hb3.size
  have hpq : p < w2.heap.size := (HE1.out.keep hb).lt
  clear hb hb3 HE1 HB2
  go_wp2_with (refine wpList_storeAgg (us := [.float .f32 a, .float .f32 b, .float .f32 c, .float .f32 d]) (storeSh _ _ _ _ _ _) rfl rfl (by simp [Value.oneCell']) (BK.new _ [.float .f32 0, .float .f32 0, .float .f32 0, .float .f32 0] _) (by simp) ?_; intro W2 hE hO hL hZ hG; have HB4 := Lib.hid (hL _ _ HB3.out hz3); have HE3 := Lib.hid (hO _ _ HE2.out (by omega)); simp [setsAt] at hE; have hce := hE.cells; have hcf := HE3.out.cells; clear hO hL hG hZ)
  refine (l_eqShares a b c d _).mono ?_
  rintro z w3 ⟨rfl, hb⟩
  have HB5 := Lib.hid (HB4.out.trans (hb.mono HB4.out.size))
  clear hb HB4 hce hcf
  cases B
  all_goals
    go_wp2_with fail
    go_ret
    exact ⟨rfl, HB5.out⟩
set_option maxRecDepth 100000 in
theorem FnExactReadShares_lifted (os : Os) (started : os.Started) (H : Type) (enc : TypeId × Value → H) :
    ReturnsInHanded {} Tryd.checked os 8 .any (fun w args => (Rows.fnExactReadSharesSpec.pre enc Tryd.prog Tryd.f8 [] false w args ∧ laidMetH Tryd.prog laidR w) ∧ sizedMet enc Tryd.prog Tryd.f8 (OpenSpec.ofChange Rows.fnExactReadSharesSpec) false w args)
      (Rows.fnExactReadSharesSpec.post enc Tryd.prog Tryd.f8 false true false false) := by
  refine change_and_shaped (C := Tryd.checked) (X := fun w _ => laidMetH Tryd.prog laidR w) (fun _ _ _ hh h => h.of_heap hh) own started (by kernel_rfl) Tryd.func8
    (ChangeSpec.witness_shaped (enc := enc) (C := Tryd.checked) (os := os) (X := fun w _ => laidMetH Tryd.prog laidR w) false (World.laidAll Tryd.prog os laidR) #[.string ByteArray.empty] 8 (World.laidAll_os _ _ _) (World.shaped_of_ZipB (by kernel_rfl) (by kernel_rfl)) (by kernel_rfl) (by kernel_rfl) (by kernel_rfl) (by rw [MakeChecks.laidMetH_plain _ _ _ (by kernel_rfl)]; exact laidMet_laidAll _ (by kernel_rfl) (by kernel_rfl))) ?_
  intro W base args ds gs before hval0 hW hL hsh
  have hdb := deR_of_laid hL
  have htab := tabR_of_laid hL
  obtain ⟨ev, hev0, hev⟩ := erR_of_laid hL
  obtain ⟨mx, hmx⟩ := max_of_shape hsh
  have hval : ∀ (j : Nat) t v, Tryd.f8.params[j]? = some t → args[j]? = some v → Value.okWide Tryd.prog W .any base t v := hval0
  have hW' := hW
  obtain ⟨p, q, hA0, hV, rfl, hfz, hnd⟩ := hW
  have hA : DataW.TrodAll enc Tryd.prog W 0 (fun _ => true) true Tryd.f8.params.toList args.toList ds p := hA0
  rw [Tryd.params8] at hA hval
  obtain ⟨v0, vs0, d0, ds0, p0, q0, hargs, rfl, rfl, h0, r0⟩ := trodAll_cons hA
  obtain ⟨rfl, rfl, rfl⟩ := trodAll_nil r0
  obtain rfl : args = #[v0] := by cases args; simp_all
  obtain ⟨rfl, rfl⟩ := trodVars_none hV
  have k0 := h0
  have lt0 : ∀ x ∈ p0, x.block < W.heap.size := by obtain ⟨m, hm⟩ := k0; exact DataW.trod_lt m _ _ _ hm
  obtain ⟨a0, rfl, _, _, hs0⟩ := open_string Tryd.underlying9 (hval 0 9 v0 rfl rfl) h0
  clear hA0 hval0
  refine (FnExactReadShares_walk (w := W) mx hmx ev hev hev0 hdb htab a0 hs0).mono fun e W' ⟨he, bel⟩ => ?_
  subst he
  exact ⟨_, rfl, _, _, _, [], _, [], hW', trodAll_mk1 (shut_bool Tryd.underlying4 _), (trodAll_cons_mk (Below.trod laidOut (by kernel_rfl) (of_decide_eq_true (by kernel_rfl)) k0 bel lt0) trodAll_mk0), rfl, bel.frame _, fun h => by cases h⟩

theorem fnExactReadShares_row : Rows.FnExactReadSharesSaid :=
  OpenClaim.holds_of_wide 8 Tryd.f8 rfl rfl rfl rfl rfl rfl rfl ⟨rfl, rfl, rfl, rfl, rfl⟩ rfl rfl rfl rfl rfl (by kernel_rfl) Tryd.func8 (by kernel_rfl)
    (of_decide_eq_true (by kernel_rfl)) (by unfold Func.isWrapper; first | (rw [if_pos (by decide +kernel)]; kernel_rfl) | (rw [if_neg (by decide +kernel)]; exact ⟨rfl, rfl⟩))
    (fun os started H enc _ => FnExactReadShares_lifted os started H enc)
/-- The tied card. -/
theorem fnExactReadShares_holds : Rows.FnExactReadSharesCardSaid :=
  Claim7.holds_tied_plain_at .later [] [.data, .data, .data, .data, .sentinel, .sentinel, .pinned] true (true, "c7074ca69b511a19f7163cb84a4d6b1ee99fd0aecb37ccae4d191d2e8714b97b") true
    fnExactReadShares_row (fun _ h => by cases h) (by kernel_rfl) (fun _ h => by cases h) fnExactReadShares_row_tie rfl ⟨rfl, rfl⟩ (by kernel_rfl) rfl
    (fun f fn hf hfn => by
      obtain rfl : f = 8 := Option.some.inj ((show Tryd.prog.funcNamed "loop.example/g01375/laws.FnExactReadShares" = some 8 by kernel_rfl).symm.trans hf) |>.symm
      obtain rfl : fn = Tryd.f8 := (Option.some.inj (Tryd.func8.symm.trans hfn)).symm
      exact ⟨by kernel_rfl, fun j t ht => by
        rw [Tryd.params8] at ht
        have hm : t ∈ [9] := by simpa using Array.mem_of_getElem? ht
        have hall : ([9].all fun u => !Tryd.prog.wantsStandIn u) = true := by kernel_rfl
        exact (show Tryd.prog.wantsStandIn t = false by simpa using List.all_eq_true.1 hall t hm)⟩)
    (by kernel_rfl)
#print axioms fnExactReadShares_holds

end Go.Proofs.YtebahccjaieajaaDoor
