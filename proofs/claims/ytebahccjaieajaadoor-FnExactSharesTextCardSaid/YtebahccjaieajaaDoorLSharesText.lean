/- THE LAW FnExactSharesText: the program's SharesText returns what the reference's returns, for all arguments. The condition: three tables of the library's start as the program's text lays them (the card ties them). -/
import Derived.Test.YtebahccjaieajaaDoorLawKitE
import Derived.Test.YtebahccjaieajaaDoorK107
namespace Go.Proofs.YtebahccjaieajaaDoor
set_option linter.unusedSimpArgs false
set_option linter.unusedVariables false
set_option maxRecDepth 100000
set_option maxHeartbeats 4000000
open Go.ChangeShapes Go.WideShapes Go.ChangeAt Go.RowKit
open Go.ChangeMaps (open_string)

theorem FnExactSharesText_walk {w : World} (hdb : w.cell? ⟨8, 15, none⟩ = some (.int .u8 4)) (a : Nat) (ha : a < 4294967296) (b : Nat) (hb : b < 4294967296) (c : Nat) (hc : c < 4294967296) (d : Nat) (hd : d < 4294967296) :
    Calls Tryd.prog 6 #[.agg #[.float .f32 a, .float .f32 b, .float .f32 c, .float .f32 d]] w fun z w' => z = .returned (.bool true) ∧ Below w.heap.size w w' := by
  have hl : ∀ x ∈ [a, b, c, d], x < 4294967296 := by
    intro x hx
    simp only [List.mem_cons, List.not_mem_nil, or_false] at hx
    rcases hx with rfl | rfl | rfl | rfl <;> assumption
  have hdl := block_lt_of_cell hdb
  have HS := Lib.hid (s_SharesText a b c d hl)
  have HI := Lib.hid (i_SharesText a b c d hl)
  have HT := Lib.hid (l_toShares a b c d)
  have HB0 := Lib.hid (show Below w.heap.size w (w.alloc (.cells #[.float .f32 a, .float .f32 b, .float .f32 c, .float .f32 d] 36)) from (Below.refl _ _).alloc (Nat.le_refl _) _)
  generalize tx (shQ a b c d).1 = t at HS HI
  generalize (shQ a b c d).2 = q at HS HI
  clear hl
  go_enter Tryd.func6, Tryd.ntmps6
  go_wp2_with fail
  refine (HT.out _).mono ?_; rintro z w1 ⟨rfl, hb⟩
  have hb1 : Below w.heap.size w w1 := HB0.out.trans (hb.mono HB0.out.size)
  obtain ⟨hcA, hfA⟩ := bcell hb
  have hx0 : w1.cell? ⟨w.heap.size, 0, none⟩ = some (.float .f32 a) := (hcA _ _ (by simp)).trans (by simp)
  have hx1 : w1.cell? ⟨w.heap.size, 1, none⟩ = some (.float .f32 b) := (hcA _ _ (by simp)).trans (by simp)
  have hx2 : w1.cell? ⟨w.heap.size, 2, none⟩ = some (.float .f32 c) := (hcA _ _ (by simp)).trans (by simp)
  have hx3 : w1.cell? ⟨w.heap.size, 3, none⟩ = some (.float .f32 d) := (hcA _ _ (by simp)).trans (by simp)
  have hp1 := block_lt_of_cell hx0
  clear hb hcA hfA HB0
  go_wp2_with fail
  refine (HS.out _).mono ?_; rintro z w2 ⟨rfl, hb⟩
  have hb2 : Below w.heap.size w w2 := hb1.trans (hb.mono hb1.size)
  obtain ⟨hcA, hfA⟩ := bcell hb
  have hy0 := (hcA _ _ hp1).trans hx0
  have hy1 := (hcA _ 1 hp1).trans hx1
  have hy2 := (hcA _ 2 hp1).trans hx2
  have hy3 := (hcA _ 3 hp1).trans hx3
  clear hb hcA hfA hx0 hx1 hx2 hx3 hb1
  go_wp2_with fail
  refine (HT.out _).mono ?_; rintro z w3 ⟨rfl, hb⟩
  have hb3 : Below w.heap.size w w3 := hb2.trans (hb.mono hb2.size)
  clear hb hy0 hy1 hy2 hy3 hb2
  go_wp2_with fail
  refine (HI.out _ ((hb3.cell (p := ⟨8, 15, none⟩) hdl).trans hdb)).mono ?_; rintro z w4 ⟨rfl, hb⟩
  have hb4 : Below w.heap.size w w4 := hb3.trans (hb.mono hb3.size)
  clear hb hb3
  go_wp2_with fail
  go_ret
  exact ⟨rfl, hb4⟩
set_option maxRecDepth 100000 in
theorem FnExactSharesText_lifted (os : Os) (started : os.Started) (H : Type) (enc : TypeId × Value → H) :
    ReturnsInHanded {} Tryd.checked os 6 .any (fun w args => (Rows.fnExactSharesTextSpec.pre enc Tryd.prog Tryd.f6 [] false w args ∧ laidMetH Tryd.prog laidT w) ∧ sizedMet enc Tryd.prog Tryd.f6 (OpenSpec.ofChange Rows.fnExactSharesTextSpec) false w args)
      (Rows.fnExactSharesTextSpec.post enc Tryd.prog Tryd.f6 false true false false) := by
  refine change_and_shaped (C := Tryd.checked) (X := fun w _ => laidMetH Tryd.prog laidT w) (fun _ _ _ hh h => h.of_heap hh) own started (by kernel_rfl) Tryd.func6
    (ChangeSpec.witness_shaped (enc := enc) (C := Tryd.checked) (os := os) (X := fun w _ => laidMetH Tryd.prog laidT w) false (World.doorLaid Tryd.prog 400 os) #[.agg #[.float .f32 0, .float .f32 0, .float .f32 0, .float .f32 0]] 8 rfl (World.shaped_of_RefB (by kernel_rfl) (by kernel_rfl)) (by kernel_rfl) (by kernel_rfl) (by kernel_rfl) (door_met os _)) ?_
  intro W base args ds gs before hval0 hW hL hsh
  have htab := tab_of_laid hL
  have hdb := deB_of_laid hL
  obtain ⟨mx, hmx⟩ := max_of_shape hsh
  have hval : ∀ (j : Nat) t v, Tryd.f6.params[j]? = some t → args[j]? = some v → Value.okWide Tryd.prog W .any base t v := hval0
  have hW' := hW
  obtain ⟨p, q, hA0, hV, rfl, hfz, hnd⟩ := hW
  have hA : DataW.TrodAll enc Tryd.prog W 0 (fun _ => true) true Tryd.f6.params.toList args.toList ds p := hA0
  rw [Tryd.params6] at hA hval
  obtain ⟨v0, vs0, d0, ds0, p0, q0, hargs, rfl, rfl, h0, r0⟩ := trodAll_cons hA
  obtain ⟨rfl, rfl, rfl⟩ := trodAll_nil r0
  obtain rfl : args = #[v0] := by cases args; simp_all
  obtain ⟨rfl, rfl⟩ := trodVars_none hV
  have k0 := h0
  have lt0 : ∀ x ∈ p0, x.block < W.heap.size := by obtain ⟨m, hm⟩ := k0; exact DataW.trod_lt m _ _ _ hm
  obtain ⟨vs0, n0, rfl, hl0, hg0⟩ := open_struct Tryd.underlying36 (by kernel_rfl) (by kernel_rfl) (hval 0 36 v0 rfl rfl) h0
  obtain ⟨u00, y00, e00, z00⟩ := hg0 0 _ rfl; obtain ⟨x00, q00, _, w00⟩ := trod_float Tryd.underlying34 z00; simp only [List.cons.injEq, and_true] at q00; subst q00
  obtain ⟨u01, y01, e01, z01⟩ := hg0 1 _ rfl; obtain ⟨x01, q01, _, w01⟩ := trod_float Tryd.underlying34 z01; simp only [List.cons.injEq, and_true] at q01; subst q01
  obtain ⟨u02, y02, e02, z02⟩ := hg0 2 _ rfl; obtain ⟨x02, q02, _, w02⟩ := trod_float Tryd.underlying34 z02; simp only [List.cons.injEq, and_true] at q02; subst q02
  obtain ⟨u03, y03, e03, z03⟩ := hg0 3 _ rfl; obtain ⟨x03, q03, _, w03⟩ := trod_float Tryd.underlying34 z03; simp only [List.cons.injEq, and_true] at q03; subst q03
  obtain rfl : vs0 = [.float .f32 x00, .float .f32 x01, .float .f32 x02, .float .f32 x03] := four hl0 e00 e01 e02 e03
  clear hA0 hval0
  refine (FnExactSharesText_walk (w := W) hdb x00 (f32_lt w00) x01 (f32_lt w01) x02 (f32_lt w02) x03 (f32_lt w03)).mono fun e W' ⟨he, bel⟩ => ?_
  subst he
  exact ⟨_, rfl, _, _, _, [], _, [], hW', trodAll_mk1 (shut_bool Tryd.underlying4 _), (trodAll_cons_mk (Below.trod laidOut (by kernel_rfl) (of_decide_eq_true (by kernel_rfl)) k0 bel lt0) trodAll_mk0), rfl, bel.frame _, fun h => by cases h⟩

theorem fnExactSharesText_row : Rows.FnExactSharesTextSaid :=
  OpenClaim.holds_of_wide 6 Tryd.f6 rfl rfl rfl rfl rfl rfl rfl ⟨rfl, rfl, rfl, rfl, rfl⟩ rfl rfl rfl rfl rfl (by kernel_rfl) Tryd.func6 (by kernel_rfl)
    (of_decide_eq_true (by kernel_rfl)) (by unfold Func.isWrapper; first | (rw [if_pos (by decide +kernel)]; kernel_rfl) | (rw [if_neg (by decide +kernel)]; exact ⟨rfl, rfl⟩))
    (fun os started H enc _ => FnExactSharesText_lifted os started H enc)
/-- The tied card. -/
theorem fnExactSharesText_holds : Rows.FnExactSharesTextCardSaid :=
  Claim7.holds_tied_plain_at .later [] [.data, .data, .data] true (true, "c7074ca69b511a19f7163cb84a4d6b1ee99fd0aecb37ccae4d191d2e8714b97b") true
    fnExactSharesText_row (fun _ h => by cases h) (by kernel_rfl) (fun _ h => by cases h) fnExactSharesText_row_tie rfl ⟨rfl, rfl⟩ (by kernel_rfl) rfl
    (fun f fn hf hfn => by
      obtain rfl : f = 6 := Option.some.inj ((show Tryd.prog.funcNamed "loop.example/g01375/laws.FnExactSharesText" = some 6 by kernel_rfl).symm.trans hf) |>.symm
      obtain rfl : fn = Tryd.f6 := (Option.some.inj (Tryd.func6.symm.trans hfn)).symm
      exact ⟨by kernel_rfl, fun j t ht => by
        rw [Tryd.params6] at ht
        have hm : t ∈ [36] := by simpa using Array.mem_of_getElem? ht
        have hall : ([36].all fun u => !Tryd.prog.wantsStandIn u) = true := by kernel_rfl
        exact (show Tryd.prog.wantsStandIn t = false by simpa using List.all_eq_true.1 hall t hm)⟩)
    (by kernel_rfl)
#print axioms fnExactSharesText_holds

end Go.Proofs.YtebahccjaieajaaDoor
