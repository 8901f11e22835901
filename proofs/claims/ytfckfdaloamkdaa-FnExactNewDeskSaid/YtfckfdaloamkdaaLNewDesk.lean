/- THE LAW FnExactNewDesk: the program's NewDesk returns what the reference's returns. No condition. -/
import Derived.Test.YtfckfdaloamkdaaLawKit
import Derived.Test.YtfckfdaloamkdaaK51
namespace Go.Proofs.Ytfckfdaloamkdaa
set_option maxRecDepth 100000
set_option maxHeartbeats 4000000
open Go.ChangeShapes Go.WideShapes Go.ChangeAt Go.RowKit
set_option linter.unusedVariables false
set_option linter.unusedSimpArgs false
attribute [local go_sem] run_store_float run_store_complex alloc_drewN setCell_drewN

theorem OW.past {T lo : Nat} {w W : World} {v : Value} {cs : List Nat} {o : Obj} (h : OW T lo w v cs) (hg : (w.alloc o).grownBy W (some w.heap.size)) : OW T lo W v cs :=
  OW.kept (OW.alloc h o) hg (by
    cases hv : v.ownBlock with
    | none => exact .inl rfl
    | some g =>
      refine .inr (fun e => ?_)
      have := (h.block g hv).2
      injection e with e
      omega)
theorem cnh : cn .f32 1056964608 = 1056964608 := by decide +kernel
theorem cno : cn .f32 1065353216 = 1065353216 := by decide +kernel
theorem cnt2 : cn .f32 1073741824 = 1073741824 := by decide +kernel

set_option maxRecDepth 100000 in
set_option maxHeartbeats 8000000 in
theorem FnExactNewDesk_walk (w : World) : Calls Try.prog 10 #[] w fun z w' => z = .returned (.bool true) ∧ Below w.heap.size w w' := by
  go_enter Try.func10, Try.ntmps10
  go_wp2_with (first
    | (go_at_call 38; refine (s_NewDesk _).mono ?_; rintro z w1 ⟨⟨t0, u0, rfl, ht0, hu0⟩, hb1⟩; obtain ⟨to0, tc0, rfl, hq⟩ := ht0.sl.slice; obtain ⟨uo0, uc0, rfl, hq2⟩ := hu0.sl.slice; clear hq hq2; have HT0 := Lib.hid ht0; have HU0 := Lib.hid hu0; have hbw : Below w.heap.size w w1 := (by (repeat (first | with_reducible exact Below.refl _ _ | with_reducible assumption | with_reducible refine below_drewN ?_ _ | with_reducible refine Below.drew ?_ | with_reducible refine Below.alloc ?_ (by first | omega | (simp; omega) | (simp; done) | (simp at *; omega)) _ | with_reducible refine Below.setCell ?_ (by first | omega | (simp; omega) | (simp; done) | (simp at *; omega)) _ | refine Below.trans ?_ (Below.mono (by with_reducible assumption) (by first | omega | (simp; omega) | (simp; done) | (simp at *; omega)))))); have hz1 := hbw.size; clear ht0 hu0 hb1)
    | ((refine wpList_storeAgg (us := [.slice _ _ _, .float .f32 _, .float .f32 _, .slice _ _ _, .int .i64 _, .float .f32 _, .float .f32 _, .float .f32 _, .float .f32 _, .int .i64 _]) (storeDk _ _ _ _ _ _ _ _ _ _ _ _ _ _ _ _) rfl rfl (by simp [Value.oneCell']) (BK.new _ _ _) (by simp) ?_; intro W1 hB hO hL hZ hG; have HK1 := Lib.hid hB; have hbw1 := hL _ _ (Below.alloc hbw hz1 _) hz1; have hS := hL _ _ (Below.alloc (Below.refl w1.heap.size w1) (Nat.le_refl _) _) (Nat.le_refl _); (try simp only [World.size_alloc] at hZ); clear hB hO hL hG; simp [setsAt] at HK1)))
  have hkl := HK1.out.lt
  refine (i_NewDesk W1).mono ?_
  rintro z w2 ⟨⟨t, u, r0, r1, rfl, e0, e1, ht, hu, hne⟩, hb2⟩
  have HTB := Lib.hid (fun g hg => ht.block g hg)
  have HUB := Lib.hid (fun g hg => hu.block g hg)
  have HNE := Lib.hid hne
  obtain ⟨to, tc, rfl, hq⟩ := ht.sb.sl.slice
  obtain ⟨uo, uc, rfl, hq2⟩ := hu.sb.sl.slice
  have HT := Lib.hid ht
  have HU := Lib.hid hu
  have HE0 := Lib.hid e0
  have HE1 := Lib.hid e1
  have hz2 := hb2.size
  replace HK1 := Lib.hid (BK.keep HK1.out hb2)
  replace hbw := Below.trans hbw1 (Below.mono hb2 (by have := hbw1.size; omega))
  replace hS := Below.trans hS (Below.mono hb2 (by omega))
  clear ht hu e0 e1 hb2 hbw1 hne hq hq2
  go_wp2_with (first
    | ((refine wpList_storeAgg (us := [.slice _ _ _, .float .f32 _, .float .f32 _, .slice _ _ _, .int .i64 _, .float .f32 _, .float .f32 _, .float .f32 _, .float .f32 _, .int .i64 _]) (storeDk _ _ _ _ _ _ _ _ _ _ _ _ _ _ _ _) rfl rfl (by simp [Value.oneCell']) (BK.new _ _ _) (by simp) ?_; intro W3 hB hO hL hZ3 hG; have HK2 := Lib.hid hB; replace HK1 := Lib.hid (hO _ _ (BK.alloc HK1.out _) (by omega)); replace hbw := hL _ _ (Below.alloc hbw (by have := hbw.size; omega) _) (by have := hbw.size; omega); replace hS := hL _ _ (Below.alloc hS (by omega) _) (by omega); replace HT := Lib.hid (OW.past HT.out hG); replace HU := Lib.hid (OW.past HU.out hG); (try simp only [World.size_alloc] at hZ3); clear hB hO hL hG; simp [setsAt] at HK2; have hc1 := HK1.out.cells; have hc2 := HK2.out.cells))
    | (go_at_call 40; (refine (l_eqDesk _ _ _ _ (nd4.map (cn .f32)) [0] _ _ _ _ _ _ _ _ _ _ _ _ _ _ _ (DS.mk HT.out.sb.sl (SB.sl (SB.below HT0.out hS (Nat.le_refl _))) HU.out.sb.sl (SB.sl (SB.below HU0.out hS (Nat.le_refl _))) (by simp [HE0.out, HE1.out, cno, cnt2]))).mono ?_; rintro z w4 ⟨rfl, hb4⟩; have hz4 := hb4.size; replace HK1 := Lib.hid (BK.keep HK1.out hb4); replace HK2 := Lib.hid (BK.keep HK2.out hb4); replace HT := Lib.hid (OW.keep HT.out hb4); replace HU := Lib.hid (OW.keep HU.out hb4); replace hbw := Below.trans hbw (Below.mono hb4 (by have := hbw.size; omega)); replace hS := Below.trans hS (Below.mono hb4 (by have := hS.size; omega)); clear hb4 hc1 hc2; have hc1 := HK1.out.cells; have hc2 := HK2.out.cells))
    | (go_at_call 41; (refine (l_markDesk W1.heap.size _ _ _ _ (nd4.map (cn .f32)) [0] _ _ _ _ _ _ 1 _ HT.out HU.out HNE.out (by omega) (by omega) (by simp [nd4]) (by simp)).mono ?_; rintro z w5 ⟨rfl, ho1, ho2, wm, hg1, hg2⟩; rw [show (1 : Int) + ((nd4.map (cn .f32)).length : Nat) + (([0] : List Nat).length : Nat) = 6 from rfl]; have hz5 := hg1.size; have hz6 := hg2.size; replace HK1 := Lib.hid (BK.grown (BK.grown HK1.out hg1 (by intro e; have := (HTB.out _ e).1; omega)) hg2 (by intro e; have := (HUB.out _ e).1; omega)); replace HK2 := Lib.hid (BK.grown (BK.grown HK2.out hg1 (by intro e; have := (HTB.out _ e).2; omega)) hg2 (by intro e; have := (HUB.out _ e).2; omega)); replace hbw := Below.grown (Below.grown hbw hg1 (by have := hbw.size; omega) (fun g e => by have := (HTB.out g e).1; have := hbw.size; omega)) hg2 (by have := hbw.size; omega) (fun g e => by have := (HUB.out g e).1; have := hbw.size; omega); replace hS := Below.grown (Below.grown hS hg1 (by have := hS.size; omega) (fun g e => by have := (HTB.out g e).1; omega)) hg2 (by have := hS.size; omega) (fun g e => by have := (HUB.out g e).1; omega); replace HT := Lib.hid ho1; replace HU := Lib.hid ho2; clear ho1 ho2 hg1 hg2 hc1 hc2; have hc1 := HK1.out.cells; have hc2 := HK2.out.cells))
    | (go_at_call 42; (refine (l_heldDesk _ _ _ _ (nd4.map (cn .f32)).length ([0] : List Nat).length _ _ _ _ _ _ 1 _ HT.out.sb.sl HU.out.sb.sl (by omega) (by omega) (by simp [nd4]) (by simp)).mono ?_; rintro z w7 ⟨rfl, hb7⟩; rw [show (1 : Int) + ((nd4.map (cn .f32)).length : Nat) + (([0] : List Nat).length : Nat) = 6 from rfl]; have hz7 := hb7.size; replace HK1 := Lib.hid (BK.keep HK1.out hb7); replace HK2 := Lib.hid (BK.keep HK2.out hb7); replace HT := Lib.hid (OW.keep HT.out hb7); replace HU := Lib.hid (OW.keep HU.out hb7); replace hbw := Below.trans hbw (Below.mono hb7 (by have := hbw.size; omega)); replace hS := Below.trans hS (Below.mono hb7 (by have := hS.size; omega)); clear hb7 hc1 hc2; have hc1 := HK1.out.cells; have hc2 := HK2.out.cells)))
  refine (i_NewDesk _).mono ?_
  rintro z w8 ⟨⟨t8, u8, r8, r9, rfl, e8, e9, ht8, hu8, hne8⟩, hb8⟩
  obtain ⟨to8, tc8, rfl, hq⟩ := ht8.sb.sl.slice
  obtain ⟨uo8, uc8, rfl, hq2⟩ := hu8.sb.sl.slice
  have HT8 := Lib.hid ht8
  have HU8 := Lib.hid hu8
  have HE8 := Lib.hid e8
  have HE9 := Lib.hid e9
  have hz8 := hb8.size
  replace HK1 := Lib.hid (BK.keep HK1.out hb8)
  replace HK2 := Lib.hid (BK.keep HK2.out hb8)
  replace HT := Lib.hid (OW.keep HT.out hb8)
  replace HU := Lib.hid (OW.keep HU.out hb8)
  replace hbw := Below.trans hbw (Below.mono hb8 (by have := hbw.size; omega))
  replace hS := Below.trans hS (Below.mono hb8 (by have := hS.size; omega))
  clear ht8 hu8 e8 e9 hb8 hne8 hq hq2 hc1 hc2
  go_wp2_with (first
    | ((refine wpList_storeAgg (us := [.slice _ _ _, .float .f32 _, .float .f32 _, .slice _ _ _, .int .i64 _, .float .f32 _, .float .f32 _, .float .f32 _, .float .f32 _, .int .i64 _]) (storeDk _ _ _ _ _ _ _ _ _ _ _ _ _ _ _ _) rfl rfl (by simp [Value.oneCell']) (BK.new _ _ _) (by simp) ?_; intro W9 hB hO hL hZ9 hG; have HK5 := Lib.hid hB; replace HK1 := Lib.hid (hO _ _ (BK.alloc HK1.out _) (by have := HK1.out.lt; omega)); replace HK2 := Lib.hid (hO _ _ (BK.alloc HK2.out _) (by have := HK2.out.lt; omega)); replace hbw := hL _ _ (Below.alloc hbw (by have := hbw.size; omega) _) (by have := hbw.size; omega); replace hS := hL _ _ (Below.alloc hS (by have := hS.size; omega) _) (by have := hS.size; omega); replace HT := Lib.hid (OW.past HT.out hG); replace HU := Lib.hid (OW.past HU.out hG); replace HT8 := Lib.hid (OW.past HT8.out hG); replace HU8 := Lib.hid (OW.past HU8.out hG); clear hB hO hL hG; simp [setsAt] at HK5; have hc1 := HK1.out.cells; have hc2 := HK2.out.cells; have hc5 := HK5.out.cells))
    | (go_at_call 40; (refine (l_eqDesk _ _ _ _ (nd4.map (cn .f32)) [0] _ _ _ _ _ _ _ _ _ _ _ _ _ _ _ (DS.mk HT8.out.sb.sl (SB.sl (SB.below HT0.out hS (Nat.le_refl _))) HU8.out.sb.sl (SB.sl (SB.below HU0.out hS (Nat.le_refl _))) (by simp [HE8.out, HE9.out, cno, cnt2]))).mono ?_; rintro z w10 ⟨rfl, hb4⟩; have hz10 := hb4.size; replace HK2 := Lib.hid (BK.keep HK2.out hb4); replace HT := Lib.hid (OW.keep HT.out hb4); replace HU := Lib.hid (OW.keep HU.out hb4); replace hbw := Below.trans hbw (Below.mono hb4 (by have := hbw.size; omega)); clear hb4 hc1 hc2 hc5; have hc2 := HK2.out.cells))
    | (go_at_call 42; (refine (l_heldDesk _ _ _ _ (nd4.map (cn .f32)).length ([0] : List Nat).length _ _ _ _ _ _ 1 _ HT.out.sb.sl HU.out.sb.sl (by omega) (by omega) (by simp [nd4]) (by simp)).mono ?_; rintro z w11 ⟨rfl, hb7⟩; rw [show (1 : Int) + ((nd4.map (cn .f32)).length : Nat) + (([0] : List Nat).length : Nat) = 6 from rfl]; replace hbw := Below.trans hbw (Below.mono hb7 (by have := hbw.size; omega)); clear hb7)))
  go_ret
  exact ⟨rfl, by first | exact hbw | exact below_drewN hbw _⟩
set_option maxRecDepth 100000 in
theorem FnExactNewDesk_lifted (os : Os) (started : os.Started) (H : Type) (enc : TypeId × Value → H) :
    ReturnsInHanded {} Try.checked os 10 .any (Rows.fnExactNewDeskSpec.pre6 enc Try.prog Try.f10 Rows.fnExactNewDeskRow.domain false) (Rows.fnExactNewDeskSpec.post enc Try.prog Try.f10 false true false false) := by
  refine returnsInHanded_of_change (C := Try.checked) own started (by kernel_rfl) Try.func10
    (ChangeSpec.witness6 (enc := enc) (C := Try.checked) false ⟨#[], #[], []⟩ 8 (by kernel_rfl) (by kernel_rfl) (by kernel_rfl) (by kernel_rfl)) ?_
  intro W base args ds gs before hval0 hW hcnd _
  have hval : ∀ (j : Nat) t v, Try.f10.params[j]? = some t → args[j]? = some v → Value.okWide Try.prog W .any base t v := hval0
  have hW' := hW
  obtain ⟨p, q, hA0, hV, rfl, hfz, hnd⟩ := hW
  have hA : DataW.TrodAll enc Try.prog W 0 (fun _ => true) true Try.f10.params.toList args.toList ds p := hA0
  rw [Try.params10] at hA hval
  obtain ⟨hargs, rfl, rfl⟩ := trodAll_nil hA
  obtain rfl : args = #[] := by cases args; simp_all
  obtain ⟨rfl, rfl⟩ := trodVars_none hV
  clear hA0 hval0
  refine (FnExactNewDesk_walk (w := W) ).mono fun e W' ⟨he, bel⟩ => ?_
  subst he
  exact ⟨_, rfl, _, _, _, [], _, [], hW', trodAll_mk1 (shut_bool Try.underlying4 _), trodAll_mk0, rfl, bel.frame _, fun h => by cases h⟩

theorem fnExactNewDesk_holds : Rows.FnExactNewDeskSaid :=
  OpenClaim.holds_of_wide 10 Try.f10 rfl rfl rfl rfl rfl rfl rfl ⟨rfl, rfl, rfl, rfl, rfl⟩ rfl rfl rfl rfl rfl (by kernel_rfl) Try.func10 (by kernel_rfl)
    (of_decide_eq_true (by kernel_rfl)) (by unfold Func.isWrapper; first | (rw [if_pos (by decide +kernel)]; kernel_rfl) | (rw [if_neg (by decide +kernel)]; exact ⟨rfl, rfl⟩))
    (fun os started H enc _ => FnExactNewDesk_lifted os started H enc)
#print axioms fnExactNewDesk_holds

end Go.Proofs.Ytfckfdaloamkdaa
