/- THE LAW FnExactTrendStep: the program's TrendStep returns what the reference's returns, for all arguments. No condition. -/
import Derived.Test.YtcnfdmnjeklbiaaLawKit
import Derived.Test.YtcnfdmnjeklbiaaK22c
import Derived.Test.YtcnfdmnjeklbiaaK28c
import Derived.Test.YtcnfdmnjeklbiaaBk2
namespace Go.Proofs.Ytcnfdmnjeklbiaa
set_option maxRecDepth 100000
set_option maxHeartbeats 4000000
set_option linter.unusedSimpArgs false
open Go.ChangeShapes Go.WideShapes Go.ChangeAt Go.RowKit
set_option linter.unusedVariables false


theorem storeTr (p j a b c d e f g h : Nat) : ∀ w, (Instr.storeAt 59 (.pointer (some ⟨p, j, none⟩)) (.agg [.float .f32 a, .float .f32 b, .float .f32 c, .float .f32 d, .float .f32 e, .float .f32 f, .float .f32 g, .float .f32 h].toArray)).run Try.prog w = (storeCells ⟨p, j, none⟩ [.float .f32 a, .float .f32 b, .float .f32 c, .float .f32 d, .float .f32 e, .float .f32 f, .float .f32 g, .float .f32 h] 0).run Try.prog w := by intro w; go_simp
set_option maxRecDepth 100000 in
set_option maxHeartbeats 20000000 in
theorem FnExactTrendStep_walk (w : World) (a : Nat) (ha : a < 4294967296) (b : Nat) (hb : b < 4294967296) (c : Nat) (hc : c < 4294967296) (d : Nat) (hd : d < 4294967296) (e : Nat) (he : e < 4294967296) (f : Nat) (hf : f < 4294967296) (g : Nat) (hg : g < 4294967296) (h : Nat) (hh : h < 4294967296) (x : Nat) (hx : x < 4294967296) (seen : Bool) :
    Calls Try.prog 12 #[.agg #[.float .f32 a, .float .f32 b, .float .f32 c, .float .f32 d, .float .f32 e, .float .f32 f, .float .f32 g, .float .f32 h], .float .f32 x, .bool seen] w fun z w' => z = .returned (.bool true) ∧ Below w.heap.size w w' := by
  generalize hQ : tsQ (cn .f32 a) (cn .f32 b) (cn .f32 c) (cn .f32 d) (cn .f32 e) (cn .f32 f) (cn .f32 g) (cn .f32 h) (cn .f32 x) seen = Q
  have HQ := Lib.hid hQ
  clear hQ
  have HA := Lib.hid (BK.new w [.float .f32 a, .float .f32 b, .float .f32 c, .float .f32 d, .float .f32 e, .float .f32 f, .float .f32 g, .float .f32 h] 58)
  have hbw : Below w.heap.size w (w.alloc (.cells (List.toArray [.float .f32 a, .float .f32 b, .float .f32 c, .float .f32 d, .float .f32 e, .float .f32 f, .float .f32 g, .float .f32 h]) 58)) := by (repeat (first | with_reducible exact Below.refl _ _ | with_reducible assumption | with_reducible refine below_drewN ?_ _ | with_reducible refine Below.drew ?_ | with_reducible refine Below.alloc ?_ (by first | omega | (simp; omega) | (simp; done) | (simp at *; omega)) _ | with_reducible refine Below.setCell ?_ (by first | omega | (simp; omega) | (simp; done) | (simp at *; omega)) _ | refine Below.trans ?_ (Below.mono (by with_reducible assumption) (by first | omega | (simp; omega) | (simp; done) | (simp at *; omega)))))
  go_enter Try.func12, Try.ntmps12
  go_wp2_with fail
  refine (l_toTrend a b c d e f g h _).mono ?_; rintro z w1 ⟨rfl, hb1⟩
  have hz1 := hb1.size
  (try simp only [World.size_alloc] at hz1)
  replace HA := Lib.hid (BK.keep HA.out hb1)
  replace hbw := Below.trans hbw (Below.mono hb1 (by simp))
  have hca := HA.out.cells; have hfa := HA.out.fro
  go_wp2_with fail
  refine (s_TrendStep a b c d e f g h x ha hb hc hd he hf hg hh hx seen _).mono ?_; rintro z w2 ⟨hte, hb2⟩
  rw [HQ.out] at hte
  obtain ⟨r20, r21, r22, r23, r24, r25, r26, r27, r2E, b2, rfl, -, hq2⟩ := hte
  have HQ2 := Lib.hid hq2
  have hz2 := hb2.size
  clear hq2 hca hfa
  replace HA := Lib.hid (BK.keep HA.out hb2)
  replace hbw := Below.trans hbw (Below.mono hb2 (by omega))
  have hca := HA.out.cells; have hfa := HA.out.fro
  go_wp2_with (refine wpList_storeAgg (us := [.float .f32 r20, .float .f32 r21, .float .f32 r22, .float .f32 r23, .float .f32 r24, .float .f32 r25, .float .f32 r26, .float .f32 r27]) (storeTr _ _ _ _ _ _ _ _ _ _) rfl rfl (by simp [Value.oneCell']) (BK.new _ _ _) (by simp) ?_; intro W hB hO hL hZ hG; replace HA := Lib.hid (hO _ _ (BK.alloc HA.out _) (by have := HA.out.lt; omega)); replace hbw := hL _ _ (Below.alloc hbw (by omega) _) (by omega); (try simp only [World.size_alloc] at hZ); have HW := Lib.hid hB; clear hB hO hL hG hca hfa; simp [setsAt] at HW; have hca := HA.out.cells; have hfa := HA.out.fro; have hcw := HW.out.cells; have hfw := HW.out.fro)
  refine (l_toTrend a b c d e f g h _).mono ?_; rintro z w3 ⟨rfl, hb3⟩
  have hz3 := hb3.size
  clear hca hfa hcw hfw
  replace HA := Lib.hid (BK.keep HA.out hb3)
  replace HW := Lib.hid (BK.keep HW.out hb3)
  replace hbw := Below.trans hbw (Below.mono hb3 (by omega))
  have hca := HA.out.cells; have hfa := HA.out.fro
  go_wp2_with fail
  refine (i_TrendStep a b c d e f g h x ha hb hc hd he hf hg hh hx seen _).mono ?_; rintro z w4 ⟨hte, hb4⟩
  rw [HQ.out] at hte
  obtain ⟨r40, r41, r42, r43, r44, r45, r46, r47, r4E, b4, rfl, -, hq4⟩ := hte
  have hz4 := hb4.size
  have hq24 := hq4.symm.trans HQ2.out
  simp only [Prod.mk.injEq] at hq24
  obtain ⟨hl24, hE24, rfl⟩ := hq24
  have HL := Lib.hid hl24
  have HEE := Lib.hid hE24
  clear hq4 hl24 hE24 hca hfa HA
  replace HW := Lib.hid (BK.keep HW.out hb4)
  replace hbw := Below.trans hbw (Below.mono hb4 (by omega))
  have hcw := HW.out.cells; have hfw := HW.out.fro
  go_wp2_with (first
    | (refine wpList_storeAgg (us := [.float .f32 r40, .float .f32 r41, .float .f32 r42, .float .f32 r43, .float .f32 r44, .float .f32 r45, .float .f32 r46, .float .f32 r47]) (storeTr _ _ _ _ _ _ _ _ _ _) rfl rfl (by simp [Value.oneCell']) (BK.new _ _ _) (by simp) ?_; intro W' hB hO hL hZ' hG; replace HW := Lib.hid (hO _ _ (BK.alloc HW.out _) (by have := HW.out.lt; omega)); replace hbw := hL _ _ (Below.alloc hbw (by omega) _) (by omega); (try simp only [World.size_alloc] at hZ'); have HV := Lib.hid hB; clear hB hO hL hG hcw hfw; simp [setsAt] at HV; have hcw := HW.out.cells; have hfw := HW.out.fro; have hcv := HV.out.cells; have hfv := HV.out.fro)
    | (go_at_call 48; refine (l_eqTrend _ _ _ _ _ _ _ _ _ _ _ _ _ _ _ _ HL.out _).mono ?_; rintro z w5 ⟨rfl, hb5⟩; have hz5 := hb5.size; replace hbw := Below.trans hbw (Below.mono hb5 (by omega)); clear hcw hfw hcv hfv hb5)
    | (refine wpList_wd (by kernel_rfl) (by kernel_rfl) _ rfl ?_; intro r n hr hlt; have HR := Lib.hid hr; clear hr)
    | (refine wpList_wd_g rfl (by kernel_rfl) (by kernel_rfl) _ rfl ?_; intro r n hr hlt; have HR := Lib.hid hr; clear hr)
    | (go_at_call 27; refine (l_sameFloat _ _ (eqw (by assumption) (by assumption) HEE.out) _).mono ?_; rintro z w6 ⟨rfl, n6, rfl⟩))
  go_ret
  exact ⟨rfl, by first | exact hbw | exact below_drewN hbw _ | (repeat (first | with_reducible exact Below.refl _ _ | with_reducible assumption | with_reducible refine below_drewN ?_ _ | with_reducible refine Below.drew ?_ | with_reducible refine Below.alloc ?_ (by first | omega | (simp; omega) | (simp; done) | (simp at *; omega)) _ | with_reducible refine Below.setCell ?_ (by first | omega | (simp; omega) | (simp; done) | (simp at *; omega)) _ | refine Below.trans ?_ (Below.mono (by with_reducible assumption) (by first | omega | (simp; omega) | (simp; done) | (simp at *; omega)))))⟩
set_option maxRecDepth 100000 in
theorem FnExactTrendStep_lifted (os : Os) (started : os.Started) (H : Type) (enc : TypeId × Value → H) :
    ReturnsInHanded {} Try.checked os 12 .any (Rows.fnExactTrendStepSpec.pre6 enc Try.prog Try.f12 Rows.fnExactTrendStepRow.domain false) (Rows.fnExactTrendStepSpec.post enc Try.prog Try.f12 false true false false) := by
  refine returnsInHanded_of_change (C := Try.checked) own started (by kernel_rfl) Try.func12
    (ChangeSpec.witness6 (enc := enc) (C := Try.checked) false ⟨#[], #[.agg #[.float .f32 0, .float .f32 0, .float .f32 0, .float .f32 0, .float .f32 0, .float .f32 0, .float .f32 0, .float .f32 0], .float .f32 0, .bool false], []⟩ 8 (by kernel_rfl) (by kernel_rfl) (by kernel_rfl) (by kernel_rfl)) ?_
  intro W base args ds gs before hval0 hW hcnd _
  have hval : ∀ (j : Nat) t v, Try.f12.params[j]? = some t → args[j]? = some v → Value.okWide Try.prog W .any base t v := hval0
  have hW' := hW
  obtain ⟨p, q, hA0, hV, rfl, hfz, hnd⟩ := hW
  have hA : DataW.TrodAll enc Try.prog W 0 (fun _ => true) true Try.f12.params.toList args.toList ds p := hA0
  rw [Try.params12] at hA hval
  obtain ⟨v0, vs0, d0, ds0, p0, q0, hargs, rfl, rfl, h0, r0⟩ := trodAll_cons hA
  obtain ⟨v1, vs1, d1, ds1, p1, q1, rfl, rfl, rfl, h1, r1⟩ := trodAll_cons r0
  obtain ⟨v2, vs2, d2, ds2, p2, q2, rfl, rfl, rfl, h2, r2⟩ := trodAll_cons r1
  obtain ⟨rfl, rfl, rfl⟩ := trodAll_nil r2
  obtain rfl : args = #[v0, v1, v2] := by cases args; simp_all
  obtain ⟨rfl, rfl⟩ := trodVars_none hV
  have k0 := h0
  have lt0 : ∀ x ∈ p0, x.block < W.heap.size := by obtain ⟨m, hm⟩ := k0; exact DataW.trod_lt m _ _ _ hm
  have k1 := h1
  have lt1 : ∀ x ∈ p1, x.block < W.heap.size := by obtain ⟨m, hm⟩ := k1; exact DataW.trod_lt m _ _ _ hm
  have k2 := h2
  have lt2 : ∀ x ∈ p2, x.block < W.heap.size := by obtain ⟨m, hm⟩ := k2; exact DataW.trod_lt m _ _ _ hm
  obtain ⟨vs0, n0, rfl, hl0, hg0⟩ := open_struct Try.underlying58 (by kernel_rfl) (by kernel_rfl) (hval 0 58 v0 rfl rfl) h0
  obtain ⟨u00, y00, e00, z00⟩ := hg0 0 _ rfl; obtain ⟨x00, q00, _, w00⟩ := trod_float Try.underlying23 z00; simp only [List.cons.injEq, and_true] at q00; subst q00
  obtain ⟨u01, y01, e01, z01⟩ := hg0 1 _ rfl; obtain ⟨x01, q01, _, w01⟩ := trod_float Try.underlying23 z01; simp only [List.cons.injEq, and_true] at q01; subst q01
  obtain ⟨u02, y02, e02, z02⟩ := hg0 2 _ rfl; obtain ⟨x02, q02, _, w02⟩ := trod_float Try.underlying23 z02; simp only [List.cons.injEq, and_true] at q02; subst q02
  obtain ⟨u03, y03, e03, z03⟩ := hg0 3 _ rfl; obtain ⟨x03, q03, _, w03⟩ := trod_float Try.underlying23 z03; simp only [List.cons.injEq, and_true] at q03; subst q03
  obtain ⟨u04, y04, e04, z04⟩ := hg0 4 _ rfl; obtain ⟨x04, q04, _, w04⟩ := trod_float Try.underlying23 z04; simp only [List.cons.injEq, and_true] at q04; subst q04
  obtain ⟨u05, y05, e05, z05⟩ := hg0 5 _ rfl; obtain ⟨x05, q05, _, w05⟩ := trod_float Try.underlying23 z05; simp only [List.cons.injEq, and_true] at q05; subst q05
  obtain ⟨u06, y06, e06, z06⟩ := hg0 6 _ rfl; obtain ⟨x06, q06, _, w06⟩ := trod_float Try.underlying23 z06; simp only [List.cons.injEq, and_true] at q06; subst q06
  obtain ⟨u07, y07, e07, z07⟩ := hg0 7 _ rfl; obtain ⟨x07, q07, _, w07⟩ := trod_float Try.underlying23 z07; simp only [List.cons.injEq, and_true] at q07; subst q07
  obtain rfl : vs0 = [.float .f32 x00, .float .f32 x01, .float .f32 x02, .float .f32 x03, .float .f32 x04, .float .f32 x05, .float .f32 x06, .float .f32 x07] := eight hl0 e00 e01 e02 e03 e04 e05 e06 e07
  obtain ⟨a1, rfl, _, _, hf1⟩ := open_float Try.underlying23 (hval 1 23 v1 rfl rfl) h1
  obtain ⟨a2, rfl, _, _⟩ := open_bool Try.underlying4 (hval 2 4 v2 rfl rfl) h2
  clear hA0 hval0
  refine (FnExactTrendStep_walk (w := W) x00 (f32_lt w00) x01 (f32_lt w01) x02 (f32_lt w02) x03 (f32_lt w03) x04 (f32_lt w04) x05 (f32_lt w05) x06 (f32_lt w06) x07 (f32_lt w07) a1 (f32_lt hf1) a2).mono fun e W' ⟨he, bel⟩ => ?_
  subst he
  exact ⟨_, rfl, _, _, _, [], _, [], hW', trodAll_mk1 (shut_bool Try.underlying4 _), (trodAll_cons_mk (Below.trod laidOut (by kernel_rfl) (of_decide_eq_true (by kernel_rfl)) k0 bel lt0) (trodAll_cons_mk (Below.trod laidOut (by kernel_rfl) (of_decide_eq_true (by kernel_rfl)) k1 bel lt1) (trodAll_cons_mk (Below.trod laidOut (by kernel_rfl) (of_decide_eq_true (by kernel_rfl)) k2 bel lt2) trodAll_mk0))), rfl, bel.frame _, fun h => by cases h⟩

theorem fnExactTrendStep_holds : Rows.FnExactTrendStepSaid :=
  OpenClaim.holds_of_wide 12 Try.f12 rfl rfl rfl rfl rfl rfl rfl ⟨rfl, rfl, rfl, rfl, rfl⟩ rfl rfl rfl rfl rfl (by kernel_rfl) Try.func12 (by kernel_rfl)
    (of_decide_eq_true (by kernel_rfl)) (by unfold Func.isWrapper; first | (rw [if_pos (by decide +kernel)]; kernel_rfl) | (rw [if_neg (by decide +kernel)]; exact ⟨rfl, rfl⟩))
    (fun os started H enc _ => FnExactTrendStep_lifted os started H enc)
#print axioms fnExactTrendStep_holds

end Go.Proofs.Ytcnfdmnjeklbiaa
