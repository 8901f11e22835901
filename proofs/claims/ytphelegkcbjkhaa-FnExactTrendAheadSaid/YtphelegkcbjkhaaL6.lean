/- THE LAW FnExactTrendAhead: the program's TrendAhead returns what the reference's returns, for all arguments. No condition. -/
import Derived.Test.YtphelegkcbjkhaaLawKit
import Derived.Test.YtphelegkcbjkhaaK7
namespace Go.Proofs.Ytphelegkcbjkhaa
open Go.ChangeShapes Go.WideShapes Go.ChangeAt Go.RowKit
set_option linter.unusedVariables false


theorem aheadQ_len (ok : Bool) (l s : Nat) (c : Int) : (aheadQ ok l s c).1.length ≤ 32 := by
  unfold aheadQ
  split
  · rename_i h
    simp only [Bool.and_eq_true, inB, decide_eq_true_eq] at h
    unfold given
    dsimp only
    split
    · rw [taL_length]; omega
    · simp
  · simp
set_option maxRecDepth 100000 in
theorem FnExactTrendAhead_walk (a : Nat) (ha : a < 4294967296) (b : Nat) (hb : b < 4294967296) (c : Nat) (hc : c < 4294967296) (d : Nat) (hd : d < 4294967296) (e : Nat) (he : e < 4294967296) (f : Nat) (hf : f < 4294967296) (g : Nat) (hg : g < 4294967296) (h : Nat) (hh : h < 4294967296) (n : Int) (hn : (Lit.int .i64 n).wf = true) (w : World) :
    Calls Try.prog 8 #[.agg #[.float .f32 a, .float .f32 b, .float .f32 c, .float .f32 d, .float .f32 e, .float .f32 f, .float .f32 g, .float .f32 h], .int .i64 n] w fun z w' => z = .returned (.bool true) ∧ Below w.heap.size w w' := by
  clear hn ha hb hc hd he hf hg hh
  generalize hQ : aheadQ (trendOk (cn .f32 a) (cn .f32 b) (cn .f32 c) (cn .f32 d) (cn .f32 e) (cn .f32 f) (cn .f32 g) (cn .f32 h)) (cn .f32 a) (cn .f32 b) n = Q
  have hlen : Q.1.length ≤ 32 := by rw [← hQ]; exact aheadQ_len _ _ _ _
  have HQ := Lib.hid hQ
  clear hQ
  go_enter Try.func8, Try.ntmps8
  go_wp2_with fail
  refine (l_toTrend a b c d e f g h _).mono ?_; rintro z w1 ⟨rfl, hb1⟩; have hz1 := hb1.size; (try simp only [World.size_alloc, World.size_drew, World.heap_drewN, World.size_setCell] at hz1); have hp1 : w.heap.size + 1 ≤ w1.heap.size := (by omega); obtain ⟨hc1, hf1⟩ := bcellN (N := w.heap.size + 1) hb1 (by first | omega | (simp; done) | (simp; omega))
  go_wp2_with fail
  refine (s_TrendAhead a b c d e f g h n _).mono ?_; rintro z w2 ⟨⟨v2, b2, rfl, ho2, hq2⟩, hb2⟩; rw [HQ.out] at ho2 hq2; have hz2 := hb2.size; (try simp only [World.size_alloc, World.size_drew, World.heap_drewN, World.size_setCell] at hz2); have hp2 : w.heap.size + 1 ≤ w2.heap.size := (by omega); obtain ⟨hc2, hf2⟩ := bcellN (N := w.heap.size + 1) hb2 (by first | omega | (simp; done) | (simp; omega))
  have HO2 := Lib.hid ho2
  have HB2 := Lib.hid hq2
  clear ho2 hq2
  go_wp2_with fail
  refine (l_toTrend a b c d e f g h _).mono ?_; rintro z w3 ⟨rfl, hb3⟩; have hz3 := hb3.size; (try simp only [World.size_alloc, World.size_drew, World.heap_drewN, World.size_setCell] at hz3); have hp3 : w.heap.size + 1 ≤ w3.heap.size := (by omega); obtain ⟨hc3, hf3⟩ := bcellN (N := w.heap.size + 1) hb3 (by first | omega | (simp; done) | (simp; omega))
  go_wp2_with fail
  refine (i_TrendAhead a b c d e f g h n _).mono ?_; rintro z w4 ⟨⟨v4, b4, rfl, ho4, hq4⟩, hb4⟩; rw [HQ.out] at ho4 hq4; have hz4 := hb4.size; (try simp only [World.size_alloc, World.size_drew, World.heap_drewN, World.size_setCell] at hz4); have hp4 : w.heap.size + 1 ≤ w4.heap.size := (by omega); obtain ⟨hc4, hf4⟩ := bcellN (N := w.heap.size + 1) hb4 (by first | omega | (simp; done) | (simp; omega))
  obtain rfl : b4 = b2 := hq4.trans HB2.out.symm
  have HO4 := Lib.hid ho4
  clear ho4 hq4
  have HO2' := Lib.hid (HO2.out.keep (hb3.trans (hb4.mono hz3)))
  go_wp2_with fail
  refine (l_eqFloat32S v4 v2 Q.1 _ HO4.out.sb.sl HO2'.out.sb.sl).mono ?_; rintro z w5 ⟨rfl, n5, rfl⟩
  go_wp2_with fail
  refine (l_markFloat32S w3.heap.size v4 Q.1 1 _ (HO4.out.drewN _) (by omega) (by omega) (by omega)).mono ?_; rintro z w6 ⟨rfl, ho6, hg6⟩; have hz6 := hg6.size; (try simp only [World.size_alloc, World.size_drew, World.heap_drewN, World.size_setCell] at hz6); have hp6 : w.heap.size + 1 ≤ w6.heap.size := (by omega); obtain ⟨hc6, hf6⟩ := bcellG (N := w.heap.size + 1) hg6 (by first | omega | (simp; done) | (simp; omega)) (fun g h => by have := HO4.out.own_ge g h; omega)
  have HO6 := Lib.hid ho6
  have HS6 := Lib.hid (SB.grown (HO2'.out.sb.drewN n5) (HO2.out.low hz3) hg6 HO4.out.own_ge)
  have HB6 := Lib.hid (below_grown (B := w3.heap.size) hg6 (by simp; omega) HO4.out.own_ge)
  clear ho6 hg6
  go_wp2_with fail
  refine (l_heldFloat32S v4 1 Q.1.length _ HO6.out.sb.sl (by omega) (by omega) (by omega)).mono ?_; rintro z w7 ⟨rfl, n7, rfl⟩
  go_wp2_with fail
  refine (l_toTrend a b c d e f g h _).mono ?_; rintro z w8 ⟨rfl, hb8⟩; have hz8 := hb8.size; (try simp only [World.size_alloc, World.size_drew, World.heap_drewN, World.size_setCell] at hz8); have hp8 : w.heap.size + 1 ≤ w8.heap.size := (by omega); obtain ⟨hc8, hf8⟩ := bcellN (N := w.heap.size + 1) hb8 (by first | omega | (simp; done) | (simp; omega))
  go_wp2_with fail
  refine (i_TrendAhead a b c d e f g h n _).mono ?_; rintro z w9 ⟨⟨v9, b9, rfl, ho9, hq9⟩, hb9⟩; rw [HQ.out] at ho9 hq9; have hz9 := hb9.size; (try simp only [World.size_alloc, World.size_drew, World.heap_drewN, World.size_setCell] at hz9); have hp9 : w.heap.size + 1 ≤ w9.heap.size := (by omega); obtain ⟨hc9, hf9⟩ := bcellN (N := w.heap.size + 1) hb9 (by first | omega | (simp; done) | (simp; omega))
  obtain rfl : b9 = b4 := hq9.trans HB2.out.symm
  have HO9 := Lib.hid ho9
  clear ho9 hq9
  have hb69 : Below w6.heap.size w6 w9 := Below.trans (below_drewN (Below.refl _ _) n7) (hb8.trans (hb9.mono hz8))
  go_wp2_with fail
  refine (l_eqFloat32S v9 v2 Q.1 _ HO9.out.sb.sl (HS6.out.keep hb69).sl).mono ?_; rintro z w10 ⟨rfl, n10, rfl⟩
  go_wp2_with fail
  refine (l_heldFloat32S v4 1 Q.1.length _ ((HO6.out.keep hb69).sb.sl.drewN _) (by omega) (by omega) (by omega)).mono ?_; rintro z w11 ⟨rfl, n11, rfl⟩
  go_wp2_with fail
  go_ret
  refine ⟨rfl, ?_⟩
  have hb6 := HB6.out
  (repeat (first | exact Below.refl _ _ | assumption | refine below_drewN ?_ _ | refine Below.drew ?_ | refine Below.alloc ?_ (by first | omega | (simp; omega) | (simp; done) | (simp at *; omega)) _ | refine Below.setCell ?_ (by first | omega | (simp; omega) | (simp; done) | (simp at *; omega)) _ | refine Below.trans ?_ (Below.mono (by assumption) (by first | omega | (simp; omega) | (simp; done) | (simp at *; omega)))))
set_option maxRecDepth 100000 in
theorem FnExactTrendAhead_lifted (os : Os) (started : os.Started) (H : Type) (enc : TypeId × Value → H) :
    ReturnsInHanded {} Try.checked os 8 .any (Rows.fnExactTrendAheadSpec.pre6 enc Try.prog Try.f8 Rows.fnExactTrendAheadRow.domain false) (Rows.fnExactTrendAheadSpec.post enc Try.prog Try.f8 false true false false) := by
  refine returnsInHanded_of_change (C := Try.checked) own started (by kernel_rfl) Try.func8
    (ChangeSpec.witness6 (enc := enc) (C := Try.checked) false ⟨#[], #[.agg #[.float .f32 0, .float .f32 0, .float .f32 0, .float .f32 0, .float .f32 0, .float .f32 0, .float .f32 0, .float .f32 0], .int .i64 0], []⟩ 8 (by kernel_rfl) (by kernel_rfl) (by kernel_rfl) (by kernel_rfl)) ?_
  intro W base args ds gs before hval0 hW hcnd _
  have hval : ∀ (j : Nat) t v, Try.f8.params[j]? = some t → args[j]? = some v → Value.okWide Try.prog W .any base t v := hval0
  have hW' := hW
  obtain ⟨p, q, hA0, hV, rfl, hfz, hnd⟩ := hW
  have hA : DataW.TrodAll enc Try.prog W 0 (fun _ => true) true Try.f8.params.toList args.toList ds p := hA0
  rw [Try.params8] at hA hval
  obtain ⟨v0, vs0, d0, ds0, p0, q0, hargs, rfl, rfl, h0, r0⟩ := trodAll_cons hA
  obtain ⟨v1, vs1, d1, ds1, p1, q1, rfl, rfl, rfl, h1, r1⟩ := trodAll_cons r0
  obtain ⟨rfl, rfl, rfl⟩ := trodAll_nil r1
  obtain rfl : args = #[v0, v1] := by cases args; simp_all
  obtain ⟨rfl, rfl⟩ := trodVars_none hV
  have k0 := h0
  have lt0 : ∀ x ∈ p0, x.block < W.heap.size := by obtain ⟨m, hm⟩ := k0; exact DataW.trod_lt m _ _ _ hm
  have k1 := h1
  have lt1 : ∀ x ∈ p1, x.block < W.heap.size := by obtain ⟨m, hm⟩ := k1; exact DataW.trod_lt m _ _ _ hm
  obtain ⟨vs0, n0, rfl, hl0, hg0⟩ := open_struct Try.underlying24 (by kernel_rfl) (by kernel_rfl) (hval 0 24 v0 rfl rfl) h0
  obtain ⟨u00, y00, e00, z00⟩ := hg0 0 _ rfl; obtain ⟨x00, q00, _, w00⟩ := trod_float Try.underlying22 z00; simp only [List.cons.injEq, and_true] at q00; subst q00
  obtain ⟨u01, y01, e01, z01⟩ := hg0 1 _ rfl; obtain ⟨x01, q01, _, w01⟩ := trod_float Try.underlying22 z01; simp only [List.cons.injEq, and_true] at q01; subst q01
  obtain ⟨u02, y02, e02, z02⟩ := hg0 2 _ rfl; obtain ⟨x02, q02, _, w02⟩ := trod_float Try.underlying22 z02; simp only [List.cons.injEq, and_true] at q02; subst q02
  obtain ⟨u03, y03, e03, z03⟩ := hg0 3 _ rfl; obtain ⟨x03, q03, _, w03⟩ := trod_float Try.underlying22 z03; simp only [List.cons.injEq, and_true] at q03; subst q03
  obtain ⟨u04, y04, e04, z04⟩ := hg0 4 _ rfl; obtain ⟨x04, q04, _, w04⟩ := trod_float Try.underlying22 z04; simp only [List.cons.injEq, and_true] at q04; subst q04
  obtain ⟨u05, y05, e05, z05⟩ := hg0 5 _ rfl; obtain ⟨x05, q05, _, w05⟩ := trod_float Try.underlying22 z05; simp only [List.cons.injEq, and_true] at q05; subst q05
  obtain ⟨u06, y06, e06, z06⟩ := hg0 6 _ rfl; obtain ⟨x06, q06, _, w06⟩ := trod_float Try.underlying22 z06; simp only [List.cons.injEq, and_true] at q06; subst q06
  obtain ⟨u07, y07, e07, z07⟩ := hg0 7 _ rfl; obtain ⟨x07, q07, _, w07⟩ := trod_float Try.underlying22 z07; simp only [List.cons.injEq, and_true] at q07; subst q07
  obtain rfl : vs0 = [.float .f32 x00, .float .f32 x01, .float .f32 x02, .float .f32 x03, .float .f32 x04, .float .f32 x05, .float .f32 x06, .float .f32 x07] := eight hl0 e00 e01 e02 e03 e04 e05 e06 e07
  obtain ⟨a1, rfl, _, _, hi1⟩ := open_int Try.underlying2 (hval 1 2 v1 rfl rfl) h1
  clear hA0 hval0
  refine (FnExactTrendAhead_walk x00 (f32_lt w00) x01 (f32_lt w01) x02 (f32_lt w02) x03 (f32_lt w03) x04 (f32_lt w04) x05 (f32_lt w05) x06 (f32_lt w06) x07 (f32_lt w07) a1 hi1 W).mono fun e W' ⟨he, bel⟩ => ?_
  subst he
  exact ⟨_, rfl, _, _, _, [], _, [], hW', trodAll_mk1 (shut_bool Try.underlying4 _), (trodAll_cons_mk (Below.trod laidOut (by kernel_rfl) (of_decide_eq_true (by kernel_rfl)) k0 bel lt0) (trodAll_cons_mk (Below.trod laidOut (by kernel_rfl) (of_decide_eq_true (by kernel_rfl)) k1 bel lt1) trodAll_mk0)), rfl, bel.frame _, fun h => by cases h⟩

theorem fnExactTrendAhead_holds : Rows.FnExactTrendAheadSaid :=
  OpenClaim.holds_of_wide 8 Try.f8 rfl rfl rfl rfl rfl rfl rfl ⟨rfl, rfl, rfl, rfl, rfl⟩ rfl rfl rfl rfl rfl (by kernel_rfl) Try.func8 (by kernel_rfl)
    (of_decide_eq_true (by kernel_rfl)) (by unfold Func.isWrapper; first | (rw [if_pos (by decide +kernel)]; kernel_rfl) | (rw [if_neg (by decide +kernel)]; exact ⟨rfl, rfl⟩))
    (fun os started H enc _ => FnExactTrendAhead_lifted os started H enc)
#print axioms fnExactTrendAhead_holds

end Go.Proofs.Ytphelegkcbjkhaa
