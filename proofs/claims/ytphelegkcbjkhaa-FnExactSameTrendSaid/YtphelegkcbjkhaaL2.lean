/- THE LAW FnExactSameTrend: the program's SameTrend returns what the reference's returns, for all arguments. No condition. -/
import Derived.Test.YtphelegkcbjkhaaLawKit
import Derived.Test.YtphelegkcbjkhaaK2
import Derived.Deep.RegionHeld3
import Derived.Deep.RegionWith
namespace Go.Proofs.Ytphelegkcbjkhaa
open Go.ChangeShapes Go.WideShapes Go.ChangeAt Go.RowKit
set_option linter.unusedVariables false


set_option maxRecDepth 100000 in
set_option maxHeartbeats 2000000 in
theorem FnExactSameTrend_walk (a : Nat) (ha : a < 4294967296) (b : Nat) (hb : b < 4294967296) (c : Nat) (hc : c < 4294967296) (d : Nat) (hd : d < 4294967296) (e : Nat) (he : e < 4294967296) (f : Nat) (hf : f < 4294967296) (g : Nat) (hg : g < 4294967296) (h : Nat) (hh : h < 4294967296) (a' : Nat) (ha' : a' < 4294967296) (b' : Nat) (hb' : b' < 4294967296) (c' : Nat) (hc' : c' < 4294967296) (d' : Nat) (hd' : d' < 4294967296) (e' : Nat) (he' : e' < 4294967296) (f' : Nat) (hf' : f' < 4294967296) (g' : Nat) (hg' : g' < 4294967296) (h' : Nat) (hh' : h' < 4294967296) (w : World) :
    Calls Try.prog 4 #[.agg #[.float .f32 a, .float .f32 b, .float .f32 c, .float .f32 d, .float .f32 e, .float .f32 f, .float .f32 g, .float .f32 h], .agg #[.float .f32 a', .float .f32 b', .float .f32 c', .float .f32 d', .float .f32 e', .float .f32 f', .float .f32 g', .float .f32 h']] w fun z w' => z = .returned (.bool true) ∧ Below w.heap.size w w' := by
  have hl : ∀ x ∈ [a, b, c, d, e, f, g, h], x < 4294967296 := by simp only [List.mem_cons, List.not_mem_nil, or_false]; rintro x (rfl | rfl | rfl | rfl | rfl | rfl | rfl | rfl) <;> assumption
  have hl' : ∀ x ∈ [a', b', c', d', e', f', g', h'], x < 4294967296 := by simp only [List.mem_cons, List.not_mem_nil, or_false]; rintro x (rfl | rfl | rfl | rfl | rfl | rfl | rfl | rfl) <;> assumption
  have HL := Lib.hid hl
  have HL' := Lib.hid hl'
  clear hl hl'
  generalize hT : (([a, b, c, d, e, f, g, h].map (cn .f32)) == ([a', b', c', d', e', f', g', h'].map (cn .f32))) = T
  have HT := Lib.hid hT
  clear hT
  go_enter Try.func4, Try.ntmps4
  go_wp2_with fail
  go_region_held3 (fun W => W.cell? ⟨w.heap.size, 0, none⟩ = some (.float .f32 a) ∧ W.cell? ⟨w.heap.size, 1, none⟩ = some (.float .f32 b) ∧ W.cell? ⟨w.heap.size, 2, none⟩ = some (.float .f32 c) ∧ W.cell? ⟨w.heap.size, 3, none⟩ = some (.float .f32 d) ∧ W.cell? ⟨w.heap.size, 4, none⟩ = some (.float .f32 e) ∧ W.cell? ⟨w.heap.size, 5, none⟩ = some (.float .f32 f) ∧ W.cell? ⟨w.heap.size, 6, none⟩ = some (.float .f32 g) ∧ W.cell? ⟨w.heap.size, 7, none⟩ = some (.float .f32 h) ∧ W.cell? ⟨w.heap.size + 1, 0, none⟩ = some (.float .f32 a') ∧ W.cell? ⟨w.heap.size + 1, 1, none⟩ = some (.float .f32 b') ∧ W.cell? ⟨w.heap.size + 1, 2, none⟩ = some (.float .f32 c') ∧ W.cell? ⟨w.heap.size + 1, 3, none⟩ = some (.float .f32 d') ∧ W.cell? ⟨w.heap.size + 1, 4, none⟩ = some (.float .f32 e') ∧ W.cell? ⟨w.heap.size + 1, 5, none⟩ = some (.float .f32 f') ∧ W.cell? ⟨w.heap.size + 1, 6, none⟩ = some (.float .f32 g') ∧ W.cell? ⟨w.heap.size + 1, 7, none⟩ = some (.float .f32 h')) (first | (simp; done) | (simp [*]; done)) (first
    | (go_at_call_of 11 (Value.float .f32 a); refine (l_toTrend a b c d e f g h _).mono ?_; rintro z w1 ⟨rfl, hb1⟩; have hz1 := hb1.size; (try simp only [World.size_alloc, World.size_drew, World.heap_drewN, World.size_setCell] at hz1); have hp1 : w.heap.size + 2 ≤ w1.heap.size := (by omega); obtain ⟨hc1, hf1⟩ := bcellN (N := w.heap.size + 2) hb1 (by first | omega | (simp; done) | (simp; omega)))
    | (go_at_call_of 11 (Value.float .f32 a'); refine (l_toTrend a' b' c' d' e' f' g' h' _).mono ?_; rintro z w2 ⟨rfl, hb2⟩; have hz2 := hb2.size; (try simp only [World.size_alloc, World.size_drew, World.heap_drewN, World.size_setCell] at hz2); have hp2 : w.heap.size + 2 ≤ w2.heap.size := (by omega); obtain ⟨hc2, hf2⟩ := bcellN (N := w.heap.size + 2) hb2 (by first | omega | (simp; done) | (simp; omega)))
    | (go_at_call 13; refine (s_SameTrend a b c d e f g h a' b' c' d' e' f' g' h' ha hb hc hd he hf hg hh ha' hb' hc' hd' he' hf' hg' hh' _).mono ?_; rintro z w3 ⟨rfl, hb3⟩; rw [HT.out]; have hz3 := hb3.size; (try simp only [World.size_alloc, World.size_drew, World.heap_drewN, World.size_setCell] at hz3); have hp3 : w.heap.size + 2 ≤ w3.heap.size := (by omega); obtain ⟨hc3, hf3⟩ := bcellN (N := w.heap.size + 2) hb3 (by first | omega | (simp; done) | (simp; omega))))
  go_wp2_with fail
  go_region_held3 (fun W => W.cell? ⟨w.heap.size, 0, none⟩ = some (.float .f32 a) ∧ W.cell? ⟨w.heap.size, 1, none⟩ = some (.float .f32 b) ∧ W.cell? ⟨w.heap.size, 2, none⟩ = some (.float .f32 c) ∧ W.cell? ⟨w.heap.size, 3, none⟩ = some (.float .f32 d) ∧ W.cell? ⟨w.heap.size, 4, none⟩ = some (.float .f32 e) ∧ W.cell? ⟨w.heap.size, 5, none⟩ = some (.float .f32 f) ∧ W.cell? ⟨w.heap.size, 6, none⟩ = some (.float .f32 g) ∧ W.cell? ⟨w.heap.size, 7, none⟩ = some (.float .f32 h) ∧ W.cell? ⟨w.heap.size + 1, 0, none⟩ = some (.float .f32 a') ∧ W.cell? ⟨w.heap.size + 1, 1, none⟩ = some (.float .f32 b') ∧ W.cell? ⟨w.heap.size + 1, 2, none⟩ = some (.float .f32 c') ∧ W.cell? ⟨w.heap.size + 1, 3, none⟩ = some (.float .f32 d') ∧ W.cell? ⟨w.heap.size + 1, 4, none⟩ = some (.float .f32 e') ∧ W.cell? ⟨w.heap.size + 1, 5, none⟩ = some (.float .f32 f') ∧ W.cell? ⟨w.heap.size + 1, 6, none⟩ = some (.float .f32 g') ∧ W.cell? ⟨w.heap.size + 1, 7, none⟩ = some (.float .f32 h')) (first | (simp; done) | (simp [*]; done)) (first
    | (go_at_call_of 11 (Value.float .f32 a); refine (l_toTrend a b c d e f g h _).mono ?_; rintro z w4 ⟨rfl, hb4⟩; have hz4 := hb4.size; (try simp only [World.size_alloc, World.size_drew, World.heap_drewN, World.size_setCell] at hz4); have hp4 : w.heap.size + 2 ≤ w4.heap.size := (by omega); obtain ⟨hc4, hf4⟩ := bcellN (N := w.heap.size + 2) hb4 (by first | omega | (simp; done) | (simp; omega)))
    | (go_at_call_of 11 (Value.float .f32 a'); refine (l_toTrend a' b' c' d' e' f' g' h' _).mono ?_; rintro z w5 ⟨rfl, hb5⟩; have hz5 := hb5.size; (try simp only [World.size_alloc, World.size_drew, World.heap_drewN, World.size_setCell] at hz5); have hp5 : w.heap.size + 2 ≤ w5.heap.size := (by omega); obtain ⟨hc5, hf5⟩ := bcellN (N := w.heap.size + 2) hb5 (by first | omega | (simp; done) | (simp; omega)))
    | (go_at_call 14; refine (i_SameTrend a b c d e f g h a' b' c' d' e' f' g' h' HL.out HL'.out _).mono ?_; rintro z w6 ⟨rfl, hb6⟩; rw [HT.out]; have hz6 := hb6.size; (try simp only [World.size_alloc, World.size_drew, World.heap_drewN, World.size_setCell] at hz6); have hp6 : w.heap.size + 2 ≤ w6.heap.size := (by omega); obtain ⟨hc6, hf6⟩ := bcellN (N := w.heap.size + 2) hb6 (by first | omega | (simp; done) | (simp; omega))))
  go_wp2_with fail
  go_ret
  refine ⟨rfl, ?_⟩
  (repeat (first | exact Below.refl _ _ | assumption | refine below_drewN ?_ _ | refine Below.drew ?_ | refine Below.alloc ?_ (by first | omega | (simp; omega) | (simp; done) | (simp at *; omega)) _ | refine Below.setCell ?_ (by first | omega | (simp; omega) | (simp; done) | (simp at *; omega)) _ | refine Below.trans ?_ (Below.mono (by assumption) (by first | omega | (simp; omega) | (simp; done) | (simp at *; omega)))))
set_option maxRecDepth 100000 in
theorem FnExactSameTrend_lifted (os : Os) (started : os.Started) (H : Type) (enc : TypeId × Value → H) :
    ReturnsInHanded {} Try.checked os 4 .any (Rows.fnExactSameTrendSpec.pre6 enc Try.prog Try.f4 Rows.fnExactSameTrendRow.domain false) (Rows.fnExactSameTrendSpec.post enc Try.prog Try.f4 false true false false) := by
  refine returnsInHanded_of_change (C := Try.checked) own started (by kernel_rfl) Try.func4
    (ChangeSpec.witness6 (enc := enc) (C := Try.checked) false ⟨#[], #[.agg #[.float .f32 0, .float .f32 0, .float .f32 0, .float .f32 0, .float .f32 0, .float .f32 0, .float .f32 0, .float .f32 0], .agg #[.float .f32 0, .float .f32 0, .float .f32 0, .float .f32 0, .float .f32 0, .float .f32 0, .float .f32 0, .float .f32 0]], []⟩ 8 (by kernel_rfl) (by kernel_rfl) (by kernel_rfl) (by kernel_rfl)) ?_
  intro W base args ds gs before hval0 hW hcnd _
  have hval : ∀ (j : Nat) t v, Try.f4.params[j]? = some t → args[j]? = some v → Value.okWide Try.prog W .any base t v := hval0
  have hW' := hW
  obtain ⟨p, q, hA0, hV, rfl, hfz, hnd⟩ := hW
  have hA : DataW.TrodAll enc Try.prog W 0 (fun _ => true) true Try.f4.params.toList args.toList ds p := hA0
  rw [Try.params4] at hA hval
  obtain ⟨v0, vs0, d0, ds0, p0, q0, hargs, rfl, rfl, h0, r0⟩ := trodAll_cons hA
  obtain ⟨v1, vs1, d1, ds1, p1, q1, rfl, rfl, rfl, h1, r1⟩ := trodAll_cons r0
  obtain ⟨rfl, rfl, rfl⟩ := trodAll_nil r1
  obtain rfl : args = #[v0, v1] := by cases args; simp_all
  obtain ⟨rfl, rfl⟩ := trodVars_none hV
  have k0 := h0
  have lt0 : ∀ x ∈ p0, x.block < W.heap.size := by obtain ⟨m, hm⟩ := k0; exact DataW.trod_lt m _ _ _ hm
  have k1 := h1
  have lt1 : ∀ x ∈ p1, x.block < W.heap.size := by obtain ⟨m, hm⟩ := k1; exact DataW.trod_lt m _ _ _ hm
  obtain ⟨vs0, n0, rfl, hl0, hg0⟩ := open_struct Try.underlying24 (by kernel_rfl) (by kernel_rfl) (hval 0 24 v0 rfl rfl) h0
  obtain ⟨u00, y00, e00, z00⟩ := hg0 0 _ rfl; obtain ⟨x00, q00, _, w00⟩ := trod_float Try.underlying22 z00; simp only [List.cons.injEq, and_true] at q00; subst q00
  obtain ⟨u01, y01, e01, z01⟩ := hg0 1 _ rfl; obtain ⟨x01, q01, _, w01⟩ := trod_float Try.underlying22 z01; simp only [List.cons.injEq, and_true] at q01; subst q01
  obtain ⟨u02, y02, e02, z02⟩ := hg0 2 _ rfl; obtain ⟨x02, q02, _, w02⟩ := trod_float Try.underlying22 z02; simp only [List.cons.injEq, and_true] at q02; subst q02
  obtain ⟨u03, y03, e03, z03⟩ := hg0 3 _ rfl; obtain ⟨x03, q03, _, w03⟩ := trod_float Try.underlying22 z03; simp only [List.cons.injEq, and_true] at q03; subst q03
  obtain ⟨u04, y04, e04, z04⟩ := hg0 4 _ rfl; obtain ⟨x04, q04, _, w04⟩ := trod_float Try.underlying22 z04; simp only [List.cons.injEq, and_true] at q04; subst q04
  obtain ⟨u05, y05, e05, z05⟩ := hg0 5 _ rfl; obtain ⟨x05, q05, _, w05⟩ := trod_float Try.underlying22 z05; simp only [List.cons.injEq, and_true] at q05; subst q05
  obtain ⟨u06, y06, e06, z06⟩ := hg0 6 _ rfl; obtain ⟨x06, q06, _, w06⟩ := trod_float Try.underlying22 z06; simp only [List.cons.injEq, and_true] at q06; subst q06
  obtain ⟨u07, y07, e07, z07⟩ := hg0 7 _ rfl; obtain ⟨x07, q07, _, w07⟩ := trod_float Try.underlying22 z07; simp only [List.cons.injEq, and_true] at q07; subst q07
  obtain rfl : vs0 = [.float .f32 x00, .float .f32 x01, .float .f32 x02, .float .f32 x03, .float .f32 x04, .float .f32 x05, .float .f32 x06, .float .f32 x07] := eight hl0 e00 e01 e02 e03 e04 e05 e06 e07
  obtain ⟨vs1, n1, rfl, hl1, hg1⟩ := open_struct Try.underlying24 (by kernel_rfl) (by kernel_rfl) (hval 1 24 v1 rfl rfl) h1
  obtain ⟨u10, y10, e10, z10⟩ := hg1 0 _ rfl; obtain ⟨x10, q10, _, w10⟩ := trod_float Try.underlying22 z10; simp only [List.cons.injEq, and_true] at q10; subst q10
  obtain ⟨u11, y11, e11, z11⟩ := hg1 1 _ rfl; obtain ⟨x11, q11, _, w11⟩ := trod_float Try.underlying22 z11; simp only [List.cons.injEq, and_true] at q11; subst q11
  obtain ⟨u12, y12, e12, z12⟩ := hg1 2 _ rfl; obtain ⟨x12, q12, _, w12⟩ := trod_float Try.underlying22 z12; simp only [List.cons.injEq, and_true] at q12; subst q12
  obtain ⟨u13, y13, e13, z13⟩ := hg1 3 _ rfl; obtain ⟨x13, q13, _, w13⟩ := trod_float Try.underlying22 z13; simp only [List.cons.injEq, and_true] at q13; subst q13
  obtain ⟨u14, y14, e14, z14⟩ := hg1 4 _ rfl; obtain ⟨x14, q14, _, w14⟩ := trod_float Try.underlying22 z14; simp only [List.cons.injEq, and_true] at q14; subst q14
  obtain ⟨u15, y15, e15, z15⟩ := hg1 5 _ rfl; obtain ⟨x15, q15, _, w15⟩ := trod_float Try.underlying22 z15; simp only [List.cons.injEq, and_true] at q15; subst q15
  obtain ⟨u16, y16, e16, z16⟩ := hg1 6 _ rfl; obtain ⟨x16, q16, _, w16⟩ := trod_float Try.underlying22 z16; simp only [List.cons.injEq, and_true] at q16; subst q16
  obtain ⟨u17, y17, e17, z17⟩ := hg1 7 _ rfl; obtain ⟨x17, q17, _, w17⟩ := trod_float Try.underlying22 z17; simp only [List.cons.injEq, and_true] at q17; subst q17
  obtain rfl : vs1 = [.float .f32 x10, .float .f32 x11, .float .f32 x12, .float .f32 x13, .float .f32 x14, .float .f32 x15, .float .f32 x16, .float .f32 x17] := eight hl1 e10 e11 e12 e13 e14 e15 e16 e17
  clear hA0 hval0
  refine (FnExactSameTrend_walk x00 (f32_lt w00) x01 (f32_lt w01) x02 (f32_lt w02) x03 (f32_lt w03) x04 (f32_lt w04) x05 (f32_lt w05) x06 (f32_lt w06) x07 (f32_lt w07) x10 (f32_lt w10) x11 (f32_lt w11) x12 (f32_lt w12) x13 (f32_lt w13) x14 (f32_lt w14) x15 (f32_lt w15) x16 (f32_lt w16) x17 (f32_lt w17) W).mono fun e W' ⟨he, bel⟩ => ?_
  subst he
  exact ⟨_, rfl, _, _, _, [], _, [], hW', trodAll_mk1 (shut_bool Try.underlying4 _), (trodAll_cons_mk (Below.trod laidOut (by kernel_rfl) (of_decide_eq_true (by kernel_rfl)) k0 bel lt0) (trodAll_cons_mk (Below.trod laidOut (by kernel_rfl) (of_decide_eq_true (by kernel_rfl)) k1 bel lt1) trodAll_mk0)), rfl, bel.frame _, fun h => by cases h⟩

theorem fnExactSameTrend_holds : Rows.FnExactSameTrendSaid :=
  OpenClaim.holds_of_wide 4 Try.f4 rfl rfl rfl rfl rfl rfl rfl ⟨rfl, rfl, rfl, rfl, rfl⟩ rfl rfl rfl rfl rfl (by kernel_rfl) Try.func4 (by kernel_rfl)
    (of_decide_eq_true (by kernel_rfl)) (by unfold Func.isWrapper; first | (rw [if_pos (by decide +kernel)]; kernel_rfl) | (rw [if_neg (by decide +kernel)]; exact ⟨rfl, rfl⟩))
    (fun os started H enc _ => FnExactSameTrend_lifted os started H enc)
#print axioms fnExactSameTrend_holds

end Go.Proofs.Ytphelegkcbjkhaa
