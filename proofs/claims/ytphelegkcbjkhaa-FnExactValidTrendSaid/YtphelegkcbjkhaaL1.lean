/- THE LAW FnExactValidTrend: the program's ValidTrend returns what the reference's returns, for all arguments. No condition. -/
import Derived.Test.YtphelegkcbjkhaaK2
import Derived.Test.YtphelegkcbjkhaaRows
import Derived.Test.YtphelegkcbjkhaaOpen
namespace Go.Proofs.Ytphelegkcbjkhaa
open Go.ChangeShapes Go.WideShapes Go.ChangeAt Go.RowKit
set_option linter.unusedVariables false

theorem own : ownKnob Try.prog.godebug = none := by kernel_rfl
theorem laidOut : laidOutB Try.prog = true := by kernel_rfl

theorem eight {α : Type} {l : List α} (h : l.length = 8) {a b c d e f g i : α} (h0 : l[0]? = some a) (h1 : l[1]? = some b) (h2 : l[2]? = some c) (h3 : l[3]? = some d) (h4 : l[4]? = some e) (h5 : l[5]? = some f) (h6 : l[6]? = some g) (h7 : l[7]? = some i) : l = [a, b, c, d, e, f, g, i] := by
  match l, h with
  | [x0, x1, x2, x3, x4, x5, x6, x7], _ => simp_all


set_option maxRecDepth 100000 in
theorem FnExactValidTrend_walk (a : Nat) (ha : a < 4294967296) (b : Nat) (hb : b < 4294967296) (c : Nat) (hc : c < 4294967296) (d : Nat) (hd : d < 4294967296) (e : Nat) (he : e < 4294967296) (f : Nat) (hf : f < 4294967296) (g : Nat) (hg : g < 4294967296) (h : Nat) (hh : h < 4294967296) (w : World) :
    Calls Try.prog 3 #[.agg #[.float .f32 a, .float .f32 b, .float .f32 c, .float .f32 d, .float .f32 e, .float .f32 f, .float .f32 g, .float .f32 h]] w fun z w' => z = .returned (.bool true) ∧ Below w.heap.size w w' := by
  clear ha hb hc hd he hf hg hh
  generalize hT : trendOk (cn .f32 a) (cn .f32 b) (cn .f32 c) (cn .f32 d) (cn .f32 e) (cn .f32 f) (cn .f32 g) (cn .f32 h) = T
  have HT := Lib.hid hT
  clear hT
  go_enter Try.func3, Try.ntmps3
  go_wp2_with fail
  refine (l_toTrend a b c d e f g h _).mono ?_; rintro z w1 ⟨rfl, hb1⟩; obtain ⟨hc1, hf1⟩ := bcell hb1; have hz1 := hb1.size; simp only [World.size_alloc] at hz1; replace hz1 : w.heap.size < w1.heap.size := hz1
  go_wp2_with fail
  refine (s_ValidTrend a b c d e f g h _).mono ?_; rintro z w2 ⟨rfl, hb2⟩; rw [HT.out]; obtain ⟨hc2, hf2⟩ := bcell hb2; have hz2 := hb2.size; replace hz2 : w.heap.size < w2.heap.size := by omega
  go_wp2_with fail
  refine (l_toTrend a b c d e f g h _).mono ?_; rintro z w3 ⟨rfl, hb3⟩
  go_wp2_with fail
  refine (i_ValidTrend a b c d e f g h _).mono ?_; rintro z w4 ⟨rfl, hb4⟩; rw [HT.out]
  go_wp2_with fail
  have hz3 := hb3.size
  have hz4 := hb4.size
  go_ret
  refine ⟨rfl, ?_⟩
  (repeat (first | exact Below.refl _ _ | assumption | refine below_drewN ?_ _ | refine Below.alloc ?_ (by first | omega | (simp; omega) | (simp; done) | (simp at *; omega)) _ | refine Below.setCell ?_ (by first | omega | (simp; omega) | (simp; done) | (simp at *; omega)) _ | refine Below.trans ?_ (Below.mono (by assumption) (by first | omega | (simp; omega) | (simp; done) | (simp at *; omega)))))
set_option maxRecDepth 100000 in
theorem FnExactValidTrend_lifted (os : Os) (started : os.Started) (H : Type) (enc : TypeId × Value → H) :
    ReturnsInHanded {} Try.checked os 3 .any (Rows.fnExactValidTrendSpec.pre6 enc Try.prog Try.f3 Rows.fnExactValidTrendRow.domain false) (Rows.fnExactValidTrendSpec.post enc Try.prog Try.f3 false true false false) := by
  refine returnsInHanded_of_change (C := Try.checked) own started (by kernel_rfl) Try.func3
    (ChangeSpec.witness6 (enc := enc) (C := Try.checked) false ⟨#[], #[.agg #[.float .f32 0, .float .f32 0, .float .f32 0, .float .f32 0, .float .f32 0, .float .f32 0, .float .f32 0, .float .f32 0]], []⟩ 8 (by kernel_rfl) (by kernel_rfl) (by kernel_rfl) (by kernel_rfl)) ?_
  intro W base args ds gs before hval0 hW hcnd _
  have hval : ∀ (j : Nat) t v, Try.f3.params[j]? = some t → args[j]? = some v → Value.okWide Try.prog W .any base t v := hval0
  have hW' := hW
  obtain ⟨p, q, hA0, hV, rfl, hfz, hnd⟩ := hW
  have hA : DataW.TrodAll enc Try.prog W 0 (fun _ => true) true Try.f3.params.toList args.toList ds p := hA0
  rw [Try.params3] at hA hval
  obtain ⟨v0, vs0, d0, ds0, p0, q0, hargs, rfl, rfl, h0, r0⟩ := trodAll_cons hA
  obtain ⟨rfl, rfl, rfl⟩ := trodAll_nil r0
  obtain rfl : args = #[v0] := by cases args; simp_all
  obtain ⟨rfl, rfl⟩ := trodVars_none hV
  have k0 := h0
  have lt0 : ∀ x ∈ p0, x.block < W.heap.size := by obtain ⟨m, hm⟩ := k0; exact DataW.trod_lt m _ _ _ hm
  obtain ⟨vs0, n0, rfl, hl0, hg0⟩ := open_struct Try.underlying24 (by kernel_rfl) (by kernel_rfl) (hval 0 24 v0 rfl rfl) h0
  obtain ⟨u00, y00, e00, z00⟩ := hg0 0 _ rfl; obtain ⟨x00, q00, _, w00⟩ := trod_float Try.underlying22 z00; simp only [List.cons.injEq, and_true] at q00; subst q00
  obtain ⟨u01, y01, e01, z01⟩ := hg0 1 _ rfl; obtain ⟨x01, q01, _, w01⟩ := trod_float Try.underlying22 z01; simp only [List.cons.injEq, and_true] at q01; subst q01
  obtain ⟨u02, y02, e02, z02⟩ := hg0 2 _ rfl; obtain ⟨x02, q02, _, w02⟩ := trod_float Try.underlying22 z02; simp only [List.cons.injEq, and_true] at q02; subst q02
  obtain ⟨u03, y03, e03, z03⟩ := hg0 3 _ rfl; obtain ⟨x03, q03, _, w03⟩ := trod_float Try.underlying22 z03; simp only [List.cons.injEq, and_true] at q03; subst q03
  obtain ⟨u04, y04, e04, z04⟩ := hg0 4 _ rfl; obtain ⟨x04, q04, _, w04⟩ := trod_float Try.underlying22 z04; simp only [List.cons.injEq, and_true] at q04; subst q04
  obtain ⟨u05, y05, e05, z05⟩ := hg0 5 _ rfl; obtain ⟨x05, q05, _, w05⟩ := trod_float Try.underlying22 z05; simp only [List.cons.injEq, and_true] at q05; subst q05
  obtain ⟨u06, y06, e06, z06⟩ := hg0 6 _ rfl; obtain ⟨x06, q06, _, w06⟩ := trod_float Try.underlying22 z06; simp only [List.cons.injEq, and_true] at q06; subst q06
  obtain ⟨u07, y07, e07, z07⟩ := hg0 7 _ rfl; obtain ⟨x07, q07, _, w07⟩ := trod_float Try.underlying22 z07; simp only [List.cons.injEq, and_true] at q07; subst q07
  obtain rfl : vs0 = [.float .f32 x00, .float .f32 x01, .float .f32 x02, .float .f32 x03, .float .f32 x04, .float .f32 x05, .float .f32 x06, .float .f32 x07] := eight hl0 e00 e01 e02 e03 e04 e05 e06 e07
  clear hA0 hval0
  refine (FnExactValidTrend_walk x00 (f32_lt w00) x01 (f32_lt w01) x02 (f32_lt w02) x03 (f32_lt w03) x04 (f32_lt w04) x05 (f32_lt w05) x06 (f32_lt w06) x07 (f32_lt w07) W).mono fun e W' ⟨he, bel⟩ => ?_
  subst he
  exact ⟨_, rfl, _, _, _, [], _, [], hW', trodAll_mk1 (shut_bool Try.underlying4 _), (trodAll_cons_mk (Below.trod laidOut (by kernel_rfl) (of_decide_eq_true (by kernel_rfl)) k0 bel lt0) trodAll_mk0), rfl, bel.frame _, fun h => by cases h⟩

theorem fnExactValidTrend_holds : Rows.FnExactValidTrendSaid :=
  OpenClaim.holds_of_wide 3 Try.f3 rfl rfl rfl rfl rfl rfl rfl ⟨rfl, rfl, rfl, rfl, rfl⟩ rfl rfl rfl rfl rfl (by kernel_rfl) Try.func3 (by kernel_rfl)
    (of_decide_eq_true (by kernel_rfl)) (by unfold Func.isWrapper; first | (rw [if_pos (by decide +kernel)]; kernel_rfl) | (rw [if_neg (by decide +kernel)]; exact ⟨rfl, rfl⟩))
    (fun os started H enc _ => FnExactValidTrend_lifted os started H enc)
#print axioms fnExactValidTrend_holds

end Go.Proofs.Ytphelegkcbjkhaa
