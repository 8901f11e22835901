/- Contracts: trends. -/
import Derived.Test.YtkkomajokdlkeaaK3
import Derived.Deep.RegionWith
namespace Go.Proofs.Ytkkomajokdlkeaa
set_option linter.unusedSimpArgs false
set_option linter.unusedVariables false
set_option maxRecDepth 100000
set_option maxHeartbeats 4000000
open Go.RowKit
attribute [local go_sem] run_store_float run_store_complex alloc_drewN setCell_drewN

/-- The numbers of a trend, as values. -/
def trendVs (a b c d e f g h : Nat) : Value := .agg #[.float .f32 a, .float .f32 b, .float .f32 c, .float .f32 d, .float .f32 e, .float .f32 f, .float .f32 g, .float .f32 h]

def trendOk (a b c d e f g h : Nat) : Bool := fin a && fin b && least c && fin d && least e && above f && least g && least h

theorem trendOk_eq (a b c d e f g h : Nat) : trendOk a b c d e f g h = (allFin [a, b, c, d, e, f, g, h] && allLeast [c, e, g, h] && allAbove [f]) := by
  rw [Bool.eq_iff_iff]
  simp only [trendOk, allFin, allLeast, allAbove, least, above, List.all_cons, List.all_nil, Bool.and_true, Bool.and_eq_true]
  constructor
  · rintro ⟨⟨⟨⟨⟨⟨⟨h1, h2⟩, h3, h4⟩, h5⟩, h6, h7⟩, h8, h9⟩, h10, h11⟩, h12, h13⟩
    simp_all
  · rintro ⟨⟨⟨h1, h2, h3, h4, h5, h6, h7, h8⟩, ⟨_, h10⟩, ⟨_, h12⟩, ⟨_, h14⟩, ⟨_, h16⟩⟩, ⟨_, h18⟩⟩
    simp_all


set_option maxRecDepth 100000 in
theorem i_numbers (a b c d e f g h : Nat) (w : World) :
    Calls Try.prog 82 #[.agg #[.float .f32 a, .float .f32 b, .float .f32 c, .float .f32 d, .float .f32 e, .float .f32 f, .float .f32 g, .float .f32 h]] w fun z w' => ∃ v, z = .returned v ∧ SL w' v ([a, b, c, d, e, f, g, h].map (cn .f32)) ∧ Below w.heap.size w w' := by
  go_enter Try.func82, Try.ntmps82
  go_wp2_with fail
  go_ret
  refine ⟨_, rfl, ?_, ?_⟩
  · have := SL.lit (w.alloc (Obj.cells #[Value.float FloatKind.f32 a, Value.float FloatKind.f32 b, Value.float FloatKind.f32 c, Value.float FloatKind.f32 d, Value.float FloatKind.f32 e, Value.float FloatKind.f32 f, Value.float FloatKind.f32 g, Value.float FloatKind.f32 h] 47)) [a, b, c, d, e, f, g, h] 33 (0, 0) (by simp) rfl rfl
    simpa using this
  · (repeat (first | exact Below.refl _ _ | assumption | refine below_drewN ?_ _ | refine Below.drew ?_ | refine Below.alloc ?_ (by first | omega | (simp; omega) | (simp; done) | (simp at *; omega)) _ | refine Below.setCell ?_ (by first | omega | (simp; omega) | (simp; done) | (simp at *; omega)) _ | refine Below.trans ?_ (Below.mono (by assumption) (by first | omega | (simp; omega) | (simp; done) | (simp at *; omega)))))

set_option maxRecDepth 100000 in
theorem s_l05Trend (p : Nat) (a b c d e f g h : Nat) (w : World) (hp : CA w p [.float .f32 a, .float .f32 b, .float .f32 c, .float .f32 d, .float .f32 e, .float .f32 f, .float .f32 g, .float .f32 h]) :
    Calls Try.prog 79 #[.pointer (some ⟨p, 0, none⟩)] w fun z w' => z = .returned (.bool (trendOk (cn .f32 a) (cn .f32 b) (cn .f32 c) (cn .f32 d) (cn .f32 e) (cn .f32 f) (cn .f32 g) (cn .f32 h))) ∧ Dr w w' := by
  have h0 := hp.2 0 _ rfl
  have h1 := hp.2 1 _ rfl
  have h2 := hp.2 2 _ rfl
  have h3 := hp.2 3 _ rfl
  have h4 := hp.2 4 _ rfl
  have h5 := hp.2 5 _ rfl
  have h6 := hp.2 6 _ rfl
  have h7 := hp.2 7 _ rfl
  clear hp
  go_enter Try.func79, Try.ntmps79
  go_wp2_with (first | (go_at_call 69; refine (s_l01Finite _ _).mono ?_; rintro z w1 ⟨rfl, n, rfl⟩) | (go_at_call 125; refine (s_l02Least _ _).mono ?_; rintro z w1 ⟨rfl, n, rfl⟩) | (go_at_call 126; refine (s_l02Above _ _).mono ?_; rintro z w1 ⟨rfl, n, rfl⟩))
  all_goals
    go_ret
    refine ⟨?_, _, rfl⟩
    simp [trendOk, *]


set_option maxRecDepth 100000 in
theorem i_ValidTrend (a b c d e f g h : Nat) (w : World) :
    Calls Try.prog 27 #[.agg #[.float .f32 a, .float .f32 b, .float .f32 c, .float .f32 d, .float .f32 e, .float .f32 f, .float .f32 g, .float .f32 h]] w fun z w' => z = .returned (.bool (trendOk (cn .f32 a) (cn .f32 b) (cn .f32 c) (cn .f32 d) (cn .f32 e) (cn .f32 f) (cn .f32 g) (cn .f32 h))) ∧ Below w.heap.size w w' := by
  go_enter Try.func27, Try.ntmps27
  go_wp2_with (first
    | (go_at_call 82; refine (i_numbers a b c d e f g h _).mono ?_; rintro z w1 ⟨v, rfl, hv, hb⟩; obtain ⟨hc, hf⟩ := bcell hb; have hz := hb.size; simp only [World.size_alloc] at hz; replace hz : w.heap.size < w1.heap.size := hz)
    | (go_at_call 81; refine (i_areFinite _ _ _ hv).mono ?_; rintro z w1 ⟨rfl, n, rfl⟩)
    | (go_at_call 83; refine (i_areNotLess _ ([c, e, g, h].map (cn .f32)) _ (by first | exact SL.lit _ [c, e, g, h] _ _ (by simp) rfl (by simp) | exact SL.drewN (SL.lit _ [c, e, g, h] _ _ (by simp) rfl (by simp)) _)).mono ?_; rintro z w1 ⟨rfl, n2, rfl⟩)
    | (go_at_call 84; refine (i_areMore _ ([f].map (cn .f32)) _ (by first | exact SL.lit _ [f] _ _ (by simp) rfl (by simp) | exact SL.drewN (SL.lit _ [f] _ _ (by simp) rfl (by simp)) _)).mono ?_; rintro z w1 ⟨rfl, n3, rfl⟩))
  all_goals try (go_ret; refine ⟨?_, ?_⟩)
  all_goals first | ((repeat (first | exact Below.refl _ _ | assumption | refine below_drewN ?_ _ | refine Below.drew ?_ | refine Below.alloc ?_ (by first | omega | (simp; omega) | (simp; done) | (simp at *; omega)) _ | refine Below.setCell ?_ (by first | omega | (simp; omega) | (simp; done) | (simp at *; omega)) _ | refine Below.trans ?_ (Below.mono (by assumption) (by first | omega | (simp; omega) | (simp; done) | (simp at *; omega))))); done) | (rw [trendOk_eq]; simp_all; done) | skip


set_option maxRecDepth 100000 in
theorem i_numbersB (a b c d e f g h : Nat) (hl : ∀ x ∈ [a, b, c, d, e, f, g, h], x < 4294967296) (w : World) :
    Calls Try.prog 82 #[.agg #[.float .f32 a, .float .f32 b, .float .f32 c, .float .f32 d, .float .f32 e, .float .f32 f, .float .f32 g, .float .f32 h]] w fun z w' => ∃ v, z = .returned v ∧ SB w' v ([a, b, c, d, e, f, g, h].map (cn .f32)) ∧ Below w.heap.size w w' := by
  go_enter Try.func82, Try.ntmps82
  go_wp2_with fail
  go_ret
  refine ⟨_, rfl, ?_, ?_⟩
  · have := SB.lit (w.alloc (Obj.cells #[Value.float FloatKind.f32 a, Value.float FloatKind.f32 b, Value.float FloatKind.f32 c, Value.float FloatKind.f32 d, Value.float FloatKind.f32 e, Value.float FloatKind.f32 f, Value.float FloatKind.f32 g, Value.float FloatKind.f32 h] 47)) [a, b, c, d, e, f, g, h] 33 (0, 0) (by simp) hl rfl rfl
    simpa using this
  · (repeat (first | exact Below.refl _ _ | assumption | refine below_drewN ?_ _ | refine Below.drew ?_ | refine Below.alloc ?_ (by first | omega | (simp; omega) | (simp; done) | (simp at *; omega)) _ | refine Below.setCell ?_ (by first | omega | (simp; omega) | (simp; done) | (simp at *; omega)) _ | refine Below.trans ?_ (Below.mono (by assumption) (by first | omega | (simp; omega) | (simp; done) | (simp at *; omega)))))

set_option maxRecDepth 100000 in
set_option maxHeartbeats 2000000 in
theorem i_SameTrend (a b c d e f g h a' b' c' d' e' f' g' h' : Nat) (hl : ∀ x ∈ [a, b, c, d, e, f, g, h], x < 4294967296) (hl' : ∀ x ∈ [a', b', c', d', e', f', g', h'], x < 4294967296) (w : World) :
    Calls Try.prog 28 #[.agg #[.float .f32 a, .float .f32 b, .float .f32 c, .float .f32 d, .float .f32 e, .float .f32 f, .float .f32 g, .float .f32 h], .agg #[.float .f32 a', .float .f32 b', .float .f32 c', .float .f32 d', .float .f32 e', .float .f32 f', .float .f32 g', .float .f32 h']] w fun z w' => z = .returned (.bool (([a, b, c, d, e, f, g, h].map (cn .f32)) == ([a', b', c', d', e', f', g', h'].map (cn .f32)))) ∧ Below w.heap.size w w' := by
  have HL := Lib.hid hl
  have HL' := Lib.hid hl'
  clear hl hl'
  go_enter Try.func28, Try.ntmps28
  go_wp2_with fail
  go_region_with (first
    | (go_at_call_of 82 (Value.float .f32 a); refine (i_numbersB a b c d e f g h HL.out _).mono ?_; rintro z w1 ⟨v, rfl, hv, hb⟩; obtain ⟨hc1, hf1⟩ := bcell hb; have hz1 := hb.size; simp only [World.size_alloc, World.size_drew] at hz1; replace hz1 : w.heap.size + 1 < w1.heap.size := hz1; have hz0 : w.heap.size < w1.heap.size := by omega)
    | (go_at_call_of 82 (Value.float .f32 a'); refine (i_numbersB a' b' c' d' e' f' g' h' HL'.out _).mono ?_; rintro z w2 ⟨v2, rfl, hv2, hb2⟩; have hz2 := hb2.size)
    | (go_at_call 85; refine (f_EqualFunc _ same (fun _ _ => by kernel_rfl) (fun x y w hx hy => i_SameNumber x y hx hy w) v v2 _ _ _ (hv.keep hb2) hv2).mono ?_; rintro z w3 ⟨rfl, n, rfl⟩))
  all_goals
    go_wp2_with fail
    go_ret
    refine ⟨ret_bool (all2_same _ _), ?_⟩
    (repeat (first | exact Below.refl _ _ | assumption | refine below_drewN ?_ _ | refine Below.drew ?_ | refine Below.alloc ?_ (by first | omega | (simp; omega) | (simp; done) | (simp at *; omega)) _ | refine Below.setCell ?_ (by first | omega | (simp; omega) | (simp; done) | (simp at *; omega)) _ | refine Below.trans ?_ (Below.mono (by assumption) (by first | omega | (simp; omega) | (simp; done) | (simp at *; omega)))))

end Go.Proofs.Ytkkomajokdlkeaa
