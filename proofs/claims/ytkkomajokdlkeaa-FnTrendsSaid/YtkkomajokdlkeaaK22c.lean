/- Contracts: a step of a trend. -/
import Derived.Test.YtkkomajokdlkeaaK22a
import Derived.Test.YtkkomajokdlkeaaK22b
namespace Go.Proofs.Ytkkomajokdlkeaa
set_option linter.unusedSimpArgs false
set_option linter.unusedVariables false
set_option maxRecDepth 100000
set_option maxHeartbeats 4000000
set_option linter.unusedSimpArgs false
set_option linter.unusedVariables false
open Go.RowKit
attribute [local go_sem] run_store_float run_store_complex alloc_drewN setCell_drewN dmUpon


set_option maxRecDepth 100000 in
theorem i_TrendStep (l s a b c n d t x : Nat) (hl : l < 4294967296) (hs : s < 4294967296) (ha : a < 4294967296) (hb : b < 4294967296) (hc : c < 4294967296) (hn : n < 4294967296) (hd : d < 4294967296) (ht : t < 4294967296) (hx : x < 4294967296) (seen : Bool) (w : World) :
    Calls Try.prog 30 #[.agg #[.float .f32 l, .float .f32 s, .float .f32 a, .float .f32 b, .float .f32 c, .float .f32 n, .float .f32 d, .float .f32 t], .float .f32 x, .bool seen] w fun z w' => TE z (tsQ (cn .f32 l) (cn .f32 s) (cn .f32 a) (cn .f32 b) (cn .f32 c) (cn .f32 n) (cn .f32 d) (cn .f32 t) (cn .f32 x) seen) ∧ Below w.heap.size w w' := by
  cases hT : trendOk (cn .f32 l) (cn .f32 s) (cn .f32 a) (cn .f32 b) (cn .f32 c) (cn .f32 n) (cn .f32 d) (cn .f32 t)
  · have HT := Lib.hid hT
    have HQ := Lib.hid (tsQ_no (x := cn .f32 x) (seen := seen) (by rw [hT]; rfl))
    clear hT
    go_enter Try.func30, Try.ntmps30
    go_wp2_with (go_at_call 27; refine (i_ValidTrend l s a b c n d t _).mono ?_; rintro z w1 ⟨rfl, hb1⟩; rw [HT.out]; have hz1 := hb1.size; (try simp only [World.size_alloc, World.size_drew, World.heap_drewN, World.size_setCell] at hz1); have hp1 : w.heap.size + 2 ≤ w1.heap.size := (by omega); obtain ⟨hc1, hf1⟩ := bcellN (N := w.heap.size + 2) hb1 (by first | omega | (simp; done) | (simp; omega)); have f0 : w1.cell? ⟨w.heap.size, 0, none⟩ = some (.float .f32 l) := (hc1 _ 0 (by omega)).trans (by go_simp); have f1 : w1.cell? ⟨w.heap.size, 1, none⟩ = some (.float .f32 s) := (hc1 _ 1 (by omega)).trans (by go_simp); have f2 : w1.cell? ⟨w.heap.size, 2, none⟩ = some (.float .f32 a) := (hc1 _ 2 (by omega)).trans (by go_simp); have f3 : w1.cell? ⟨w.heap.size, 3, none⟩ = some (.float .f32 b) := (hc1 _ 3 (by omega)).trans (by go_simp); have f4 : w1.cell? ⟨w.heap.size, 4, none⟩ = some (.float .f32 c) := (hc1 _ 4 (by omega)).trans (by go_simp); have f5 : w1.cell? ⟨w.heap.size, 5, none⟩ = some (.float .f32 n) := (hc1 _ 5 (by omega)).trans (by go_simp); have f6 : w1.cell? ⟨w.heap.size, 6, none⟩ = some (.float .f32 d) := (hc1 _ 6 (by omega)).trans (by go_simp); have f7 : w1.cell? ⟨w.heap.size, 7, none⟩ = some (.float .f32 t) := (hc1 _ 7 (by omega)).trans (by go_simp); have e0 : w1.cell? ⟨w.heap.size + 1, 0, none⟩ = some (.float .f32 0) := (hc1 _ 0 (by omega)).trans (by go_simp); have e1 : w1.cell? ⟨w.heap.size + 1, 1, none⟩ = some (.float .f32 0) := (hc1 _ 1 (by omega)).trans (by go_simp); have e2 : w1.cell? ⟨w.heap.size + 1, 2, none⟩ = some (.float .f32 0) := (hc1 _ 2 (by omega)).trans (by go_simp); have e3 : w1.cell? ⟨w.heap.size + 1, 3, none⟩ = some (.float .f32 0) := (hc1 _ 3 (by omega)).trans (by go_simp); have e4 : w1.cell? ⟨w.heap.size + 1, 4, none⟩ = some (.float .f32 0) := (hc1 _ 4 (by omega)).trans (by go_simp); have e5 : w1.cell? ⟨w.heap.size + 1, 5, none⟩ = some (.float .f32 0) := (hc1 _ 5 (by omega)).trans (by go_simp); have e6 : w1.cell? ⟨w.heap.size + 1, 6, none⟩ = some (.float .f32 0) := (hc1 _ 6 (by omega)).trans (by go_simp); have e7 : w1.cell? ⟨w.heap.size + 1, 7, none⟩ = some (.float .f32 0) := (hc1 _ 7 (by omega)).trans (by go_simp); clear hc1)
    (try simp only [Exit.inBlock, Exit.then])
    refine bodyPost_world fun W hW => ?_
    obtain ⟨y0, y1, y2, y3, y4, y5, y6, y7⟩ := (by exact set8_ hW e0 e1 e2 e3 e4 e5 e6 e7 : _ ∧ _ ∧ _ ∧ _ ∧ _ ∧ _ ∧ _ ∧ _)
    refine bodyPost_ret (by simp [results, Try.results30, go_sem, y0, y1, y2, y3, y4, y5, y6, y7]; try rfl) rfl ?_
    subst hW
    exact ⟨TE.no HQ.out, by (repeat (first | with_reducible exact Below.refl _ _ | with_reducible assumption | with_reducible refine below_drewN ?_ _ | with_reducible refine Below.drew ?_ | with_reducible refine Below.alloc ?_ (by first | omega | (simp; omega) | (simp; done) | (simp at *; omega)) _ | with_reducible refine Below.setCell ?_ (by first | omega | (simp; omega) | (simp; done) | (simp at *; omega)) _ | refine Below.trans ?_ (Below.mono (by with_reducible assumption) (by first | omega | (simp; omega) | (simp; done) | (simp at *; omega)))))⟩
  · have HT := Lib.hid hT
    cases hF : fin (cn .f32 x)
    · have HF := Lib.hid hF
      have HQ := Lib.hid (tsQ_no (x := cn .f32 x) (seen := seen) (by rw [hT, hF]; rfl))
      clear hT hF
      go_enter Try.func30, Try.ntmps30
      go_wp2_with (first
        | (go_at_call 27; refine (i_ValidTrend l s a b c n d t _).mono ?_; rintro z w1 ⟨rfl, hb1⟩; rw [HT.out]; have hz1 := hb1.size; (try simp only [World.size_alloc, World.size_drew, World.heap_drewN, World.size_setCell] at hz1); have hp1 : w.heap.size + 2 ≤ w1.heap.size := (by omega); obtain ⟨hc1, hf1⟩ := bcellN (N := w.heap.size + 2) hb1 (by first | omega | (simp; done) | (simp; omega)); have f0 : w1.cell? ⟨w.heap.size, 0, none⟩ = some (.float .f32 l) := (hc1 _ 0 (by omega)).trans (by go_simp); have f1 : w1.cell? ⟨w.heap.size, 1, none⟩ = some (.float .f32 s) := (hc1 _ 1 (by omega)).trans (by go_simp); have f2 : w1.cell? ⟨w.heap.size, 2, none⟩ = some (.float .f32 a) := (hc1 _ 2 (by omega)).trans (by go_simp); have f3 : w1.cell? ⟨w.heap.size, 3, none⟩ = some (.float .f32 b) := (hc1 _ 3 (by omega)).trans (by go_simp); have f4 : w1.cell? ⟨w.heap.size, 4, none⟩ = some (.float .f32 c) := (hc1 _ 4 (by omega)).trans (by go_simp); have f5 : w1.cell? ⟨w.heap.size, 5, none⟩ = some (.float .f32 n) := (hc1 _ 5 (by omega)).trans (by go_simp); have f6 : w1.cell? ⟨w.heap.size, 6, none⟩ = some (.float .f32 d) := (hc1 _ 6 (by omega)).trans (by go_simp); have f7 : w1.cell? ⟨w.heap.size, 7, none⟩ = some (.float .f32 t) := (hc1 _ 7 (by omega)).trans (by go_simp); have e0 : w1.cell? ⟨w.heap.size + 1, 0, none⟩ = some (.float .f32 0) := (hc1 _ 0 (by omega)).trans (by go_simp); have e1 : w1.cell? ⟨w.heap.size + 1, 1, none⟩ = some (.float .f32 0) := (hc1 _ 1 (by omega)).trans (by go_simp); have e2 : w1.cell? ⟨w.heap.size + 1, 2, none⟩ = some (.float .f32 0) := (hc1 _ 2 (by omega)).trans (by go_simp); have e3 : w1.cell? ⟨w.heap.size + 1, 3, none⟩ = some (.float .f32 0) := (hc1 _ 3 (by omega)).trans (by go_simp); have e4 : w1.cell? ⟨w.heap.size + 1, 4, none⟩ = some (.float .f32 0) := (hc1 _ 4 (by omega)).trans (by go_simp); have e5 : w1.cell? ⟨w.heap.size + 1, 5, none⟩ = some (.float .f32 0) := (hc1 _ 5 (by omega)).trans (by go_simp); have e6 : w1.cell? ⟨w.heap.size + 1, 6, none⟩ = some (.float .f32 0) := (hc1 _ 6 (by omega)).trans (by go_simp); have e7 : w1.cell? ⟨w.heap.size + 1, 7, none⟩ = some (.float .f32 0) := (hc1 _ 7 (by omega)).trans (by go_simp); clear hc1)
        | (go_at_call_of 87 (Value.float .f32 x); refine (i_IsFinite _ _).mono ?_; rintro z w3 ⟨rfl, n3, rfl⟩; rw [HF.out]))
      (try simp only [Exit.inBlock, Exit.then])
      refine bodyPost_world fun W hW => ?_
      obtain ⟨y0, y1, y2, y3, y4, y5, y6, y7⟩ := (by exact set8 hW e0 e1 e2 e3 e4 e5 e6 e7 : _ ∧ _ ∧ _ ∧ _ ∧ _ ∧ _ ∧ _ ∧ _)
      refine bodyPost_ret (by simp [results, Try.results30, go_sem, y0, y1, y2, y3, y4, y5, y6, y7]; try rfl) rfl ?_
      subst hW
      exact ⟨TE.no HQ.out, by (repeat (first | with_reducible exact Below.refl _ _ | with_reducible assumption | with_reducible refine below_drewN ?_ _ | with_reducible refine Below.drew ?_ | with_reducible refine Below.alloc ?_ (by first | omega | (simp; omega) | (simp; done) | (simp at *; omega)) _ | with_reducible refine Below.setCell ?_ (by first | omega | (simp; omega) | (simp; done) | (simp at *; omega)) _ | refine Below.trans ?_ (Below.mono (by with_reducible assumption) (by first | omega | (simp; omega) | (simp; done) | (simp at *; omega)))))⟩
    · cases seen
      · exact i_TS_false l s a b c n d t x hl hs ha hb hc hn hd ht hx hT hF w
      · exact i_TS_true l s a b c n d t x hl hs ha hb hc hn hd ht hx hT hF w

end Go.Proofs.Ytkkomajokdlkeaa
