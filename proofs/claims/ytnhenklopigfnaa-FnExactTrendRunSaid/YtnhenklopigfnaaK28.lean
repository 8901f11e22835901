/- Contracts: a step of a trend, by the reference. -/
import Derived.Test.YtnhenklopigfnaaK22
namespace Go.Proofs.Ytnhenklopigfnaa
set_option linter.unusedSimpArgs false
set_option linter.unusedVariables false
set_option maxRecDepth 100000
set_option maxHeartbeats 4000000
set_option linter.unusedSimpArgs false
set_option linter.unusedVariables false
open Go.RowKit
attribute [local go_sem] run_store_float run_store_complex alloc_drewN setCell_drewN dmUpon

theorem BK.newAt {n : Nat} (w : World) (vs : List Value) (T : TypeId) (hn : n = w.heap.size) : BK (w.alloc (.cells vs.toArray T)) n vs := by subst hn; exact BK.new w vs T

theorem eqw {x y c d : Nat} (h1 : Hid (cn .f64 x = wd c)) (h2 : Hid (cn .f64 y = wd d)) (h : c = d) : cn .f64 x = cn .f64 y := by rw [h1.out, h2.out, h]
set_option maxRecDepth 100000 in
theorem l_eqTrend (a0 a1 a2 a3 a4 a5 a6 a7 b0 b1 b2 b3 b4 b5 b6 b7 : Nat) (h : [cn .f32 a0, cn .f32 a1, cn .f32 a2, cn .f32 a3, cn .f32 a4, cn .f32 a5, cn .f32 a6, cn .f32 a7] = [cn .f32 b0, cn .f32 b1, cn .f32 b2, cn .f32 b3, cn .f32 b4, cn .f32 b5, cn .f32 b6, cn .f32 b7]) (w : World) :
    Calls Try.prog 26 #[.agg #[.float .f32 a0, .float .f32 a1, .float .f32 a2, .float .f32 a3, .float .f32 a4, .float .f32 a5, .float .f32 a6, .float .f32 a7], .agg #[.float .f32 b0, .float .f32 b1, .float .f32 b2, .float .f32 b3, .float .f32 b4, .float .f32 b5, .float .f32 b6, .float .f32 b7]] w fun z w' => z = .returned (.bool true) ∧ Below w.heap.size w w' := by
  simp only [List.cons.injEq, and_true] at h
  obtain ⟨h0, h1, h2, h3, h4, h5, h6, h7⟩ := h
  have H0 := Lib.hid h0
  have H1 := Lib.hid h1
  have H2 := Lib.hid h2
  have H3 := Lib.hid h3
  have H4 := Lib.hid h4
  have H5 := Lib.hid h5
  have H6 := Lib.hid h6
  have H7 := Lib.hid h7
  clear h0 h1 h2 h3 h4 h5 h6 h7
  go_enter Try.func26, Try.ntmps26
  go_wp2_with (first
    | (refine wpList_wd (by kernel_rfl) (by kernel_rfl) _ rfl ?_; intro r n hr hlt; have HR := Lib.hid hr; clear hr)
    | (go_at_call 83; refine (l_sameFloat _ _ (by first
        | exact eqw (by assumption) (by assumption) H0.out | exact eqw (by assumption) (by assumption) H1.out
        | exact eqw (by assumption) (by assumption) H2.out | exact eqw (by assumption) (by assumption) H3.out
        | exact eqw (by assumption) (by assumption) H4.out | exact eqw (by assumption) (by assumption) H5.out
        | exact eqw (by assumption) (by assumption) H6.out | exact eqw (by assumption) (by assumption) H7.out) _).mono ?_; rintro z w1 ⟨rfl, n1, rfl⟩))
  go_ret
  refine ⟨rfl, ?_⟩
  (repeat (first | exact Below.refl _ _ | assumption | refine below_drewN ?_ _ | refine Below.drew ?_ | refine Below.alloc ?_ (by first | omega | (simp; omega) | (simp; done) | (simp at *; omega)) _ | refine Below.setCell ?_ (by first | omega | (simp; omega) | (simp; done) | (simp at *; omega)) _ | refine Below.trans ?_ (Below.mono (by assumption) (by first | omega | (simp; omega) | (simp; done) | (simp at *; omega)))))

end Go.Proofs.Ytnhenklopigfnaa
