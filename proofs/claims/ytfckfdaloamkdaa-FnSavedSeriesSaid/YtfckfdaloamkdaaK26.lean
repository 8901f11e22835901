/- Contracts: states, shares and desks copied and compared. -/
import Derived.Test.YtfckfdaloamkdaaK6
import Derived.Test.YtfckfdaloamkdaaK15
import Derived.Test.YtfckfdaloamkdaaS8
import Derived.Deep.RegionWith
import Derived.Deep.RegionHeld3
namespace Go.Proofs.Ytfckfdaloamkdaa
set_option linter.unusedSimpArgs false
set_option linter.unusedVariables false
set_option maxRecDepth 100000
set_option maxHeartbeats 4000000
set_option linter.unusedSimpArgs false
set_option linter.unusedVariables false
open Go.RowKit
attribute [local go_sem] run_store_float run_store_complex alloc_drewN setCell_drewN

theorem eqw {x y c d : Nat} (h1 : Hid (cn .f64 x = wd c)) (h2 : Hid (cn .f64 y = wd d)) (h : c = d) : cn .f64 x = cn .f64 y := by rw [h1.out, h2.out, h]

theorem l_eqShares (a0 a1 a2 a3 b0 b1 b2 b3 : Nat) (h0 : cn .f32 a0 = cn .f32 b0) (h1 : cn .f32 a1 = cn .f32 b1) (h2 : cn .f32 a2 = cn .f32 b2) (h3 : cn .f32 a3 = cn .f32 b3) (w : World) :
    Calls Try.prog 77 #[.agg #[.float .f32 a0, .float .f32 a1, .float .f32 a2, .float .f32 a3], .agg #[.float .f32 b0, .float .f32 b1, .float .f32 b2, .float .f32 b3]] w fun z w' => z = .returned (.bool true) ∧ Below w.heap.size w w' := by
  have H0 := Lib.hid h0
  have H1 := Lib.hid h1
  have H2 := Lib.hid h2
  have H3 := Lib.hid h3
  clear h0 h1 h2 h3
  go_enter Try.func77, Try.ntmps77
  go_wp2_with (first
    | (refine wpList_wd (by kernel_rfl) (by kernel_rfl) _ rfl ?_; intro r n hr hlt; have HR := Lib.hid hr; clear hr)
    | (go_at_call 100; refine (l_sameFloat _ _ (by first
        | exact eqw (by assumption) (by assumption) H0.out | exact eqw (by assumption) (by assumption) H1.out
        | exact eqw (by assumption) (by assumption) H2.out | exact eqw (by assumption) (by assumption) H3.out) _).mono ?_; rintro z w1 ⟨rfl, n1, rfl⟩))
  go_ret
  refine ⟨rfl, ?_⟩
  (repeat (first | with_reducible exact Below.refl _ _ | with_reducible assumption | with_reducible refine below_drewN ?_ _ | with_reducible refine Below.drew ?_ | with_reducible refine Below.alloc ?_ (by first | omega | (simp; omega) | (simp; done) | (simp at *; omega)) _ | with_reducible refine Below.setCell ?_ (by first | omega | (simp; omega) | (simp; done) | (simp at *; omega)) _ | refine Below.trans ?_ (Below.mono (by with_reducible assumption) (by first | omega | (simp; omega) | (simp; done) | (simp at *; omega)))))

theorem l_eqState (a0 a1 b0 b1 : Nat) (u v : Value) (cs : List Nat) (at_ : Int) (h0 : cn .f32 a0 = cn .f32 b0) (h1 : cn .f32 a1 = cn .f32 b1) (w : World) (hu : SL w u cs) (hv : SL w v cs) :
    Calls Try.prog 76 #[.agg #[.float .f32 a0, .float .f32 a1, u, .int .i64 at_], .agg #[.float .f32 b0, .float .f32 b1, v, .int .i64 at_]] w fun z w' => z = .returned (.bool true) ∧ Below w.heap.size w w' := by
  have H0 := Lib.hid h0
  have H1 := Lib.hid h1
  have HU := Lib.hid hu
  have HV := Lib.hid hv
  obtain ⟨ao, c, rfl, hlen⟩ := hu.slice
  obtain ⟨bo, d, rfl, hlen2⟩ := hv.slice
  clear h0 h1 hu hv
  go_enter Try.func76, Try.ntmps76
  go_wp2_with (first
    | (refine wpList_wd (by kernel_rfl) (by kernel_rfl) _ rfl ?_; intro r n hr hlt; have HR := Lib.hid hr; clear hr)
    | (go_at_call 100; refine (l_sameFloat _ _ (by first
        | exact eqw (by assumption) (by assumption) H0.out | exact eqw (by assumption) (by assumption) H1.out) _).mono ?_; rintro z w1 ⟨rfl, n1, rfl⟩)
    | (go_at_call 62; refine (l_eqFloat32S _ _ cs _ (SL.keep HU.out (by (repeat (first | with_reducible exact Below.refl _ _ | with_reducible assumption | with_reducible refine below_drewN ?_ _ | with_reducible refine Below.drew ?_ | with_reducible refine Below.alloc ?_ (by first | omega | (simp; omega) | (simp; done) | (simp at *; omega)) _ | with_reducible refine Below.setCell ?_ (by first | omega | (simp; omega) | (simp; done) | (simp at *; omega)) _ | refine Below.trans ?_ (Below.mono (by with_reducible assumption) (by first | omega | (simp; omega) | (simp; done) | (simp at *; omega))))))) (SL.keep HV.out (by (repeat (first | with_reducible exact Below.refl _ _ | with_reducible assumption | with_reducible refine below_drewN ?_ _ | with_reducible refine Below.drew ?_ | with_reducible refine Below.alloc ?_ (by first | omega | (simp; omega) | (simp; done) | (simp at *; omega)) _ | with_reducible refine Below.setCell ?_ (by first | omega | (simp; omega) | (simp; done) | (simp at *; omega)) _ | refine Below.trans ?_ (Below.mono (by with_reducible assumption) (by first | omega | (simp; omega) | (simp; done) | (simp at *; omega)))))))).mono ?_; rintro z w1 ⟨rfl, n1, rfl⟩))
  go_ret
  refine ⟨rfl, ?_⟩
  (repeat (first | with_reducible exact Below.refl _ _ | with_reducible assumption | with_reducible refine below_drewN ?_ _ | with_reducible refine Below.drew ?_ | with_reducible refine Below.alloc ?_ (by first | omega | (simp; omega) | (simp; done) | (simp at *; omega)) _ | with_reducible refine Below.setCell ?_ (by first | omega | (simp; omega) | (simp; done) | (simp at *; omega)) _ | refine Below.trans ?_ (Below.mono (by with_reducible assumption) (by first | omega | (simp; omega) | (simp; done) | (simp at *; omega)))))

/-- What is the same of two desks. -/
structure DS (w : World) (s s' e e' : Value) (ss es : List Nat) (x y : List Nat) : Prop where
  ser : SL w s ss
  ser' : SL w s' ss
  sea : SL w e es
  sea' : SL w e' es
  nums : x.map (cn .f32) = y.map (cn .f32)
theorem l_eqDesk (s s' e e' : Value) (ss es : List Nat) (x0 x1 x2 x3 x4 x5 y0 y1 y2 y3 y4 y5 : Nat) (at_ day : Int) (w : World) (h : DS w s s' e e' ss es [x0, x1, x2, x3, x4, x5] [y0, y1, y2, y3, y4, y5]) :
    Calls Try.prog 40 #[.agg #[s, .float .f32 x0, .float .f32 x1, e, .int .i64 at_, .float .f32 x2, .float .f32 x3, .float .f32 x4, .float .f32 x5, .int .i64 day], .agg #[s', .float .f32 y0, .float .f32 y1, e', .int .i64 at_, .float .f32 y2, .float .f32 y3, .float .f32 y4, .float .f32 y5, .int .i64 day]] w fun z w' => z = .returned (.bool true) ∧ Below w.heap.size w w' := by
  have hn := h.nums
  simp only [List.map_cons, List.map_nil, List.cons.injEq, and_true] at hn
  obtain ⟨h0, h1, h2, h3, h4, h5⟩ := hn
  have H0 := Lib.hid h0
  have H1 := Lib.hid h1
  have H2 := Lib.hid h2
  have H3 := Lib.hid h3
  have H4 := Lib.hid h4
  have H5 := Lib.hid h5
  have HS := Lib.hid h.ser
  have HS' := Lib.hid h.ser'
  have HE := Lib.hid h.sea
  have HE' := Lib.hid h.sea'
  obtain ⟨ao, c, rfl, hlen⟩ := h.ser.slice
  obtain ⟨bo, d, rfl, hlen2⟩ := h.ser'.slice
  obtain ⟨eo, f, rfl, hlen3⟩ := h.sea.slice
  obtain ⟨fo, g, rfl, hlen4⟩ := h.sea'.slice
  clear h h0 h1 h2 h3 h4 h5
  go_enter Try.func40, Try.ntmps40
  go_wp2_with (first
    | (go_at_call 62; refine (l_eqFloat32S _ _ ss _ (SL.keep HS.out (by (repeat (first | with_reducible exact Below.refl _ _ | with_reducible assumption | with_reducible refine below_drewN ?_ _ | with_reducible refine Below.drew ?_ | with_reducible refine Below.alloc ?_ (by first | omega | (simp; omega) | (simp; done) | (simp at *; omega)) _ | with_reducible refine Below.setCell ?_ (by first | omega | (simp; omega) | (simp; done) | (simp at *; omega)) _ | refine Below.trans ?_ (Below.mono (by with_reducible assumption) (by first | omega | (simp; omega) | (simp; done) | (simp at *; omega))))))) (SL.keep HS'.out (by (repeat (first | with_reducible exact Below.refl _ _ | with_reducible assumption | with_reducible refine below_drewN ?_ _ | with_reducible refine Below.drew ?_ | with_reducible refine Below.alloc ?_ (by first | omega | (simp; omega) | (simp; done) | (simp at *; omega)) _ | with_reducible refine Below.setCell ?_ (by first | omega | (simp; omega) | (simp; done) | (simp at *; omega)) _ | refine Below.trans ?_ (Below.mono (by with_reducible assumption) (by first | omega | (simp; omega) | (simp; done) | (simp at *; omega)))))))).mono ?_; rintro z w1 ⟨rfl, n1, rfl⟩)
    | (go_at_call 76; refine (l_eqState _ _ _ _ _ _ es _ H0.out H1.out _ (SL.keep HE.out (by (repeat (first | with_reducible exact Below.refl _ _ | with_reducible assumption | with_reducible refine below_drewN ?_ _ | with_reducible refine Below.drew ?_ | with_reducible refine Below.alloc ?_ (by first | omega | (simp; omega) | (simp; done) | (simp at *; omega)) _ | with_reducible refine Below.setCell ?_ (by first | omega | (simp; omega) | (simp; done) | (simp at *; omega)) _ | refine Below.trans ?_ (Below.mono (by with_reducible assumption) (by first | omega | (simp; omega) | (simp; done) | (simp at *; omega))))))) (SL.keep HE'.out (by (repeat (first | with_reducible exact Below.refl _ _ | with_reducible assumption | with_reducible refine below_drewN ?_ _ | with_reducible refine Below.drew ?_ | with_reducible refine Below.alloc ?_ (by first | omega | (simp; omega) | (simp; done) | (simp at *; omega)) _ | with_reducible refine Below.setCell ?_ (by first | omega | (simp; omega) | (simp; done) | (simp at *; omega)) _ | refine Below.trans ?_ (Below.mono (by with_reducible assumption) (by first | omega | (simp; omega) | (simp; done) | (simp at *; omega)))))))).mono ?_; rintro z w2 ⟨rfl, hb2⟩; have hz2 := hb2.size; (try simp only [World.size_alloc, World.size_drew, World.heap_drewN, World.size_setCell] at hz2); have hp2 : w.heap.size + 2 ≤ w2.heap.size := (by omega); obtain ⟨hc2, hf2⟩ := bcellN (N := w.heap.size + 2) hb2 (by first | omega | (simp; done) | (simp; omega)))
    | (go_at_call 77; refine (l_eqShares _ _ _ _ _ _ _ _ H2.out H3.out H4.out H5.out _).mono ?_; rintro z w3 ⟨rfl, hb3⟩; have hz3 := hb3.size; (try simp only [World.size_alloc, World.size_drew, World.heap_drewN, World.size_setCell] at hz3); have hp3 : w.heap.size + 2 ≤ w3.heap.size := (by omega); obtain ⟨hc3, hf3⟩ := bcellN (N := w.heap.size + 2) hb3 (by first | omega | (simp; done) | (simp; omega))))
  go_ret
  refine ⟨rfl, ?_⟩
  (repeat (first | with_reducible exact Below.refl _ _ | with_reducible assumption | with_reducible refine below_drewN ?_ _ | with_reducible refine Below.drew ?_ | with_reducible refine Below.alloc ?_ (by first | omega | (simp; omega) | (simp; done) | (simp at *; omega)) _ | with_reducible refine Below.setCell ?_ (by first | omega | (simp; omega) | (simp; done) | (simp at *; omega)) _ | refine Below.trans ?_ (Below.mono (by with_reducible assumption) (by first | omega | (simp; omega) | (simp; done) | (simp at *; omega)))))

end Go.Proofs.Ytfckfdaloamkdaa
