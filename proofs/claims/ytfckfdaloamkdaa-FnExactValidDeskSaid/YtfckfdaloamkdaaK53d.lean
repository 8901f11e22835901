/- Contracts: which desks are valid, by the program. -/
import Derived.Test.YtfckfdaloamkdaaK53v
import Derived.Deep.RegionHeld3
import Derived.Test.YtfckfdaloamkdaaBk2
namespace Go.Proofs.Ytfckfdaloamkdaa
set_option linter.unusedSimpArgs false
set_option linter.unusedVariables false
set_option maxRecDepth 100000
set_option maxHeartbeats 4000000
open Go.RowKit
attribute [local go_sem] run_store_float run_store_complex alloc_drewN setCell_drewN

set_option maxRecDepth 100000 in
set_option maxHeartbeats 20000000 in
theorem i_ValidDesk (sv : Value) (ss : List Nat) (l s : Nat) (v : Value) (cs : List Nat) (x : Int) (a b c d : Nat) (y : Int) (w : World) (hs : SL w sv ss) (hv : SL w v cs) :
    Calls Try.prog 48 #[.agg #[sv, .float .f32 l, .float .f32 s, v, .int .i64 x, .float .f32 a, .float .f32 b, .float .f32 c, .float .f32 d, .int .i64 y]] w fun z w' => z = .returned (.bool (deskB ss (cn .f32 l) (cn .f32 s) cs x (cn .f32 a) (cn .f32 b) (cn .f32 c) (cn .f32 d) y)) ∧ Below w.heap.size w w' := by
  obtain ⟨ao, ac, rfl, hlen⟩ := hv.slice
  obtain ⟨so, sc, rfl, hlens⟩ := hs.slice
  have HV := Lib.hid hv
  have HS := Lib.hid hs
  clear hv hs
  have HE := Lib.hid (show deskB ss (cn .f32 l) (cn .f32 s) cs x (cn .f32 a) (cn .f32 b) (cn .f32 c) (cn .f32 d) y = (series ss && (stateB (cn .f32 l) (cn .f32 s) cs x && (sharesB (cn .f32 a) (cn .f32 b) (cn .f32 c) (cn .f32 d) && dayB y))) by simp [deskB, Bool.and_assoc])
  cases h1 : (series ss)
  · have H1 := Lib.hid h1
    clear h1
    go_enter Try.func48, Try.ntmps48
    go_wp2_with fail
    refine (i_IsSeries _ ss _ (SL.keep HS.out (by (repeat (first | with_reducible exact Below.refl _ _ | with_reducible assumption | with_reducible refine below_drewN ?_ _ | with_reducible refine Below.drew ?_ | with_reducible refine Below.alloc ?_ (by first | omega | (simp; omega) | (simp; done) | (simp at *; omega)) _ | with_reducible refine Below.setCell ?_ (by first | omega | (simp; omega) | (simp; done) | (simp at *; omega)) _ | refine Below.trans ?_ (Below.mono (by with_reducible assumption) (by first | omega | (simp; omega) | (simp; done) | (simp at *; omega)))))))).mono ?_
    rintro z w1 ⟨rfl, n1, rfl⟩
    rw [H1.out]
    go_wp2_with fail
    go_ret
    refine ⟨ret_bool ?_, by (repeat (first | with_reducible exact Below.refl _ _ | with_reducible assumption | with_reducible refine below_drewN ?_ _ | with_reducible refine Below.drew ?_ | with_reducible refine Below.alloc ?_ (by first | omega | (simp; omega) | (simp; done) | (simp at *; omega)) _ | with_reducible refine Below.setCell ?_ (by first | omega | (simp; omega) | (simp; done) | (simp at *; omega)) _ | refine Below.trans ?_ (Below.mono (by with_reducible assumption) (by first | omega | (simp; omega) | (simp; done) | (simp at *; omega)))))⟩
    rw [HE.out]
    simp only [H1.out]
    first | rfl | (simp; done)
  · have H1 := Lib.hid h1
    clear h1
    cases h2 : (stateB (cn .f32 l) (cn .f32 s) cs x)
    · have H2 := Lib.hid h2
      clear h2
      go_enter Try.func48, Try.ntmps48
      go_wp2_with fail
      refine (i_IsSeries _ ss _ (SL.keep HS.out (by (repeat (first | with_reducible exact Below.refl _ _ | with_reducible assumption | with_reducible refine below_drewN ?_ _ | with_reducible refine Below.drew ?_ | with_reducible refine Below.alloc ?_ (by first | omega | (simp; omega) | (simp; done) | (simp at *; omega)) _ | with_reducible refine Below.setCell ?_ (by first | omega | (simp; omega) | (simp; done) | (simp at *; omega)) _ | refine Below.trans ?_ (Below.mono (by with_reducible assumption) (by first | omega | (simp; omega) | (simp; done) | (simp at *; omega)))))))).mono ?_
      rintro z w1 ⟨rfl, n1, rfl⟩
      rw [H1.out]
      go_wp2_with fail
      refine (i_ValidState _ _ _ cs _ _ (SL.keep HV.out (by (repeat (first | with_reducible exact Below.refl _ _ | with_reducible assumption | with_reducible refine below_drewN ?_ _ | with_reducible refine Below.drew ?_ | with_reducible refine Below.alloc ?_ (by first | omega | (simp; omega) | (simp; done) | (simp at *; omega)) _ | with_reducible refine Below.setCell ?_ (by first | omega | (simp; omega) | (simp; done) | (simp at *; omega)) _ | refine Below.trans ?_ (Below.mono (by with_reducible assumption) (by first | omega | (simp; omega) | (simp; done) | (simp at *; omega)))))))).mono ?_
      rintro z w2 ⟨rfl, hb2⟩
      have hz2 := hb2.size; (try simp only [World.size_alloc, World.size_drew, World.heap_drewN, World.size_setCell] at hz2); have hp2 : w.heap.size + 1 ≤ w2.heap.size := (by omega); obtain ⟨hc2, hf2⟩ := bcellN (N := w.heap.size + 1) hb2 (by first | omega | (simp; done) | (simp; omega))
      rw [H2.out]
      go_wp2_with fail
      go_ret
      refine ⟨ret_bool ?_, by (repeat (first | with_reducible exact Below.refl _ _ | with_reducible assumption | with_reducible refine below_drewN ?_ _ | with_reducible refine Below.drew ?_ | with_reducible refine Below.alloc ?_ (by first | omega | (simp; omega) | (simp; done) | (simp at *; omega)) _ | with_reducible refine Below.setCell ?_ (by first | omega | (simp; omega) | (simp; done) | (simp at *; omega)) _ | refine Below.trans ?_ (Below.mono (by with_reducible assumption) (by first | omega | (simp; omega) | (simp; done) | (simp at *; omega)))))⟩
      rw [HE.out]
      simp only [H1.out, H2.out]
      first | rfl | (simp; done)
    · have H2 := Lib.hid h2
      clear h2
      cases h3 : (sharesB (cn .f32 a) (cn .f32 b) (cn .f32 c) (cn .f32 d))
      · have H3 := Lib.hid h3
        clear h3
        go_enter Try.func48, Try.ntmps48
        go_wp2_with fail
        refine (i_IsSeries _ ss _ (SL.keep HS.out (by (repeat (first | with_reducible exact Below.refl _ _ | with_reducible assumption | with_reducible refine below_drewN ?_ _ | with_reducible refine Below.drew ?_ | with_reducible refine Below.alloc ?_ (by first | omega | (simp; omega) | (simp; done) | (simp at *; omega)) _ | with_reducible refine Below.setCell ?_ (by first | omega | (simp; omega) | (simp; done) | (simp at *; omega)) _ | refine Below.trans ?_ (Below.mono (by with_reducible assumption) (by first | omega | (simp; omega) | (simp; done) | (simp at *; omega)))))))).mono ?_
        rintro z w1 ⟨rfl, n1, rfl⟩
        rw [H1.out]
        go_wp2_with fail
        refine (i_ValidState _ _ _ cs _ _ (SL.keep HV.out (by (repeat (first | with_reducible exact Below.refl _ _ | with_reducible assumption | with_reducible refine below_drewN ?_ _ | with_reducible refine Below.drew ?_ | with_reducible refine Below.alloc ?_ (by first | omega | (simp; omega) | (simp; done) | (simp at *; omega)) _ | with_reducible refine Below.setCell ?_ (by first | omega | (simp; omega) | (simp; done) | (simp at *; omega)) _ | refine Below.trans ?_ (Below.mono (by with_reducible assumption) (by first | omega | (simp; omega) | (simp; done) | (simp at *; omega)))))))).mono ?_
        rintro z w2 ⟨rfl, hb2⟩
        have hz2 := hb2.size; (try simp only [World.size_alloc, World.size_drew, World.heap_drewN, World.size_setCell] at hz2); have hp2 : w.heap.size + 1 ≤ w2.heap.size := (by omega); obtain ⟨hc2, hf2⟩ := bcellN (N := w.heap.size + 1) hb2 (by first | omega | (simp; done) | (simp; omega))
        rw [H2.out]
        go_wp2_with fail
        refine (i_ValidShares _ _ _ _ _).mono ?_
        rintro z w3 ⟨rfl, hb3⟩
        have hz3 := hb3.size; (try simp only [World.size_alloc, World.size_drew, World.heap_drewN, World.size_setCell] at hz3); have hp3 : w.heap.size + 1 ≤ w3.heap.size := (by omega); obtain ⟨hc3, hf3⟩ := bcellN (N := w.heap.size + 1) hb3 (by first | omega | (simp; done) | (simp; omega))
        rw [H3.out]
        go_wp2_with fail
        go_ret
        refine ⟨ret_bool ?_, by (repeat (first | with_reducible exact Below.refl _ _ | with_reducible assumption | with_reducible refine below_drewN ?_ _ | with_reducible refine Below.drew ?_ | with_reducible refine Below.alloc ?_ (by first | omega | (simp; omega) | (simp; done) | (simp at *; omega)) _ | with_reducible refine Below.setCell ?_ (by first | omega | (simp; omega) | (simp; done) | (simp at *; omega)) _ | refine Below.trans ?_ (Below.mono (by with_reducible assumption) (by first | omega | (simp; omega) | (simp; done) | (simp at *; omega)))))⟩
        rw [HE.out]
        simp only [H1.out, H2.out, H3.out]
        first | rfl | (simp; done)
      · have H3 := Lib.hid h3
        clear h3
        go_enter Try.func48, Try.ntmps48
        go_wp2_with fail
        refine (i_IsSeries _ ss _ (SL.keep HS.out (by (repeat (first | with_reducible exact Below.refl _ _ | with_reducible assumption | with_reducible refine below_drewN ?_ _ | with_reducible refine Below.drew ?_ | with_reducible refine Below.alloc ?_ (by first | omega | (simp; omega) | (simp; done) | (simp at *; omega)) _ | with_reducible refine Below.setCell ?_ (by first | omega | (simp; omega) | (simp; done) | (simp at *; omega)) _ | refine Below.trans ?_ (Below.mono (by with_reducible assumption) (by first | omega | (simp; omega) | (simp; done) | (simp at *; omega)))))))).mono ?_
        rintro z w1 ⟨rfl, n1, rfl⟩
        rw [H1.out]
        go_wp2_with fail
        refine (i_ValidState _ _ _ cs _ _ (SL.keep HV.out (by (repeat (first | with_reducible exact Below.refl _ _ | with_reducible assumption | with_reducible refine below_drewN ?_ _ | with_reducible refine Below.drew ?_ | with_reducible refine Below.alloc ?_ (by first | omega | (simp; omega) | (simp; done) | (simp at *; omega)) _ | with_reducible refine Below.setCell ?_ (by first | omega | (simp; omega) | (simp; done) | (simp at *; omega)) _ | refine Below.trans ?_ (Below.mono (by with_reducible assumption) (by first | omega | (simp; omega) | (simp; done) | (simp at *; omega)))))))).mono ?_
        rintro z w2 ⟨rfl, hb2⟩
        have hz2 := hb2.size; (try simp only [World.size_alloc, World.size_drew, World.heap_drewN, World.size_setCell] at hz2); have hp2 : w.heap.size + 1 ≤ w2.heap.size := (by omega); obtain ⟨hc2, hf2⟩ := bcellN (N := w.heap.size + 1) hb2 (by first | omega | (simp; done) | (simp; omega))
        rw [H2.out]
        go_wp2_with fail
        refine (i_ValidShares _ _ _ _ _).mono ?_
        rintro z w3 ⟨rfl, hb3⟩
        have hz3 := hb3.size; (try simp only [World.size_alloc, World.size_drew, World.heap_drewN, World.size_setCell] at hz3); have hp3 : w.heap.size + 1 ≤ w3.heap.size := (by omega); obtain ⟨hc3, hf3⟩ := bcellN (N := w.heap.size + 1) hb3 (by first | omega | (simp; done) | (simp; omega))
        rw [H3.out]
        go_wp2_with fail
        refine (i_isDay _ _).mono ?_
        rintro z w4 ⟨rfl, n4, rfl⟩
        go_wp2_with fail
        go_ret
        refine ⟨ret_bool ?_, by (repeat (first | with_reducible exact Below.refl _ _ | with_reducible assumption | with_reducible refine below_drewN ?_ _ | with_reducible refine Below.drew ?_ | with_reducible refine Below.alloc ?_ (by first | omega | (simp; omega) | (simp; done) | (simp at *; omega)) _ | with_reducible refine Below.setCell ?_ (by first | omega | (simp; omega) | (simp; done) | (simp at *; omega)) _ | refine Below.trans ?_ (Below.mono (by with_reducible assumption) (by first | omega | (simp; omega) | (simp; done) | (simp at *; omega)))))⟩
        rw [HE.out]
        simp only [H1.out, H2.out, H3.out]
        first | rfl | (simp; done)

end Go.Proofs.Ytfckfdaloamkdaa
