/- Contracts: sizes of states and desks. -/
import Derived.Test.YtfckfdaloamkdaaK27
namespace Go.Proofs.Ytfckfdaloamkdaa
set_option linter.unusedSimpArgs false
set_option linter.unusedVariables false
set_option maxRecDepth 100000
set_option maxHeartbeats 4000000
open Go.RowKit
attribute [local go_sem] run_store_float run_store_complex alloc_drewN setCell_drewN


theorem l_szState (l s : Nat) (v : Value) (cs : List Nat) (at_ left : Int) (w : World) (hv : SL w v cs) (h0 : 0 ≤ left) (h1 : left ≤ 1048576) :
    Calls Try.prog 80 #[.agg #[.float .f32 l, .float .f32 s, v, .int .i64 at_], .int .i64 left] w fun e w' => e = .returned (.int .i64 (if (cs.length : Int) ≤ left then left - cs.length else -1)) ∧ Below w.heap.size w w' := by
  obtain ⟨ao, c, rfl, hlen⟩ := hv.slice
  have HV := Lib.hid hv
  clear hv
  by_cases hn : (cs.length : Int) ≤ left
  all_goals
    go_enter Try.func80, Try.ntmps80
    go_wp2_with (go_at_call 55; refine (l_szFloat32S _ cs _ _ (SL.keep HV.out (by (repeat (first | with_reducible exact Below.refl _ _ | with_reducible assumption | with_reducible refine below_drewN ?_ _ | with_reducible refine Below.drew ?_ | with_reducible refine Below.alloc ?_ (by first | omega | (simp; omega) | (simp; done) | (simp at *; omega)) _ | with_reducible refine Below.setCell ?_ (by first | omega | (simp; omega) | (simp; done) | (simp at *; omega)) _ | refine Below.trans ?_ (Below.mono (by with_reducible assumption) (by first | omega | (simp; omega) | (simp; done) | (simp at *; omega))))))) h0 h1).mono ?_; rintro z w1 ⟨rfl, n1, rfl⟩)
    all_goals
      go_ret
      refine ⟨ret_int ?_, by (repeat (first | with_reducible exact Below.refl _ _ | with_reducible assumption | with_reducible refine below_drewN ?_ _ | with_reducible refine Below.drew ?_ | with_reducible refine Below.alloc ?_ (by first | omega | (simp; omega) | (simp; done) | (simp at *; omega)) _ | with_reducible refine Below.setCell ?_ (by first | omega | (simp; omega) | (simp; done) | (simp at *; omega)) _ | refine Below.trans ?_ (Below.mono (by with_reducible assumption) (by first | omega | (simp; omega) | (simp; done) | (simp at *; omega)))))⟩
      first | rfl | omega | (split <;> omega)
/-- The size of a desk's slices, taken from what is left. -/
def szD (m n : Nat) (left : Int) : Int := if (m : Int) + n ≤ left then left - m - n else -1

theorem l_szDesk (sv : Value) (ss : List Nat) (l s : Nat) (v : Value) (cs : List Nat) (at_ : Int) (a b c d : Nat) (day left : Int) (w : World) (hs : SL w sv ss) (hv : SL w v cs) (h0 : 0 ≤ left) (h1 : left ≤ 1048576) :
    Calls Try.prog 43 #[.agg #[sv, .float .f32 l, .float .f32 s, v, .int .i64 at_, .float .f32 a, .float .f32 b, .float .f32 c, .float .f32 d, .int .i64 day], .int .i64 left] w fun e w' => e = .returned (.int .i64 (szD ss.length cs.length left)) ∧ Below w.heap.size w w' := by
  obtain ⟨ao, co, rfl, hlen⟩ := hv.slice
  obtain ⟨so, do_, rfl, hlens⟩ := hs.slice
  have HV := Lib.hid hv
  have HS := Lib.hid hs
  clear hv hs
  by_cases hb : (ss.length : Int) ≤ left
  · by_cases hn : (cs.length : Int) ≤ left - ss.length
    all_goals
      go_enter Try.func43, Try.ntmps43
      go_wp2_with (first
        | (go_at_call 55; refine (l_szFloat32S _ ss _ _ (SL.keep HS.out (by (repeat (first | with_reducible exact Below.refl _ _ | with_reducible assumption | with_reducible refine below_drewN ?_ _ | with_reducible refine Below.drew ?_ | with_reducible refine Below.alloc ?_ (by first | omega | (simp; omega) | (simp; done) | (simp at *; omega)) _ | with_reducible refine Below.setCell ?_ (by first | omega | (simp; omega) | (simp; done) | (simp at *; omega)) _ | refine Below.trans ?_ (Below.mono (by with_reducible assumption) (by first | omega | (simp; omega) | (simp; done) | (simp at *; omega))))))) h0 h1).mono ?_; rintro z w1 ⟨rfl, n1, rfl⟩; rw [if_pos hb])
        | (go_at_call 80; refine (l_szState _ _ _ cs _ _ _ (SL.keep HV.out (by (repeat (first | with_reducible exact Below.refl _ _ | with_reducible assumption | with_reducible refine below_drewN ?_ _ | with_reducible refine Below.drew ?_ | with_reducible refine Below.alloc ?_ (by first | omega | (simp; omega) | (simp; done) | (simp at *; omega)) _ | with_reducible refine Below.setCell ?_ (by first | omega | (simp; omega) | (simp; done) | (simp at *; omega)) _ | refine Below.trans ?_ (Below.mono (by with_reducible assumption) (by first | omega | (simp; omega) | (simp; done) | (simp at *; omega))))))) (by omega) (by omega)).mono ?_; rintro z w2 ⟨rfl, hb2⟩))
      all_goals
        go_ret
        refine ⟨ret_int ?_, by (repeat (first | with_reducible exact Below.refl _ _ | with_reducible assumption | with_reducible refine below_drewN ?_ _ | with_reducible refine Below.drew ?_ | with_reducible refine Below.alloc ?_ (by first | omega | (simp; omega) | (simp; done) | (simp at *; omega)) _ | with_reducible refine Below.setCell ?_ (by first | omega | (simp; omega) | (simp; done) | (simp at *; omega)) _ | refine Below.trans ?_ (Below.mono (by with_reducible assumption) (by first | omega | (simp; omega) | (simp; done) | (simp at *; omega)))))⟩
        unfold szD
        first | rfl | omega | (split <;> omega) | (split <;> split <;> omega)
  · go_enter Try.func43, Try.ntmps43
    go_wp2_with (go_at_call 55; refine (l_szFloat32S _ ss _ _ (SL.keep HS.out (by (repeat (first | with_reducible exact Below.refl _ _ | with_reducible assumption | with_reducible refine below_drewN ?_ _ | with_reducible refine Below.drew ?_ | with_reducible refine Below.alloc ?_ (by first | omega | (simp; omega) | (simp; done) | (simp at *; omega)) _ | with_reducible refine Below.setCell ?_ (by first | omega | (simp; omega) | (simp; done) | (simp at *; omega)) _ | refine Below.trans ?_ (Below.mono (by with_reducible assumption) (by first | omega | (simp; omega) | (simp; done) | (simp at *; omega))))))) h0 h1).mono ?_; rintro z w1 ⟨rfl, n1, rfl⟩; rw [if_neg hb])
    go_ret
    refine ⟨ret_int ?_, by (repeat (first | with_reducible exact Below.refl _ _ | with_reducible assumption | with_reducible refine below_drewN ?_ _ | with_reducible refine Below.drew ?_ | with_reducible refine Below.alloc ?_ (by first | omega | (simp; omega) | (simp; done) | (simp at *; omega)) _ | with_reducible refine Below.setCell ?_ (by first | omega | (simp; omega) | (simp; done) | (simp at *; omega)) _ | refine Below.trans ?_ (Below.mono (by with_reducible assumption) (by first | omega | (simp; omega) | (simp; done) | (simp at *; omega)))))⟩
    unfold szD; rw [if_neg (by omega)]

end Go.Proofs.Ytfckfdaloamkdaa
