/- Contracts: which states are the same, by the program. -/
import Derived.Test.YtfckfdaloamkdaaK26
import Derived.Test.YtfckfdaloamkdaaK32
namespace Go.Proofs.Ytfckfdaloamkdaa
set_option linter.unusedSimpArgs false
set_option linter.unusedVariables false
set_option maxRecDepth 100000
set_option maxHeartbeats 4000000
open Go.RowKit
attribute [local go_sem] run_store_float run_store_complex alloc_drewN setCell_drewN

/-- Two states are the same. -/
def stSame (l l' s s' : Nat) (x x' : Int) (cs ds : List Nat) : Bool := same l l' && (same s s' && (decide (x = x') && (cs == ds)))

theorem i_SameState (l s l' s' : Nat) (hl : l < 4294967296) (hs : s < 4294967296) (hl' : l' < 4294967296) (hs' : s' < 4294967296) (u v : Value) (cs ds : List Nat) (x x' : Int) (w : World) (hu : SB w u cs) (hv : SB w v ds) :
    Calls Try.prog 85 #[.agg #[.float .f32 l, .float .f32 s, u, .int .i64 x], .agg #[.float .f32 l', .float .f32 s', v, .int .i64 x']] w fun e w' => e = .returned (.bool (stSame (cn .f32 l) (cn .f32 l') (cn .f32 s) (cn .f32 s') x x' cs ds)) ∧ Below w.heap.size w w' := by
  have HU := Lib.hid hu
  have HV := Lib.hid hv
  obtain ⟨ao, c, rfl, hlen⟩ := hu.sl.slice
  obtain ⟨bo, d, rfl, hlen2⟩ := hv.sl.slice
  clear hu hv
  go_enter Try.func85, Try.ntmps85
  go_wp2_with (first
    | (go_at_call 54; refine (i_SameNumber _ _ (by assumption) (by assumption) _).mono ?_; rintro z w1 ⟨rfl, n1, rfl⟩)
    | (go_at_call 53; refine (f_EqualFunc _ same (fun _ _ => by kernel_rfl) (fun x y w hx hy => i_SameNumber x y hx hy w) _ _ cs ds _ (HU.out.keep (by (repeat (first | with_reducible exact Below.refl _ _ | with_reducible assumption | with_reducible refine below_drewN ?_ _ | with_reducible refine Below.drew ?_ | with_reducible refine Below.alloc ?_ (by first | omega | (simp; omega) | (simp; done) | (simp at *; omega)) _ | with_reducible refine Below.setCell ?_ (by first | omega | (simp; omega) | (simp; done) | (simp at *; omega)) _ | refine Below.trans ?_ (Below.mono (by with_reducible assumption) (by first | omega | (simp; omega) | (simp; done) | (simp at *; omega))))))) (HV.out.keep (by (repeat (first | with_reducible exact Below.refl _ _ | with_reducible assumption | with_reducible refine below_drewN ?_ _ | with_reducible refine Below.drew ?_ | with_reducible refine Below.alloc ?_ (by first | omega | (simp; omega) | (simp; done) | (simp at *; omega)) _ | with_reducible refine Below.setCell ?_ (by first | omega | (simp; omega) | (simp; done) | (simp at *; omega)) _ | refine Below.trans ?_ (Below.mono (by with_reducible assumption) (by first | omega | (simp; omega) | (simp; done) | (simp at *; omega)))))))).mono ?_; rintro z w3 ⟨rfl, n3, rfl⟩; rw [all2_same]))
  all_goals
    go_ret
    refine ⟨ret_bool ?_, by (repeat (first | with_reducible exact Below.refl _ _ | with_reducible assumption | with_reducible refine below_drewN ?_ _ | with_reducible refine Below.drew ?_ | with_reducible refine Below.alloc ?_ (by first | omega | (simp; omega) | (simp; done) | (simp at *; omega)) _ | with_reducible refine Below.setCell ?_ (by first | omega | (simp; omega) | (simp; done) | (simp at *; omega)) _ | refine Below.trans ?_ (Below.mono (by with_reducible assumption) (by first | omega | (simp; omega) | (simp; done) | (simp at *; omega)))))⟩
    simp [stSame, *]

end Go.Proofs.Ytfckfdaloamkdaa
