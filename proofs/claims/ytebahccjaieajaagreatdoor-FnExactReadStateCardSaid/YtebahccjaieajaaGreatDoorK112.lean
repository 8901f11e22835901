/- Contracts: sizes, copies and sameness of states, by the laws. -/
import Derived.Test.YtebahccjaieajaaGreatDoorK103
import Derived.Test.YtebahccjaieajaaGreatDoorK15
import Derived.Test.YtebahccjaieajaaGreatDoorK9
import Derived.Test.YtebahccjaieajaaGreatDoorS8
import Derived.Test.YtebahccjaieajaaGreatDoorBk2
import Derived.Deep.RegionWith
import Derived.Deep.RegionHeld3
namespace Go.Proofs.YtebahccjaieajaaGreatDoor
set_option linter.unusedSimpArgs false
set_option linter.unusedVariables false
set_option maxRecDepth 100000
set_option maxHeartbeats 4000000
open Go.RowKit
attribute [local go_sem] run_store_float run_store_complex alloc_drewN setCell_drewN
theorem BK.newAt {n : Nat} (w : World) (vs : List Value) (T : TypeId) (hn : n = w.heap.size) : BK (w.alloc (.cells vs.toArray T)) n vs := by subst hn; exact BK.new w vs T

theorem storeS (p j : Nat) (bo : Option Addr) (n c : Nat) : ∀ w, (Instr.storeAt 23 (.pointer (some ⟨p, j, none⟩)) (.slice bo n c)).run Tryz.prog w = (store ⟨p, j, none⟩ (.slice bo n c) .plain).run Tryz.prog w := by intro w; go_simp
theorem storeI (p j : Nat) (x : Int) : ∀ w, (Instr.storeAt 2 (.pointer (some ⟨p, j, none⟩)) (.int .i64 x)).run Tryz.prog w = (store ⟨p, j, none⟩ (.int .i64 x) .plain).run Tryz.prog w := by intro w; go_simp
theorem storeSt (p j l s : Nat) (bo : Option Addr) (n c : Nat) (x : Int) : ∀ w, (Instr.storeAt 25 (.pointer (some ⟨p, j, none⟩)) (.agg [.float .f32 l, .float .f32 s, .slice bo n c, .int .i64 x].toArray)).run Tryz.prog w = (storeCells ⟨p, j, none⟩ [.float .f32 l, .float .f32 s, .slice bo n c, .int .i64 x] 0).run Tryz.prog w := by intro w; go_simp
theorem eqw {x y c d : Nat} (h1 : Hid (cn .f64 x = wd c)) (h2 : Hid (cn .f64 y = wd d)) (h : c = d) : cn .f64 x = cn .f64 y := by rw [h1.out, h2.out, h]

theorem l_eqState (a0 a1 b0 b1 : Nat) (u v : Value) (cs : List Nat) (at_ : Int) (h0 : cn .f32 a0 = cn .f32 b0) (h1 : cn .f32 a1 = cn .f32 b1) (w : World) (hu : SL w u cs) (hv : SL w v cs) :
    Calls Tryz.prog 6 #[.agg #[.float .f32 a0, .float .f32 a1, u, .int .i64 at_], .agg #[.float .f32 b0, .float .f32 b1, v, .int .i64 at_]] w fun z w' => z = .returned (.bool true) ∧ Below w.heap.size w w' := by
  have H0 := Lib.hid h0
  have H1 := Lib.hid h1
  have HU := Lib.hid hu
  have HV := Lib.hid hv
  obtain ⟨ao, c, rfl, hlen⟩ := hu.slice
  obtain ⟨bo, d, rfl, hlen2⟩ := hv.slice
  clear h0 h1 hu hv
  go_enter Tryz.func6, Tryz.ntmps6
  go_wp2_with (first
    | (refine wpList_wd (by kernel_rfl) (by kernel_rfl) _ rfl ?_; intro r n hr hlt; have HR := Lib.hid hr; clear hr)
    | (go_at_call 14; refine (l_sameFloat _ _ (by first
        | exact eqw (by assumption) (by assumption) H0.out | exact eqw (by assumption) (by assumption) H1.out) _).mono ?_; rintro z w1 ⟨rfl, n1, rfl⟩)
    | (go_at_call 15; refine (l_eqFloat32S _ _ cs _ (SL.keep HU.out (by (repeat (first | with_reducible exact Below.refl _ _ | with_reducible assumption | with_reducible refine below_drewN ?_ _ | with_reducible refine Below.drew ?_ | with_reducible refine Below.alloc ?_ (by first | omega | (simp; omega) | (simp; done) | (simp at *; omega)) _ | with_reducible refine Below.setCell ?_ (by first | omega | (simp; omega) | (simp; done) | (simp at *; omega)) _ | refine Below.trans ?_ (Below.mono (by with_reducible assumption) (by first | omega | (simp; omega) | (simp; done) | (simp at *; omega))))))) (SL.keep HV.out (by (repeat (first | with_reducible exact Below.refl _ _ | with_reducible assumption | with_reducible refine below_drewN ?_ _ | with_reducible refine Below.drew ?_ | with_reducible refine Below.alloc ?_ (by first | omega | (simp; omega) | (simp; done) | (simp at *; omega)) _ | with_reducible refine Below.setCell ?_ (by first | omega | (simp; omega) | (simp; done) | (simp at *; omega)) _ | refine Below.trans ?_ (Below.mono (by with_reducible assumption) (by first | omega | (simp; omega) | (simp; done) | (simp at *; omega)))))))).mono ?_; rintro z w1 ⟨rfl, n1, rfl⟩))
  go_ret
  refine ⟨rfl, ?_⟩
  (repeat (first | with_reducible exact Below.refl _ _ | with_reducible assumption | with_reducible refine below_drewN ?_ _ | with_reducible refine Below.drew ?_ | with_reducible refine Below.alloc ?_ (by first | omega | (simp; omega) | (simp; done) | (simp at *; omega)) _ | with_reducible refine Below.setCell ?_ (by first | omega | (simp; omega) | (simp; done) | (simp at *; omega)) _ | refine Below.trans ?_ (Below.mono (by with_reducible assumption) (by first | omega | (simp; omega) | (simp; done) | (simp at *; omega)))))

end Go.Proofs.YtebahccjaieajaaGreatDoor
