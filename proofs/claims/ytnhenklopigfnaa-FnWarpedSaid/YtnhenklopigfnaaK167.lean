/- Contracts: gaps of eighths, and operations of float64 at every world. -/
import Derived.Test.YtnhenklopigfnaaFd
import Derived.Test.YtnhenklopigfnaaK163
namespace Go.Proofs.Ytnhenklopigfnaa
set_option linter.unusedSimpArgs false
set_option linter.unusedVariables false
set_option maxRecDepth 100000
set_option maxHeartbeats 4000000
open Go.RowKit
theorem run_arx64 {P : Program} (op : BinOp) (x y D : Nat) (hD : ar op .f64 (cn .f64 x) (cn .f64 y) = D) (hn : (Ieee.double.read D).isNaN = false) (t : TypeId) (w : World) :
    (binOp op t (.float .f64 x) (.float .f64 y)).run P w = .ok (.float .f64 D) w := by
  rw [ar_cn] at hD
  cases h : floatBits op .f64 x y with
  | some r =>
    have : r = D := by rw [← hD]; simp [ar, h]
    subst this
    exact run_float_arith w op t .f64 x y r h
  | none =>
    have : D = qnan .f64 := by rw [← hD]; simp [ar, h]
    subst this
    have h2 : (Ieee.double.read (qnan .f64)).isNaN = true := qnan_isNaN .f64
    rw [h2] at hn; cases hn

theorem l_b10GapW (a b : Nat) (x y : Int) (ha : Ew a x) (hb : Ew b y) (h : (x - y).natAbs < 16777216) (w : World) : Calls Try.prog 17 #[.float .f64 a, .float .f64 b] w fun e w' => e = .returned (.float .f64 (gapF a b)) ∧ Dr w w' := by
  refine (l_b10Gap a b w).mono ?_
  rintro e w' ⟨⟨r, rfl, hr⟩, hd⟩
  rw [ha.cn, hb.cn] at hr
  refine ⟨?_, hd⟩
  rw [cn64_raw hr (ha.gap hb h).notNaN]

end Go.Proofs.Ytnhenklopigfnaa
