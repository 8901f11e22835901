/- Contracts: valid shares; shares out of the law's. -/
import Derived.Test.YtebahccjaieajaaDoorK6
import Derived.Test.YtebahccjaieajaaDoorBk2
import Derived.Test.YtebahccjaieajaaDoorS8
import Derived.Deep.RegionHeld3
import Derived.Deep.QuietTactic
import Derived.BigQuiet
namespace Go.Proofs.YtebahccjaieajaaDoor
set_option linter.unusedSimpArgs false
set_option linter.unusedVariables false
set_option maxRecDepth 100000
set_option maxHeartbeats 4000000
open Go.RowKit
attribute [local go_sem] run_store_float run_store_complex alloc_drewN setCell_drewN
def shareB (c : Nat) : Bool := fc .geq .f32 c 0 && fc .leq .f32 c (cn .f32 1065353216)
def sharesB (a b c d : Nat) : Bool := shareB a && shareB b && shareB c && shareB d

theorem i_isShare (x : Nat) (w : World) :
    Calls Tryd.prog 70 #[.float .f32 x] w fun e w' => e = .returned (.bool (shareB (cn .f32 x))) ∧ Dr w w' := by
  go_enter Tryd.func70, Tryd.ntmps70
  go_wp2_with (first | (refine wpList_fc .f32 _ _ rfl rfl rfl ?_) | (refine wpList_fc_g rfl .f32 _ _ rfl rfl rfl ?_))
  all_goals
    go_ret
    refine ⟨?_, by first | exact Dr.refl _ | exact Dr.mk _ _⟩
    simp_all [shareB, cn0]

theorem s_l02Share (x : Nat) (w : World) :
    Calls Tryd.prog 68 #[.float .f32 x] w fun e w' => e = .returned (.bool (shareB (cn .f32 x))) ∧ Dr w w' := by
  go_enter Tryd.func68, Tryd.ntmps68
  go_wp2_with (first | (refine wpList_fc .f32 _ _ rfl rfl rfl ?_) | (refine wpList_fc_g rfl .f32 _ _ rfl rfl rfl ?_))
  all_goals
    go_ret
    refine ⟨?_, by first | exact Dr.refl _ | exact Dr.mk _ _⟩
    simp_all [shareB, cn0]

theorem i_ValidShares (a b c d : Nat) (w : World) :
    Calls Tryd.prog 46 #[.agg #[.float .f32 a, .float .f32 b, .float .f32 c, .float .f32 d]] w fun z w' => z = .returned (.bool (sharesB (cn .f32 a) (cn .f32 b) (cn .f32 c) (cn .f32 d))) ∧ Below w.heap.size w w' := by
  go_enter Tryd.func46, Tryd.ntmps46
  go_wp2_with (go_at_call 70; refine (i_isShare _ _).mono ?_; rintro z w1 ⟨rfl, n, rfl⟩)
  all_goals
    go_ret
    refine ⟨ret_bool ?_, by (repeat (first | with_reducible exact Below.refl _ _ | with_reducible assumption | with_reducible refine below_drewN ?_ _ | with_reducible refine Below.drew ?_ | with_reducible refine Below.alloc ?_ (by first | omega | (simp; omega) | (simp; done) | (simp at *; omega)) _ | with_reducible refine Below.setCell ?_ (by first | omega | (simp; omega) | (simp; done) | (simp at *; omega)) _ | refine Below.trans ?_ (Below.mono (by with_reducible assumption) (by first | omega | (simp; omega) | (simp; done) | (simp at *; omega)))))⟩
    simp [sharesB, *]

theorem s_l04Shares0 (p : Nat) (a b c d : Nat) (w : World) (h0 : w.cell? ⟨p, 0, none⟩ = some (.float .f32 a)) (h1 : w.cell? ⟨p, 1, none⟩ = some (.float .f32 b)) (h2 : w.cell? ⟨p, 2, none⟩ = some (.float .f32 c)) (h3 : w.cell? ⟨p, 3, none⟩ = some (.float .f32 d)) :
    Calls Tryd.prog 43 #[.pointer (some ⟨p, 0, none⟩)] w fun z w' => z = .returned (.bool (sharesB (cn .f32 a) (cn .f32 b) (cn .f32 c) (cn .f32 d))) ∧ Dr w w' := by
  go_enter Tryd.func43, Tryd.ntmps43
  go_wp2_with (go_at_call 68; refine (s_l02Share _ _).mono ?_; rintro z w1 ⟨rfl, n, rfl⟩)
  all_goals
    go_ret
    refine ⟨ret_bool ?_, Dr.mk _ _⟩
    simp [sharesB, *]

theorem l_toShares (a b c d : Nat) (w : World) :
    Calls Tryd.prog 21 #[.agg #[.float .f32 a, .float .f32 b, .float .f32 c, .float .f32 d]] w fun z w' => z = .returned (.agg #[.float .f32 a, .float .f32 b, .float .f32 c, .float .f32 d]) ∧ Below w.heap.size w w' := by
  go_enter Tryd.func21, Tryd.ntmps21
  go_wp2_with fail
  go_returns
  refine ⟨rfl, ?_⟩
  (repeat (first | with_reducible exact Below.refl _ _ | with_reducible assumption | with_reducible refine below_drewN ?_ _ | with_reducible refine Below.drew ?_ | with_reducible refine Below.alloc ?_ (by first | omega | (simp; omega) | (simp; done) | (simp at *; omega)) _ | with_reducible refine Below.setCell ?_ (by first | omega | (simp; omega) | (simp; done) | (simp at *; omega)) _ | refine Below.trans ?_ (Below.mono (by with_reducible assumption) (by first | omega | (simp; omega) | (simp; done) | (simp at *; omega)))))

theorem i_sharesNumbers (a b c d : Nat) (hl : ∀ x ∈ [a, b, c, d], x < 4294967296) (w : World) :
    Calls Tryd.prog 48 #[.agg #[.float .f32 a, .float .f32 b, .float .f32 c, .float .f32 d]] w fun z w' => (∃ v, z = .returned v ∧ SB w' v ([a, b, c, d].map (cn .f32))) ∧ Below w.heap.size w w' := by
  have HL := Lib.hid hl
  clear hl
  go_enter Tryd.func48, Tryd.ntmps48
  go_wp2_with fail
  go_ret
  refine ⟨⟨_, rfl, ?_⟩, ?_⟩
  · have := SB.lit (w.alloc (Obj.cells #[Value.float FloatKind.f32 a, Value.float FloatKind.f32 b, Value.float FloatKind.f32 c, Value.float FloatKind.f32 d] 38)) [a, b, c, d] 34 (0, 0) (by simp) HL.out rfl rfl
    simpa using this
  · (repeat (first | with_reducible exact Below.refl _ _ | with_reducible assumption | with_reducible refine below_drewN ?_ _ | with_reducible refine Below.drew ?_ | with_reducible refine Below.alloc ?_ (by first | omega | (simp; omega) | (simp; done) | (simp at *; omega)) _ | with_reducible refine Below.setCell ?_ (by first | omega | (simp; omega) | (simp; done) | (simp at *; omega)) _ | refine Below.trans ?_ (Below.mono (by with_reducible assumption) (by first | omega | (simp; omega) | (simp; done) | (simp at *; omega)))))

theorem s_l08Shares0 (p : Nat) (a b c d : Nat) (hl : ∀ x ∈ [a, b, c, d], x < 4294967296) (w : World) (hp : p < w.heap.size)
    (h1 : w.cell? ⟨p, 0, none⟩ = some (.float .f32 a)) (h2 : w.cell? ⟨p, 1, none⟩ = some (.float .f32 b)) (h3 : w.cell? ⟨p, 2, none⟩ = some (.float .f32 c)) (h4 : w.cell? ⟨p, 3, none⟩ = some (.float .f32 d)) :
    Calls Tryd.prog 45 #[.pointer (some ⟨p, 0, none⟩)] w fun z w' => (∃ v, z = .returned v ∧ SB w' v ([a, b, c, d].map (cn .f32))) ∧ Below w.heap.size w w' := by
  have HL := Lib.hid hl
  clear hl
  have m1 := World.new_ne w _ h1
  have m2 := World.new_ne w _ h2
  have m3 := World.new_ne w _ h3
  have m4 := World.new_ne w _ h4
  go_enter Tryd.func45, Tryd.ntmps45
  go_wp2_with fail
  go_region_held3 (fun W => W.cell? ⟨p, 0, none⟩ = some (.float .f32 a) ∧ W.cell? ⟨p, 1, none⟩ = some (.float .f32 b) ∧ W.cell? ⟨p, 2, none⟩ = some (.float .f32 c) ∧ W.cell? ⟨p, 3, none⟩ = some (.float .f32 d)) (first | (simp; done) | (simp [*]; done) | go_keep) (first | fail)
  all_goals
    go_wp2_with fail
    go_ret
    refine ⟨⟨_, rfl, ?_⟩, ?_⟩
    · first
        | exact SB.lit _ [a, b, c, d] _ _ (by simp) HL.out rfl (by simp)
        | exact SB.drewN (SB.lit _ [a, b, c, d] _ _ (by simp) HL.out rfl (by simp)) _
    · (repeat (first | with_reducible exact Below.refl _ _ | with_reducible assumption | with_reducible refine below_drewN ?_ _ | with_reducible refine Below.drew ?_ | with_reducible refine Below.alloc ?_ (by first | omega | (simp; omega) | (simp; done) | (simp at *; omega)) _ | with_reducible refine Below.setCell ?_ (by first | omega | (simp; omega) | (simp; done) | (simp at *; omega)) _ | refine Below.trans ?_ (Below.mono (by with_reducible assumption) (by first | omega | (simp; omega) | (simp; done) | (simp at *; omega)))))

end Go.Proofs.YtebahccjaieajaaDoor
