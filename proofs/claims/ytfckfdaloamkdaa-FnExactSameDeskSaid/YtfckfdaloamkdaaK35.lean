/- Contracts: the numbers of shares. -/
import Derived.Test.YtfckfdaloamkdaaK34
namespace Go.Proofs.Ytfckfdaloamkdaa
set_option linter.unusedSimpArgs false
set_option linter.unusedVariables false
set_option maxRecDepth 100000
set_option maxHeartbeats 4000000
open Go.RowKit
attribute [local go_sem] run_store_float run_store_complex alloc_drewN setCell_drewN


theorem i_sharesNumbers (a b c d : Nat) (hl : ∀ x ∈ [a, b, c, d], x < 4294967296) (w : World) :
    Calls Try.prog 86 #[.agg #[.float .f32 a, .float .f32 b, .float .f32 c, .float .f32 d]] w fun z w' => (∃ v, z = .returned v ∧ SB w' v ([a, b, c, d].map (cn .f32))) ∧ Below w.heap.size w w' := by
  have HL := Lib.hid hl
  clear hl
  go_enter Try.func86, Try.ntmps86
  go_wp2_with fail
  go_ret
  refine ⟨⟨_, rfl, ?_⟩, ?_⟩
  · have := SB.lit (w.alloc (Obj.cells #[Value.float FloatKind.f32 a, Value.float FloatKind.f32 b, Value.float FloatKind.f32 c, Value.float FloatKind.f32 d] 58)) [a, b, c, d] 54 (0, 0) (by simp) HL.out rfl rfl
    simpa using this
  · (repeat (first | with_reducible exact Below.refl _ _ | with_reducible assumption | with_reducible refine below_drewN ?_ _ | with_reducible refine Below.drew ?_ | with_reducible refine Below.alloc ?_ (by first | omega | (simp; omega) | (simp; done) | (simp at *; omega)) _ | with_reducible refine Below.setCell ?_ (by first | omega | (simp; omega) | (simp; done) | (simp at *; omega)) _ | refine Below.trans ?_ (Below.mono (by with_reducible assumption) (by first | omega | (simp; omega) | (simp; done) | (simp at *; omega)))))

theorem s_l08Shares (p : Nat) (a b c d : Nat) (hl : ∀ x ∈ [a, b, c, d], x < 4294967296) (w : World) (hp : p < w.heap.size)
    (h1 : w.cell? ⟨p, 5, none⟩ = some (.float .f32 a)) (h2 : w.cell? ⟨p, 6, none⟩ = some (.float .f32 b)) (h3 : w.cell? ⟨p, 7, none⟩ = some (.float .f32 c)) (h4 : w.cell? ⟨p, 8, none⟩ = some (.float .f32 d)) :
    Calls Try.prog 82 #[.pointer (some ⟨p, 5, none⟩)] w fun z w' => (∃ v, z = .returned v ∧ SB w' v ([a, b, c, d].map (cn .f32))) ∧ Below w.heap.size w w' := by
  have HL := Lib.hid hl
  clear hl
  have m1 := World.new_ne w _ h1
  have m2 := World.new_ne w _ h2
  have m3 := World.new_ne w _ h3
  have m4 := World.new_ne w _ h4
  go_enter Try.func82, Try.ntmps82
  go_wp2_with fail
  go_region_held3 (fun W => W.cell? ⟨p, 5, none⟩ = some (.float .f32 a) ∧ W.cell? ⟨p, 6, none⟩ = some (.float .f32 b) ∧ W.cell? ⟨p, 7, none⟩ = some (.float .f32 c) ∧ W.cell? ⟨p, 8, none⟩ = some (.float .f32 d)) (first | (simp; done) | (simp [*]; done) | go_keep) (first | fail)
  all_goals
    go_wp2_with fail
    go_ret
    refine ⟨⟨_, rfl, ?_⟩, ?_⟩
    · first
        | exact SB.lit _ [a, b, c, d] _ _ (by simp) HL.out rfl (by simp)
        | exact SB.drewN (SB.lit _ [a, b, c, d] _ _ (by simp) HL.out rfl (by simp)) _
    · (repeat (first | with_reducible exact Below.refl _ _ | with_reducible assumption | with_reducible refine below_drewN ?_ _ | with_reducible refine Below.drew ?_ | with_reducible refine Below.alloc ?_ (by first | omega | (simp; omega) | (simp; done) | (simp at *; omega)) _ | with_reducible refine Below.setCell ?_ (by first | omega | (simp; omega) | (simp; done) | (simp at *; omega)) _ | refine Below.trans ?_ (Below.mono (by with_reducible assumption) (by first | omega | (simp; omega) | (simp; done) | (simp at *; omega)))))

end Go.Proofs.Ytfckfdaloamkdaa
