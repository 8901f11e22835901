/- Contracts: which shares, states and desks are valid. -/
import Derived.Test.YtfckfdaloamkdaaK6
import Derived.Test.YtfckfdaloamkdaaK56
import Derived.Deep.RegionWith
import Derived.Deep.QuietTactic
import Derived.BigQuiet
namespace Go.Proofs.Ytfckfdaloamkdaa
set_option linter.unusedSimpArgs false
set_option linter.unusedVariables false
set_option maxRecDepth 100000
set_option maxHeartbeats 4000000
set_option linter.unusedSimpArgs false
set_option linter.unusedVariables false
open Go.RowKit
attribute [local go_sem] run_store_float run_store_complex alloc_drewN setCell_drewN

/-- From 0 to 1. -/
def shareB (c : Nat) : Bool := fc .geq .f32 c 0 && fc .leq .f32 c (cn .f32 1065353216)
def sharesB (a b c d : Nat) : Bool := shareB a && shareB b && shareB c && shareB d
def stateB (l s : Nat) (cs : List Nat) (x : Int) : Bool := fin l && fin s && decide (1 ≤ cs.length) && decide (cs.length ≤ 24) && allFin cs && inB x 0 ((cs.length : Int) - 1)
def deskB (ss : List Nat) (l s : Nat) (cs : List Nat) (x : Int) (a b c d : Nat) (y : Int) : Bool := series ss && stateB l s cs x && sharesB a b c d && dayB y

theorem i_isShare (x : Nat) (w : World) :
    Calls Try.prog 113 #[.float .f32 x] w fun e w' => e = .returned (.bool (shareB (cn .f32 x))) ∧ Dr w w' := by
  go_enter Try.func113, Try.ntmps113
  go_wp2_with (first | (refine wpList_fc .f32 _ _ rfl rfl rfl ?_) | (refine wpList_fc_g rfl .f32 _ _ rfl rfl rfl ?_))
  all_goals
    go_ret
    refine ⟨?_, by first | exact Dr.refl _ | exact Dr.mk _ _⟩
    simp_all [shareB, cn0]

theorem s_l02Share (x : Nat) (w : World) :
    Calls Try.prog 125 #[.float .f32 x] w fun e w' => e = .returned (.bool (shareB (cn .f32 x))) ∧ Dr w w' := by
  go_enter Try.func125, Try.ntmps125
  go_wp2_with (first | (refine wpList_fc .f32 _ _ rfl rfl rfl ?_) | (refine wpList_fc_g rfl .f32 _ _ rfl rfl rfl ?_))
  all_goals
    go_ret
    refine ⟨?_, by first | exact Dr.refl _ | exact Dr.mk _ _⟩
    simp_all [shareB, cn0]

theorem i_ValidShares (a b c d : Nat) (w : World) :
    Calls Try.prog 89 #[.agg #[.float .f32 a, .float .f32 b, .float .f32 c, .float .f32 d]] w fun z w' => z = .returned (.bool (sharesB (cn .f32 a) (cn .f32 b) (cn .f32 c) (cn .f32 d))) ∧ Below w.heap.size w w' := by
  go_enter Try.func89, Try.ntmps89
  go_wp2_with (go_at_call 113; refine (i_isShare _ _).mono ?_; rintro z w1 ⟨rfl, n, rfl⟩)
  all_goals
    go_ret
    refine ⟨ret_bool ?_, by (repeat (first | with_reducible exact Below.refl _ _ | with_reducible assumption | with_reducible refine below_drewN ?_ _ | with_reducible refine Below.drew ?_ | with_reducible refine Below.alloc ?_ (by first | omega | (simp; omega) | (simp; done) | (simp at *; omega)) _ | with_reducible refine Below.setCell ?_ (by first | omega | (simp; omega) | (simp; done) | (simp at *; omega)) _ | refine Below.trans ?_ (Below.mono (by with_reducible assumption) (by first | omega | (simp; omega) | (simp; done) | (simp at *; omega)))))⟩
    simp [sharesB, *]

theorem s_l04Shares (p : Nat) (a b c d : Nat) (w : World) (h0 : w.cell? ⟨p, 5, none⟩ = some (.float .f32 a)) (h1 : w.cell? ⟨p, 6, none⟩ = some (.float .f32 b)) (h2 : w.cell? ⟨p, 7, none⟩ = some (.float .f32 c)) (h3 : w.cell? ⟨p, 8, none⟩ = some (.float .f32 d)) :
    Calls Try.prog 111 #[.pointer (some ⟨p, 5, none⟩)] w fun z w' => z = .returned (.bool (sharesB (cn .f32 a) (cn .f32 b) (cn .f32 c) (cn .f32 d))) ∧ Dr w w' := by
  go_enter Try.func111, Try.ntmps111
  go_wp2_with (go_at_call 125; refine (s_l02Share _ _).mono ?_; rintro z w1 ⟨rfl, n, rfl⟩)
  all_goals
    go_ret
    refine ⟨ret_bool ?_, Dr.mk _ _⟩
    simp [sharesB, *]

theorem s_l04Is (p : Nat) (l s : Nat) (v : Value) (cs : List Nat) (x : Int) (w : World) (h0 : w.cell? ⟨p, 1, none⟩ = some (.float .f32 l)) (h1 : w.cell? ⟨p, 2, none⟩ = some (.float .f32 s)) (h2 : w.cell? ⟨p, 3, none⟩ = some v) (h3 : w.cell? ⟨p, 4, none⟩ = some (.int .i64 x)) (hv : SL w v cs) :
    Calls Try.prog 110 #[.pointer (some ⟨p, 1, none⟩)] w fun z w' => z = .returned (.bool (stateB (cn .f32 l) (cn .f32 s) cs x)) ∧ Dr w w' := by
  obtain ⟨ao, c, rfl, hlen⟩ := hv.slice
  have HV := Lib.hid hv
  clear hv
  have a1 : inB (cs.length : Int) 1 24 = (decide (1 ≤ cs.length) && decide (cs.length ≤ 24)) := by rw [Bool.eq_iff_iff]; simp [inB]; omega
  go_enter Try.func110, Try.ntmps110
  go_wp2_with (first
    | (go_at_call 124; refine (s_l01Finite _ _).mono ?_; rintro z w1 ⟨rfl, n1, rfl⟩)
    | (go_at_call 116; refine (s_l02Finite _ cs _ (by first | exact SL.drewN HV.out _ | exact HV.out)).mono ?_; rintro z w2 ⟨rfl, n2, rfl⟩)
    | (go_at_call 94; refine (s_l00In _ _ _ _).mono ?_; rintro z w3 ⟨rfl, n3, rfl⟩))
  all_goals
    go_ret
    refine ⟨ret_bool ?_, Dr.mk _ _⟩
    first | (simp_all [stateB]; done) | (simp [stateB, a1, *]; done) | (simp [stateB, a1, *]; intros; omega)

theorem s_l08Is (p : Nat) (sv : Value) (ss : List Nat) (l s : Nat) (v : Value) (cs : List Nat) (x : Int) (a b c d : Nat) (y : Int) (w : World) (hp : CA w p [sv, .float .f32 l, .float .f32 s, v, .int .i64 x, .float .f32 a, .float .f32 b, .float .f32 c, .float .f32 d, .int .i64 y]) (hs : SL w sv ss) (hv : SL w v cs) :
    Calls Try.prog 87 #[.pointer (some ⟨p, 0, none⟩)] w fun z w' => z = .returned (.bool (deskB ss (cn .f32 l) (cn .f32 s) cs x (cn .f32 a) (cn .f32 b) (cn .f32 c) (cn .f32 d) y)) ∧ Dr w w' := by
  obtain ⟨ao, ac, rfl, hlen⟩ := hv.slice
  obtain ⟨so, sc, rfl, hlens⟩ := hs.slice
  have HV := Lib.hid hv
  have HS := Lib.hid hs
  have HP := Lib.hid hp
  clear hv hs
  have q0 := hp.2 0 _ rfl
  have q9 := hp.2 9 _ rfl
  clear hp
  have HE := Lib.hid (show deskB ss (cn .f32 l) (cn .f32 s) cs x (cn .f32 a) (cn .f32 b) (cn .f32 c) (cn .f32 d) y = (series ss && (stateB (cn .f32 l) (cn .f32 s) cs x && (sharesB (cn .f32 a) (cn .f32 b) (cn .f32 c) (cn .f32 d) && dayB y))) by simp [deskB, Bool.and_assoc])
  cases h1 : series ss
  all_goals
    cases h2 : stateB (cn .f32 l) (cn .f32 s) cs x
    all_goals
      cases h3 : sharesB (cn .f32 a) (cn .f32 b) (cn .f32 c) (cn .f32 d)
      all_goals
        have H1 := Lib.hid h1
        have H2 := Lib.hid h2
        have H3 := Lib.hid h3
        clear h1 h2 h3
        go_enter Try.func87, Try.ntmps87
        go_wp2_with (first
          | (go_at_call 95; refine (s_l02Series _ ss _ (by first | exact SL.drewN HS.out _ | exact HS.out)).mono ?_; rintro z w1 ⟨rfl, n1, rfl⟩; rw [H1.out])
          | (go_at_call 110; refine (s_l04Is _ l s _ cs x _ (by exact HP.out.2 1 _ rfl) (by exact HP.out.2 2 _ rfl) (by exact HP.out.2 3 _ rfl) (by exact HP.out.2 4 _ rfl) (by first | exact SL.drewN HV.out _ | exact HV.out)).mono ?_; rintro z w2 ⟨rfl, n2, rfl⟩; rw [H2.out])
          | (go_at_call 111; refine (s_l04Shares _ a b c d _ (by exact HP.out.2 5 _ rfl) (by exact HP.out.2 6 _ rfl) (by exact HP.out.2 7 _ rfl) (by exact HP.out.2 8 _ rfl)).mono ?_; rintro z w3 ⟨rfl, n3, rfl⟩; rw [H3.out])
          | (go_at_call 112; refine (s_l02Day _ _).mono ?_; rintro z w4 ⟨rfl, n4, rfl⟩))
        go_ret
        refine ⟨ret_bool ?_, Dr.mk _ _⟩
        rw [HE.out, H1.out, H2.out, H3.out]
        first | rfl | (simp; done)

theorem s_ValidDesk (sv : Value) (ss : List Nat) (l s : Nat) (v : Value) (cs : List Nat) (x : Int) (a b c d : Nat) (y : Int) (w : World) (hs : SL w sv ss) (hv : SL w v cs) :
    Calls Try.prog 47 #[.agg #[sv, .float .f32 l, .float .f32 s, v, .int .i64 x, .float .f32 a, .float .f32 b, .float .f32 c, .float .f32 d, .int .i64 y]] w fun z w' => z = .returned (.bool (deskB ss (cn .f32 l) (cn .f32 s) cs x (cn .f32 a) (cn .f32 b) (cn .f32 c) (cn .f32 d) y)) ∧ Below w.heap.size w w' := by
  obtain ⟨ao, ac, rfl, hlen⟩ := hv.slice
  obtain ⟨so, sc, rfl, hlens⟩ := hs.slice
  have HV := Lib.hid hv
  have HS := Lib.hid hs
  clear hv hs
  go_enter Try.func47, Try.ntmps47
  go_wp2_with (go_at_call 87; refine (s_l08Is _ _ ss _ _ _ cs _ _ _ _ _ _ _ (CA.new _ _ _ _ rfl rfl) (SL.keep HS.out (by (repeat (first | with_reducible exact Below.refl _ _ | with_reducible assumption | with_reducible refine below_drewN ?_ _ | with_reducible refine Below.drew ?_ | with_reducible refine Below.alloc ?_ (by first | omega | (simp; omega) | (simp; done) | (simp at *; omega)) _ | with_reducible refine Below.setCell ?_ (by first | omega | (simp; omega) | (simp; done) | (simp at *; omega)) _ | refine Below.trans ?_ (Below.mono (by with_reducible assumption) (by first | omega | (simp; omega) | (simp; done) | (simp at *; omega))))))) (SL.keep HV.out (by (repeat (first | with_reducible exact Below.refl _ _ | with_reducible assumption | with_reducible refine below_drewN ?_ _ | with_reducible refine Below.drew ?_ | with_reducible refine Below.alloc ?_ (by first | omega | (simp; omega) | (simp; done) | (simp at *; omega)) _ | with_reducible refine Below.setCell ?_ (by first | omega | (simp; omega) | (simp; done) | (simp at *; omega)) _ | refine Below.trans ?_ (Below.mono (by with_reducible assumption) (by first | omega | (simp; omega) | (simp; done) | (simp at *; omega)))))))).mono ?_; rintro z w1 ⟨rfl, n, rfl⟩)
  go_ret
  refine ⟨rfl, ?_⟩
  (repeat (first | with_reducible exact Below.refl _ _ | with_reducible assumption | with_reducible refine below_drewN ?_ _ | with_reducible refine Below.drew ?_ | with_reducible refine Below.alloc ?_ (by first | omega | (simp; omega) | (simp; done) | (simp at *; omega)) _ | with_reducible refine Below.setCell ?_ (by first | omega | (simp; omega) | (simp; done) | (simp at *; omega)) _ | refine Below.trans ?_ (Below.mono (by with_reducible assumption) (by first | omega | (simp; omega) | (simp; done) | (simp at *; omega)))))

end Go.Proofs.Ytfckfdaloamkdaa
