/- Contracts: which states are valid. -/
import Derived.Test.YtebahccjaieajaaGreatDoorK103
import Derived.Test.YtebahccjaieajaaGreatDoorK6
import Derived.Deep.RegionHeld3
import Derived.Test.YtebahccjaieajaaGreatDoorBk2
namespace Go.Proofs.YtebahccjaieajaaGreatDoor
set_option linter.unusedSimpArgs false
set_option linter.unusedVariables false
set_option maxRecDepth 100000
set_option maxHeartbeats 4000000
open Go.RowKit
attribute [local go_sem] run_store_float run_store_complex alloc_drewN setCell_drewN
def stateB (l s : Nat) (cs : List Nat) (x : Int) : Bool := fin l && fin s && decide (1 ≤ cs.length) && decide (cs.length ≤ 24) && allFin cs && inB x 0 ((cs.length : Int) - 1)

theorem s_l04Is0 (p : Nat) (l s : Nat) (v : Value) (cs : List Nat) (x : Int) (w : World) (h0 : w.cell? ⟨p, 0, none⟩ = some (.float .f32 l)) (h1 : w.cell? ⟨p, 1, none⟩ = some (.float .f32 s)) (h2 : w.cell? ⟨p, 2, none⟩ = some v) (h3 : w.cell? ⟨p, 3, none⟩ = some (.int .i64 x)) (hv : SL w v cs) :
    Calls Tryz.prog 34 #[.pointer (some ⟨p, 0, none⟩)] w fun z w' => z = .returned (.bool (stateB (cn .f32 l) (cn .f32 s) cs x)) ∧ Dr w w' := by
  obtain ⟨ao, c, rfl, hlen⟩ := hv.slice
  have HV := Lib.hid hv
  clear hv
  have a1 : inB (cs.length : Int) 1 24 = (decide (1 ≤ cs.length) && decide (cs.length ≤ 24)) := by rw [Bool.eq_iff_iff]; simp [inB]; omega
  go_enter Tryz.func34, Tryz.ntmps34
  go_wp2_with (first
    | (go_at_call 48; refine (s_l01Finite _ _).mono ?_; rintro z w1 ⟨rfl, n1, rfl⟩)
    | (go_at_call 49; refine (s_l02Finite _ cs _ (by first | exact SL.drewN HV.out _ | exact HV.out)).mono ?_; rintro z w2 ⟨rfl, n2, rfl⟩)
    | (go_at_call 32; refine (s_l00In _ _ _ _).mono ?_; rintro z w3 ⟨rfl, n3, rfl⟩))
  all_goals
    go_ret
    refine ⟨ret_bool ?_, Dr.mk _ _⟩
    first | (simp_all [stateB]; done) | (simp [stateB, a1, *]; done) | (simp [stateB, a1, *]; intros; omega)

set_option maxRecDepth 100000 in
set_option maxHeartbeats 20000000 in
theorem i_ValidState (l s : Nat) (v : Value) (cs : List Nat) (x : Int) (w : World) (hv : SL w v cs) :
    Calls Tryz.prog 29 #[.agg #[.float .f32 l, .float .f32 s, v, .int .i64 x]] w fun z w' => z = .returned (.bool (stateB (cn .f32 l) (cn .f32 s) cs x)) ∧ Below w.heap.size w w' := by
  obtain ⟨ao, c, rfl, hlen⟩ := hv.slice
  have HV := Lib.hid hv
  clear hv
  have HE := Lib.hid (show stateB (cn .f32 l) (cn .f32 s) cs x = (allFin ([l, s].map (cn .f32)) && (decide (1 ≤ cs.length) && (decide (cs.length ≤ 24) && (allFin cs && inB x 0 ((cs.length : Int) - 1))))) by simp [stateB, allFin, Bool.and_assoc])
  cases h1 : (allFin ([l, s].map (cn .f32)))
  · have H1 := Lib.hid h1
    clear h1
    go_enter Tryz.func29, Tryz.ntmps29
    go_wp2_with fail
    refine (i_areFinite _ ([l, s].map (cn .f32)) _ (by first | exact SL.lit _ [l, s] _ _ (by simp) rfl (by simp) | exact SL.drewN (SL.lit _ [l, s] _ _ (by simp) rfl (by simp)) _)).mono ?_
    rintro z w1 ⟨rfl, n1, rfl⟩
    rw [H1.out]
    go_wp2_with fail
    go_ret
    refine ⟨ret_bool ?_, by (repeat (first | with_reducible exact Below.refl _ _ | with_reducible assumption | with_reducible refine below_drewN ?_ _ | with_reducible refine Below.drew ?_ | with_reducible refine Below.alloc ?_ (by first | omega | (simp; omega) | (simp; done) | (simp at *; omega)) _ | with_reducible refine Below.setCell ?_ (by first | omega | (simp; omega) | (simp; done) | (simp at *; omega)) _ | refine Below.trans ?_ (Below.mono (by with_reducible assumption) (by first | omega | (simp; omega) | (simp; done) | (simp at *; omega)))))⟩
    rw [HE.out]
    simp only [H1.out]
    first | rfl | (simp; done)
  · have H1 := Lib.hid h1
    clear h1
    cases h2 : (decide (1 ≤ cs.length))
    · have H2 := Lib.hid h2
      clear h2
      have a1 : ¬ ((1 : Int) ≤ (cs.length : Int)) := by have g := of_decide_eq_false H2.out; omega
      have a2 : ¬ (1 ≤ cs.length) := by have g := of_decide_eq_false H2.out; omega
      go_enter Tryz.func29, Tryz.ntmps29
      go_wp2_with fail
      refine (i_areFinite _ ([l, s].map (cn .f32)) _ (by first | exact SL.lit _ [l, s] _ _ (by simp) rfl (by simp) | exact SL.drewN (SL.lit _ [l, s] _ _ (by simp) rfl (by simp)) _)).mono ?_
      rintro z w1 ⟨rfl, n1, rfl⟩
      rw [H1.out]
      go_wp2_with fail
      go_ret
      refine ⟨ret_bool ?_, by (repeat (first | with_reducible exact Below.refl _ _ | with_reducible assumption | with_reducible refine below_drewN ?_ _ | with_reducible refine Below.drew ?_ | with_reducible refine Below.alloc ?_ (by first | omega | (simp; omega) | (simp; done) | (simp at *; omega)) _ | with_reducible refine Below.setCell ?_ (by first | omega | (simp; omega) | (simp; done) | (simp at *; omega)) _ | refine Below.trans ?_ (Below.mono (by with_reducible assumption) (by first | omega | (simp; omega) | (simp; done) | (simp at *; omega)))))⟩
      rw [HE.out]
      simp only [H1.out, H2.out]
      first | rfl | (simp; done)
    · have H2 := Lib.hid h2
      clear h2
      cases h3 : (decide (cs.length ≤ 24))
      · have H3 := Lib.hid h3
        clear h3
        have a1 : ((1 : Int) ≤ (cs.length : Int)) := by have g := of_decide_eq_true H2.out; omega
        have a2 : (1 ≤ cs.length) := by have g := of_decide_eq_true H2.out; omega
        have b1 : ¬ ((cs.length : Int) ≤ 24) := by have g := of_decide_eq_false H3.out; omega
        have b2 : ¬ (cs.length ≤ 24) := by have g := of_decide_eq_false H3.out; omega
        go_enter Tryz.func29, Tryz.ntmps29
        go_wp2_with fail
        refine (i_areFinite _ ([l, s].map (cn .f32)) _ (by first | exact SL.lit _ [l, s] _ _ (by simp) rfl (by simp) | exact SL.drewN (SL.lit _ [l, s] _ _ (by simp) rfl (by simp)) _)).mono ?_
        rintro z w1 ⟨rfl, n1, rfl⟩
        rw [H1.out]
        go_wp2_with fail
        go_ret
        refine ⟨ret_bool ?_, by (repeat (first | with_reducible exact Below.refl _ _ | with_reducible assumption | with_reducible refine below_drewN ?_ _ | with_reducible refine Below.drew ?_ | with_reducible refine Below.alloc ?_ (by first | omega | (simp; omega) | (simp; done) | (simp at *; omega)) _ | with_reducible refine Below.setCell ?_ (by first | omega | (simp; omega) | (simp; done) | (simp at *; omega)) _ | refine Below.trans ?_ (Below.mono (by with_reducible assumption) (by first | omega | (simp; omega) | (simp; done) | (simp at *; omega)))))⟩
        rw [HE.out]
        simp only [H1.out, H2.out, H3.out]
        first | rfl | (simp; done)
      · have H3 := Lib.hid h3
        clear h3
        cases h4 : (allFin cs)
        · have H4 := Lib.hid h4
          clear h4
          have a1 : ((1 : Int) ≤ (cs.length : Int)) := by have g := of_decide_eq_true H2.out; omega
          have a2 : (1 ≤ cs.length) := by have g := of_decide_eq_true H2.out; omega
          have b1 : ((cs.length : Int) ≤ 24) := by have g := of_decide_eq_true H3.out; omega
          have b2 : (cs.length ≤ 24) := by have g := of_decide_eq_true H3.out; omega
          go_enter Tryz.func29, Tryz.ntmps29
          go_wp2_with fail
          refine (i_areFinite _ ([l, s].map (cn .f32)) _ (by first | exact SL.lit _ [l, s] _ _ (by simp) rfl (by simp) | exact SL.drewN (SL.lit _ [l, s] _ _ (by simp) rfl (by simp)) _)).mono ?_
          rintro z w1 ⟨rfl, n1, rfl⟩
          rw [H1.out]
          go_wp2_with fail
          refine (i_areFinite _ cs _ (SL.keep HV.out (by (repeat (first | with_reducible exact Below.refl _ _ | with_reducible assumption | with_reducible refine below_drewN ?_ _ | with_reducible refine Below.drew ?_ | with_reducible refine Below.alloc ?_ (by first | omega | (simp; omega) | (simp; done) | (simp at *; omega)) _ | with_reducible refine Below.setCell ?_ (by first | omega | (simp; omega) | (simp; done) | (simp at *; omega)) _ | refine Below.trans ?_ (Below.mono (by with_reducible assumption) (by first | omega | (simp; omega) | (simp; done) | (simp at *; omega)))))))).mono ?_
          rintro z w2 ⟨rfl, n2, rfl⟩
          rw [H4.out]
          go_wp2_with fail
          go_ret
          refine ⟨ret_bool ?_, by (repeat (first | with_reducible exact Below.refl _ _ | with_reducible assumption | with_reducible refine below_drewN ?_ _ | with_reducible refine Below.drew ?_ | with_reducible refine Below.alloc ?_ (by first | omega | (simp; omega) | (simp; done) | (simp at *; omega)) _ | with_reducible refine Below.setCell ?_ (by first | omega | (simp; omega) | (simp; done) | (simp at *; omega)) _ | refine Below.trans ?_ (Below.mono (by with_reducible assumption) (by first | omega | (simp; omega) | (simp; done) | (simp at *; omega)))))⟩
          rw [HE.out]
          simp only [H1.out, H2.out, H3.out, H4.out]
          first | rfl | (simp; done)
        · have H4 := Lib.hid h4
          clear h4
          have a1 : ((1 : Int) ≤ (cs.length : Int)) := by have g := of_decide_eq_true H2.out; omega
          have a2 : (1 ≤ cs.length) := by have g := of_decide_eq_true H2.out; omega
          have b1 : ((cs.length : Int) ≤ 24) := by have g := of_decide_eq_true H3.out; omega
          have b2 : (cs.length ≤ 24) := by have g := of_decide_eq_true H3.out; omega
          go_enter Tryz.func29, Tryz.ntmps29
          go_wp2_with fail
          refine (i_areFinite _ ([l, s].map (cn .f32)) _ (by first | exact SL.lit _ [l, s] _ _ (by simp) rfl (by simp) | exact SL.drewN (SL.lit _ [l, s] _ _ (by simp) rfl (by simp)) _)).mono ?_
          rintro z w1 ⟨rfl, n1, rfl⟩
          rw [H1.out]
          go_wp2_with fail
          refine (i_areFinite _ cs _ (SL.keep HV.out (by (repeat (first | with_reducible exact Below.refl _ _ | with_reducible assumption | with_reducible refine below_drewN ?_ _ | with_reducible refine Below.drew ?_ | with_reducible refine Below.alloc ?_ (by first | omega | (simp; omega) | (simp; done) | (simp at *; omega)) _ | with_reducible refine Below.setCell ?_ (by first | omega | (simp; omega) | (simp; done) | (simp at *; omega)) _ | refine Below.trans ?_ (Below.mono (by with_reducible assumption) (by first | omega | (simp; omega) | (simp; done) | (simp at *; omega)))))))).mono ?_
          rintro z w2 ⟨rfl, n2, rfl⟩
          rw [H4.out]
          go_wp2_with fail
          refine (i_within _ _ _ _).mono ?_
          rintro z w3 ⟨rfl, n3, rfl⟩
          go_wp2_with fail
          go_ret
          refine ⟨ret_bool ?_, by (repeat (first | with_reducible exact Below.refl _ _ | with_reducible assumption | with_reducible refine below_drewN ?_ _ | with_reducible refine Below.drew ?_ | with_reducible refine Below.alloc ?_ (by first | omega | (simp; omega) | (simp; done) | (simp at *; omega)) _ | with_reducible refine Below.setCell ?_ (by first | omega | (simp; omega) | (simp; done) | (simp at *; omega)) _ | refine Below.trans ?_ (Below.mono (by with_reducible assumption) (by first | omega | (simp; omega) | (simp; done) | (simp at *; omega)))))⟩
          rw [HE.out]
          simp only [H1.out, H2.out, H3.out, H4.out]
          first | rfl | (simp; done)

end Go.Proofs.YtebahccjaieajaaGreatDoor
