/- THE LAW FnExactSameDesk: the program's SameDesk returns what the reference's returns, for all arguments. No condition. -/
import Derived.Test.YtfckfdaloamkdaaLawKit
import Derived.Test.YtfckfdaloamkdaaK36i
import Derived.Test.YtfckfdaloamkdaaK31
import Derived.Test.YtfckfdaloamkdaaOpen3
namespace Go.Proofs.Ytfckfdaloamkdaa
set_option linter.unusedSimpArgs false
set_option linter.unusedVariables false
set_option maxRecDepth 100000
set_option maxHeartbeats 4000000
open Go.ChangeShapes Go.WideShapes Go.ChangeAt Go.RowKit
set_option linter.unusedVariables false
set_option linter.unusedSimpArgs false
attribute [local go_sem] run_store_float run_store_complex alloc_drewN setCell_drewN


set_option maxRecDepth 100000 in
set_option maxHeartbeats 20000000 in
theorem FnExactSameDesk_walk (w : World) (sv0 : Value) (ss0 : List Nat) (l0 s0 : Nat) (v0 : Value) (cs0 : List Nat) (x0 : Int) (a0 b0 c0 d0 : Nat) (y0 : Int) (hs0 : SB w sv0 ss0) (hv0 : SB w v0 cs0) (hn0 : ∀ z ∈ [l0, s0, a0, b0, c0, d0], z < 4294967296) (sv1 : Value) (ss1 : List Nat) (l1 s1 : Nat) (v1 : Value) (cs1 : List Nat) (x1 : Int) (a1 b1 c1 d1 : Nat) (y1 : Int) (hs1 : SB w sv1 ss1) (hv1 : SB w v1 cs1) (hn1 : ∀ z ∈ [l1, s1, a1, b1, c1, d1], z < 4294967296) :
    Calls Try.prog 11 #[.agg #[sv0, .float .f32 l0, .float .f32 s0, v0, .int .i64 x0, .float .f32 a0, .float .f32 b0, .float .f32 c0, .float .f32 d0, .int .i64 y0], .agg #[sv1, .float .f32 l1, .float .f32 s1, v1, .int .i64 x1, .float .f32 a1, .float .f32 b1, .float .f32 c1, .float .f32 d1, .int .i64 y1]] w fun z w' => z = .returned (.bool true) ∧ Below w.heap.size w w' := by
  obtain ⟨ao0, ac0, rfl, hlv0⟩ := hv0.sl.slice
  obtain ⟨so0, sc0, rfl, hls0⟩ := hs0.sl.slice
  have HV0 := Lib.hid hv0
  have HS0 := Lib.hid hs0
  have HN0 := Lib.hid hn0
  clear hv0 hs0 hn0 hlv0 hls0
  obtain ⟨ao1, ac1, rfl, hlv1⟩ := hv1.sl.slice
  obtain ⟨so1, sc1, rfl, hls1⟩ := hs1.sl.slice
  have HV1 := Lib.hid hv1
  have HS1 := Lib.hid hs1
  have HN1 := Lib.hid hn1
  clear hv1 hs1 hn1 hlv1 hls1
  by_cases h1 : (ss0.length : Int) + cs0.length ≤ 1048576
  case neg =>
    go_enter Try.func11, Try.ntmps11
    go_wp2_with fail
    refine (l_szDesk _ ss0 _ _ _ cs0 _ _ _ _ _ _ 1048576 _ (SB.keep HS0.out (by (repeat (first | with_reducible exact Below.refl _ _ | with_reducible assumption | with_reducible refine below_drewN ?_ _ | with_reducible refine Below.drew ?_ | with_reducible refine Below.alloc ?_ (by first | omega | (simp; omega) | (simp; done) | (simp at *; omega)) _ | with_reducible refine Below.setCell ?_ (by first | omega | (simp; omega) | (simp; done) | (simp at *; omega)) _ | refine Below.trans ?_ (Below.mono (by with_reducible assumption) (by first | omega | (simp; omega) | (simp; done) | (simp at *; omega))))))).sl (SB.keep HV0.out (by (repeat (first | with_reducible exact Below.refl _ _ | with_reducible assumption | with_reducible refine below_drewN ?_ _ | with_reducible refine Below.drew ?_ | with_reducible refine Below.alloc ?_ (by first | omega | (simp; omega) | (simp; done) | (simp at *; omega)) _ | with_reducible refine Below.setCell ?_ (by first | omega | (simp; omega) | (simp; done) | (simp at *; omega)) _ | refine Below.trans ?_ (Below.mono (by with_reducible assumption) (by first | omega | (simp; omega) | (simp; done) | (simp at *; omega))))))).sl (by omega) (by omega)).mono ?_
    rintro z w1 ⟨rfl, hb1⟩
    have HA := Lib.hid (show BK w1 (w.heap.size) [.slice so0 ss0.length sc0, .float .f32 l0, .float .f32 s0, .slice ao0 cs0.length ac0, .int .i64 x0, .float .f32 a0, .float .f32 b0, .float .f32 c0, .float .f32 d0, .int .i64 y0] from BK.keep (BK.alloc (BK.newAt (n := w.heap.size) _ _ _ (by simp)) _) hb1)
    have HB := Lib.hid (show BK w1 (w.heap.size + 1) [.slice so1 ss1.length sc1, .float .f32 l1, .float .f32 s1, .slice ao1 cs1.length ac1, .int .i64 x1, .float .f32 a1, .float .f32 b1, .float .f32 c1, .float .f32 d1, .int .i64 y1] from BK.keep (BK.newAt (n := w.heap.size + 1) _ _ _ (by simp)) hb1)
    have hbw : Below w.heap.size w w1 := (by (repeat (first | with_reducible exact Below.refl _ _ | with_reducible assumption | with_reducible refine below_drewN ?_ _ | with_reducible refine Below.drew ?_ | with_reducible refine Below.alloc ?_ (by first | omega | (simp; omega) | (simp; done) | (simp at *; omega)) _ | with_reducible refine Below.setCell ?_ (by first | omega | (simp; omega) | (simp; done) | (simp at *; omega)) _ | refine Below.trans ?_ (Below.mono (by with_reducible assumption) (by first | omega | (simp; omega) | (simp; done) | (simp at *; omega))))))
    clear hb1
    replace HV0 := Lib.hid (SB.keep HV0.out hbw)
    replace HS0 := Lib.hid (SB.keep HS0.out hbw)
    replace HV1 := Lib.hid (SB.keep HV1.out hbw)
    replace HS1 := Lib.hid (SB.keep HS1.out hbw)
    have hcHA := HA.out.cells
    have hcHB := HB.out.cells
    have hfHA := HA.out.fro
    have hfHB := HB.out.fro
    rw [szD, if_neg (by omega)]
    go_wp2_with fail
    go_ret
    exact ⟨rfl, by first | exact hbw | exact below_drewN hbw _ | exact Below.drew hbw⟩
  by_cases h2 : (ss1.length : Int) + cs1.length ≤ 1048576 - ss0.length - cs0.length
  case neg =>
    go_enter Try.func11, Try.ntmps11
    go_wp2_with fail
    refine (l_szDesk _ ss0 _ _ _ cs0 _ _ _ _ _ _ 1048576 _ (SB.keep HS0.out (by (repeat (first | with_reducible exact Below.refl _ _ | with_reducible assumption | with_reducible refine below_drewN ?_ _ | with_reducible refine Below.drew ?_ | with_reducible refine Below.alloc ?_ (by first | omega | (simp; omega) | (simp; done) | (simp at *; omega)) _ | with_reducible refine Below.setCell ?_ (by first | omega | (simp; omega) | (simp; done) | (simp at *; omega)) _ | refine Below.trans ?_ (Below.mono (by with_reducible assumption) (by first | omega | (simp; omega) | (simp; done) | (simp at *; omega))))))).sl (SB.keep HV0.out (by (repeat (first | with_reducible exact Below.refl _ _ | with_reducible assumption | with_reducible refine below_drewN ?_ _ | with_reducible refine Below.drew ?_ | with_reducible refine Below.alloc ?_ (by first | omega | (simp; omega) | (simp; done) | (simp at *; omega)) _ | with_reducible refine Below.setCell ?_ (by first | omega | (simp; omega) | (simp; done) | (simp at *; omega)) _ | refine Below.trans ?_ (Below.mono (by with_reducible assumption) (by first | omega | (simp; omega) | (simp; done) | (simp at *; omega))))))).sl (by omega) (by omega)).mono ?_
    rintro z w1 ⟨rfl, hb1⟩
    have HA := Lib.hid (show BK w1 (w.heap.size) [.slice so0 ss0.length sc0, .float .f32 l0, .float .f32 s0, .slice ao0 cs0.length ac0, .int .i64 x0, .float .f32 a0, .float .f32 b0, .float .f32 c0, .float .f32 d0, .int .i64 y0] from BK.keep (BK.alloc (BK.newAt (n := w.heap.size) _ _ _ (by simp)) _) hb1)
    have HB := Lib.hid (show BK w1 (w.heap.size + 1) [.slice so1 ss1.length sc1, .float .f32 l1, .float .f32 s1, .slice ao1 cs1.length ac1, .int .i64 x1, .float .f32 a1, .float .f32 b1, .float .f32 c1, .float .f32 d1, .int .i64 y1] from BK.keep (BK.newAt (n := w.heap.size + 1) _ _ _ (by simp)) hb1)
    have hbw : Below w.heap.size w w1 := (by (repeat (first | with_reducible exact Below.refl _ _ | with_reducible assumption | with_reducible refine below_drewN ?_ _ | with_reducible refine Below.drew ?_ | with_reducible refine Below.alloc ?_ (by first | omega | (simp; omega) | (simp; done) | (simp at *; omega)) _ | with_reducible refine Below.setCell ?_ (by first | omega | (simp; omega) | (simp; done) | (simp at *; omega)) _ | refine Below.trans ?_ (Below.mono (by with_reducible assumption) (by first | omega | (simp; omega) | (simp; done) | (simp at *; omega))))))
    clear hb1
    replace HV0 := Lib.hid (SB.keep HV0.out hbw)
    replace HS0 := Lib.hid (SB.keep HS0.out hbw)
    replace HV1 := Lib.hid (SB.keep HV1.out hbw)
    replace HS1 := Lib.hid (SB.keep HS1.out hbw)
    have hcHA := HA.out.cells
    have hcHB := HB.out.cells
    have hfHA := HA.out.fro
    have hfHB := HB.out.fro
    rw [szD, if_pos h1]
    go_wp2_with fail
    refine (l_szDesk _ ss1 _ _ _ cs1 _ _ _ _ _ _ _ _ (SB.sl (by first | exact HS1.out | exact SB.drewN HS1.out _ | exact SB.drew HS1.out)) (SB.sl (by first | exact HV1.out | exact SB.drewN HV1.out _ | exact SB.drew HV1.out)) (by omega) (by omega)).mono ?_
    rintro z w2 ⟨rfl, hb2⟩
    clear hcHA hfHA
    clear hcHB hfHB
    have hyy := hb2.size
    (try simp only [World.heap_drewN, World.size_drew] at hyy)
    have hzz := hbw.size
    replace HA := Lib.hid (BK.keep (by first | exact HA.out | exact BK.drewN HA.out _ | exact BK.drew HA.out) hb2)
    replace HB := Lib.hid (BK.keep (by first | exact HB.out | exact BK.drewN HB.out _ | exact BK.drew HB.out) hb2)
    replace HV0 := Lib.hid (SB.keep (by first | exact HV0.out | exact SB.drewN HV0.out _ | exact SB.drew HV0.out) hb2)
    replace HS0 := Lib.hid (SB.keep (by first | exact HS0.out | exact SB.drewN HS0.out _ | exact SB.drew HS0.out) hb2)
    replace HV1 := Lib.hid (SB.keep (by first | exact HV1.out | exact SB.drewN HV1.out _ | exact SB.drew HV1.out) hb2)
    replace HS1 := Lib.hid (SB.keep (by first | exact HS1.out | exact SB.drewN HS1.out _ | exact SB.drew HS1.out) hb2)
    replace hbw := Below.trans (by first | exact hbw | exact below_drewN hbw _ | exact Below.drew hbw) (Below.mono hb2 (by (try simp only [World.heap_drewN, World.size_drew]); omega))
    clear hb2 hyy hzz
    rw [szD, if_neg (by omega)]
    have hcHA := HA.out.cells
    have hcHB := HB.out.cells
    have hfHA := HA.out.fro
    have hfHB := HB.out.fro
    go_wp2_with fail
    go_ret
    exact ⟨rfl, by first | exact hbw | exact below_drewN hbw _ | exact Below.drew hbw⟩
  have hk0 : cs0.length < 1099511627776 := by omega
  have hm0 : ss0.length < 1099511627776 := by omega
  have hk1 : cs1.length < 1099511627776 := by omega
  have hm1 : ss1.length < 1099511627776 := by omega
  generalize hQ : dkSame ss0 ss1 (stSame (cn .f32 l0) (cn .f32 l1) (cn .f32 s0) (cn .f32 s1) x0 x1 cs0 cs1) ([a0, b0, c0, d0].map (cn .f32)) ([a1, b1, c1, d1].map (cn .f32)) y0 y1 = Q
  have HQ := Lib.hid hQ
  clear hQ
  go_enter Try.func11, Try.ntmps11
  go_wp2_with fail
  refine (l_szDesk _ ss0 _ _ _ cs0 _ _ _ _ _ _ 1048576 _ (SB.keep HS0.out (by (repeat (first | with_reducible exact Below.refl _ _ | with_reducible assumption | with_reducible refine below_drewN ?_ _ | with_reducible refine Below.drew ?_ | with_reducible refine Below.alloc ?_ (by first | omega | (simp; omega) | (simp; done) | (simp at *; omega)) _ | with_reducible refine Below.setCell ?_ (by first | omega | (simp; omega) | (simp; done) | (simp at *; omega)) _ | refine Below.trans ?_ (Below.mono (by with_reducible assumption) (by first | omega | (simp; omega) | (simp; done) | (simp at *; omega))))))).sl (SB.keep HV0.out (by (repeat (first | with_reducible exact Below.refl _ _ | with_reducible assumption | with_reducible refine below_drewN ?_ _ | with_reducible refine Below.drew ?_ | with_reducible refine Below.alloc ?_ (by first | omega | (simp; omega) | (simp; done) | (simp at *; omega)) _ | with_reducible refine Below.setCell ?_ (by first | omega | (simp; omega) | (simp; done) | (simp at *; omega)) _ | refine Below.trans ?_ (Below.mono (by with_reducible assumption) (by first | omega | (simp; omega) | (simp; done) | (simp at *; omega))))))).sl (by omega) (by omega)).mono ?_
  rintro z w1 ⟨rfl, hb1⟩
  have HA := Lib.hid (show BK w1 (w.heap.size) [.slice so0 ss0.length sc0, .float .f32 l0, .float .f32 s0, .slice ao0 cs0.length ac0, .int .i64 x0, .float .f32 a0, .float .f32 b0, .float .f32 c0, .float .f32 d0, .int .i64 y0] from BK.keep (BK.alloc (BK.newAt (n := w.heap.size) _ _ _ (by simp)) _) hb1)
  have HB := Lib.hid (show BK w1 (w.heap.size + 1) [.slice so1 ss1.length sc1, .float .f32 l1, .float .f32 s1, .slice ao1 cs1.length ac1, .int .i64 x1, .float .f32 a1, .float .f32 b1, .float .f32 c1, .float .f32 d1, .int .i64 y1] from BK.keep (BK.newAt (n := w.heap.size + 1) _ _ _ (by simp)) hb1)
  have hbw : Below w.heap.size w w1 := (by (repeat (first | with_reducible exact Below.refl _ _ | with_reducible assumption | with_reducible refine below_drewN ?_ _ | with_reducible refine Below.drew ?_ | with_reducible refine Below.alloc ?_ (by first | omega | (simp; omega) | (simp; done) | (simp at *; omega)) _ | with_reducible refine Below.setCell ?_ (by first | omega | (simp; omega) | (simp; done) | (simp at *; omega)) _ | refine Below.trans ?_ (Below.mono (by with_reducible assumption) (by first | omega | (simp; omega) | (simp; done) | (simp at *; omega))))))
  clear hb1
  replace HV0 := Lib.hid (SB.keep HV0.out hbw)
  replace HS0 := Lib.hid (SB.keep HS0.out hbw)
  replace HV1 := Lib.hid (SB.keep HV1.out hbw)
  replace HS1 := Lib.hid (SB.keep HS1.out hbw)
  have hcHA := HA.out.cells
  have hcHB := HB.out.cells
  have hfHA := HA.out.fro
  have hfHB := HB.out.fro
  rw [szD, if_pos h1]
  go_wp2_with fail
  refine (l_szDesk _ ss1 _ _ _ cs1 _ _ _ _ _ _ _ _ (SB.sl (by first | exact HS1.out | exact SB.drewN HS1.out _ | exact SB.drew HS1.out)) (SB.sl (by first | exact HV1.out | exact SB.drewN HV1.out _ | exact SB.drew HV1.out)) (by omega) (by omega)).mono ?_
  rintro z w2 ⟨rfl, hb2⟩
  clear hcHA hfHA
  clear hcHB hfHB
  have hyy := hb2.size
  (try simp only [World.heap_drewN, World.size_drew] at hyy)
  have hzz := hbw.size
  replace HA := Lib.hid (BK.keep (by first | exact HA.out | exact BK.drewN HA.out _ | exact BK.drew HA.out) hb2)
  replace HB := Lib.hid (BK.keep (by first | exact HB.out | exact BK.drewN HB.out _ | exact BK.drew HB.out) hb2)
  replace HV0 := Lib.hid (SB.keep (by first | exact HV0.out | exact SB.drewN HV0.out _ | exact SB.drew HV0.out) hb2)
  replace HS0 := Lib.hid (SB.keep (by first | exact HS0.out | exact SB.drewN HS0.out _ | exact SB.drew HS0.out) hb2)
  replace HV1 := Lib.hid (SB.keep (by first | exact HV1.out | exact SB.drewN HV1.out _ | exact SB.drew HV1.out) hb2)
  replace HS1 := Lib.hid (SB.keep (by first | exact HS1.out | exact SB.drewN HS1.out _ | exact SB.drew HS1.out) hb2)
  replace hbw := Below.trans (by first | exact hbw | exact below_drewN hbw _ | exact Below.drew hbw) (Below.mono hb2 (by (try simp only [World.heap_drewN, World.size_drew]); omega))
  clear hb2 hyy hzz
  rw [szD, if_pos h2]
  have hcHA := HA.out.cells
  have hcHB := HB.out.cells
  have hfHA := HA.out.fro
  have hfHB := HB.out.fro
  go_wp2_with fail
  clear h1 h2
  clear hcHA hfHA
  clear hcHB hfHB
  refine wp_region_held_drew (S := (fun W => (∀ i, i < 10 → W.cell? ⟨w.heap.size, i, none⟩ = ([.slice so0 ss0.length sc0, .float .f32 l0, .float .f32 s0, .slice ao0 cs0.length ac0, .int .i64 x0, .float .f32 a0, .float .f32 b0, .float .f32 c0, .float .f32 d0, .int .i64 y0] : List Value)[i]?) ∧ (∀ i, i < 10 → W.cell? ⟨w.heap.size + 1, i, none⟩ = ([.slice so1 ss1.length sc1, .float .f32 l1, .float .f32 s1, .slice ao1 cs1.length ac1, .int .i64 x1, .float .f32 a1, .float .f32 b1, .float .f32 c1, .float .f32 d1, .int .i64 y1] : List Value)[i]?))) (by kernel_rfl) (by first | exact ⟨HA.out.cells, HB.out.cells⟩ | exact ⟨(BK.drew HA.out).cells, (BK.drew HB.out).cells⟩ | exact ⟨(BK.drewN HA.out _).cells, (BK.drewN HB.out _).cells⟩) (fun hH0 => ?_)
  refine wpAnyH_take (i := 0) (oi := { dst := some 20, op := Op.load 68 (Operand.tmp 2), type := 68, pos := "exact.go:6630", after := #[], guard := none }) (v := ?_) rfl (by kernel_rfl) (by kernel_rfl) (by kernel_rfl) (fun _ _ _ h => h) (Or.inl ⟨by rfl, ?_⟩) hH0 ?_
  rotate_left
  · (intro w hSw; (try dsimp only at hSw); go_simp; try with_reducible rfl)
  (try simp only [Act.put, List.setIfInBounds_toArray, List.set_cons_zero, List.set_cons_succ])
  refine wpAnyH_take (i := 2) (oi := { dst := some 22, op := Op.load 68 (Operand.tmp 3), type := 68, pos := "exact.go:6630", after := #[], guard := none }) (v := ?_) rfl (by kernel_rfl) (by kernel_rfl) (by kernel_rfl) (fun _ _ _ h => h) (Or.inl ⟨by rfl, ?_⟩) hH0 ?_
  rotate_left
  · (intro w hSw; (try dsimp only at hSw); go_simp; try with_reducible rfl)
  (try simp only [Act.put, List.setIfInBounds_toArray, List.set_cons_zero, List.set_cons_succ])
  refine wpAnyH_ready (rs := [1]) (by kernel_rfl) (by simp) (AllReadyH.cons (o := { dst := some 21, op := Op.call { callee := Callee.value (Operand.func 45), args := #[Operand.tmp 20], argTypes := #[68] }, type := 60, pos := "exact.go:6630", after := #[{ on := 0, ground := Ground.data }], guard := none }) rfl (fun K hK => ?e3) AllReadyH.nil)
  go_simp
  go_at_call 45
  refine (l_toDesk _ ss0 _ _ _ cs0 _ _ _ _ _ _ _ (by first | exact HS0.out | exact SB.drewN HS0.out _ | exact SB.drew HS0.out) (by first | exact HV0.out | exact SB.drewN HV0.out _ | exact SB.drew HV0.out) hk0 hm0).mono ?_
  rintro z w3 ⟨⟨t3, u3, rfl, ht3, hu3, hlt3⟩, hb3⟩
  clear hlt3
  have hyy := hb3.size
  (try simp only [World.heap_drewN, World.size_drew] at hyy)
  have hzz := hbw.size
  replace HA := Lib.hid (BK.keep (by first | exact HA.out | exact BK.drewN HA.out _ | exact BK.drew HA.out) hb3)
  replace HB := Lib.hid (BK.keep (by first | exact HB.out | exact BK.drewN HB.out _ | exact BK.drew HB.out) hb3)
  replace HV0 := Lib.hid (SB.keep (by first | exact HV0.out | exact SB.drewN HV0.out _ | exact SB.drew HV0.out) hb3)
  replace HS0 := Lib.hid (SB.keep (by first | exact HS0.out | exact SB.drewN HS0.out _ | exact SB.drew HS0.out) hb3)
  replace HV1 := Lib.hid (SB.keep (by first | exact HV1.out | exact SB.drewN HV1.out _ | exact SB.drew HV1.out) hb3)
  replace HS1 := Lib.hid (SB.keep (by first | exact HS1.out | exact SB.drewN HS1.out _ | exact SB.drew HS1.out) hb3)
  replace hbw := Below.trans (by first | exact hbw | exact below_drewN hbw _ | exact Below.drew hbw) (Below.mono hb3 (by (try simp only [World.heap_drewN, World.size_drew]); omega))
  clear hb3 hyy hzz
  obtain ⟨to3, tc3, rfl, hq3⟩ := ht3.sb.sl.slice
  obtain ⟨uo3, uc3, rfl, hr3⟩ := hu3.sb.sl.slice
  clear hq3 hr3
  have HT3 := Lib.hid ht3.sb
  have HU3 := Lib.hid hu3.sb
  clear ht3 hu3
  refine hK.out _ _ (by first | exact ⟨HA.out.cells, HB.out.cells⟩ | exact ⟨(BK.drew HA.out).cells, (BK.drew HB.out).cells⟩ | exact ⟨(BK.drewN HA.out _).cells, (BK.drewN HB.out _).cells⟩) (fun hH1 => ?_)
  clear hK K hH0
  (try simp only [Act.put, List.setIfInBounds_toArray, List.set_cons_zero, List.set_cons_succ])
  refine wpAnyH_ready (rs := [3]) (by kernel_rfl) (by simp) (AllReadyH.cons (o := { dst := some 23, op := Op.call { callee := Callee.value (Operand.func 45), args := #[Operand.tmp 22], argTypes := #[68] }, type := 60, pos := "exact.go:6630", after := #[{ on := 2, ground := Ground.data }, { on := 1, ground := Ground.chain }], guard := none }) rfl (fun K hK => ?e4) AllReadyH.nil)
  go_simp
  go_at_call 45
  refine (l_toDesk _ ss1 _ _ _ cs1 _ _ _ _ _ _ _ (by first | exact HS1.out | exact SB.drewN HS1.out _ | exact SB.drew HS1.out) (by first | exact HV1.out | exact SB.drewN HV1.out _ | exact SB.drew HV1.out) hk1 hm1).mono ?_
  rintro z w4 ⟨⟨t4, u4, rfl, ht4, hu4, hlt4⟩, hb4⟩
  clear hlt4
  have hyy := hb4.size
  (try simp only [World.heap_drewN, World.size_drew] at hyy)
  have hzz := hbw.size
  replace HA := Lib.hid (BK.keep (by first | exact HA.out | exact BK.drewN HA.out _ | exact BK.drew HA.out) hb4)
  replace HB := Lib.hid (BK.keep (by first | exact HB.out | exact BK.drewN HB.out _ | exact BK.drew HB.out) hb4)
  replace HV0 := Lib.hid (SB.keep (by first | exact HV0.out | exact SB.drewN HV0.out _ | exact SB.drew HV0.out) hb4)
  replace HS0 := Lib.hid (SB.keep (by first | exact HS0.out | exact SB.drewN HS0.out _ | exact SB.drew HS0.out) hb4)
  replace HV1 := Lib.hid (SB.keep (by first | exact HV1.out | exact SB.drewN HV1.out _ | exact SB.drew HV1.out) hb4)
  replace HS1 := Lib.hid (SB.keep (by first | exact HS1.out | exact SB.drewN HS1.out _ | exact SB.drew HS1.out) hb4)
  replace HT3 := Lib.hid (SB.keep (by first | exact HT3.out | exact SB.drewN HT3.out _ | exact SB.drew HT3.out) hb4)
  replace HU3 := Lib.hid (SB.keep (by first | exact HU3.out | exact SB.drewN HU3.out _ | exact SB.drew HU3.out) hb4)
  replace hbw := Below.trans (by first | exact hbw | exact below_drewN hbw _ | exact Below.drew hbw) (Below.mono hb4 (by (try simp only [World.heap_drewN, World.size_drew]); omega))
  clear hb4 hyy hzz
  obtain ⟨to4, tc4, rfl, hq4⟩ := ht4.sb.sl.slice
  obtain ⟨uo4, uc4, rfl, hr4⟩ := hu4.sb.sl.slice
  clear hq4 hr4
  have HT4 := Lib.hid ht4.sb
  have HU4 := Lib.hid hu4.sb
  clear ht4 hu4
  refine hK.out _ _ (by first | exact ⟨HA.out.cells, HB.out.cells⟩ | exact ⟨(BK.drew HA.out).cells, (BK.drew HB.out).cells⟩ | exact ⟨(BK.drewN HA.out _).cells, (BK.drewN HB.out _).cells⟩) (fun hH2 => ?_)
  clear hK K hH1
  (try simp only [Act.put, List.setIfInBounds_toArray, List.set_cons_zero, List.set_cons_succ])
  refine wpAnyH_ready (rs := [4]) (by kernel_rfl) (by simp) (AllReadyH.cons (o := { dst := some 24, op := Op.call { callee := Callee.value (Operand.func 44), args := #[Operand.tmp 21, Operand.tmp 23], argTypes := #[60, 60] }, type := 4, pos := "exact.go:6630", after := #[{ on := 1, ground := Ground.data }, { on := 3, ground := Ground.data }, { on := 3, ground := Ground.chain }], guard := none }) rfl (fun K hK => ?e5) AllReadyH.nil)
  go_simp
  go_at_call 44
  refine (s_SameDesk _ ss0 _ _ _ cs0 _ _ _ _ _ _ _ ss1 _ _ _ cs1 _ _ _ _ _ _ _ HN0.out HN1.out (by first | exact HT3.out | exact SB.drewN HT3.out _ | exact SB.drew HT3.out) (by first | exact HU3.out | exact SB.drewN HU3.out _ | exact SB.drew HU3.out) (by first | exact HT4.out | exact SB.drewN HT4.out _ | exact SB.drew HT4.out) (by first | exact HU4.out | exact SB.drewN HU4.out _ | exact SB.drew HU4.out)).mono ?_
  rintro z w5 ⟨rfl, hb5⟩
  rw [HQ.out]
  have hyy := hb5.size
  (try simp only [World.heap_drewN, World.size_drew] at hyy)
  have hzz := hbw.size
  replace HA := Lib.hid (BK.keep (by first | exact HA.out | exact BK.drewN HA.out _ | exact BK.drew HA.out) hb5)
  replace HB := Lib.hid (BK.keep (by first | exact HB.out | exact BK.drewN HB.out _ | exact BK.drew HB.out) hb5)
  replace HV0 := Lib.hid (SB.keep (by first | exact HV0.out | exact SB.drewN HV0.out _ | exact SB.drew HV0.out) hb5)
  replace HS0 := Lib.hid (SB.keep (by first | exact HS0.out | exact SB.drewN HS0.out _ | exact SB.drew HS0.out) hb5)
  replace HV1 := Lib.hid (SB.keep (by first | exact HV1.out | exact SB.drewN HV1.out _ | exact SB.drew HV1.out) hb5)
  replace HS1 := Lib.hid (SB.keep (by first | exact HS1.out | exact SB.drewN HS1.out _ | exact SB.drew HS1.out) hb5)
  replace HT3 := Lib.hid (SB.keep (by first | exact HT3.out | exact SB.drewN HT3.out _ | exact SB.drew HT3.out) hb5)
  replace HU3 := Lib.hid (SB.keep (by first | exact HU3.out | exact SB.drewN HU3.out _ | exact SB.drew HU3.out) hb5)
  replace HT4 := Lib.hid (SB.keep (by first | exact HT4.out | exact SB.drewN HT4.out _ | exact SB.drew HT4.out) hb5)
  replace HU4 := Lib.hid (SB.keep (by first | exact HU4.out | exact SB.drewN HU4.out _ | exact SB.drew HU4.out) hb5)
  replace hbw := Below.trans (by first | exact hbw | exact below_drewN hbw _ | exact Below.drew hbw) (Below.mono hb5 (by (try simp only [World.heap_drewN, World.size_drew]); omega))
  clear hb5 hyy hzz
  clear HT3 HU3 HT4 HU4
  refine hK.out _ _ (by first | exact ⟨HA.out.cells, HB.out.cells⟩ | exact ⟨(BK.drew HA.out).cells, (BK.drew HB.out).cells⟩ | exact ⟨(BK.drewN HA.out _).cells, (BK.drewN HB.out _).cells⟩) (fun hH3 => ?_)
  clear hK K hH2
  (try simp only [Act.put, List.setIfInBounds_toArray, List.set_cons_zero, List.set_cons_succ])
  refine wpAnyH_take (i := 5) (oi := { dst := some 6, op := Op.assign (Operand.tmp 24), type := 4, pos := "exact.go:6630", after := #[{ on := 4, ground := Ground.data }, { on := 4, ground := Ground.chain }, { on := 0, ground := Ground.phase }, { on := 1, ground := Ground.phase }, { on := 2, ground := Ground.phase }, { on := 3, ground := Ground.phase }, { on := 4, ground := Ground.phase }], guard := none }) (v := ?_) rfl (by kernel_rfl) (by kernel_rfl) (by kernel_rfl) (fun _ _ _ h => h) (Or.inl ⟨by rfl, ?_⟩) hH3 ?_
  rotate_left
  · (intro w hSw; (try dsimp only at hSw); go_simp; try with_reducible rfl)
  (try simp only [Act.put, List.setIfInBounds_toArray, List.set_cons_zero, List.set_cons_succ])
  refine wpAnyH_done (by kernel_rfl) ?_ _
  clear hH3
  have hcHA := HA.out.cells
  have hcHB := HB.out.cells
  have hfHA := HA.out.fro
  have hfHB := HB.out.fro
  go_wp2_with fail
  refine (l_toDesk _ ss0 _ _ _ cs0 _ _ _ _ _ _ _ (by first | exact HS0.out | exact SB.drewN HS0.out _ | exact SB.drew HS0.out) (by first | exact HV0.out | exact SB.drewN HV0.out _ | exact SB.drew HV0.out) hk0 hm0).mono ?_
  rintro z w6 ⟨⟨t6, u6, rfl, ht6, hu6, hlt6⟩, hb6⟩
  clear hlt6
  clear hcHA hfHA
  clear hcHB hfHB
  have hyy := hb6.size
  (try simp only [World.heap_drewN, World.size_drew] at hyy)
  have hzz := hbw.size
  replace HA := Lib.hid (BK.keep (by first | exact HA.out | exact BK.drewN HA.out _ | exact BK.drew HA.out) hb6)
  replace HB := Lib.hid (BK.keep (by first | exact HB.out | exact BK.drewN HB.out _ | exact BK.drew HB.out) hb6)
  replace HV0 := Lib.hid (SB.keep (by first | exact HV0.out | exact SB.drewN HV0.out _ | exact SB.drew HV0.out) hb6)
  replace HS0 := Lib.hid (SB.keep (by first | exact HS0.out | exact SB.drewN HS0.out _ | exact SB.drew HS0.out) hb6)
  replace HV1 := Lib.hid (SB.keep (by first | exact HV1.out | exact SB.drewN HV1.out _ | exact SB.drew HV1.out) hb6)
  replace HS1 := Lib.hid (SB.keep (by first | exact HS1.out | exact SB.drewN HS1.out _ | exact SB.drew HS1.out) hb6)
  replace hbw := Below.trans (by first | exact hbw | exact below_drewN hbw _ | exact Below.drew hbw) (Below.mono hb6 (by (try simp only [World.heap_drewN, World.size_drew]); omega))
  clear hb6 hyy hzz
  obtain ⟨to6, tc6, rfl, hq6⟩ := ht6.sb.sl.slice
  obtain ⟨uo6, uc6, rfl, hr6⟩ := hu6.sb.sl.slice
  clear hq6 hr6
  have HT6 := Lib.hid ht6.sb
  have HU6 := Lib.hid hu6.sb
  clear ht6 hu6
  have hcHA := HA.out.cells
  have hcHB := HB.out.cells
  have hfHA := HA.out.fro
  have hfHB := HB.out.fro
  go_wp2_with (clear hcHA hfHA; clear hcHB hfHB; refine wpList_storeAgg (us := [.slice to6 ss0.length tc6, .float .f32 l0, .float .f32 s0, .slice uo6 cs0.length uc6, .int .i64 x0, .float .f32 a0, .float .f32 b0, .float .f32 c0, .float .f32 d0, .int .i64 y0]) (storeDk _ _ _ _ _ _ _ _ _ _ _ _ _ _ _ _) rfl rfl (by simp [Value.oneCell']) (BK.newAt (n := w6.heap.size) _ _ _ (by simp)) (by simp) ?_; intro WHX hB hO hL hZ hG; replace HA := Lib.hid (hO _ _ (BK.alloc (by first | exact HA.out | exact BK.drewN HA.out _ | exact BK.drew HA.out) _) (by have := HA.out.lt; (try simp only [World.heap_drewN] at this); omega)); replace HB := Lib.hid (hO _ _ (BK.alloc (by first | exact HB.out | exact BK.drewN HB.out _ | exact BK.drew HB.out) _) (by have := HB.out.lt; (try simp only [World.heap_drewN] at this); omega)); replace HV0 := Lib.hid (SB.keep (by first | exact HV0.out | exact SB.drewN HV0.out _ | exact SB.drew HV0.out) (hL _ _ (Below.alloc (Below.refl _ _) (Nat.le_refl _) _) (by (try simp only [World.heap_drewN]); omega))); replace HS0 := Lib.hid (SB.keep (by first | exact HS0.out | exact SB.drewN HS0.out _ | exact SB.drew HS0.out) (hL _ _ (Below.alloc (Below.refl _ _) (Nat.le_refl _) _) (by (try simp only [World.heap_drewN]); omega))); replace HV1 := Lib.hid (SB.keep (by first | exact HV1.out | exact SB.drewN HV1.out _ | exact SB.drew HV1.out) (hL _ _ (Below.alloc (Below.refl _ _) (Nat.le_refl _) _) (by (try simp only [World.heap_drewN]); omega))); replace HS1 := Lib.hid (SB.keep (by first | exact HS1.out | exact SB.drewN HS1.out _ | exact SB.drew HS1.out) (hL _ _ (Below.alloc (Below.refl _ _) (Nat.le_refl _) _) (by (try simp only [World.heap_drewN]); omega))); replace HT6 := Lib.hid (SB.keep (by first | exact HT6.out | exact SB.drewN HT6.out _ | exact SB.drew HT6.out) (hL _ _ (Below.alloc (Below.refl _ _) (Nat.le_refl _) _) (by (try simp only [World.heap_drewN]); omega))); replace HU6 := Lib.hid (SB.keep (by first | exact HU6.out | exact SB.drewN HU6.out _ | exact SB.drew HU6.out) (hL _ _ (Below.alloc (Below.refl _ _) (Nat.le_refl _) _) (by (try simp only [World.heap_drewN]); omega))); replace hbw := hL _ _ (Below.alloc hbw (by have := hbw.size; omega) _) (by have := hbw.size; omega); have HX := Lib.hid hB; clear hB hO hL hG hZ; simp [setsAt] at HX; have hcHA := HA.out.cells; have hcHB := HB.out.cells; have hcHX := HX.out.cells; have hfHA := HA.out.fro; have hfHB := HB.out.fro; have hfHX := HX.out.fro)
  refine (l_toDesk _ ss1 _ _ _ cs1 _ _ _ _ _ _ _ (by first | exact HS1.out | exact SB.drewN HS1.out _ | exact SB.drew HS1.out) (by first | exact HV1.out | exact SB.drewN HV1.out _ | exact SB.drew HV1.out) hk1 hm1).mono ?_
  rintro z w7 ⟨⟨t7, u7, rfl, ht7, hu7, hlt7⟩, hb7⟩
  clear hlt7
  clear hcHA hfHA
  clear hcHB hfHB
  clear hcHX hfHX
  have hyy := hb7.size
  (try simp only [World.heap_drewN, World.size_drew] at hyy)
  have hzz := hbw.size
  replace HA := Lib.hid (BK.keep (by first | exact HA.out | exact BK.drewN HA.out _ | exact BK.drew HA.out) hb7)
  replace HB := Lib.hid (BK.keep (by first | exact HB.out | exact BK.drewN HB.out _ | exact BK.drew HB.out) hb7)
  replace HX := Lib.hid (BK.keep (by first | exact HX.out | exact BK.drewN HX.out _ | exact BK.drew HX.out) hb7)
  replace HV0 := Lib.hid (SB.keep (by first | exact HV0.out | exact SB.drewN HV0.out _ | exact SB.drew HV0.out) hb7)
  replace HS0 := Lib.hid (SB.keep (by first | exact HS0.out | exact SB.drewN HS0.out _ | exact SB.drew HS0.out) hb7)
  replace HV1 := Lib.hid (SB.keep (by first | exact HV1.out | exact SB.drewN HV1.out _ | exact SB.drew HV1.out) hb7)
  replace HS1 := Lib.hid (SB.keep (by first | exact HS1.out | exact SB.drewN HS1.out _ | exact SB.drew HS1.out) hb7)
  replace HT6 := Lib.hid (SB.keep (by first | exact HT6.out | exact SB.drewN HT6.out _ | exact SB.drew HT6.out) hb7)
  replace HU6 := Lib.hid (SB.keep (by first | exact HU6.out | exact SB.drewN HU6.out _ | exact SB.drew HU6.out) hb7)
  replace hbw := Below.trans (by first | exact hbw | exact below_drewN hbw _ | exact Below.drew hbw) (Below.mono hb7 (by (try simp only [World.heap_drewN, World.size_drew]); omega))
  clear hb7 hyy hzz
  obtain ⟨to7, tc7, rfl, hq7⟩ := ht7.sb.sl.slice
  obtain ⟨uo7, uc7, rfl, hr7⟩ := hu7.sb.sl.slice
  clear hq7 hr7
  have HT7 := Lib.hid ht7.sb
  have HU7 := Lib.hid hu7.sb
  clear ht7 hu7
  have hcHA := HA.out.cells
  have hcHB := HB.out.cells
  have hcHX := HX.out.cells
  have hfHA := HA.out.fro
  have hfHB := HB.out.fro
  have hfHX := HX.out.fro
  go_wp2_with (clear hcHA hfHA; clear hcHB hfHB; clear hcHX hfHX; refine wpList_storeAgg (us := [.slice to7 ss1.length tc7, .float .f32 l1, .float .f32 s1, .slice uo7 cs1.length uc7, .int .i64 x1, .float .f32 a1, .float .f32 b1, .float .f32 c1, .float .f32 d1, .int .i64 y1]) (storeDk _ _ _ _ _ _ _ _ _ _ _ _ _ _ _ _) rfl rfl (by simp [Value.oneCell']) (BK.newAt (n := w7.heap.size) _ _ _ (by simp)) (by simp) ?_; intro WHY hB hO hL hZ hG; replace HA := Lib.hid (hO _ _ (BK.alloc (by first | exact HA.out | exact BK.drewN HA.out _ | exact BK.drew HA.out) _) (by have := HA.out.lt; (try simp only [World.heap_drewN] at this); omega)); replace HB := Lib.hid (hO _ _ (BK.alloc (by first | exact HB.out | exact BK.drewN HB.out _ | exact BK.drew HB.out) _) (by have := HB.out.lt; (try simp only [World.heap_drewN] at this); omega)); replace HX := Lib.hid (hO _ _ (BK.alloc (by first | exact HX.out | exact BK.drewN HX.out _ | exact BK.drew HX.out) _) (by have := HX.out.lt; (try simp only [World.heap_drewN] at this); omega)); replace HV0 := Lib.hid (SB.keep (by first | exact HV0.out | exact SB.drewN HV0.out _ | exact SB.drew HV0.out) (hL _ _ (Below.alloc (Below.refl _ _) (Nat.le_refl _) _) (by (try simp only [World.heap_drewN]); omega))); replace HS0 := Lib.hid (SB.keep (by first | exact HS0.out | exact SB.drewN HS0.out _ | exact SB.drew HS0.out) (hL _ _ (Below.alloc (Below.refl _ _) (Nat.le_refl _) _) (by (try simp only [World.heap_drewN]); omega))); replace HV1 := Lib.hid (SB.keep (by first | exact HV1.out | exact SB.drewN HV1.out _ | exact SB.drew HV1.out) (hL _ _ (Below.alloc (Below.refl _ _) (Nat.le_refl _) _) (by (try simp only [World.heap_drewN]); omega))); replace HS1 := Lib.hid (SB.keep (by first | exact HS1.out | exact SB.drewN HS1.out _ | exact SB.drew HS1.out) (hL _ _ (Below.alloc (Below.refl _ _) (Nat.le_refl _) _) (by (try simp only [World.heap_drewN]); omega))); replace HT6 := Lib.hid (SB.keep (by first | exact HT6.out | exact SB.drewN HT6.out _ | exact SB.drew HT6.out) (hL _ _ (Below.alloc (Below.refl _ _) (Nat.le_refl _) _) (by (try simp only [World.heap_drewN]); omega))); replace HU6 := Lib.hid (SB.keep (by first | exact HU6.out | exact SB.drewN HU6.out _ | exact SB.drew HU6.out) (hL _ _ (Below.alloc (Below.refl _ _) (Nat.le_refl _) _) (by (try simp only [World.heap_drewN]); omega))); replace HT7 := Lib.hid (SB.keep (by first | exact HT7.out | exact SB.drewN HT7.out _ | exact SB.drew HT7.out) (hL _ _ (Below.alloc (Below.refl _ _) (Nat.le_refl _) _) (by (try simp only [World.heap_drewN]); omega))); replace HU7 := Lib.hid (SB.keep (by first | exact HU7.out | exact SB.drewN HU7.out _ | exact SB.drew HU7.out) (hL _ _ (Below.alloc (Below.refl _ _) (Nat.le_refl _) _) (by (try simp only [World.heap_drewN]); omega))); replace hbw := hL _ _ (Below.alloc hbw (by have := hbw.size; omega) _) (by have := hbw.size; omega); have HY := Lib.hid hB; clear hB hO hL hG hZ; simp [setsAt] at HY; have hcHA := HA.out.cells; have hcHB := HB.out.cells; have hcHX := HX.out.cells; have hcHY := HY.out.cells; have hfHA := HA.out.fro; have hfHB := HB.out.fro; have hfHX := HX.out.fro; have hfHY := HY.out.fro)
  refine (i_SameDesk _ ss0 _ _ _ cs0 _ _ _ _ _ _ _ ss1 _ _ _ cs1 _ _ _ _ _ _ _ HN0.out HN1.out (by first | exact HT6.out | exact SB.drewN HT6.out _ | exact SB.drew HT6.out) (by first | exact HU6.out | exact SB.drewN HU6.out _ | exact SB.drew HU6.out) (by first | exact HT7.out | exact SB.drewN HT7.out _ | exact SB.drew HT7.out) (by first | exact HU7.out | exact SB.drewN HU7.out _ | exact SB.drew HU7.out)).mono ?_
  rintro z w8 ⟨rfl, hb8⟩
  rw [HQ.out]
  clear hcHA hfHA
  clear hcHB hfHB
  clear hcHX hfHX
  clear hcHY hfHY
  have hyy := hb8.size
  (try simp only [World.heap_drewN, World.size_drew] at hyy)
  have hzz := hbw.size
  replace HA := Lib.hid (BK.keep (by first | exact HA.out | exact BK.drewN HA.out _ | exact BK.drew HA.out) hb8)
  replace HB := Lib.hid (BK.keep (by first | exact HB.out | exact BK.drewN HB.out _ | exact BK.drew HB.out) hb8)
  replace HX := Lib.hid (BK.keep (by first | exact HX.out | exact BK.drewN HX.out _ | exact BK.drew HX.out) hb8)
  replace HY := Lib.hid (BK.keep (by first | exact HY.out | exact BK.drewN HY.out _ | exact BK.drew HY.out) hb8)
  replace HV0 := Lib.hid (SB.keep (by first | exact HV0.out | exact SB.drewN HV0.out _ | exact SB.drew HV0.out) hb8)
  replace HS0 := Lib.hid (SB.keep (by first | exact HS0.out | exact SB.drewN HS0.out _ | exact SB.drew HS0.out) hb8)
  replace HV1 := Lib.hid (SB.keep (by first | exact HV1.out | exact SB.drewN HV1.out _ | exact SB.drew HV1.out) hb8)
  replace HS1 := Lib.hid (SB.keep (by first | exact HS1.out | exact SB.drewN HS1.out _ | exact SB.drew HS1.out) hb8)
  replace HT6 := Lib.hid (SB.keep (by first | exact HT6.out | exact SB.drewN HT6.out _ | exact SB.drew HT6.out) hb8)
  replace HU6 := Lib.hid (SB.keep (by first | exact HU6.out | exact SB.drewN HU6.out _ | exact SB.drew HU6.out) hb8)
  replace HT7 := Lib.hid (SB.keep (by first | exact HT7.out | exact SB.drewN HT7.out _ | exact SB.drew HT7.out) hb8)
  replace HU7 := Lib.hid (SB.keep (by first | exact HU7.out | exact SB.drewN HU7.out _ | exact SB.drew HU7.out) hb8)
  replace hbw := Below.trans (by first | exact hbw | exact below_drewN hbw _ | exact Below.drew hbw) (Below.mono hb8 (by (try simp only [World.heap_drewN, World.size_drew]); omega))
  clear hb8 hyy hzz
  have hcHA := HA.out.cells
  have hcHB := HB.out.cells
  have hcHX := HX.out.cells
  have hcHY := HY.out.cells
  have hfHA := HA.out.fro
  have hfHB := HB.out.fro
  have hfHX := HX.out.fro
  have hfHY := HY.out.fro
  go_wp2_with fail
  clear hcHA hfHA
  clear hcHB hfHB
  clear hcHX hfHX
  clear hcHY hfHY
  refine wp_region_held_drew (S := (fun W => (∀ i, i < 10 → W.cell? ⟨w.heap.size, i, none⟩ = ([.slice so0 ss0.length sc0, .float .f32 l0, .float .f32 s0, .slice ao0 cs0.length ac0, .int .i64 x0, .float .f32 a0, .float .f32 b0, .float .f32 c0, .float .f32 d0, .int .i64 y0] : List Value)[i]?) ∧ (∀ i, i < 10 → W.cell? ⟨w.heap.size + 1, i, none⟩ = ([.slice so1 ss1.length sc1, .float .f32 l1, .float .f32 s1, .slice ao1 cs1.length ac1, .int .i64 x1, .float .f32 a1, .float .f32 b1, .float .f32 c1, .float .f32 d1, .int .i64 y1] : List Value)[i]?) ∧ (∀ i, i < 10 → W.cell? ⟨w6.heap.size, i, none⟩ = ([.slice to6 ss0.length tc6, .float .f32 l0, .float .f32 s0, .slice uo6 cs0.length uc6, .int .i64 x0, .float .f32 a0, .float .f32 b0, .float .f32 c0, .float .f32 d0, .int .i64 y0] : List Value)[i]?) ∧ (∀ i, i < 10 → W.cell? ⟨w7.heap.size, i, none⟩ = ([.slice to7 ss1.length tc7, .float .f32 l1, .float .f32 s1, .slice uo7 cs1.length uc7, .int .i64 x1, .float .f32 a1, .float .f32 b1, .float .f32 c1, .float .f32 d1, .int .i64 y1] : List Value)[i]?))) (by kernel_rfl) (by first | exact ⟨HA.out.cells, HB.out.cells, HX.out.cells, HY.out.cells⟩ | exact ⟨(BK.drew HA.out).cells, (BK.drew HB.out).cells, (BK.drew HX.out).cells, (BK.drew HY.out).cells⟩ | exact ⟨(BK.drewN HA.out _).cells, (BK.drewN HB.out _).cells, (BK.drewN HX.out _).cells, (BK.drewN HY.out _).cells⟩) (fun hH0 => ?_)
  refine wpAnyH_take (i := 0) (oi := { dst := some 35, op := Op.load 60 (Operand.tmp 7), type := 60, pos := "exact.go:6637", after := #[], guard := none }) (v := ?_) rfl (by kernel_rfl) (by kernel_rfl) (by kernel_rfl) (fun _ _ _ h => h) (Or.inl ⟨by rfl, ?_⟩) hH0 ?_
  rotate_left
  · (intro w hSw; (try dsimp only at hSw); go_simp; try with_reducible rfl)
  (try simp only [Act.put, List.setIfInBounds_toArray, List.set_cons_zero, List.set_cons_succ])
  refine wpAnyH_take (i := 1) (oi := { dst := some 36, op := Op.load 68 (Operand.tmp 2), type := 68, pos := "exact.go:6637", after := #[], guard := none }) (v := ?_) rfl (by kernel_rfl) (by kernel_rfl) (by kernel_rfl) (fun _ _ _ h => h) (Or.inl ⟨by rfl, ?_⟩) hH0 ?_
  rotate_left
  · (intro w hSw; (try dsimp only at hSw); go_simp; try with_reducible rfl)
  (try simp only [Act.put, List.setIfInBounds_toArray, List.set_cons_zero, List.set_cons_succ])
  refine wpAnyH_ready (rs := [2]) (by kernel_rfl) (by simp) (AllReadyH.cons (o := { dst := some 37, op := Op.call { callee := Callee.value (Operand.func 45), args := #[Operand.tmp 36], argTypes := #[68] }, type := 60, pos := "exact.go:6637", after := #[{ on := 1, ground := Ground.data }], guard := none }) rfl (fun K hK => ?e6) AllReadyH.nil)
  go_simp
  go_at_call 45
  refine (l_toDesk _ ss0 _ _ _ cs0 _ _ _ _ _ _ _ (by first | exact HS0.out | exact SB.drewN HS0.out _ | exact SB.drew HS0.out) (by first | exact HV0.out | exact SB.drewN HV0.out _ | exact SB.drew HV0.out) hk0 hm0).mono ?_
  rintro z wk0 ⟨⟨tk0, uk0, rfl, htk0, huk0, hltk0⟩, hbk0⟩
  clear hltk0
  have hyy := hbk0.size
  (try simp only [World.heap_drewN, World.size_drew] at hyy)
  have hzz := hbw.size
  replace HA := Lib.hid (BK.keep (by first | exact HA.out | exact BK.drewN HA.out _ | exact BK.drew HA.out) hbk0)
  replace HB := Lib.hid (BK.keep (by first | exact HB.out | exact BK.drewN HB.out _ | exact BK.drew HB.out) hbk0)
  replace HX := Lib.hid (BK.keep (by first | exact HX.out | exact BK.drewN HX.out _ | exact BK.drew HX.out) hbk0)
  replace HY := Lib.hid (BK.keep (by first | exact HY.out | exact BK.drewN HY.out _ | exact BK.drew HY.out) hbk0)
  replace HV0 := Lib.hid (SB.keep (by first | exact HV0.out | exact SB.drewN HV0.out _ | exact SB.drew HV0.out) hbk0)
  replace HS0 := Lib.hid (SB.keep (by first | exact HS0.out | exact SB.drewN HS0.out _ | exact SB.drew HS0.out) hbk0)
  replace HV1 := Lib.hid (SB.keep (by first | exact HV1.out | exact SB.drewN HV1.out _ | exact SB.drew HV1.out) hbk0)
  replace HS1 := Lib.hid (SB.keep (by first | exact HS1.out | exact SB.drewN HS1.out _ | exact SB.drew HS1.out) hbk0)
  replace HT6 := Lib.hid (SB.keep (by first | exact HT6.out | exact SB.drewN HT6.out _ | exact SB.drew HT6.out) hbk0)
  replace HU6 := Lib.hid (SB.keep (by first | exact HU6.out | exact SB.drewN HU6.out _ | exact SB.drew HU6.out) hbk0)
  replace HT7 := Lib.hid (SB.keep (by first | exact HT7.out | exact SB.drewN HT7.out _ | exact SB.drew HT7.out) hbk0)
  replace HU7 := Lib.hid (SB.keep (by first | exact HU7.out | exact SB.drewN HU7.out _ | exact SB.drew HU7.out) hbk0)
  replace hbw := Below.trans (by first | exact hbw | exact below_drewN hbw _ | exact Below.drew hbw) (Below.mono hbk0 (by (try simp only [World.heap_drewN, World.size_drew]); omega))
  clear hbk0 hyy hzz
  obtain ⟨tok0, tck0, rfl, hqk0⟩ := htk0.sb.sl.slice
  obtain ⟨uok0, uck0, rfl, hrk0⟩ := huk0.sb.sl.slice
  clear hqk0 hrk0
  have HTk0 := Lib.hid htk0.sb
  have HUk0 := Lib.hid huk0.sb
  clear htk0 huk0
  refine hK.out _ _ (by first | exact ⟨HA.out.cells, HB.out.cells, HX.out.cells, HY.out.cells⟩ | exact ⟨(BK.drew HA.out).cells, (BK.drew HB.out).cells, (BK.drew HX.out).cells, (BK.drew HY.out).cells⟩ | exact ⟨(BK.drewN HA.out _).cells, (BK.drewN HB.out _).cells, (BK.drewN HX.out _).cells, (BK.drewN HY.out _).cells⟩) (fun hH1 => ?_)
  clear hK K hH0
  (try simp only [Act.put, List.setIfInBounds_toArray, List.set_cons_zero, List.set_cons_succ])
  refine wpAnyH_ready (rs := [3]) (by kernel_rfl) (by simp) (AllReadyH.cons (o := { dst := some 38, op := Op.call { callee := Callee.value (Operand.func 40), args := #[Operand.tmp 35, Operand.tmp 37], argTypes := #[60, 60] }, type := 4, pos := "exact.go:6637", after := #[{ on := 0, ground := Ground.data }, { on := 2, ground := Ground.data }, { on := 2, ground := Ground.chain }], guard := none }) rfl (fun K hK => ?e7) AllReadyH.nil)
  go_simp
  go_at_call 40
  refine (l_eqDesk _ _ _ _ ss0 cs0 _ _ _ _ _ _ _ _ _ _ _ _ _ _ _ (DS.mk (SB.sl (by first | exact HT6.out | exact SB.drewN HT6.out _ | exact SB.drew HT6.out)) (SB.sl (by first | exact HTk0.out | exact SB.drewN HTk0.out _ | exact SB.drew HTk0.out)) (SB.sl (by first | exact HU6.out | exact SB.drewN HU6.out _ | exact SB.drew HU6.out)) (SB.sl (by first | exact HUk0.out | exact SB.drewN HUk0.out _ | exact SB.drew HUk0.out)) rfl)).mono ?_
  rintro z w9 ⟨rfl, hb9⟩
  have hyy := hb9.size
  (try simp only [World.heap_drewN, World.size_drew] at hyy)
  have hzz := hbw.size
  replace HA := Lib.hid (BK.keep (by first | exact HA.out | exact BK.drewN HA.out _ | exact BK.drew HA.out) hb9)
  replace HB := Lib.hid (BK.keep (by first | exact HB.out | exact BK.drewN HB.out _ | exact BK.drew HB.out) hb9)
  replace HX := Lib.hid (BK.keep (by first | exact HX.out | exact BK.drewN HX.out _ | exact BK.drew HX.out) hb9)
  replace HY := Lib.hid (BK.keep (by first | exact HY.out | exact BK.drewN HY.out _ | exact BK.drew HY.out) hb9)
  replace HV0 := Lib.hid (SB.keep (by first | exact HV0.out | exact SB.drewN HV0.out _ | exact SB.drew HV0.out) hb9)
  replace HS0 := Lib.hid (SB.keep (by first | exact HS0.out | exact SB.drewN HS0.out _ | exact SB.drew HS0.out) hb9)
  replace HV1 := Lib.hid (SB.keep (by first | exact HV1.out | exact SB.drewN HV1.out _ | exact SB.drew HV1.out) hb9)
  replace HS1 := Lib.hid (SB.keep (by first | exact HS1.out | exact SB.drewN HS1.out _ | exact SB.drew HS1.out) hb9)
  replace HT6 := Lib.hid (SB.keep (by first | exact HT6.out | exact SB.drewN HT6.out _ | exact SB.drew HT6.out) hb9)
  replace HU6 := Lib.hid (SB.keep (by first | exact HU6.out | exact SB.drewN HU6.out _ | exact SB.drew HU6.out) hb9)
  replace HT7 := Lib.hid (SB.keep (by first | exact HT7.out | exact SB.drewN HT7.out _ | exact SB.drew HT7.out) hb9)
  replace HU7 := Lib.hid (SB.keep (by first | exact HU7.out | exact SB.drewN HU7.out _ | exact SB.drew HU7.out) hb9)
  replace HTk0 := Lib.hid (SB.keep (by first | exact HTk0.out | exact SB.drewN HTk0.out _ | exact SB.drew HTk0.out) hb9)
  replace HUk0 := Lib.hid (SB.keep (by first | exact HUk0.out | exact SB.drewN HUk0.out _ | exact SB.drew HUk0.out) hb9)
  replace hbw := Below.trans (by first | exact hbw | exact below_drewN hbw _ | exact Below.drew hbw) (Below.mono hb9 (by (try simp only [World.heap_drewN, World.size_drew]); omega))
  clear hb9 hyy hzz
  clear HTk0 HUk0
  refine hK.out _ _ (by first | exact ⟨HA.out.cells, HB.out.cells, HX.out.cells, HY.out.cells⟩ | exact ⟨(BK.drew HA.out).cells, (BK.drew HB.out).cells, (BK.drew HX.out).cells, (BK.drew HY.out).cells⟩ | exact ⟨(BK.drewN HA.out _).cells, (BK.drewN HB.out _).cells, (BK.drewN HX.out _).cells, (BK.drewN HY.out _).cells⟩) (fun hH2 => ?_)
  clear hK K hH1
  (try simp only [Act.put, List.setIfInBounds_toArray, List.set_cons_zero, List.set_cons_succ])
  refine wpAnyH_take (i := 4) (oi := { dst := some 39, op := Op.unOp UnOp.not 4 (Operand.tmp 38), type := 4, pos := "exact.go:6637", after := #[{ on := 3, ground := Ground.data }], guard := none }) (v := ?_) rfl (by kernel_rfl) (by kernel_rfl) (by kernel_rfl) (fun _ _ _ h => h) (Or.inl ⟨by rfl, ?_⟩) hH2 ?_
  rotate_left
  · (intro w hSw; (try dsimp only at hSw); go_simp; try with_reducible rfl)
  (try simp only [Act.put, List.setIfInBounds_toArray, List.set_cons_zero, List.set_cons_succ])
  refine wpAnyH_done (by kernel_rfl) ?_ _
  clear hH2
  have hcHA := HA.out.cells
  have hcHB := HB.out.cells
  have hcHX := HX.out.cells
  have hcHY := HY.out.cells
  have hfHA := HA.out.fro
  have hfHB := HB.out.fro
  have hfHX := HX.out.fro
  have hfHY := HY.out.fro
  go_wp2_with fail
  clear hcHA hfHA
  clear hcHB hfHB
  clear hcHX hfHX
  clear hcHY hfHY
  refine wp_region_held_drew (S := (fun W => (∀ i, i < 10 → W.cell? ⟨w.heap.size, i, none⟩ = ([.slice so0 ss0.length sc0, .float .f32 l0, .float .f32 s0, .slice ao0 cs0.length ac0, .int .i64 x0, .float .f32 a0, .float .f32 b0, .float .f32 c0, .float .f32 d0, .int .i64 y0] : List Value)[i]?) ∧ (∀ i, i < 10 → W.cell? ⟨w.heap.size + 1, i, none⟩ = ([.slice so1 ss1.length sc1, .float .f32 l1, .float .f32 s1, .slice ao1 cs1.length ac1, .int .i64 x1, .float .f32 a1, .float .f32 b1, .float .f32 c1, .float .f32 d1, .int .i64 y1] : List Value)[i]?) ∧ (∀ i, i < 10 → W.cell? ⟨w6.heap.size, i, none⟩ = ([.slice to6 ss0.length tc6, .float .f32 l0, .float .f32 s0, .slice uo6 cs0.length uc6, .int .i64 x0, .float .f32 a0, .float .f32 b0, .float .f32 c0, .float .f32 d0, .int .i64 y0] : List Value)[i]?) ∧ (∀ i, i < 10 → W.cell? ⟨w7.heap.size, i, none⟩ = ([.slice to7 ss1.length tc7, .float .f32 l1, .float .f32 s1, .slice uo7 cs1.length uc7, .int .i64 x1, .float .f32 a1, .float .f32 b1, .float .f32 c1, .float .f32 d1, .int .i64 y1] : List Value)[i]?))) (by kernel_rfl) (by first | exact ⟨HA.out.cells, HB.out.cells, HX.out.cells, HY.out.cells⟩ | exact ⟨(BK.drew HA.out).cells, (BK.drew HB.out).cells, (BK.drew HX.out).cells, (BK.drew HY.out).cells⟩ | exact ⟨(BK.drewN HA.out _).cells, (BK.drewN HB.out _).cells, (BK.drewN HX.out _).cells, (BK.drewN HY.out _).cells⟩) (fun hH0 => ?_)
  refine wpAnyH_take (i := 0) (oi := { dst := some 40, op := Op.load 60 (Operand.tmp 8), type := 60, pos := "exact.go:6640", after := #[], guard := none }) (v := ?_) rfl (by kernel_rfl) (by kernel_rfl) (by kernel_rfl) (fun _ _ _ h => h) (Or.inl ⟨by rfl, ?_⟩) hH0 ?_
  rotate_left
  · (intro w hSw; (try dsimp only at hSw); go_simp; try with_reducible rfl)
  (try simp only [Act.put, List.setIfInBounds_toArray, List.set_cons_zero, List.set_cons_succ])
  refine wpAnyH_take (i := 1) (oi := { dst := some 41, op := Op.load 68 (Operand.tmp 3), type := 68, pos := "exact.go:6640", after := #[], guard := none }) (v := ?_) rfl (by kernel_rfl) (by kernel_rfl) (by kernel_rfl) (fun _ _ _ h => h) (Or.inl ⟨by rfl, ?_⟩) hH0 ?_
  rotate_left
  · (intro w hSw; (try dsimp only at hSw); go_simp; try with_reducible rfl)
  (try simp only [Act.put, List.setIfInBounds_toArray, List.set_cons_zero, List.set_cons_succ])
  refine wpAnyH_ready (rs := [2]) (by kernel_rfl) (by simp) (AllReadyH.cons (o := { dst := some 42, op := Op.call { callee := Callee.value (Operand.func 45), args := #[Operand.tmp 41], argTypes := #[68] }, type := 60, pos := "exact.go:6640", after := #[{ on := 1, ground := Ground.data }], guard := none }) rfl (fun K hK => ?e8) AllReadyH.nil)
  go_simp
  go_at_call 45
  refine (l_toDesk _ ss1 _ _ _ cs1 _ _ _ _ _ _ _ (by first | exact HS1.out | exact SB.drewN HS1.out _ | exact SB.drew HS1.out) (by first | exact HV1.out | exact SB.drewN HV1.out _ | exact SB.drew HV1.out) hk1 hm1).mono ?_
  rintro z wk1 ⟨⟨tk1, uk1, rfl, htk1, huk1, hltk1⟩, hbk1⟩
  clear hltk1
  have hyy := hbk1.size
  (try simp only [World.heap_drewN, World.size_drew] at hyy)
  have hzz := hbw.size
  replace HA := Lib.hid (BK.keep (by first | exact HA.out | exact BK.drewN HA.out _ | exact BK.drew HA.out) hbk1)
  replace HB := Lib.hid (BK.keep (by first | exact HB.out | exact BK.drewN HB.out _ | exact BK.drew HB.out) hbk1)
  replace HX := Lib.hid (BK.keep (by first | exact HX.out | exact BK.drewN HX.out _ | exact BK.drew HX.out) hbk1)
  replace HY := Lib.hid (BK.keep (by first | exact HY.out | exact BK.drewN HY.out _ | exact BK.drew HY.out) hbk1)
  replace HV0 := Lib.hid (SB.keep (by first | exact HV0.out | exact SB.drewN HV0.out _ | exact SB.drew HV0.out) hbk1)
  replace HS0 := Lib.hid (SB.keep (by first | exact HS0.out | exact SB.drewN HS0.out _ | exact SB.drew HS0.out) hbk1)
  replace HV1 := Lib.hid (SB.keep (by first | exact HV1.out | exact SB.drewN HV1.out _ | exact SB.drew HV1.out) hbk1)
  replace HS1 := Lib.hid (SB.keep (by first | exact HS1.out | exact SB.drewN HS1.out _ | exact SB.drew HS1.out) hbk1)
  replace HT6 := Lib.hid (SB.keep (by first | exact HT6.out | exact SB.drewN HT6.out _ | exact SB.drew HT6.out) hbk1)
  replace HU6 := Lib.hid (SB.keep (by first | exact HU6.out | exact SB.drewN HU6.out _ | exact SB.drew HU6.out) hbk1)
  replace HT7 := Lib.hid (SB.keep (by first | exact HT7.out | exact SB.drewN HT7.out _ | exact SB.drew HT7.out) hbk1)
  replace HU7 := Lib.hid (SB.keep (by first | exact HU7.out | exact SB.drewN HU7.out _ | exact SB.drew HU7.out) hbk1)
  replace hbw := Below.trans (by first | exact hbw | exact below_drewN hbw _ | exact Below.drew hbw) (Below.mono hbk1 (by (try simp only [World.heap_drewN, World.size_drew]); omega))
  clear hbk1 hyy hzz
  obtain ⟨tok1, tck1, rfl, hqk1⟩ := htk1.sb.sl.slice
  obtain ⟨uok1, uck1, rfl, hrk1⟩ := huk1.sb.sl.slice
  clear hqk1 hrk1
  have HTk1 := Lib.hid htk1.sb
  have HUk1 := Lib.hid huk1.sb
  clear htk1 huk1
  refine hK.out _ _ (by first | exact ⟨HA.out.cells, HB.out.cells, HX.out.cells, HY.out.cells⟩ | exact ⟨(BK.drew HA.out).cells, (BK.drew HB.out).cells, (BK.drew HX.out).cells, (BK.drew HY.out).cells⟩ | exact ⟨(BK.drewN HA.out _).cells, (BK.drewN HB.out _).cells, (BK.drewN HX.out _).cells, (BK.drewN HY.out _).cells⟩) (fun hH1 => ?_)
  clear hK K hH0
  (try simp only [Act.put, List.setIfInBounds_toArray, List.set_cons_zero, List.set_cons_succ])
  refine wpAnyH_ready (rs := [3]) (by kernel_rfl) (by simp) (AllReadyH.cons (o := { dst := some 43, op := Op.call { callee := Callee.value (Operand.func 40), args := #[Operand.tmp 40, Operand.tmp 42], argTypes := #[60, 60] }, type := 4, pos := "exact.go:6640", after := #[{ on := 0, ground := Ground.data }, { on := 2, ground := Ground.data }, { on := 2, ground := Ground.chain }], guard := none }) rfl (fun K hK => ?e9) AllReadyH.nil)
  go_simp
  go_at_call 40
  refine (l_eqDesk _ _ _ _ ss1 cs1 _ _ _ _ _ _ _ _ _ _ _ _ _ _ _ (DS.mk (SB.sl (by first | exact HT7.out | exact SB.drewN HT7.out _ | exact SB.drew HT7.out)) (SB.sl (by first | exact HTk1.out | exact SB.drewN HTk1.out _ | exact SB.drew HTk1.out)) (SB.sl (by first | exact HU7.out | exact SB.drewN HU7.out _ | exact SB.drew HU7.out)) (SB.sl (by first | exact HUk1.out | exact SB.drewN HUk1.out _ | exact SB.drew HUk1.out)) rfl)).mono ?_
  rintro z w9 ⟨rfl, hb9⟩
  have hyy := hb9.size
  (try simp only [World.heap_drewN, World.size_drew] at hyy)
  have hzz := hbw.size
  replace HA := Lib.hid (BK.keep (by first | exact HA.out | exact BK.drewN HA.out _ | exact BK.drew HA.out) hb9)
  replace HB := Lib.hid (BK.keep (by first | exact HB.out | exact BK.drewN HB.out _ | exact BK.drew HB.out) hb9)
  replace HX := Lib.hid (BK.keep (by first | exact HX.out | exact BK.drewN HX.out _ | exact BK.drew HX.out) hb9)
  replace HY := Lib.hid (BK.keep (by first | exact HY.out | exact BK.drewN HY.out _ | exact BK.drew HY.out) hb9)
  replace HV0 := Lib.hid (SB.keep (by first | exact HV0.out | exact SB.drewN HV0.out _ | exact SB.drew HV0.out) hb9)
  replace HS0 := Lib.hid (SB.keep (by first | exact HS0.out | exact SB.drewN HS0.out _ | exact SB.drew HS0.out) hb9)
  replace HV1 := Lib.hid (SB.keep (by first | exact HV1.out | exact SB.drewN HV1.out _ | exact SB.drew HV1.out) hb9)
  replace HS1 := Lib.hid (SB.keep (by first | exact HS1.out | exact SB.drewN HS1.out _ | exact SB.drew HS1.out) hb9)
  replace HT6 := Lib.hid (SB.keep (by first | exact HT6.out | exact SB.drewN HT6.out _ | exact SB.drew HT6.out) hb9)
  replace HU6 := Lib.hid (SB.keep (by first | exact HU6.out | exact SB.drewN HU6.out _ | exact SB.drew HU6.out) hb9)
  replace HT7 := Lib.hid (SB.keep (by first | exact HT7.out | exact SB.drewN HT7.out _ | exact SB.drew HT7.out) hb9)
  replace HU7 := Lib.hid (SB.keep (by first | exact HU7.out | exact SB.drewN HU7.out _ | exact SB.drew HU7.out) hb9)
  replace HTk1 := Lib.hid (SB.keep (by first | exact HTk1.out | exact SB.drewN HTk1.out _ | exact SB.drew HTk1.out) hb9)
  replace HUk1 := Lib.hid (SB.keep (by first | exact HUk1.out | exact SB.drewN HUk1.out _ | exact SB.drew HUk1.out) hb9)
  replace hbw := Below.trans (by first | exact hbw | exact below_drewN hbw _ | exact Below.drew hbw) (Below.mono hb9 (by (try simp only [World.heap_drewN, World.size_drew]); omega))
  clear hb9 hyy hzz
  refine hK.out _ _ (by first | exact ⟨HA.out.cells, HB.out.cells, HX.out.cells, HY.out.cells⟩ | exact ⟨(BK.drew HA.out).cells, (BK.drew HB.out).cells, (BK.drew HX.out).cells, (BK.drew HY.out).cells⟩ | exact ⟨(BK.drewN HA.out _).cells, (BK.drewN HB.out _).cells, (BK.drewN HX.out _).cells, (BK.drewN HY.out _).cells⟩) (fun hH2 => ?_)
  clear hK K hH1
  (try simp only [Act.put, List.setIfInBounds_toArray, List.set_cons_zero, List.set_cons_succ])
  refine wpAnyH_take (i := 4) (oi := { dst := some 44, op := Op.unOp UnOp.not 4 (Operand.tmp 43), type := 4, pos := "exact.go:6640", after := #[{ on := 3, ground := Ground.data }], guard := none }) (v := ?_) rfl (by kernel_rfl) (by kernel_rfl) (by kernel_rfl) (fun _ _ _ h => h) (Or.inl ⟨by rfl, ?_⟩) hH2 ?_
  rotate_left
  · (intro w hSw; (try dsimp only at hSw); go_simp; try with_reducible rfl)
  (try simp only [Act.put, List.setIfInBounds_toArray, List.set_cons_zero, List.set_cons_succ])
  refine wpAnyH_done (by kernel_rfl) ?_ _
  clear hH2
  go_wp2_with fail
  go_ret
  exact ⟨rfl, by first | exact hbw | exact below_drewN hbw _ | exact Below.drew hbw⟩
set_option maxRecDepth 100000 in
theorem FnExactSameDesk_lifted (os : Os) (started : os.Started) (H : Type) (enc : TypeId × Value → H) :
    ReturnsInHanded {} Try.checked os 11 .any (Rows.fnExactSameDeskSpec.pre6 enc Try.prog Try.f11 Rows.fnExactSameDeskRow.domain false) (Rows.fnExactSameDeskSpec.post enc Try.prog Try.f11 false true false false) := by
  refine returnsInHanded_of_change (C := Try.checked) own started (by kernel_rfl) Try.func11
    (ChangeSpec.witness6 (enc := enc) (C := Try.checked) false ⟨#[], #[.agg #[.slice none 0 0, .float .f32 0, .float .f32 0, .slice none 0 0, .int .i64 0, .float .f32 0, .float .f32 0, .float .f32 0, .float .f32 0, .int .i64 0], .agg #[.slice none 0 0, .float .f32 0, .float .f32 0, .slice none 0 0, .int .i64 0, .float .f32 0, .float .f32 0, .float .f32 0, .float .f32 0, .int .i64 0]], []⟩ 8 (by kernel_rfl) (by kernel_rfl) (by kernel_rfl) (by kernel_rfl)) ?_
  intro W base args ds gs before hval0 hW hcnd _
  have hval : ∀ (j : Nat) t v, Try.f11.params[j]? = some t → args[j]? = some v → Value.okWide Try.prog W .any base t v := hval0
  have hW' := hW
  obtain ⟨p, q, hA0, hV, rfl, hfz, hnd⟩ := hW
  have hA : DataW.TrodAll enc Try.prog W 0 (fun _ => true) true Try.f11.params.toList args.toList ds p := hA0
  rw [Try.params11] at hA hval
  obtain ⟨v0, vs0, d0, ds0, p0, q0, hargs, rfl, rfl, h0, r0⟩ := trodAll_cons hA
  obtain ⟨v1, vs1, d1, ds1, p1, q1, rfl, rfl, rfl, h1, r1⟩ := trodAll_cons r0
  obtain ⟨rfl, rfl, rfl⟩ := trodAll_nil r1
  obtain rfl : args = #[v0, v1] := by cases args; simp_all
  obtain ⟨rfl, rfl⟩ := trodVars_none hV
  have k0 := h0
  have lt0 : ∀ x ∈ p0, x.block < W.heap.size := by obtain ⟨m, hm⟩ := k0; exact DataW.trod_lt m _ _ _ hm
  have k1 := h1
  have lt1 : ∀ x ∈ p1, x.block < W.heap.size := by obtain ⟨m, hm⟩ := k1; exact DataW.trod_lt m _ _ _ hm
  obtain ⟨sv0, l0, s0, z0, x0, a0', b0', c0', e0', y0, ss0, cs0, rfl, hss0, hcs0, hn0, hx0, hy0⟩ := open_desk (hval 0 68 v0 rfl rfl) h0
  obtain ⟨sv1, l1, s1, z1, x1, a1', b1', c1', e1', y1, ss1, cs1, rfl, hss1, hcs1, hn1, hx1, hy1⟩ := open_desk (hval 1 68 v1 rfl rfl) h1
  clear hA0 hval0
  refine (FnExactSameDesk_walk (w := W) _ ss0 _ _ _ cs0 _ _ _ _ _ _ hss0 hcs0 hn0 _ ss1 _ _ _ cs1 _ _ _ _ _ _ hss1 hcs1 hn1).mono fun e W' ⟨he, bel⟩ => ?_
  subst he
  exact ⟨_, rfl, _, _, _, [], _, [], hW', trodAll_mk1 (shut_bool Try.underlying4 _), (trodAll_cons_mk (Below.trod laidOut (by kernel_rfl) (of_decide_eq_true (by kernel_rfl)) k0 bel lt0) (trodAll_cons_mk (Below.trod laidOut (by kernel_rfl) (of_decide_eq_true (by kernel_rfl)) k1 bel lt1) trodAll_mk0)), rfl, bel.frame _, fun h => by cases h⟩

theorem fnExactSameDesk_holds : Rows.FnExactSameDeskSaid :=
  OpenClaim.holds_of_wide 11 Try.f11 rfl rfl rfl rfl rfl rfl rfl ⟨rfl, rfl, rfl, rfl, rfl⟩ rfl rfl rfl rfl rfl (by kernel_rfl) Try.func11 (by kernel_rfl)
    (of_decide_eq_true (by kernel_rfl)) (by unfold Func.isWrapper; first | (rw [if_pos (by decide +kernel)]; kernel_rfl) | (rw [if_neg (by decide +kernel)]; exact ⟨rfl, rfl⟩))
    (fun os started H enc _ => FnExactSameDesk_lifted os started H enc)
#print axioms fnExactSameDesk_holds

end Go.Proofs.Ytfckfdaloamkdaa
