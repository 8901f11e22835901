/- THE LAW FnExactValidDesk: the program's ValidDesk returns what the reference's returns, for all arguments. No condition. -/
import Derived.Test.YtfckfdaloamkdaaLawKit
import Derived.Test.YtfckfdaloamkdaaK53d
import Derived.Test.YtfckfdaloamkdaaK31
import Derived.Test.YtfckfdaloamkdaaOpen3
namespace Go.Proofs.Ytfckfdaloamkdaa
set_option linter.unusedSimpArgs false
set_option linter.unusedVariables false
set_option maxRecDepth 100000
set_option maxHeartbeats 4000000
open Go.ChangeShapes Go.WideShapes Go.ChangeAt Go.RowKit
set_option linter.unusedVariables false
set_option linter.unusedSimpArgs false
attribute [local go_sem] run_store_float run_store_complex alloc_drewN setCell_drewN


set_option maxRecDepth 100000 in
set_option maxHeartbeats 20000000 in
theorem FnExactValidDesk_walk (w : World) (sv0 : Value) (ss0 : List Nat) (l0 s0 : Nat) (v0 : Value) (cs0 : List Nat) (x0 : Int) (a0 b0 c0 d0 : Nat) (y0 : Int) (hs0 : SB w sv0 ss0) (hv0 : SB w v0 cs0) (hn0 : ∀ z ∈ [l0, s0, a0, b0, c0, d0], z < 4294967296) :
    Calls Try.prog 12 #[.agg #[sv0, .float .f32 l0, .float .f32 s0, v0, .int .i64 x0, .float .f32 a0, .float .f32 b0, .float .f32 c0, .float .f32 d0, .int .i64 y0]] w fun z w' => z = .returned (.bool true) ∧ Below w.heap.size w w' := by
  obtain ⟨ao0, ac0, rfl, hlv0⟩ := hv0.sl.slice
  obtain ⟨so0, sc0, rfl, hls0⟩ := hs0.sl.slice
  have HV0 := Lib.hid hv0
  have HS0 := Lib.hid hs0
  have HN0 := Lib.hid hn0
  clear hv0 hs0 hn0 hlv0 hls0
  by_cases h1 : (ss0.length : Int) + cs0.length ≤ 1048576
  case neg =>
    go_enter Try.func12, Try.ntmps12
    go_wp2_with fail
    refine (l_szDesk _ ss0 _ _ _ cs0 _ _ _ _ _ _ 1048576 _ (SB.keep HS0.out (by (repeat (first | with_reducible exact Below.refl _ _ | with_reducible assumption | with_reducible refine below_drewN ?_ _ | with_reducible refine Below.drew ?_ | with_reducible refine Below.alloc ?_ (by first | omega | (simp; omega) | (simp; done) | (simp at *; omega)) _ | with_reducible refine Below.setCell ?_ (by first | omega | (simp; omega) | (simp; done) | (simp at *; omega)) _ | refine Below.trans ?_ (Below.mono (by with_reducible assumption) (by first | omega | (simp; omega) | (simp; done) | (simp at *; omega))))))).sl (SB.keep HV0.out (by (repeat (first | with_reducible exact Below.refl _ _ | with_reducible assumption | with_reducible refine below_drewN ?_ _ | with_reducible refine Below.drew ?_ | with_reducible refine Below.alloc ?_ (by first | omega | (simp; omega) | (simp; done) | (simp at *; omega)) _ | with_reducible refine Below.setCell ?_ (by first | omega | (simp; omega) | (simp; done) | (simp at *; omega)) _ | refine Below.trans ?_ (Below.mono (by with_reducible assumption) (by first | omega | (simp; omega) | (simp; done) | (simp at *; omega))))))).sl (by omega) (by omega)).mono ?_
    rintro z w1 ⟨rfl, hb1⟩
    have HA := Lib.hid (show BK w1 (w.heap.size) [.slice so0 ss0.length sc0, .float .f32 l0, .float .f32 s0, .slice ao0 cs0.length ac0, .int .i64 x0, .float .f32 a0, .float .f32 b0, .float .f32 c0, .float .f32 d0, .int .i64 y0] from BK.keep (BK.newAt (n := w.heap.size) _ _ _ (by simp)) hb1)
    have hbw : Below w.heap.size w w1 := (by (repeat (first | with_reducible exact Below.refl _ _ | with_reducible assumption | with_reducible refine below_drewN ?_ _ | with_reducible refine Below.drew ?_ | with_reducible refine Below.alloc ?_ (by first | omega | (simp; omega) | (simp; done) | (simp at *; omega)) _ | with_reducible refine Below.setCell ?_ (by first | omega | (simp; omega) | (simp; done) | (simp at *; omega)) _ | refine Below.trans ?_ (Below.mono (by with_reducible assumption) (by first | omega | (simp; omega) | (simp; done) | (simp at *; omega))))))
    clear hb1
    replace HV0 := Lib.hid (SB.keep HV0.out hbw)
    replace HS0 := Lib.hid (SB.keep HS0.out hbw)
    have hcHA := HA.out.cells
    have hfHA := HA.out.fro
    rw [szD, if_neg (by omega)]
    go_wp2_with fail
    go_ret
    exact ⟨rfl, by first | exact hbw | exact below_drewN hbw _ | exact Below.drew hbw⟩
  have hk0 : cs0.length < 1099511627776 := by omega
  have hm0 : ss0.length < 1099511627776 := by omega
  generalize hQ : deskB ss0 (cn .f32 l0) (cn .f32 s0) cs0 x0 (cn .f32 a0) (cn .f32 b0) (cn .f32 c0) (cn .f32 d0) y0 = Q
  have HQ := Lib.hid hQ
  clear hQ
  go_enter Try.func12, Try.ntmps12
  go_wp2_with fail
  refine (l_szDesk _ ss0 _ _ _ cs0 _ _ _ _ _ _ 1048576 _ (SB.keep HS0.out (by (repeat (first | with_reducible exact Below.refl _ _ | with_reducible assumption | with_reducible refine below_drewN ?_ _ | with_reducible refine Below.drew ?_ | with_reducible refine Below.alloc ?_ (by first | omega | (simp; omega) | (simp; done) | (simp at *; omega)) _ | with_reducible refine Below.setCell ?_ (by first | omega | (simp; omega) | (simp; done) | (simp at *; omega)) _ | refine Below.trans ?_ (Below.mono (by with_reducible assumption) (by first | omega | (simp; omega) | (simp; done) | (simp at *; omega))))))).sl (SB.keep HV0.out (by (repeat (first | with_reducible exact Below.refl _ _ | with_reducible assumption | with_reducible refine below_drewN ?_ _ | with_reducible refine Below.drew ?_ | with_reducible refine Below.alloc ?_ (by first | omega | (simp; omega) | (simp; done) | (simp at *; omega)) _ | with_reducible refine Below.setCell ?_ (by first | omega | (simp; omega) | (simp; done) | (simp at *; omega)) _ | refine Below.trans ?_ (Below.mono (by with_reducible assumption) (by first | omega | (simp; omega) | (simp; done) | (simp at *; omega))))))).sl (by omega) (by omega)).mono ?_
  rintro z w1 ⟨rfl, hb1⟩
  have HA := Lib.hid (show BK w1 (w.heap.size) [.slice so0 ss0.length sc0, .float .f32 l0, .float .f32 s0, .slice ao0 cs0.length ac0, .int .i64 x0, .float .f32 a0, .float .f32 b0, .float .f32 c0, .float .f32 d0, .int .i64 y0] from BK.keep (BK.newAt (n := w.heap.size) _ _ _ (by simp)) hb1)
  have hbw : Below w.heap.size w w1 := (by (repeat (first | with_reducible exact Below.refl _ _ | with_reducible assumption | with_reducible refine below_drewN ?_ _ | with_reducible refine Below.drew ?_ | with_reducible refine Below.alloc ?_ (by first | omega | (simp; omega) | (simp; done) | (simp at *; omega)) _ | with_reducible refine Below.setCell ?_ (by first | omega | (simp; omega) | (simp; done) | (simp at *; omega)) _ | refine Below.trans ?_ (Below.mono (by with_reducible assumption) (by first | omega | (simp; omega) | (simp; done) | (simp at *; omega))))))
  clear hb1
  replace HV0 := Lib.hid (SB.keep HV0.out hbw)
  replace HS0 := Lib.hid (SB.keep HS0.out hbw)
  have hcHA := HA.out.cells
  have hfHA := HA.out.fro
  rw [szD, if_pos h1]
  go_wp2_with fail
  refine (l_toDesk _ ss0 _ _ _ cs0 _ _ _ _ _ _ _ (by first | exact HS0.out | exact SB.drewN HS0.out _ | exact SB.drew HS0.out) (by first | exact HV0.out | exact SB.drewN HV0.out _ | exact SB.drew HV0.out) hk0 hm0).mono ?_
  rintro z w3 ⟨⟨t3, u3, rfl, ht3, hu3, hlt3⟩, hb3⟩
  clear hlt3
  clear hcHA hfHA
  have hyy := hb3.size
  (try simp only [World.heap_drewN, World.size_drew] at hyy)
  have hzz := hbw.size
  replace HA := Lib.hid (BK.keep (by first | exact HA.out | exact BK.drewN HA.out _ | exact BK.drew HA.out) hb3)
  replace HV0 := Lib.hid (SB.keep (by first | exact HV0.out | exact SB.drewN HV0.out _ | exact SB.drew HV0.out) hb3)
  replace HS0 := Lib.hid (SB.keep (by first | exact HS0.out | exact SB.drewN HS0.out _ | exact SB.drew HS0.out) hb3)
  replace hbw := Below.trans (by first | exact hbw | exact below_drewN hbw _ | exact Below.drew hbw) (Below.mono hb3 (by (try simp only [World.heap_drewN, World.size_drew]); omega))
  clear hb3 hyy hzz
  obtain ⟨to3, tc3, rfl, hq3⟩ := ht3.sb.sl.slice
  obtain ⟨uo3, uc3, rfl, hr3⟩ := hu3.sb.sl.slice
  clear hq3 hr3
  have HT3 := Lib.hid ht3.sb
  have HU3 := Lib.hid hu3.sb
  clear ht3 hu3
  have hcHA := HA.out.cells
  have hfHA := HA.out.fro
  go_wp2_with fail
  refine (s_ValidDesk _ ss0 _ _ _ cs0 _ _ _ _ _ _ _ (SB.sl (by first | exact HT3.out | exact SB.drewN HT3.out _ | exact SB.drew HT3.out)) (SB.sl (by first | exact HU3.out | exact SB.drewN HU3.out _ | exact SB.drew HU3.out))).mono ?_
  rintro z w4 ⟨rfl, hb4⟩
  rw [HQ.out]
  clear hcHA hfHA
  have hyy := hb4.size
  (try simp only [World.heap_drewN, World.size_drew] at hyy)
  have hzz := hbw.size
  replace HA := Lib.hid (BK.keep (by first | exact HA.out | exact BK.drewN HA.out _ | exact BK.drew HA.out) hb4)
  replace HV0 := Lib.hid (SB.keep (by first | exact HV0.out | exact SB.drewN HV0.out _ | exact SB.drew HV0.out) hb4)
  replace HS0 := Lib.hid (SB.keep (by first | exact HS0.out | exact SB.drewN HS0.out _ | exact SB.drew HS0.out) hb4)
  replace HT3 := Lib.hid (SB.keep (by first | exact HT3.out | exact SB.drewN HT3.out _ | exact SB.drew HT3.out) hb4)
  replace HU3 := Lib.hid (SB.keep (by first | exact HU3.out | exact SB.drewN HU3.out _ | exact SB.drew HU3.out) hb4)
  replace hbw := Below.trans (by first | exact hbw | exact below_drewN hbw _ | exact Below.drew hbw) (Below.mono hb4 (by (try simp only [World.heap_drewN, World.size_drew]); omega))
  clear hb4 hyy hzz
  clear HT3 HU3
  have hcHA := HA.out.cells
  have hfHA := HA.out.fro
  go_wp2_with fail
  refine (l_toDesk _ ss0 _ _ _ cs0 _ _ _ _ _ _ _ (by first | exact HS0.out | exact SB.drewN HS0.out _ | exact SB.drew HS0.out) (by first | exact HV0.out | exact SB.drewN HV0.out _ | exact SB.drew HV0.out) hk0 hm0).mono ?_
  rintro z w5 ⟨⟨t5, u5, rfl, ht5, hu5, hlt5⟩, hb5⟩
  clear hlt5
  clear hcHA hfHA
  have hyy := hb5.size
  (try simp only [World.heap_drewN, World.size_drew] at hyy)
  have hzz := hbw.size
  replace HA := Lib.hid (BK.keep (by first | exact HA.out | exact BK.drewN HA.out _ | exact BK.drew HA.out) hb5)
  replace HV0 := Lib.hid (SB.keep (by first | exact HV0.out | exact SB.drewN HV0.out _ | exact SB.drew HV0.out) hb5)
  replace HS0 := Lib.hid (SB.keep (by first | exact HS0.out | exact SB.drewN HS0.out _ | exact SB.drew HS0.out) hb5)
  replace hbw := Below.trans (by first | exact hbw | exact below_drewN hbw _ | exact Below.drew hbw) (Below.mono hb5 (by (try simp only [World.heap_drewN, World.size_drew]); omega))
  clear hb5 hyy hzz
  obtain ⟨to5, tc5, rfl, hq5⟩ := ht5.sb.sl.slice
  obtain ⟨uo5, uc5, rfl, hr5⟩ := hu5.sb.sl.slice
  clear hq5 hr5
  have HT5 := Lib.hid ht5.sb
  have HU5 := Lib.hid hu5.sb
  clear ht5 hu5
  have hcHA := HA.out.cells
  have hfHA := HA.out.fro
  go_wp2_with (clear hcHA hfHA; refine wpList_storeAgg (us := [.slice to5 ss0.length tc5, .float .f32 l0, .float .f32 s0, .slice uo5 cs0.length uc5, .int .i64 x0, .float .f32 a0, .float .f32 b0, .float .f32 c0, .float .f32 d0, .int .i64 y0]) (storeDk _ _ _ _ _ _ _ _ _ _ _ _ _ _ _ _) rfl rfl (by simp [Value.oneCell']) (BK.newAt (n := w5.heap.size) _ _ _ (by simp)) (by simp) ?_; intro WHX hB hO hL hZ hG; replace HA := Lib.hid (hO _ _ (BK.alloc (by first | exact HA.out | exact BK.drewN HA.out _ | exact BK.drew HA.out) _) (by have := HA.out.lt; (try simp only [World.heap_drewN] at this); omega)); replace HV0 := Lib.hid (SB.keep (by first | exact HV0.out | exact SB.drewN HV0.out _ | exact SB.drew HV0.out) (hL _ _ (Below.alloc (Below.refl _ _) (Nat.le_refl _) _) (by (try simp only [World.heap_drewN]); omega))); replace HS0 := Lib.hid (SB.keep (by first | exact HS0.out | exact SB.drewN HS0.out _ | exact SB.drew HS0.out) (hL _ _ (Below.alloc (Below.refl _ _) (Nat.le_refl _) _) (by (try simp only [World.heap_drewN]); omega))); replace HT5 := Lib.hid (SB.keep (by first | exact HT5.out | exact SB.drewN HT5.out _ | exact SB.drew HT5.out) (hL _ _ (Below.alloc (Below.refl _ _) (Nat.le_refl _) _) (by (try simp only [World.heap_drewN]); omega))); replace HU5 := Lib.hid (SB.keep (by first | exact HU5.out | exact SB.drewN HU5.out _ | exact SB.drew HU5.out) (hL _ _ (Below.alloc (Below.refl _ _) (Nat.le_refl _) _) (by (try simp only [World.heap_drewN]); omega))); replace hbw := hL _ _ (Below.alloc hbw (by have := hbw.size; omega) _) (by have := hbw.size; omega); have HX := Lib.hid hB; clear hB hO hL hG hZ; simp [setsAt] at HX; have hcHA := HA.out.cells; have hcHX := HX.out.cells; have hfHA := HA.out.fro; have hfHX := HX.out.fro)
  refine (i_ValidDesk _ ss0 _ _ _ cs0 _ _ _ _ _ _ _ (SB.sl (by first | exact HT5.out | exact SB.drewN HT5.out _ | exact SB.drew HT5.out)) (SB.sl (by first | exact HU5.out | exact SB.drewN HU5.out _ | exact SB.drew HU5.out))).mono ?_
  rintro z w6 ⟨rfl, hb6⟩
  rw [HQ.out]
  clear hcHA hfHA
  clear hcHX hfHX
  have hyy := hb6.size
  (try simp only [World.heap_drewN, World.size_drew] at hyy)
  have hzz := hbw.size
  replace HA := Lib.hid (BK.keep (by first | exact HA.out | exact BK.drewN HA.out _ | exact BK.drew HA.out) hb6)
  replace HX := Lib.hid (BK.keep (by first | exact HX.out | exact BK.drewN HX.out _ | exact BK.drew HX.out) hb6)
  replace HV0 := Lib.hid (SB.keep (by first | exact HV0.out | exact SB.drewN HV0.out _ | exact SB.drew HV0.out) hb6)
  replace HS0 := Lib.hid (SB.keep (by first | exact HS0.out | exact SB.drewN HS0.out _ | exact SB.drew HS0.out) hb6)
  replace HT5 := Lib.hid (SB.keep (by first | exact HT5.out | exact SB.drewN HT5.out _ | exact SB.drew HT5.out) hb6)
  replace HU5 := Lib.hid (SB.keep (by first | exact HU5.out | exact SB.drewN HU5.out _ | exact SB.drew HU5.out) hb6)
  replace hbw := Below.trans (by first | exact hbw | exact below_drewN hbw _ | exact Below.drew hbw) (Below.mono hb6 (by (try simp only [World.heap_drewN, World.size_drew]); omega))
  clear hb6 hyy hzz
  have hcHA := HA.out.cells
  have hcHX := HX.out.cells
  have hfHA := HA.out.fro
  have hfHX := HX.out.fro
  go_wp2_with fail
  clear hcHA hfHA
  clear hcHX hfHX
  refine wp_region_held_drew (S := (fun W => (∀ i, i < 10 → W.cell? ⟨w.heap.size, i, none⟩ = ([.slice so0 ss0.length sc0, .float .f32 l0, .float .f32 s0, .slice ao0 cs0.length ac0, .int .i64 x0, .float .f32 a0, .float .f32 b0, .float .f32 c0, .float .f32 d0, .int .i64 y0] : List Value)[i]?) ∧ (∀ i, i < 10 → W.cell? ⟨w5.heap.size, i, none⟩ = ([.slice to5 ss0.length tc5, .float .f32 l0, .float .f32 s0, .slice uo5 cs0.length uc5, .int .i64 x0, .float .f32 a0, .float .f32 b0, .float .f32 c0, .float .f32 d0, .int .i64 y0] : List Value)[i]?))) (by kernel_rfl) (by first | exact ⟨HA.out.cells, HX.out.cells⟩ | exact ⟨(BK.drew HA.out).cells, (BK.drew HX.out).cells⟩ | exact ⟨(BK.drewN HA.out _).cells, (BK.drewN HX.out _).cells⟩) (fun hH0 => ?_)
  refine wpAnyH_take (i := 0) (oi := { dst := some 22, op := Op.load 60 (Operand.tmp 5), type := 60, pos := "exact.go:6613", after := #[], guard := none }) (v := ?_) rfl (by kernel_rfl) (by kernel_rfl) (by kernel_rfl) (fun _ _ _ h => h) (Or.inl ⟨by rfl, ?_⟩) hH0 ?_
  rotate_left
  · (intro w hSw; (try dsimp only at hSw); go_simp; try with_reducible rfl)
  (try simp only [Act.put, List.setIfInBounds_toArray, List.set_cons_zero, List.set_cons_succ])
  refine wpAnyH_take (i := 1) (oi := { dst := some 23, op := Op.load 68 (Operand.tmp 1), type := 68, pos := "exact.go:6613", after := #[], guard := none }) (v := ?_) rfl (by kernel_rfl) (by kernel_rfl) (by kernel_rfl) (fun _ _ _ h => h) (Or.inl ⟨by rfl, ?_⟩) hH0 ?_
  rotate_left
  · (intro w hSw; (try dsimp only at hSw); go_simp; try with_reducible rfl)
  (try simp only [Act.put, List.setIfInBounds_toArray, List.set_cons_zero, List.set_cons_succ])
  refine wpAnyH_ready (rs := [2]) (by kernel_rfl) (by simp) (AllReadyH.cons (o := { dst := some 24, op := Op.call { callee := Callee.value (Operand.func 45), args := #[Operand.tmp 23], argTypes := #[68] }, type := 60, pos := "exact.go:6613", after := #[{ on := 1, ground := Ground.data }], guard := none }) rfl (fun K hK => ?e1) AllReadyH.nil)
  go_simp
  go_at_call 45
  refine (l_toDesk _ ss0 _ _ _ cs0 _ _ _ _ _ _ _ (by first | exact HS0.out | exact SB.drewN HS0.out _ | exact SB.drew HS0.out) (by first | exact HV0.out | exact SB.drewN HV0.out _ | exact SB.drew HV0.out) hk0 hm0).mono ?_
  rintro z w7 ⟨⟨t7, u7, rfl, ht7, hu7, hlt7⟩, hb7⟩
  clear hlt7
  have hyy := hb7.size
  (try simp only [World.heap_drewN, World.size_drew] at hyy)
  have hzz := hbw.size
  replace HA := Lib.hid (BK.keep (by first | exact HA.out | exact BK.drewN HA.out _ | exact BK.drew HA.out) hb7)
  replace HX := Lib.hid (BK.keep (by first | exact HX.out | exact BK.drewN HX.out _ | exact BK.drew HX.out) hb7)
  replace HV0 := Lib.hid (SB.keep (by first | exact HV0.out | exact SB.drewN HV0.out _ | exact SB.drew HV0.out) hb7)
  replace HS0 := Lib.hid (SB.keep (by first | exact HS0.out | exact SB.drewN HS0.out _ | exact SB.drew HS0.out) hb7)
  replace HT5 := Lib.hid (SB.keep (by first | exact HT5.out | exact SB.drewN HT5.out _ | exact SB.drew HT5.out) hb7)
  replace HU5 := Lib.hid (SB.keep (by first | exact HU5.out | exact SB.drewN HU5.out _ | exact SB.drew HU5.out) hb7)
  replace hbw := Below.trans (by first | exact hbw | exact below_drewN hbw _ | exact Below.drew hbw) (Below.mono hb7 (by (try simp only [World.heap_drewN, World.size_drew]); omega))
  clear hb7 hyy hzz
  obtain ⟨to7, tc7, rfl, hq7⟩ := ht7.sb.sl.slice
  obtain ⟨uo7, uc7, rfl, hr7⟩ := hu7.sb.sl.slice
  clear hq7 hr7
  have HT7 := Lib.hid ht7.sb
  have HU7 := Lib.hid hu7.sb
  clear ht7 hu7
  refine hK.out _ _ (by first | exact ⟨HA.out.cells, HX.out.cells⟩ | exact ⟨(BK.drew HA.out).cells, (BK.drew HX.out).cells⟩ | exact ⟨(BK.drewN HA.out _).cells, (BK.drewN HX.out _).cells⟩) (fun hH1 => ?_)
  clear hK K hH0
  (try simp only [Act.put, List.setIfInBounds_toArray, List.set_cons_zero, List.set_cons_succ])
  refine wpAnyH_ready (rs := [3]) (by kernel_rfl) (by simp) (AllReadyH.cons (o := { dst := some 25, op := Op.call { callee := Callee.value (Operand.func 40), args := #[Operand.tmp 22, Operand.tmp 24], argTypes := #[60, 60] }, type := 4, pos := "exact.go:6613", after := #[{ on := 0, ground := Ground.data }, { on := 2, ground := Ground.data }, { on := 2, ground := Ground.chain }], guard := none }) rfl (fun K hK => ?e2) AllReadyH.nil)
  go_simp
  go_at_call 40
  refine (l_eqDesk _ _ _ _ ss0 cs0 _ _ _ _ _ _ _ _ _ _ _ _ _ _ _ (DS.mk (SB.sl (by first | exact HT5.out | exact SB.drewN HT5.out _ | exact SB.drew HT5.out)) (SB.sl (by first | exact HT7.out | exact SB.drewN HT7.out _ | exact SB.drew HT7.out)) (SB.sl (by first | exact HU5.out | exact SB.drewN HU5.out _ | exact SB.drew HU5.out)) (SB.sl (by first | exact HU7.out | exact SB.drewN HU7.out _ | exact SB.drew HU7.out)) rfl)).mono ?_
  rintro z w9 ⟨rfl, hb9⟩
  have hyy := hb9.size
  (try simp only [World.heap_drewN, World.size_drew] at hyy)
  have hzz := hbw.size
  replace HA := Lib.hid (BK.keep (by first | exact HA.out | exact BK.drewN HA.out _ | exact BK.drew HA.out) hb9)
  replace HX := Lib.hid (BK.keep (by first | exact HX.out | exact BK.drewN HX.out _ | exact BK.drew HX.out) hb9)
  replace HV0 := Lib.hid (SB.keep (by first | exact HV0.out | exact SB.drewN HV0.out _ | exact SB.drew HV0.out) hb9)
  replace HS0 := Lib.hid (SB.keep (by first | exact HS0.out | exact SB.drewN HS0.out _ | exact SB.drew HS0.out) hb9)
  replace HT5 := Lib.hid (SB.keep (by first | exact HT5.out | exact SB.drewN HT5.out _ | exact SB.drew HT5.out) hb9)
  replace HU5 := Lib.hid (SB.keep (by first | exact HU5.out | exact SB.drewN HU5.out _ | exact SB.drew HU5.out) hb9)
  replace HT7 := Lib.hid (SB.keep (by first | exact HT7.out | exact SB.drewN HT7.out _ | exact SB.drew HT7.out) hb9)
  replace HU7 := Lib.hid (SB.keep (by first | exact HU7.out | exact SB.drewN HU7.out _ | exact SB.drew HU7.out) hb9)
  replace hbw := Below.trans (by first | exact hbw | exact below_drewN hbw _ | exact Below.drew hbw) (Below.mono hb9 (by (try simp only [World.heap_drewN, World.size_drew]); omega))
  clear hb9 hyy hzz
  refine hK.out _ _ (by first | exact ⟨HA.out.cells, HX.out.cells⟩ | exact ⟨(BK.drew HA.out).cells, (BK.drew HX.out).cells⟩ | exact ⟨(BK.drewN HA.out _).cells, (BK.drewN HX.out _).cells⟩) (fun hH2 => ?_)
  clear hK K hH1
  (try simp only [Act.put, List.setIfInBounds_toArray, List.set_cons_zero, List.set_cons_succ])
  refine wpAnyH_take (i := 4) (oi := { dst := some 26, op := Op.unOp UnOp.not 4 (Operand.tmp 25), type := 4, pos := "exact.go:6613", after := #[{ on := 3, ground := Ground.data }], guard := none }) (v := ?_) rfl (by kernel_rfl) (by kernel_rfl) (by kernel_rfl) (fun _ _ _ h => h) (Or.inl ⟨by rfl, ?_⟩) hH2 ?_
  rotate_left
  · (intro w hSw; (try dsimp only at hSw); go_simp; try with_reducible rfl)
  (try simp only [Act.put, List.setIfInBounds_toArray, List.set_cons_zero, List.set_cons_succ])
  refine wpAnyH_done (by kernel_rfl) ?_ _
  clear hH2
  go_wp2_with fail
  go_ret
  exact ⟨rfl, by first | exact hbw | exact below_drewN hbw _ | exact Below.drew hbw⟩
set_option maxRecDepth 100000 in
theorem FnExactValidDesk_lifted (os : Os) (started : os.Started) (H : Type) (enc : TypeId × Value → H) :
    ReturnsInHanded {} Try.checked os 12 .any (Rows.fnExactValidDeskSpec.pre6 enc Try.prog Try.f12 Rows.fnExactValidDeskRow.domain false) (Rows.fnExactValidDeskSpec.post enc Try.prog Try.f12 false true false false) := by
  refine returnsInHanded_of_change (C := Try.checked) own started (by kernel_rfl) Try.func12
    (ChangeSpec.witness6 (enc := enc) (C := Try.checked) false ⟨#[], #[.agg #[.slice none 0 0, .float .f32 0, .float .f32 0, .slice none 0 0, .int .i64 0, .float .f32 0, .float .f32 0, .float .f32 0, .float .f32 0, .int .i64 0]], []⟩ 8 (by kernel_rfl) (by kernel_rfl) (by kernel_rfl) (by kernel_rfl)) ?_
  intro W base args ds gs before hval0 hW hcnd _
  have hval : ∀ (j : Nat) t v, Try.f12.params[j]? = some t → args[j]? = some v → Value.okWide Try.prog W .any base t v := hval0
  have hW' := hW
  obtain ⟨p, q, hA0, hV, rfl, hfz, hnd⟩ := hW
  have hA : DataW.TrodAll enc Try.prog W 0 (fun _ => true) true Try.f12.params.toList args.toList ds p := hA0
  rw [Try.params12] at hA hval
  obtain ⟨v0, vs0, d0, ds0, p0, q0, hargs, rfl, rfl, h0, r0⟩ := trodAll_cons hA
  obtain ⟨rfl, rfl, rfl⟩ := trodAll_nil r0
  obtain rfl : args = #[v0] := by cases args; simp_all
  obtain ⟨rfl, rfl⟩ := trodVars_none hV
  have k0 := h0
  have lt0 : ∀ x ∈ p0, x.block < W.heap.size := by obtain ⟨m, hm⟩ := k0; exact DataW.trod_lt m _ _ _ hm
  obtain ⟨sv0, l0, s0, z0, x0, a0', b0', c0', e0', y0, ss0, cs0, rfl, hss0, hcs0, hn0, hx0, hy0⟩ := open_desk (hval 0 68 v0 rfl rfl) h0
  clear hA0 hval0
  refine (FnExactValidDesk_walk (w := W) _ ss0 _ _ _ cs0 _ _ _ _ _ _ hss0 hcs0 hn0).mono fun e W' ⟨he, bel⟩ => ?_
  subst he
  exact ⟨_, rfl, _, _, _, [], _, [], hW', trodAll_mk1 (shut_bool Try.underlying4 _), (trodAll_cons_mk (Below.trod laidOut (by kernel_rfl) (of_decide_eq_true (by kernel_rfl)) k0 bel lt0) trodAll_mk0), rfl, bel.frame _, fun h => by cases h⟩

theorem fnExactValidDesk_holds : Rows.FnExactValidDeskSaid :=
  OpenClaim.holds_of_wide 12 Try.f12 rfl rfl rfl rfl rfl rfl rfl ⟨rfl, rfl, rfl, rfl, rfl⟩ rfl rfl rfl rfl rfl (by kernel_rfl) Try.func12 (by kernel_rfl)
    (of_decide_eq_true (by kernel_rfl)) (by unfold Func.isWrapper; first | (rw [if_pos (by decide +kernel)]; kernel_rfl) | (rw [if_neg (by decide +kernel)]; exact ⟨rfl, rfl⟩))
    (fun os started H enc _ => FnExactValidDesk_lifted os started H enc)
#print axioms fnExactValidDesk_holds

end Go.Proofs.Ytfckfdaloamkdaa
