/- THE LAW FnExactTrendRun: the program's TrendRun returns what the reference's returns, for all arguments. No condition. -/
import Derived.Test.YtnhenklopigfnaaLawKit
import Derived.Test.YtnhenklopigfnaaK61
import Derived.Test.YtnhenklopigfnaaK61
import Derived.Test.YtnhenklopigfnaaK62
import Derived.Test.YtnhenklopigfnaaK15
import Derived.Test.YtnhenklopigfnaaK28
import Derived.Test.YtnhenklopigfnaaOpen2
namespace Go.Proofs.Ytnhenklopigfnaa
set_option linter.unusedSimpArgs false
set_option linter.unusedVariables false
set_option maxRecDepth 100000
set_option maxHeartbeats 4000000
set_option linter.unusedSimpArgs false
set_option linter.unusedVariables false
open Go.ChangeShapes Go.WideShapes Go.ChangeAt Go.RowKit
attribute [local go_sem] run_store_float run_store_complex alloc_drewN setCell_drewN

theorem BK.wi {lo hi : Nat} {w w' : World} {p : Nat} {vs : List Value} (h : BK w p vs) (hw : Wi lo hi w w') (hp : p < lo ∨ hi ≤ p) : BK w' p vs :=
  ⟨Nat.lt_of_lt_of_le h.lt hw.size, fun i hi => (World.cell?_of_block (a := ⟨p, i, none⟩) (hw.block p h.lt hp)).trans (h.cells i hi), fun i => (World.frozen?_of_block (a := ⟨p, i, none⟩) (hw.block p h.lt hp)).trans (h.fro i)⟩
theorem trQ_short (T xs : List Nat) (ss : List Bool) : (trQ T xs ss).2.1.length ≤ xs.length := by
  unfold trQ
  split
  · exact Nat.le_of_eq (trAt_length T xs ss _)
  · exact Nat.zero_le _

theorem storeTr (p j a b c d e f g h : Nat) : ∀ w, (Instr.storeAt 41 (.pointer (some ⟨p, j, none⟩)) (.agg [.float .f32 a, .float .f32 b, .float .f32 c, .float .f32 d, .float .f32 e, .float .f32 f, .float .f32 g, .float .f32 h].toArray)).run Try.prog w = (storeCells ⟨p, j, none⟩ [.float .f32 a, .float .f32 b, .float .f32 c, .float .f32 d, .float .f32 e, .float .f32 f, .float .f32 g, .float .f32 h] 0).run Try.prog w := by intro w; go_simp
set_option maxRecDepth 100000 in
set_option maxHeartbeats 20000000 in
theorem FnExactTrendRun_walk (w : World) (a : Nat) (ha : a < 4294967296) (b : Nat) (hb : b < 4294967296) (c : Nat) (hc : c < 4294967296) (d : Nat) (hd : d < 4294967296) (e : Nat) (he : e < 4294967296) (f : Nat) (hf : f < 4294967296) (g : Nat) (hg : g < 4294967296) (h : Nat) (hh : h < 4294967296) (v : Value) (xs : List Nat) (hv : SB w v xs) (u : Value) (ss : List Bool) (hu : GL Value.bool w u ss) :
    Calls Try.prog 4 #[.agg #[.float .f32 a, .float .f32 b, .float .f32 c, .float .f32 d, .float .f32 e, .float .f32 f, .float .f32 g, .float .f32 h], v, u] w fun z w' => z = .returned (.bool true) ∧ Below w.heap.size w w' := by
  obtain ⟨ao, ac, rfl, hac1, hac2⟩ := hv.sl.slice2
  obtain ⟨uo, uc, rfl, huc1, huc2⟩ := hu.slice
  have HV := Lib.hid hv
  have HU := Lib.hid hu
  clear hv hu
  by_cases hbig : (1048576 : Int) < (xs.length : Int)
  · go_enter Try.func4, Try.ntmps4
    go_wp2_with fail
    go_ret
    exact ⟨rfl, by (repeat (first | with_reducible exact Below.refl _ _ | with_reducible assumption | with_reducible refine below_drewN ?_ _ | with_reducible refine Below.drew ?_ | with_reducible refine Below.alloc ?_ (by first | omega | (simp; omega) | (simp; done) | (simp at *; omega)) _ | with_reducible refine Below.setCell ?_ (by first | omega | (simp; omega) | (simp; done) | (simp at *; omega)) _ | refine Below.trans ?_ (Below.mono (by with_reducible assumption) (by first | omega | (simp; omega) | (simp; done) | (simp at *; omega)))))⟩
  by_cases hbig2 : (1048576 : Int) < (ss.length : Int)
  · go_enter Try.func4, Try.ntmps4
    go_wp2_with fail
    go_ret
    exact ⟨rfl, by (repeat (first | with_reducible exact Below.refl _ _ | with_reducible assumption | with_reducible refine below_drewN ?_ _ | with_reducible refine Below.drew ?_ | with_reducible refine Below.alloc ?_ (by first | omega | (simp; omega) | (simp; done) | (simp at *; omega)) _ | with_reducible refine Below.setCell ?_ (by first | omega | (simp; omega) | (simp; done) | (simp at *; omega)) _ | refine Below.trans ?_ (Below.mono (by with_reducible assumption) (by first | omega | (simp; omega) | (simp; done) | (simp at *; omega)))))⟩
  have hsm : xs.length < 1099511627776 := by omega
  have hsm2 : ss.length < 1099511627776 := by omega
  generalize hQ : trQ [cn .f32 a, cn .f32 b, cn .f32 c, cn .f32 d, cn .f32 e, cn .f32 f, cn .f32 g, cn .f32 h] xs ss = Q
  have hlq : Q.2.1.length ≤ 1048576 := by rw [← hQ]; exact Nat.le_trans (trQ_short _ _ _) (by omega)
  have HQ := Lib.hid hQ
  clear hQ
  obtain ⟨w0, hw0⟩ : ∃ w0, w0 = w.alloc (.cells (List.toArray [.float .f32 a, .float .f32 b, .float .f32 c, .float .f32 d, .float .f32 e, .float .f32 f, .float .f32 g, .float .f32 h]) 39) := ⟨_, rfl⟩
  have hz0 : w.heap.size + 1 ≤ w0.heap.size := by rw [hw0]; simp
  have A_0 := Lib.hid (show BK w0 w.heap.size [.float .f32 a, .float .f32 b, .float .f32 c, .float .f32 d, .float .f32 e, .float .f32 f, .float .f32 g, .float .f32 h] by rw [hw0]; exact BK.new w _ _)
  have HB0 := Lib.hid (show Below w.heap.size w w0 by rw [hw0]; (repeat (first | with_reducible exact Below.refl _ _ | with_reducible assumption | with_reducible refine below_drewN ?_ _ | with_reducible refine Below.drew ?_ | with_reducible refine Below.alloc ?_ (by first | omega | (simp; omega) | (simp; done) | (simp at *; omega)) _ | with_reducible refine Below.setCell ?_ (by first | omega | (simp; omega) | (simp; done) | (simp at *; omega)) _ | refine Below.trans ?_ (Below.mono (by with_reducible assumption) (by first | omega | (simp; omega) | (simp; done) | (simp at *; omega))))))
  have hst : w.heap.size < w0.heap.size := by omega
  have HW0 := Lib.hid hw0
  clear hw0
  go_enter Try.func4, Try.ntmps4
  go_wp2_with fail
  rw [← HW0.out]
  clear HW0
  refine (l_toTrend a b c d e f g h _).mono ?_; rintro z w1 ⟨rfl, hb⟩
  have hw := Wi.of_below hb
  have hz1 := hw.size
  have A_1 := Lib.hid (A_0.out.wi hw (by omega))
  clear A_0
  have HB1 := Lib.hid (HB0.out.trans (hw.below (by omega) (by omega)))
  clear HB0 hw
  clear hb
  have hcA := A_1.out.cells; have hfA := A_1.out.fro
  go_wp2_with fail
  clear hcA hfA
  refine (l_toFloat32S _ xs _ (HV.out.below HB1.out (Nat.le_refl _)) hsm).mono ?_
  rintro z w2 ⟨uX1, rfl, ho, hb⟩
  have hw := Wi.of_below hb
  have hz2 := hw.size
  have A_2 := Lib.hid (A_1.out.wi hw (by omega))
  clear A_1
  have HB2 := Lib.hid (HB1.out.trans (hw.below (by omega) (by omega)))
  clear HB1 hw
  have X1_2 := Lib.hid (FW.of ho)
  clear ho hb
  have hcA := A_2.out.cells; have hfA := A_2.out.fro
  go_wp2_with fail
  clear hcA hfA
  refine (l_toBoolS _ ss _ (HU.out.below HB2.out (Nat.le_refl _)) hsm2).mono ?_
  rintro z w3 ⟨uY1, rfl, ho, hb⟩
  have hw := Wi.of_below hb
  have hz3 := hw.size
  have A_3 := Lib.hid (A_2.out.wi hw (by omega))
  clear A_2
  have X1_3 := Lib.hid (X1_2.out.keep hw (by omega))
  clear X1_2
  have HB3 := Lib.hid (HB2.out.trans (hw.below (by omega) (by omega)))
  clear HB2 hw
  have Y1_3 := Lib.hid (GW.of ho)
  clear ho hb
  have hcA := A_3.out.cells; have hfA := A_3.out.fro
  go_wp2_with fail
  clear hcA hfA
  have hcc := s_TrendRun a b c d e f g h ha hb hc hd he hf hg hh uX1 xs uY1 ss w3 X1_3.out.sb Y1_3.out.gl
  rw [HQ.out] at hcc
  refine hcc.mono ?_
  clear hcc
  rintro z w4 ⟨⟨r00, r01, r02, r03, r04, r05, r06, r07, uW1, bW1, rfl, hrW1, ho, hb2⟩, hb⟩
  have hw := Wi.of_below hb
  have hz4 := hw.size
  have A_4 := Lib.hid (A_3.out.wi hw (by omega))
  clear A_3
  have X1_4 := Lib.hid (X1_3.out.keep hw (by omega))
  clear X1_3
  have Y1_4 := Lib.hid (Y1_3.out.keep hw (by omega))
  clear Y1_3
  have HB4 := Lib.hid (HB3.out.trans (hw.below (by omega) (by omega)))
  clear HB3 hw
  have W1_4 := Lib.hid (FW.of ho)
  have HRW1 := Lib.hid hrW1
  subst hb2
  clear ho hb hrW1
  have hcA := A_4.out.cells; have hfA := A_4.out.fro
  go_wp2_with (refine wpList_storeAgg (us := [.float .f32 r00, .float .f32 r01, .float .f32 r02, .float .f32 r03, .float .f32 r04, .float .f32 r05, .float .f32 r06, .float .f32 r07]) (storeTr _ _ _ _ _ _ _ _ _ _) rfl rfl (by simp [Value.oneCell']) (BK.new _ _ _) (by simp) ?_; intro w5 hB hO hL hZ hG; have hw := Wi.of_below (hL _ _ (Below.alloc (Below.refl w4.heap.size w4) (Nat.le_refl _) _) (Nat.le_refl _)); have T0_5 := Lib.hid hB; clear hB hO hL hG; simp [setsAt] at T0_5; (try simp only [World.size_alloc] at hZ); clear hcA hfA)
  have hz5 := hw.size
  have A_5 := Lib.hid (A_4.out.wi hw (by omega))
  clear A_4
  have X1_5 := Lib.hid (X1_4.out.keep hw (by omega))
  clear X1_4
  have Y1_5 := Lib.hid (Y1_4.out.keep hw (by omega))
  clear Y1_4
  have W1_5 := Lib.hid (W1_4.out.keep hw (by omega))
  clear W1_4
  have HB5 := Lib.hid (HB4.out.trans (hw.below (by omega) (by omega)))
  clear HB4 hw
  have hlt0 := T0_5.out.lt
  clear X1_5
  clear Y1_5
  have hcA := A_5.out.cells; have hfA := A_5.out.fro
  have hcT0 := T0_5.out.cells; have hfT0 := T0_5.out.fro
  go_wp2_with fail
  clear hcA hfA
  clear hcT0 hfT0
  refine (l_toFloat32S _ xs _ (HV.out.below HB5.out (Nat.le_refl _)) hsm).mono ?_
  rintro z w6 ⟨uX2, rfl, ho, hb⟩
  have hw := Wi.of_below hb
  have hz6 := hw.size
  have A_6 := Lib.hid (A_5.out.wi hw (by omega))
  clear A_5
  have W1_6 := Lib.hid (W1_5.out.keep hw (by omega))
  clear W1_5
  have T0_6 := Lib.hid (T0_5.out.wi hw (by omega))
  clear T0_5
  have HB6 := Lib.hid (HB5.out.trans (hw.below (by omega) (by omega)))
  clear HB5 hw
  have X2_6 := Lib.hid (FW.of ho)
  clear ho hb
  have hcA := A_6.out.cells; have hfA := A_6.out.fro
  have hcT0 := T0_6.out.cells; have hfT0 := T0_6.out.fro
  go_wp2_with fail
  clear hcA hfA
  clear hcT0 hfT0
  refine (l_toBoolS _ ss _ (HU.out.below HB6.out (Nat.le_refl _)) hsm2).mono ?_
  rintro z w7 ⟨uY2, rfl, ho, hb⟩
  have hw := Wi.of_below hb
  have hz7 := hw.size
  have A_7 := Lib.hid (A_6.out.wi hw (by omega))
  clear A_6
  have W1_7 := Lib.hid (W1_6.out.keep hw (by omega))
  clear W1_6
  have T0_7 := Lib.hid (T0_6.out.wi hw (by omega))
  clear T0_6
  have X2_7 := Lib.hid (X2_6.out.keep hw (by omega))
  clear X2_6
  have HB7 := Lib.hid (HB6.out.trans (hw.below (by omega) (by omega)))
  clear HB6 hw
  have Y2_7 := Lib.hid (GW.of ho)
  clear ho hb
  have hcA := A_7.out.cells; have hfA := A_7.out.fro
  have hcT0 := T0_7.out.cells; have hfT0 := T0_7.out.fro
  go_wp2_with fail
  clear hcA hfA
  clear hcT0 hfT0
  refine (l_toTrend a b c d e f g h _).mono ?_; rintro z w8 ⟨rfl, hb⟩
  have hw := Wi.of_below hb
  have hz8 := hw.size
  have A_8 := Lib.hid (A_7.out.wi hw (by omega))
  clear A_7
  have W1_8 := Lib.hid (W1_7.out.keep hw (by omega))
  clear W1_7
  have T0_8 := Lib.hid (T0_7.out.wi hw (by omega))
  clear T0_7
  have X2_8 := Lib.hid (X2_7.out.keep hw (by omega))
  clear X2_7
  have Y2_8 := Lib.hid (Y2_7.out.keep hw (by omega))
  clear Y2_7
  have HB8 := Lib.hid (HB7.out.trans (hw.below (by omega) (by omega)))
  clear HB7 hw
  clear hb
  have hcA := A_8.out.cells; have hfA := A_8.out.fro
  have hcT0 := T0_8.out.cells; have hfT0 := T0_8.out.fro
  go_wp2_with fail
  clear hcA hfA
  clear hcT0 hfT0
  have hcc := i_TrendRun a b c d e f g h ha hb hc hd he hf hg hh uX2 xs uY2 ss w8 X2_8.out.sb Y2_8.out.gl
  rw [HQ.out] at hcc
  refine hcc.mono ?_
  clear hcc
  rintro z w9 ⟨⟨r10, r11, r12, r13, r14, r15, r16, r17, uG1, bG1, rfl, hrG1, ho, hb2⟩, hb⟩
  have hw := Wi.of_below hb
  have hz9 := hw.size
  have A_9 := Lib.hid (A_8.out.wi hw (by omega))
  clear A_8
  have W1_9 := Lib.hid (W1_8.out.keep hw (by omega))
  clear W1_8
  have T0_9 := Lib.hid (T0_8.out.wi hw (by omega))
  clear T0_8
  have X2_9 := Lib.hid (X2_8.out.keep hw (by omega))
  clear X2_8
  have Y2_9 := Lib.hid (Y2_8.out.keep hw (by omega))
  clear Y2_8
  have HB9 := Lib.hid (HB8.out.trans (hw.below (by omega) (by omega)))
  clear HB8 hw
  have G1_9 := Lib.hid (FW.of ho)
  have HRG1 := Lib.hid hrG1
  subst hb2
  clear ho hb hrG1
  have hcA := A_9.out.cells; have hfA := A_9.out.fro
  have hcT0 := T0_9.out.cells; have hfT0 := T0_9.out.fro
  go_wp2_with (refine wpList_storeAgg (us := [.float .f32 r10, .float .f32 r11, .float .f32 r12, .float .f32 r13, .float .f32 r14, .float .f32 r15, .float .f32 r16, .float .f32 r17]) (storeTr _ _ _ _ _ _ _ _ _ _) rfl rfl (by simp [Value.oneCell']) (BK.new _ _ _) (by simp) ?_; intro w10 hB hO hL hZ hG; have hw := Wi.of_below (hL _ _ (Below.alloc (Below.refl w9.heap.size w9) (Nat.le_refl _) _) (Nat.le_refl _)); have T1_10 := Lib.hid hB; clear hB hO hL hG; simp [setsAt] at T1_10; (try simp only [World.size_alloc] at hZ); clear hcA hfA; clear hcT0 hfT0; have hz10 := hw.size; have A_10 := Lib.hid (A_9.out.wi hw (by omega)); clear A_9; have W1_10 := Lib.hid (W1_9.out.keep hw (by omega)); clear W1_9; have T0_10 := Lib.hid (T0_9.out.wi hw (by omega)); clear T0_9; have X2_10 := Lib.hid (X2_9.out.keep hw (by omega)); clear X2_9; have Y2_10 := Lib.hid (Y2_9.out.keep hw (by omega)); clear Y2_9; have G1_10 := Lib.hid (G1_9.out.keep hw (by omega)); clear G1_9; have HB10 := Lib.hid (HB9.out.trans (hw.below (by omega) (by omega))); clear HB9 hw; have hlt1 := T1_10.out.lt; have hcA := A_10.out.cells; have hfA := A_10.out.fro; have hcT0 := T0_10.out.cells; have hfT0 := T0_10.out.fro; have hcT1 := T1_10.out.cells; have hfT1 := T1_10.out.fro)
  clear hcA hfA
  clear hcT0 hfT0
  clear hcT1 hfT1
  refine (l_eqTrend _ _ _ _ _ _ _ _ _ _ _ _ _ _ _ _ (HRG1.out.trans HRW1.out.symm) _).mono ?_
  rintro z w11 ⟨rfl, hb⟩
  have hw := Wi.of_below hb
  have hz11 := hw.size
  have A_11 := Lib.hid (A_10.out.wi hw (by omega))
  clear A_10
  have W1_11 := Lib.hid (W1_10.out.keep hw (by omega))
  clear W1_10
  have T0_11 := Lib.hid (T0_10.out.wi hw (by omega))
  clear T0_10
  have X2_11 := Lib.hid (X2_10.out.keep hw (by omega))
  clear X2_10
  have Y2_11 := Lib.hid (Y2_10.out.keep hw (by omega))
  clear Y2_10
  have G1_11 := Lib.hid (G1_10.out.keep hw (by omega))
  clear G1_10
  have T1_11 := Lib.hid (T1_10.out.wi hw (by omega))
  clear T1_10
  have HB11 := Lib.hid (HB10.out.trans (hw.below (by omega) (by omega)))
  clear HB10 hw
  clear hb
  have hcA := A_11.out.cells; have hfA := A_11.out.fro
  have hcT0 := T0_11.out.cells; have hfT0 := T0_11.out.fro
  have hcT1 := T1_11.out.cells; have hfT1 := T1_11.out.fro
  go_wp2_with fail
  clear hcA hfA
  clear hcT0 hfT0
  clear hcT1 hfT1
  refine (l_eqFloat32S uG1 uW1 (Q.2.1) _ G1_11.out.sl W1_11.out.sl).mono ?_
  rintro z w12 ⟨rfl, hd⟩
  have hw := Dr.wi hd
  have hz12 := hw.size
  have A_12 := Lib.hid (A_11.out.wi hw (by omega))
  clear A_11
  have W1_12 := Lib.hid (W1_11.out.keep hw (by omega))
  clear W1_11
  have T0_12 := Lib.hid (T0_11.out.wi hw (by omega))
  clear T0_11
  have X2_12 := Lib.hid (X2_11.out.keep hw (by omega))
  clear X2_11
  have Y2_12 := Lib.hid (Y2_11.out.keep hw (by omega))
  clear Y2_11
  have G1_12 := Lib.hid (G1_11.out.keep hw (by omega))
  clear G1_11
  have T1_12 := Lib.hid (T1_11.out.wi hw (by omega))
  clear T1_11
  have HB12 := Lib.hid (HB11.out.trans (hw.below (by omega) (by omega)))
  clear HB11 hw
  clear hd
  have hcA := A_12.out.cells; have hfA := A_12.out.fro
  have hcT0 := T0_12.out.cells; have hfT0 := T0_12.out.fro
  have hcT1 := T1_12.out.cells; have hfT1 := T1_12.out.fro
  go_wp2_with fail
  clear hcA hfA
  clear hcT0 hfT0
  clear hcT1 hfT1
  refine (l_toFloat32S _ xs _ (HV.out.below HB12.out (Nat.le_refl _)) hsm).mono ?_
  rintro z w13 ⟨uX3, rfl, ho, hb⟩
  have hw := Wi.of_below hb
  have hz13 := hw.size
  have A_13 := Lib.hid (A_12.out.wi hw (by omega))
  clear A_12
  have W1_13 := Lib.hid (W1_12.out.keep hw (by omega))
  clear W1_12
  have T0_13 := Lib.hid (T0_12.out.wi hw (by omega))
  clear T0_12
  have X2_13 := Lib.hid (X2_12.out.keep hw (by omega))
  clear X2_12
  have Y2_13 := Lib.hid (Y2_12.out.keep hw (by omega))
  clear Y2_12
  have G1_13 := Lib.hid (G1_12.out.keep hw (by omega))
  clear G1_12
  have T1_13 := Lib.hid (T1_12.out.wi hw (by omega))
  clear T1_12
  have HB13 := Lib.hid (HB12.out.trans (hw.below (by omega) (by omega)))
  clear HB12 hw
  have X3_13 := Lib.hid (FW.of ho)
  clear ho hb
  have hcA := A_13.out.cells; have hfA := A_13.out.fro
  have hcT0 := T0_13.out.cells; have hfT0 := T0_13.out.fro
  have hcT1 := T1_13.out.cells; have hfT1 := T1_13.out.fro
  go_wp2_with fail
  clear hcA hfA
  clear hcT0 hfT0
  clear hcT1 hfT1
  refine (l_eqFloat32S uX2 uX3 xs _ X2_13.out.sl X3_13.out.sl).mono ?_
  rintro z w14 ⟨rfl, hd⟩
  have hw := Dr.wi hd
  have hz14 := hw.size
  have A_14 := Lib.hid (A_13.out.wi hw (by omega))
  clear A_13
  have W1_14 := Lib.hid (W1_13.out.keep hw (by omega))
  clear W1_13
  have T0_14 := Lib.hid (T0_13.out.wi hw (by omega))
  clear T0_13
  have X2_14 := Lib.hid (X2_13.out.keep hw (by omega))
  clear X2_13
  have Y2_14 := Lib.hid (Y2_13.out.keep hw (by omega))
  clear Y2_13
  have G1_14 := Lib.hid (G1_13.out.keep hw (by omega))
  clear G1_13
  have T1_14 := Lib.hid (T1_13.out.wi hw (by omega))
  clear T1_13
  have X3_14 := Lib.hid (X3_13.out.keep hw (by omega))
  clear X3_13
  have HB14 := Lib.hid (HB13.out.trans (hw.below (by omega) (by omega)))
  clear HB13 hw
  clear hd
  clear X3_14
  have hcA := A_14.out.cells; have hfA := A_14.out.fro
  have hcT0 := T0_14.out.cells; have hfT0 := T0_14.out.fro
  have hcT1 := T1_14.out.cells; have hfT1 := T1_14.out.fro
  go_wp2_with fail
  clear hcA hfA
  clear hcT0 hfT0
  clear hcT1 hfT1
  refine (l_toBoolS _ ss _ (HU.out.below HB14.out (Nat.le_refl _)) hsm2).mono ?_
  rintro z w15 ⟨uY3, rfl, ho, hb⟩
  have hw := Wi.of_below hb
  have hz15 := hw.size
  have A_15 := Lib.hid (A_14.out.wi hw (by omega))
  clear A_14
  have W1_15 := Lib.hid (W1_14.out.keep hw (by omega))
  clear W1_14
  have T0_15 := Lib.hid (T0_14.out.wi hw (by omega))
  clear T0_14
  have X2_15 := Lib.hid (X2_14.out.keep hw (by omega))
  clear X2_14
  have Y2_15 := Lib.hid (Y2_14.out.keep hw (by omega))
  clear Y2_14
  have G1_15 := Lib.hid (G1_14.out.keep hw (by omega))
  clear G1_14
  have T1_15 := Lib.hid (T1_14.out.wi hw (by omega))
  clear T1_14
  have HB15 := Lib.hid (HB14.out.trans (hw.below (by omega) (by omega)))
  clear HB14 hw
  have Y3_15 := Lib.hid (GW.of ho)
  clear ho hb
  have hcA := A_15.out.cells; have hfA := A_15.out.fro
  have hcT0 := T0_15.out.cells; have hfT0 := T0_15.out.fro
  have hcT1 := T1_15.out.cells; have hfT1 := T1_15.out.fro
  go_wp2_with fail
  clear hcA hfA
  clear hcT0 hfT0
  clear hcT1 hfT1
  refine (l_eqBoolS uY2 uY3 ss _ Y2_15.out.gl Y3_15.out.gl).mono ?_
  rintro z w16 ⟨rfl, hd⟩
  have hw := Dr.wi hd
  have hz16 := hw.size
  have A_16 := Lib.hid (A_15.out.wi hw (by omega))
  clear A_15
  have W1_16 := Lib.hid (W1_15.out.keep hw (by omega))
  clear W1_15
  have T0_16 := Lib.hid (T0_15.out.wi hw (by omega))
  clear T0_15
  have X2_16 := Lib.hid (X2_15.out.keep hw (by omega))
  clear X2_15
  have Y2_16 := Lib.hid (Y2_15.out.keep hw (by omega))
  clear Y2_15
  have G1_16 := Lib.hid (G1_15.out.keep hw (by omega))
  clear G1_15
  have T1_16 := Lib.hid (T1_15.out.wi hw (by omega))
  clear T1_15
  have Y3_16 := Lib.hid (Y3_15.out.keep hw (by omega))
  clear Y3_15
  have HB16 := Lib.hid (HB15.out.trans (hw.below (by omega) (by omega)))
  clear HB15 hw
  clear hd
  clear Y3_16
  have hcA := A_16.out.cells; have hfA := A_16.out.fro
  have hcT0 := T0_16.out.cells; have hfT0 := T0_16.out.fro
  have hcT1 := T1_16.out.cells; have hfT1 := T1_16.out.fro
  go_wp2_with fail
  clear hcA hfA
  clear hcT0 hfT0
  clear hcT1 hfT1
  refine (l_markFW _ _ uX2 (xs) (1) _ X2_16.out (by omega) (by omega) (by omega)).mono ?_
  rintro z w17 ⟨rfl, ho, hw⟩
  have hz17 := hw.size
  have A_17 := Lib.hid (A_16.out.wi hw (by omega))
  clear A_16
  have W1_17 := Lib.hid (W1_16.out.keep hw (by omega))
  clear W1_16
  have T0_17 := Lib.hid (T0_16.out.wi hw (by omega))
  clear T0_16
  have Y2_17 := Lib.hid (Y2_16.out.keep hw (by omega))
  clear Y2_16
  have G1_17 := Lib.hid (G1_16.out.keep hw (by omega))
  clear G1_16
  have T1_17 := Lib.hid (T1_16.out.wi hw (by omega))
  clear T1_16
  have HB17 := Lib.hid (HB16.out.trans (hw.below (by omega) (by omega)))
  clear HB16 hw
  have X2_17 := Lib.hid ho
  clear ho X2_16
  clear X2_17
  have hcA := A_17.out.cells; have hfA := A_17.out.fro
  have hcT0 := T0_17.out.cells; have hfT0 := T0_17.out.fro
  have hcT1 := T1_17.out.cells; have hfT1 := T1_17.out.fro
  go_wp2_with fail
  clear hcA hfA
  clear hcT0 hfT0
  clear hcT1 hfT1
  refine (l_markBoolS _ _ uY2 ss (1 + (xs.length : Int)) _ Y2_17.out (by omega) (by omega) (by omega)).mono ?_
  rintro z w18 ⟨rfl, ho, hw⟩
  have hz18 := hw.size
  have A_18 := Lib.hid (A_17.out.wi hw (by omega))
  clear A_17
  have W1_18 := Lib.hid (W1_17.out.keep hw (by omega))
  clear W1_17
  have T0_18 := Lib.hid (T0_17.out.wi hw (by omega))
  clear T0_17
  have G1_18 := Lib.hid (G1_17.out.keep hw (by omega))
  clear G1_17
  have T1_18 := Lib.hid (T1_17.out.wi hw (by omega))
  clear T1_17
  have HB18 := Lib.hid (HB17.out.trans (hw.below (by omega) (by omega)))
  clear HB17 hw
  have Y2_18 := Lib.hid ho
  clear ho Y2_17
  clear Y2_18
  have hcA := A_18.out.cells; have hfA := A_18.out.fro
  have hcT0 := T0_18.out.cells; have hfT0 := T0_18.out.fro
  have hcT1 := T1_18.out.cells; have hfT1 := T1_18.out.fro
  go_wp2_with fail
  clear hcA hfA
  clear hcT0 hfT0
  clear hcT1 hfT1
  refine (l_eqTrend _ _ _ _ _ _ _ _ _ _ _ _ _ _ _ _ (HRG1.out.trans HRW1.out.symm) _).mono ?_
  rintro z w19 ⟨rfl, hb⟩
  have hw := Wi.of_below hb
  have hz19 := hw.size
  have A_19 := Lib.hid (A_18.out.wi hw (by omega))
  clear A_18
  have W1_19 := Lib.hid (W1_18.out.keep hw (by omega))
  clear W1_18
  have T0_19 := Lib.hid (T0_18.out.wi hw (by omega))
  clear T0_18
  have G1_19 := Lib.hid (G1_18.out.keep hw (by omega))
  clear G1_18
  have T1_19 := Lib.hid (T1_18.out.wi hw (by omega))
  clear T1_18
  have HB19 := Lib.hid (HB18.out.trans (hw.below (by omega) (by omega)))
  clear HB18 hw
  clear hb
  have hcA := A_19.out.cells; have hfA := A_19.out.fro
  have hcT0 := T0_19.out.cells; have hfT0 := T0_19.out.fro
  have hcT1 := T1_19.out.cells; have hfT1 := T1_19.out.fro
  go_wp2_with fail
  clear hcA hfA
  clear hcT0 hfT0
  clear hcT1 hfT1
  refine (l_eqFloat32S uG1 uW1 (Q.2.1) _ G1_19.out.sl W1_19.out.sl).mono ?_
  rintro z w20 ⟨rfl, hd⟩
  have hw := Dr.wi hd
  have hz20 := hw.size
  have A_20 := Lib.hid (A_19.out.wi hw (by omega))
  clear A_19
  have W1_20 := Lib.hid (W1_19.out.keep hw (by omega))
  clear W1_19
  have T0_20 := Lib.hid (T0_19.out.wi hw (by omega))
  clear T0_19
  have G1_20 := Lib.hid (G1_19.out.keep hw (by omega))
  clear G1_19
  have T1_20 := Lib.hid (T1_19.out.wi hw (by omega))
  clear T1_19
  have HB20 := Lib.hid (HB19.out.trans (hw.below (by omega) (by omega)))
  clear HB19 hw
  clear hd
  have hcA := A_20.out.cells; have hfA := A_20.out.fro
  have hcT0 := T0_20.out.cells; have hfT0 := T0_20.out.fro
  have hcT1 := T1_20.out.cells; have hfT1 := T1_20.out.fro
  go_wp2_with fail
  clear hcA hfA
  clear hcT0 hfT0
  clear hcT1 hfT1
  refine (l_markFW _ _ uG1 (Q.2.1) (1) _ G1_20.out (by omega) (by omega) (by omega)).mono ?_
  rintro z w21 ⟨rfl, ho, hw⟩
  have hz21 := hw.size
  have A_21 := Lib.hid (A_20.out.wi hw (by omega))
  clear A_20
  have W1_21 := Lib.hid (W1_20.out.keep hw (by omega))
  clear W1_20
  have T0_21 := Lib.hid (T0_20.out.wi hw (by omega))
  clear T0_20
  have T1_21 := Lib.hid (T1_20.out.wi hw (by omega))
  clear T1_20
  have HB21 := Lib.hid (HB20.out.trans (hw.below (by omega) (by omega)))
  clear HB20 hw
  have G1_21 := Lib.hid ho
  clear ho G1_20
  have hcA := A_21.out.cells; have hfA := A_21.out.fro
  have hcT0 := T0_21.out.cells; have hfT0 := T0_21.out.fro
  have hcT1 := T1_21.out.cells; have hfT1 := T1_21.out.fro
  go_wp2_with fail
  clear hcA hfA
  clear hcT0 hfT0
  clear hcT1 hfT1
  refine (l_heldFloat32S uG1 1 (Q.2.1.length) _ G1_21.out.sl (by omega) (by omega) (by omega)).mono ?_
  rintro z w22 ⟨rfl, hd⟩
  have hw := Dr.wi hd
  have hz22 := hw.size
  have A_22 := Lib.hid (A_21.out.wi hw (by omega))
  clear A_21
  have W1_22 := Lib.hid (W1_21.out.keep hw (by omega))
  clear W1_21
  have T0_22 := Lib.hid (T0_21.out.wi hw (by omega))
  clear T0_21
  have G1_22 := Lib.hid (G1_21.out.keep hw (by omega))
  clear G1_21
  have T1_22 := Lib.hid (T1_21.out.wi hw (by omega))
  clear T1_21
  have HB22 := Lib.hid (HB21.out.trans (hw.below (by omega) (by omega)))
  clear HB21 hw
  clear hd
  have hcA := A_22.out.cells; have hfA := A_22.out.fro
  have hcT0 := T0_22.out.cells; have hfT0 := T0_22.out.fro
  have hcT1 := T1_22.out.cells; have hfT1 := T1_22.out.fro
  go_wp2_with fail
  clear hcA hfA
  clear hcT0 hfT0
  clear hcT1 hfT1
  refine (l_toTrend a b c d e f g h _).mono ?_; rintro z w23 ⟨rfl, hb⟩
  have hw := Wi.of_below hb
  have hz23 := hw.size
  have A_23 := Lib.hid (A_22.out.wi hw (by omega))
  clear A_22
  have W1_23 := Lib.hid (W1_22.out.keep hw (by omega))
  clear W1_22
  have T0_23 := Lib.hid (T0_22.out.wi hw (by omega))
  clear T0_22
  have G1_23 := Lib.hid (G1_22.out.keep hw (by omega))
  clear G1_22
  have T1_23 := Lib.hid (T1_22.out.wi hw (by omega))
  clear T1_22
  have HB23 := Lib.hid (HB22.out.trans (hw.below (by omega) (by omega)))
  clear HB22 hw
  clear hb
  have hcA := A_23.out.cells; have hfA := A_23.out.fro
  have hcT0 := T0_23.out.cells; have hfT0 := T0_23.out.fro
  have hcT1 := T1_23.out.cells; have hfT1 := T1_23.out.fro
  go_wp2_with fail
  clear hcA hfA
  clear hcT0 hfT0
  clear hcT1 hfT1
  refine (l_toFloat32S _ xs _ (HV.out.below HB23.out (Nat.le_refl _)) hsm).mono ?_
  rintro z w24 ⟨uX4, rfl, ho, hb⟩
  have hw := Wi.of_below hb
  have hz24 := hw.size
  have A_24 := Lib.hid (A_23.out.wi hw (by omega))
  clear A_23
  have W1_24 := Lib.hid (W1_23.out.keep hw (by omega))
  clear W1_23
  have T0_24 := Lib.hid (T0_23.out.wi hw (by omega))
  clear T0_23
  have G1_24 := Lib.hid (G1_23.out.keep hw (by omega))
  clear G1_23
  have T1_24 := Lib.hid (T1_23.out.wi hw (by omega))
  clear T1_23
  have HB24 := Lib.hid (HB23.out.trans (hw.below (by omega) (by omega)))
  clear HB23 hw
  have X4_24 := Lib.hid (FW.of ho)
  clear ho hb
  have hcA := A_24.out.cells; have hfA := A_24.out.fro
  have hcT0 := T0_24.out.cells; have hfT0 := T0_24.out.fro
  have hcT1 := T1_24.out.cells; have hfT1 := T1_24.out.fro
  go_wp2_with fail
  clear hcA hfA
  clear hcT0 hfT0
  clear hcT1 hfT1
  refine (l_toBoolS _ ss _ (HU.out.below HB24.out (Nat.le_refl _)) hsm2).mono ?_
  rintro z w25 ⟨uY4, rfl, ho, hb⟩
  have hw := Wi.of_below hb
  have hz25 := hw.size
  have A_25 := Lib.hid (A_24.out.wi hw (by omega))
  clear A_24
  have W1_25 := Lib.hid (W1_24.out.keep hw (by omega))
  clear W1_24
  have T0_25 := Lib.hid (T0_24.out.wi hw (by omega))
  clear T0_24
  have G1_25 := Lib.hid (G1_24.out.keep hw (by omega))
  clear G1_24
  have T1_25 := Lib.hid (T1_24.out.wi hw (by omega))
  clear T1_24
  have X4_25 := Lib.hid (X4_24.out.keep hw (by omega))
  clear X4_24
  have HB25 := Lib.hid (HB24.out.trans (hw.below (by omega) (by omega)))
  clear HB24 hw
  have Y4_25 := Lib.hid (GW.of ho)
  clear ho hb
  have hcA := A_25.out.cells; have hfA := A_25.out.fro
  have hcT0 := T0_25.out.cells; have hfT0 := T0_25.out.fro
  have hcT1 := T1_25.out.cells; have hfT1 := T1_25.out.fro
  go_wp2_with fail
  clear hcA hfA
  clear hcT0 hfT0
  clear hcT1 hfT1
  have hcc := i_TrendRun a b c d e f g h ha hb hc hd he hf hg hh uX4 xs uY4 ss w25 X4_25.out.sb Y4_25.out.gl
  rw [HQ.out] at hcc
  refine hcc.mono ?_
  clear hcc
  rintro z w26 ⟨⟨r20, r21, r22, r23, r24, r25, r26, r27, uH1, bH1, rfl, hrH1, ho, hb2⟩, hb⟩
  have hw := Wi.of_below hb
  have hz26 := hw.size
  have A_26 := Lib.hid (A_25.out.wi hw (by omega))
  clear A_25
  have W1_26 := Lib.hid (W1_25.out.keep hw (by omega))
  clear W1_25
  have T0_26 := Lib.hid (T0_25.out.wi hw (by omega))
  clear T0_25
  have G1_26 := Lib.hid (G1_25.out.keep hw (by omega))
  clear G1_25
  have T1_26 := Lib.hid (T1_25.out.wi hw (by omega))
  clear T1_25
  have X4_26 := Lib.hid (X4_25.out.keep hw (by omega))
  clear X4_25
  have Y4_26 := Lib.hid (Y4_25.out.keep hw (by omega))
  clear Y4_25
  have HB26 := Lib.hid (HB25.out.trans (hw.below (by omega) (by omega)))
  clear HB25 hw
  have H1_26 := Lib.hid (FW.of ho)
  have HRH1 := Lib.hid hrH1
  subst hb2
  clear ho hb hrH1
  have hcA := A_26.out.cells; have hfA := A_26.out.fro
  have hcT0 := T0_26.out.cells; have hfT0 := T0_26.out.fro
  have hcT1 := T1_26.out.cells; have hfT1 := T1_26.out.fro
  go_wp2_with (refine wpList_storeAgg (us := [.float .f32 r20, .float .f32 r21, .float .f32 r22, .float .f32 r23, .float .f32 r24, .float .f32 r25, .float .f32 r26, .float .f32 r27]) (storeTr _ _ _ _ _ _ _ _ _ _) rfl rfl (by simp [Value.oneCell']) (BK.new _ _ _) (by simp) ?_; intro w27 hB hO hL hZ hG; have hw := Wi.of_below (hL _ _ (Below.alloc (Below.refl w26.heap.size w26) (Nat.le_refl _) _) (Nat.le_refl _)); have T2_27 := Lib.hid hB; clear hB hO hL hG; simp [setsAt] at T2_27; (try simp only [World.size_alloc] at hZ); clear hcA hfA; clear hcT0 hfT0; clear hcT1 hfT1; have hz27 := hw.size; have A_27 := Lib.hid (A_26.out.wi hw (by omega)); clear A_26; have W1_27 := Lib.hid (W1_26.out.keep hw (by omega)); clear W1_26; have T0_27 := Lib.hid (T0_26.out.wi hw (by omega)); clear T0_26; have G1_27 := Lib.hid (G1_26.out.keep hw (by omega)); clear G1_26; have T1_27 := Lib.hid (T1_26.out.wi hw (by omega)); clear T1_26; have X4_27 := Lib.hid (X4_26.out.keep hw (by omega)); clear X4_26; have Y4_27 := Lib.hid (Y4_26.out.keep hw (by omega)); clear Y4_26; have H1_27 := Lib.hid (H1_26.out.keep hw (by omega)); clear H1_26; have HB27 := Lib.hid (HB26.out.trans (hw.below (by omega) (by omega))); clear HB26 hw; have hlt2 := T2_27.out.lt; clear X4_27; clear Y4_27; have hcA := A_27.out.cells; have hfA := A_27.out.fro; have hcT0 := T0_27.out.cells; have hfT0 := T0_27.out.fro; have hcT1 := T1_27.out.cells; have hfT1 := T1_27.out.fro; have hcT2 := T2_27.out.cells; have hfT2 := T2_27.out.fro)
  clear hcA hfA
  clear hcT0 hfT0
  clear hcT1 hfT1
  clear hcT2 hfT2
  refine (l_eqTrend _ _ _ _ _ _ _ _ _ _ _ _ _ _ _ _ (HRH1.out.trans HRW1.out.symm) _).mono ?_
  rintro z w28 ⟨rfl, hb⟩
  have hw := Wi.of_below hb
  have hz28 := hw.size
  have A_28 := Lib.hid (A_27.out.wi hw (by omega))
  clear A_27
  have W1_28 := Lib.hid (W1_27.out.keep hw (by omega))
  clear W1_27
  have T0_28 := Lib.hid (T0_27.out.wi hw (by omega))
  clear T0_27
  have G1_28 := Lib.hid (G1_27.out.keep hw (by omega))
  clear G1_27
  have T1_28 := Lib.hid (T1_27.out.wi hw (by omega))
  clear T1_27
  have H1_28 := Lib.hid (H1_27.out.keep hw (by omega))
  clear H1_27
  have T2_28 := Lib.hid (T2_27.out.wi hw (by omega))
  clear T2_27
  have HB28 := Lib.hid (HB27.out.trans (hw.below (by omega) (by omega)))
  clear HB27 hw
  clear hb
  have hcA := A_28.out.cells; have hfA := A_28.out.fro
  have hcT0 := T0_28.out.cells; have hfT0 := T0_28.out.fro
  have hcT1 := T1_28.out.cells; have hfT1 := T1_28.out.fro
  have hcT2 := T2_28.out.cells; have hfT2 := T2_28.out.fro
  go_wp2_with fail
  clear hcA hfA
  clear hcT0 hfT0
  clear hcT1 hfT1
  clear hcT2 hfT2
  refine (l_eqFloat32S uH1 uW1 (Q.2.1) _ H1_28.out.sl W1_28.out.sl).mono ?_
  rintro z w29 ⟨rfl, hd⟩
  have hw := Dr.wi hd
  have hz29 := hw.size
  have A_29 := Lib.hid (A_28.out.wi hw (by omega))
  clear A_28
  have W1_29 := Lib.hid (W1_28.out.keep hw (by omega))
  clear W1_28
  have T0_29 := Lib.hid (T0_28.out.wi hw (by omega))
  clear T0_28
  have G1_29 := Lib.hid (G1_28.out.keep hw (by omega))
  clear G1_28
  have T1_29 := Lib.hid (T1_28.out.wi hw (by omega))
  clear T1_28
  have H1_29 := Lib.hid (H1_28.out.keep hw (by omega))
  clear H1_28
  have T2_29 := Lib.hid (T2_28.out.wi hw (by omega))
  clear T2_28
  have HB29 := Lib.hid (HB28.out.trans (hw.below (by omega) (by omega)))
  clear HB28 hw
  clear hd
  have hcA := A_29.out.cells; have hfA := A_29.out.fro
  have hcT0 := T0_29.out.cells; have hfT0 := T0_29.out.fro
  have hcT1 := T1_29.out.cells; have hfT1 := T1_29.out.fro
  have hcT2 := T2_29.out.cells; have hfT2 := T2_29.out.fro
  go_wp2_with fail
  clear hcA hfA
  clear hcT0 hfT0
  clear hcT1 hfT1
  clear hcT2 hfT2
  refine (l_heldFloat32S uG1 1 (Q.2.1.length) _ G1_29.out.sl (by omega) (by omega) (by omega)).mono ?_
  rintro z w30 ⟨rfl, hd⟩
  have hw := Dr.wi hd
  have hz30 := hw.size
  have A_30 := Lib.hid (A_29.out.wi hw (by omega))
  clear A_29
  have W1_30 := Lib.hid (W1_29.out.keep hw (by omega))
  clear W1_29
  have T0_30 := Lib.hid (T0_29.out.wi hw (by omega))
  clear T0_29
  have G1_30 := Lib.hid (G1_29.out.keep hw (by omega))
  clear G1_29
  have T1_30 := Lib.hid (T1_29.out.wi hw (by omega))
  clear T1_29
  have H1_30 := Lib.hid (H1_29.out.keep hw (by omega))
  clear H1_29
  have T2_30 := Lib.hid (T2_29.out.wi hw (by omega))
  clear T2_29
  have HB30 := Lib.hid (HB29.out.trans (hw.below (by omega) (by omega)))
  clear HB29 hw
  clear hd
  have hcA := A_30.out.cells; have hfA := A_30.out.fro
  have hcT0 := T0_30.out.cells; have hfT0 := T0_30.out.fro
  have hcT1 := T1_30.out.cells; have hfT1 := T1_30.out.fro
  have hcT2 := T2_30.out.cells; have hfT2 := T2_30.out.fro
  go_wp2_with fail
  clear hcA hfA
  clear hcT0 hfT0
  clear hcT1 hfT1
  clear hcT2 hfT2
  go_ret
  exact ⟨rfl, HB30.out⟩
set_option maxRecDepth 100000 in
theorem FnExactTrendRun_lifted (os : Os) (started : os.Started) (H : Type) (enc : TypeId × Value → H) :
    ReturnsInHanded {} Try.checked os 4 .any (Rows.fnExactTrendRunSpec.pre6 enc Try.prog Try.f4 Rows.fnExactTrendRunRow.domain false) (Rows.fnExactTrendRunSpec.post enc Try.prog Try.f4 false true false false) := by
  refine returnsInHanded_of_change (C := Try.checked) own started (by kernel_rfl) Try.func4
    (ChangeSpec.witness6 (enc := enc) (C := Try.checked) false ⟨#[], #[.agg #[.float .f32 0, .float .f32 0, .float .f32 0, .float .f32 0, .float .f32 0, .float .f32 0, .float .f32 0, .float .f32 0], .slice none 0 0, .slice none 0 0], []⟩ 8 (by kernel_rfl) (by kernel_rfl) (by kernel_rfl) (by kernel_rfl)) ?_
  intro W base args ds gs before hval0 hW hcnd _
  have hval : ∀ (j : Nat) t v, Try.f4.params[j]? = some t → args[j]? = some v → Value.okWide Try.prog W .any base t v := hval0
  have hW' := hW
  obtain ⟨p, q, hA0, hV, rfl, hfz, hnd⟩ := hW
  have hA : DataW.TrodAll enc Try.prog W 0 (fun _ => true) true Try.f4.params.toList args.toList ds p := hA0
  rw [Try.params4] at hA hval
  obtain ⟨v0, vs0, d0, ds0, p0, q0, hargs, rfl, rfl, h0, r0⟩ := trodAll_cons hA
  obtain ⟨v1, vs1, d1, ds1, p1, q1, rfl, rfl, rfl, h1, r1⟩ := trodAll_cons r0
  obtain ⟨v2, vs2, d2, ds2, p2, q2, rfl, rfl, rfl, h2, r2⟩ := trodAll_cons r1
  obtain ⟨rfl, rfl, rfl⟩ := trodAll_nil r2
  obtain rfl : args = #[v0, v1, v2] := by cases args; simp_all
  obtain ⟨rfl, rfl⟩ := trodVars_none hV
  have k0 := h0
  have lt0 : ∀ x ∈ p0, x.block < W.heap.size := by obtain ⟨m, hm⟩ := k0; exact DataW.trod_lt m _ _ _ hm
  have k1 := h1
  have lt1 : ∀ x ∈ p1, x.block < W.heap.size := by obtain ⟨m, hm⟩ := k1; exact DataW.trod_lt m _ _ _ hm
  have k2 := h2
  have lt2 : ∀ x ∈ p2, x.block < W.heap.size := by obtain ⟨m, hm⟩ := k2; exact DataW.trod_lt m _ _ _ hm
  obtain ⟨vs0, n0, rfl, hl0, hg0⟩ := open_struct Try.underlying39 (by kernel_rfl) (by kernel_rfl) (hval 0 39 v0 rfl rfl) h0
  obtain ⟨u00, y00, e00, z00⟩ := hg0 0 _ rfl; obtain ⟨x00, q00, _, w00⟩ := trod_float Try.underlying27 z00; simp only [List.cons.injEq, and_true] at q00; subst q00
  obtain ⟨u01, y01, e01, z01⟩ := hg0 1 _ rfl; obtain ⟨x01, q01, _, w01⟩ := trod_float Try.underlying27 z01; simp only [List.cons.injEq, and_true] at q01; subst q01
  obtain ⟨u02, y02, e02, z02⟩ := hg0 2 _ rfl; obtain ⟨x02, q02, _, w02⟩ := trod_float Try.underlying27 z02; simp only [List.cons.injEq, and_true] at q02; subst q02
  obtain ⟨u03, y03, e03, z03⟩ := hg0 3 _ rfl; obtain ⟨x03, q03, _, w03⟩ := trod_float Try.underlying27 z03; simp only [List.cons.injEq, and_true] at q03; subst q03
  obtain ⟨u04, y04, e04, z04⟩ := hg0 4 _ rfl; obtain ⟨x04, q04, _, w04⟩ := trod_float Try.underlying27 z04; simp only [List.cons.injEq, and_true] at q04; subst q04
  obtain ⟨u05, y05, e05, z05⟩ := hg0 5 _ rfl; obtain ⟨x05, q05, _, w05⟩ := trod_float Try.underlying27 z05; simp only [List.cons.injEq, and_true] at q05; subst q05
  obtain ⟨u06, y06, e06, z06⟩ := hg0 6 _ rfl; obtain ⟨x06, q06, _, w06⟩ := trod_float Try.underlying27 z06; simp only [List.cons.injEq, and_true] at q06; subst q06
  obtain ⟨u07, y07, e07, z07⟩ := hg0 7 _ rfl; obtain ⟨x07, q07, _, w07⟩ := trod_float Try.underlying27 z07; simp only [List.cons.injEq, and_true] at q07; subst q07
  obtain rfl : vs0 = [.float .f32 x00, .float .f32 x01, .float .f32 x02, .float .f32 x03, .float .f32 x04, .float .f32 x05, .float .f32 x06, .float .f32 x07] := eight hl0 e00 e01 e02 e03 e04 e05 e06 e07
  obtain ⟨b1, ln1, cp1, rfl⟩ := okWide_slice Try.underlying25 (hval 1 25 v1 rfl rfl)
  obtain ⟨c1, hc1⟩ : ∃ cs, SB W (.slice b1 ln1 cp1) cs := by obtain ⟨fuel, hfu⟩ := h1; exact open_f32s Try.underlying25 Try.underlying27 (by kernel_rfl) hfu
  obtain ⟨b2, ln2, cp2, rfl⟩ := okWide_slice Try.underlying40 (hval 2 40 v2 rfl rfl)
  obtain ⟨c2, hc2⟩ : ∃ cs, GL Value.bool W (.slice b2 ln2 cp2) cs := by obtain ⟨fuel, hfu⟩ := h2; exact open_bools Try.underlying40 Try.underlying4 (by kernel_rfl) hfu
  clear hA0 hval0
  refine (FnExactTrendRun_walk (w := W) x00 (f32_lt w00) x01 (f32_lt w01) x02 (f32_lt w02) x03 (f32_lt w03) x04 (f32_lt w04) x05 (f32_lt w05) x06 (f32_lt w06) x07 (f32_lt w07) _ c1 hc1 _ c2 hc2).mono fun e W' ⟨he, bel⟩ => ?_
  subst he
  exact ⟨_, rfl, _, _, _, [], _, [], hW', trodAll_mk1 (shut_bool Try.underlying4 _), (trodAll_cons_mk (Below.trod laidOut (by kernel_rfl) (of_decide_eq_true (by kernel_rfl)) k0 bel lt0) (trodAll_cons_mk (Below.trod laidOut (by kernel_rfl) (of_decide_eq_true (by kernel_rfl)) k1 bel lt1) (trodAll_cons_mk (Below.trod laidOut (by kernel_rfl) (of_decide_eq_true (by kernel_rfl)) k2 bel lt2) trodAll_mk0))), rfl, bel.frame _, fun h => by cases h⟩

theorem fnExactTrendRun_holds : Rows.FnExactTrendRunSaid :=
  OpenClaim.holds_of_wide 4 Try.f4 rfl rfl rfl rfl rfl rfl rfl ⟨rfl, rfl, rfl, rfl, rfl⟩ rfl rfl rfl rfl rfl (by kernel_rfl) Try.func4 (by kernel_rfl)
    (of_decide_eq_true (by kernel_rfl)) (by unfold Func.isWrapper; first | (rw [if_pos (by decide +kernel)]; kernel_rfl) | (rw [if_neg (by decide +kernel)]; exact ⟨rfl, rfl⟩))
    (fun os started H enc _ => FnExactTrendRun_lifted os started H enc)
#print axioms fnExactTrendRun_holds

end Go.Proofs.Ytnhenklopigfnaa
