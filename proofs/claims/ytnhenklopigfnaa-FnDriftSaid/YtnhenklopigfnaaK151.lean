/- Contracts: charts of smoothed series at the share 1/4, by the reference (for FnDrift). -/
import Derived.Test.YtnhenklopigfnaaK150
namespace Go.Proofs.Ytnhenklopigfnaa
set_option linter.unusedSimpArgs false
set_option linter.unusedVariables false
set_option maxRecDepth 100000
set_option maxHeartbeats 4000000
open Go.RowKit
attribute [local go_sem] run_store_float run_store_complex alloc_drewN setCell_drewN

theorem s_SmoothChart (v : Value) (cs : List Nat) (m k : Nat) (w : World) (hv : SB w v cs) (hs : series cs = true) (hm : fin m = true) (hk : least k = true) (hcs : cs.length ≤ 96) (hok : scOk m cs) :
    Calls Try.prog 19 #[v, .float .f32 1048576000, .float .f32 m, .float .f32 k] w fun e w' => (∃ u, e = .returned (.tuple #[u, .bool true]) ∧ GO (Value.int .i64) 2 w.heap.size w' u (scL m k cs cs.length)) ∧ Below w.heap.size w w' := by
  have HSER := Lib.hid hs
  have HV := Lib.hid hv
  obtain ⟨ao, c, rfl, hc1, hc2, hget⟩ := hv.get rfl
  have HGET := Lib.hid hget
  have HM := Lib.hid hm
  have HK := Lib.hid hk
  have HOK := Lib.hid hok
  clear hget hs hm hk hok hv
  go_enter Try.func19, Try.ntmps19
  go_wp2_with fail
  refine (s_l02Series _ cs _ HV.out.sl).mono ?_; rintro z w1 ⟨rfl, n1, rfl⟩
  rw [HSER.out]
  go_wp2_with fail
  refine (s_l02ShareQ _).mono ?_; rintro z w2 ⟨rfl, n2, rfl⟩
  go_wp2_with fail
  refine (s_l01Finite m _).mono ?_; rintro z w3 ⟨rfl, n3, rfl⟩
  rw [fin_cn HM.out, HM.out]
  go_wp2_with fail
  refine (s_l02Least k _).mono ?_; rintro z w4 ⟨rfl, n4, rfl⟩
  rw [show least (cn .f32 k) = true by
    have h : fin k = true := by have h := HK.out; unfold least at h; simp only [Bool.and_eq_true] at h; exact h.1
    rw [fin_cn h, HK.out]]
  go_wp2_with fail
  go_loopw [35, 11, 10] (fun i s o wr => ∃ j : Nat, j ≤ cs.length ∧ i = .int .i64 (j : Int) ∧ s = .float .f32 (scS m cs j) ∧ Hid (GO (Value.int .i64) 2 w.heap.size wr o (scL m k cs j)) ∧ Below w.heap.size w wr) (fun i _ _ _ => cs.length - (intOf i).toNat)
  case atStart => exact ⟨0, Nat.zero_le _, rfl, rfl, Lib.hid (GO.empty _ _ (by simp) (by simp)), by (repeat (first | exact Below.refl _ _ | assumption | refine below_drewN ?_ _ | refine Below.drew ?_ | refine Below.alloc ?_ (by first | omega | (simp; omega) | (simp; done) | (simp at *; omega)) _ | refine Below.setCell ?_ (by first | omega | (simp; omega) | (simp; done) | (simp at *; omega)) _ | refine Below.trans ?_ (Below.mono (by assumption) (by first | omega | (simp; omega) | (simp; done) | (simp at *; omega)))))⟩
  case round =>
    obtain ⟨j, hj, rfl, rfl, HO, hb⟩ := hrel
    have hz := hb.size
    by_cases hlt : j < cs.length
    · obtain ⟨b, off, r, rfl, hbl, hc, hr32, hcr⟩ := HGET.out j hlt
      obtain ⟨F1, F2, F3, F4, F5, F6, F7⟩ := HOK.out j hlt
      obtain ⟨rfl, -⟩ := raw_of hcr F1
      have hc' := (hb.cell (p := ⟨b, off + j, none⟩) hbl).trans hc
      have F0 := scS_fin HM.out HOK.out j hj
      have HST := Lib.hid (show scL m k cs (j + 1) = if scFar m k cs j then scL m k cs j ++ [(j : Int)] else scL m k cs j from rfl)
      have HFAR := Lib.hid (show scFar m k cs j = fc .gtr .f32 (absV (subF (scS m cs (j + 1)) m)) k from rfl)
      have HNX := Lib.hid (show addF (scS m cs j) (mulF 1048576000 (subF (cs.getD j 0) (scS m cs j))) = scS m cs (j + 1) from rfl)
      have hk32 : cn .f32 k = k := fin_cn (by have h := HK.out; unfold least at h; simp only [Bool.and_eq_true] at h; exact h.1)
      have hm32 : cn .f32 m = m := fin_cn HM.out
      have HL := Lib.hid (show (scL m k cs j).length < 1000000 from Nat.lt_of_le_of_lt (scL_length m k cs j) (by omega))
      have HK2 := Lib.hid hk32
      have HM2 := Lib.hid hm32
      generalize hs' : scS m cs (j + 1) = s' at *
      have HSE := Lib.hid hs'
      clear hs'
      generalize scS m cs j = s at *
      generalize cs.getD j 0 = x at *
      obtain ⟨d1, hd1⟩ : ∃ d1, d1 = subF x s := ⟨_, rfl⟩
      rw [← hd1] at F2 F3 HNX
      obtain ⟨d2, hd2⟩ : ∃ d2, d2 = mulF 1048576000 d1 := ⟨_, rfl⟩
      rw [← hd2] at F3 HNX
      obtain ⟨d4, hd4⟩ : ∃ d4, d4 = subF s' m := ⟨_, rfl⟩
      rw [← hd4] at F5 F7 HFAR
      have X1 := Lib.hid (show ar .sub .f32 x s = d1 from hd1.symm)
      have X2 := Lib.hid (show ar .mul .f32 1048576000 d1 = d2 from hd2.symm)
      have X3 := Lib.hid (show ar .add .f32 s d2 = s' from HNX.out)
      have X4 := Lib.hid (show ar .sub .f32 s' m = d4 from hd4.symm)
      have C := Lib.hid (fun (c : Nat) (h : fin c = true) => fin_cn h)
      have CQ := Lib.hid (show cn .f32 1048576000 = 1048576000 from by decide)
      have HA := Lib.hid (fun w => s_l07Size d4 F5 F7 w)
      have HG := Lib.hid (rfl : fc .gtr .f32 (absV d4) k = fc .gtr .f32 (absV d4) k)
      have HNN := Lib.hid (abs_fin F5 F7).2
      have Y0 := Lib.hid F0; have Y1 := Lib.hid F1; have Y2 := Lib.hid F2; have Y3 := Lib.hid F3; have Y4 := Lib.hid F4; have Y5 := Lib.hid F5
      clear hd1 hd2 hd4 HNX hc hcr hr32 F0 F1 F2 F3 F4 F5 F6 F7 hk32 hm32
      obtain ⟨z, hz0⟩ : ∃ z, z = absV d4 := ⟨_, rfl⟩
      rw [← hz0] at HA HNN HFAR
      clear hz0 HG
      cases hfar : scFar m k cs j
      all_goals
        have HF := Lib.hid ((show fc .gtr .f32 (cn .f32 z) (cn .f32 k) = fc .gtr .f32 z k by rw [cn_of_not (k := .f32) HNN.out, HK2.out]).trans (HFAR.out.symm.trans hfar))
        rw [hfar] at HST
        clear hfar
        go_wp2_with (first
          | (refine wpList_arx x s d1 rfl rfl rfl (C.out _ Y1.out) (C.out _ Y0.out) X1.out Y2.out ?_; intro n5)
          | (refine wpList_arx 1048576000 d1 d2 rfl rfl rfl CQ.out (C.out _ Y2.out) X2.out Y3.out ?_; intro n6)
          | (refine wpList_arx s d2 s' rfl rfl rfl (C.out _ Y0.out) (C.out _ Y3.out) X3.out Y4.out ?_; intro n7)
          | (refine wpList_arx s' m d4 rfl rfl rfl (C.out _ Y4.out) HM2.out X4.out Y5.out ?_; intro n8)
          | (go_at_call 80; refine (HA.out _).mono ?_; rintro e9 w9 ⟨rfl, n9, rfl⟩)
          | (go_at_call 78; refine (s_l01Finite s' _).mono ?_; rintro e8 w8 ⟨rfl, n88, rfl⟩; rw [C.out _ Y4.out, Y4.out])
          | (refine wpList_fc .f32 z k rfl rfl rfl ?_; rw [HF.out])
          | (at_builtin; refine wpList_gapp (inj := Value.int .i64) oneI64C (fun _ => rfl) w.heap.size u10 (scL m k cs j) rfl (by first | exact GO.drewN (GO.alloc HO.out _) _ | exact GO.alloc HO.out _ | exact GO.alloc (GO.drewN HO.out _) _) [(j : Int)] _ 1 rfl rfl (by intro i u hu; cases i with | zero => (simp only [List.getElem?_cons_zero, Option.some.injEq] at hu; subst hu; simp) | succ i => simp at hu) (by have := HL.out; simp only [List.length_cons, List.length_nil]; omega) (by simp; omega) ?_; intro v2 w10 hown hg; have HO2 := Lib.hid hown; have hB : Below w.heap.size w w10 := below_of_grown (by first | exact below_drewN (hb.alloc hz _) _ | (repeat (first | exact Below.refl _ _ | assumption | refine below_drewN ?_ _ | refine Below.drew ?_ | refine Below.alloc ?_ (by first | omega | (simp; omega) | (simp; done) | (simp at *; omega)) _ | refine Below.setCell ?_ (by first | omega | (simp; omega) | (simp; done) | (simp at *; omega)) _ | refine Below.trans ?_ (Below.mono (by assumption) (by first | omega | (simp; omega) | (simp; done) | (simp at *; omega)))))) hg (by simp; omega) HO.out.own_ge; clear hown hg))
      · refine ⟨⟨j + 1, by omega, by go_num, by rw [HSE.out], ?_, by (repeat (first | exact Below.refl _ _ | assumption | refine below_drewN ?_ _ | refine Below.drew ?_ | refine Below.alloc ?_ (by first | omega | (simp; omega) | (simp; done) | (simp at *; omega)) _ | refine Below.setCell ?_ (by first | omega | (simp; omega) | (simp; done) | (simp at *; omega)) _ | refine Below.trans ?_ (Below.mono (by assumption) (by first | omega | (simp; omega) | (simp; done) | (simp at *; omega)))))⟩, by simp [intOf]; omega⟩
        show Hid (GO _ _ _ _ _ _)
        rw [HST.out, if_neg (by decide)]
        exact Lib.hid (GO.drewN HO.out _)
      · refine ⟨⟨j + 1, by omega, by go_num, by rw [HSE.out], ?_, hB⟩, by simp [intOf]; omega⟩
        show Hid (GO _ _ _ _ _ _)
        rw [HST.out, if_pos (by trivial)]
        exact HO2
    · obtain rfl : j = cs.length := by omega
      go_wp2_with fail
      go_ret2
      exact ⟨⟨_, rfl, HO.out⟩, hb⟩

end Go.Proofs.Ytnhenklopigfnaa
