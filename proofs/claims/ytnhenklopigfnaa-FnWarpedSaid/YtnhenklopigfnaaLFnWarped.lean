/- THE LAW FnWarped: warped ways lead from the first to the last, cost what is told, no more than straight ones, nearly, and nothing for the same; for all arguments. No condition. -/
import Derived.Test.YtnhenklopigfnaaLawKit
import Derived.Test.YtnhenklopigfnaaWr
import Derived.Test.YtnhenklopigfnaaK166
import Derived.Test.YtnhenklopigfnaaK167
import Derived.Test.YtnhenklopigfnaaK81
namespace Go.Proofs.Ytnhenklopigfnaa
set_option linter.unusedSimpArgs false
set_option linter.unusedVariables false
set_option maxRecDepth 100000
set_option maxHeartbeats 4000000
open Go.ChangeShapes Go.WideShapes Go.ChangeAt Go.RowKit
attribute [local go_sem] run_store_float run_store_complex alloc_drewN setCell_drewN

set_option maxRecDepth 100000 in
theorem FnWarped_walk {w : World} (u : Value) (cs : List Int) (hu : GL (Value.int .u8) w u cs) (hcs : allU8 cs) (v : Value) (ds : List Int) (hv : GL (Value.int .u8) w v ds) (hds : allU8 ds) :
    Calls Try.prog 7 #[u, v] w fun z w' => z = .returned (.bool true) ∧ Below w.heap.size w w' := by
  have HU := Lib.hid hu
  have HV := Lib.hid hv
  have HCS := Lib.hid hcs
  have HDS := Lib.hid hds
  clear hu hv hcs hds
  go_enter Try.func7, Try.ntmps7
  go_wp2_with fail
  refine (l_b10Long u v cs ds _ HU.out HV.out).mono ?_; rintro z w1 ⟨rfl, hd⟩
  have HB1 := Lib.hid (hd.below w.heap.size)
  clear hd
  cases hbig : (decide (1048576 < cs.length) || decide (1048576 < ds.length)) with
  | true =>
    go_wp2_with fail
    go_ret
    exact ⟨rfl, HB1.out⟩
  | false =>
    clear hbig
    go_wp2_with fail
    refine (l_b10AtX v ds 0 10 (by omega) (by omega) (by omega) _ (HV.out.keep HB1.out) HDS.out).mono ?_; rintro z w2 ⟨⟨x0, hx0, rfl⟩, hd⟩
    have HB2 := Lib.hid (HB1.out.trans ((hd.below w1.heap.size).mono HB1.out.size))
    clear hd HB1
    obtain ⟨nn, hn⟩ : ∃ nn, nn = 1 + x0 := ⟨_, rfl⟩
    have t1 : (1 : Int) + (x0 : Int) = (nn : Int) := by omega
    have t2 : IntKind.i64.wrap (nn : Int) = (nn : Int) := by rw [IntKind.wrap_i64]; omega
    have hn1 : 1 ≤ nn := by omega
    have hn2 : nn ≤ 10 := by omega
    clear hn
    go_wp2_with fail
    refine (s_B10List u cs nn (by omega) _ (HU.out.keep HB2.out) HCS.out).mono ?_; rintro z w3 ⟨⟨va, L, rfl, ho, hl, hq⟩, hb⟩
    have HB3 := Lib.hid (HB2.out.trans (hb.mono HB2.out.size))
    have HA := Lib.hid (show ∀ w', Below w3.heap.size w3 w' → SB w' va L from fun w' h => (ho.keep h).sb)
    have HLL := Lib.hid hl
    have HQ := Lib.hid (isQ_list hq)
    obtain ⟨ao, c, hva, -⟩ := ho.sb.sl.slice
    rw [hl] at hva
    subst hva
    have hz3 := HB3.out.size
    clear ho hl hq hb HB2
    go_wp2_with fail
    refine (s_B10List v ds nn (by omega) _ (HV.out.keep HB3.out) HDS.out).mono ?_; rintro z w4 ⟨⟨vb, M, rfl, ho, hl, hq⟩, hb⟩
    have HB4 := Lib.hid (HB3.out.trans (hb.mono hz3))
    have HA4 := Lib.hid (show ∀ w', Below w4.heap.size w4 w' → SB w' (.slice ao nn c) L from fun w' h => HA.out w' (hb.trans (h.mono hb.size)))
    have HM4 := Lib.hid (show ∀ w', Below w4.heap.size w4 w' → SB w' vb M from fun w' h => (ho.keep h).sb)
    have HML := Lib.hid hl
    have HR := Lib.hid (isQ_list hq)
    obtain ⟨bo, d, hvb, -⟩ := ho.sb.sl.slice
    rw [hl] at hvb
    subst hvb
    have hz4 := HB4.out.size
    clear ho hl hq hb HB3 HA
    go_wp2_with fail
    refine (l_b10AtX v ds 1 12 (by omega) (by omega) (by omega) _ (HV.out.keep HB4.out) HDS.out).mono ?_; rintro z w5 ⟨⟨x1, hx1, rfl⟩, hd⟩
    have HB5 := Lib.hid (HB4.out.trans ((hd.below w4.heap.size).mono hz4))
    have HW5 := Lib.hid (hd.below w4.heap.size)
    clear hd HB4
    obtain ⟨X, hX, hXc⟩ := HQ.out
    obtain ⟨Y, hY, hYc⟩ := HR.out
    have hWn : Wn L M X Y := ⟨fun i hi => ⟨(hXc i hi).1, hX i⟩, fun i hi => ⟨(hYc i hi).1, hY i⟩, by rw [HLL.out]; omega, by rw [HML.out]; omega⟩
    have hWs : Wn L L X X := ⟨fun i hi => ⟨(hXc i hi).1, hX i⟩, fun i hi => ⟨(hXc i hi).1, hX i⟩, by rw [HLL.out]; omega, by rw [HLL.out]; omega⟩
    obtain ⟨last, zz, P, g1, g2, g3, g4, g5, g6, g7, g8, g9⟩ := warped_all hWn HLL.out HML.out (window := (x1 : Int)) (by omega) (by omega)
    obtain ⟨ls2, z2, P2, q1, q2, q3, q4, -⟩ := warped_all hWs HLL.out HLL.out (window := (x1 : Int)) (by omega) (by omega)
    obtain rfl : z2 = 0 := by rw [sumD_self] at q3; omega
    have HLE := Lib.hid g1
    have HFQ := Lib.hid g4
    have HCQ := Lib.hid g5
    have HWQ := Lib.hid g8
    have HFS := Lib.hid q4
    have HLS := Lib.hid q1
    have HWI := Lib.hid g9
    have HSD := Lib.hid (fun i (hi : i < nn) => show 0 ≤ dI X Y i i ∧ dI X Y i i ≤ 64 from by have := hWn.d (i := i) (k := i) (by rw [HLL.out]; exact hi) (by rw [HML.out]; exact hi); exact ⟨this.2.2, this.2.1⟩)
    have HPD := Lib.hid (fun i k (hi : i < nn) (hk : k < nn) => show 0 ≤ dI X Y i k ∧ dI X Y i k ≤ 64 from by have := hWn.d (i := i) (k := k) (by rw [HLL.out]; exact hi) (by rw [HML.out]; exact hk); exact ⟨this.2.2, this.2.1⟩)
    have HXE := Lib.hid (fun i (hi : i < nn) => show Ev (L.getD i 0) (X i) ∧ (X i).natAbs ≤ 32 from ⟨(hXc i (by rw [HLL.out]; exact hi)).1, hX i⟩)
    have HYE := Lib.hid (fun i (hi : i < nn) => show Ev (M.getD i 0) (Y i) ∧ (Y i).natAbs ≤ 32 from ⟨(hYc i (by rw [HML.out]; exact hi)).1, hY i⟩)
    obtain ⟨C, hC⟩ : ∃ C, C = wpC szI geI L M (x1 : Int) := ⟨_, rfl⟩
    rw [← hC] at g6 g7 HCQ
    have HCL := Lib.hid g6
    have HCE := Lib.hid g7
    have hz5 := HB5.out.size
    clear g1 g4 g5 g6 g7 g8 g9 q1 q2 q3 q4 hC hWn hWs hX hXc hY hYc P2 HQ HR
    go_wp2_with fail
    refine (i_WarpFar _ _ L M (x1 : Int) _ (HA4.out _ HW5.out) (HM4.out _ HW5.out)).mono ?_; rintro z w6 ⟨⟨r, b, rfl, hr, hcr, hb⟩, hbl⟩
    rw [HFQ.out] at hcr hb
    subst hb
    obtain rfl : r = last := cn32_raw hcr HLE.out.notNaN
    have HB6 := Lib.hid (HB5.out.trans (hbl.mono hz5))
    have HW6 := Lib.hid (HW5.out.trans (hbl.mono HW5.out.size))
    have hz6 := HB6.out.size
    have hy6 := HW6.out.size
    clear hcr hbl HB5 HW5 hz5
    go_wp2_with fail
    refine (i_WarpWay _ _ L M (x1 : Int) _ (HA4.out _ HW6.out) (HM4.out _ HW6.out)).mono ?_; rintro z w7 ⟨⟨vw, b, rfl, hvw, hb⟩, hbl⟩
    rw [HWQ.out] at hvw hb
    subst hb
    have HB7 := Lib.hid (HB6.out.trans (hbl.mono hz6))
    have HW7 := Lib.hid (HW6.out.trans (hbl.mono hy6))
    have hz7 := HB7.out.size
    have hy7 := HW7.out.size
    obtain ⟨gw, wcap, hvs, -, hgw, hcw⟩ := hvw.row (by rw [flatW_length]; have := HWI.out.pos; omega)
    rw [flatW_length] at hvs
    subst hvs
    have HWY := Lib.hid (show ∀ w', Below w7.heap.size w7 w' → GL (Value.int .i64) w' (.slice (some ⟨gw, 0, none⟩) (2 * P.length) wcap) (flatW P) from fun w' h => (hvw.keep h).gl)
    have HWC := Lib.hid (show ∀ w', Below w7.heap.size w7 w' → ∀ j, j < P.length → w'.cell? ⟨gw, 2 * j, none⟩ = some (.int .i64 ((P.getD j (0, 0)).1 : Int)) ∧ w'.cell? ⟨gw, 2 * j + 1, none⟩ = some (.int .i64 ((P.getD j (0, 0)).2 : Int)) from fun w' h j hj => ⟨(h.cell (p := ⟨gw, 2 * j, none⟩) hgw).trans (hcw _ _ (get_flat hj).1), (h.cell (p := ⟨gw, 2 * j + 1, none⟩) hgw).trans (hcw _ _ (get_flat hj).2)⟩)
    clear hvw hcw hbl HB6 HW6 hz6 hy6
    go_wp2_with fail
    refine (i_WarpCosts _ _ L M (x1 : Int) _ (HA4.out _ HW7.out) (HM4.out _ HW7.out)).mono ?_; rintro z w8 ⟨⟨vc, b, rfl, hvc, hb⟩, hbl⟩
    rw [HCQ.out] at hvc hb
    subst hb
    have HB8 := Lib.hid (HB7.out.trans (hbl.mono hz7))
    have HW8 := Lib.hid (HW7.out.trans (hbl.mono hy7))
    have HX8 := Lib.hid (hbl : Below w7.heap.size w7 w8)
    have hz8 := HB8.out.size
    have hy8 := HW8.out.size
    have hx8 := HX8.out.size
    have HCO := Lib.hid (show ∀ w', Below w8.heap.size w8 w' → SB w' vc C from fun w' h => (hvc.keep h).sb)
    obtain ⟨co, cc, hvs, -⟩ := hvc.sb.sl.slice
    clear hvc hbl HB7 HW7 hz7 hy7
    rw [HCL.out] at hvs
    subst hvs
    go_wp2_with fail
    refine (s_WarpWayB _ _ L M (x1 : Int) _ (HA4.out _ HW8.out) (HM4.out _ HW8.out)).mono ?_; rintro z w9 ⟨⟨vt, b, rfl, hvt, hb⟩, hbl⟩
    rw [HWQ.out] at hvt hb
    subst hb
    have HB9 := Lib.hid (HB8.out.trans (hbl.mono hz8))
    have HW9 := Lib.hid (HW8.out.trans (hbl.mono hy8))
    have HX9 := Lib.hid (HX8.out.trans (hbl.mono hx8))
    have HY9 := Lib.hid (hbl : Below w8.heap.size w8 w9)
    have hz9 := HB9.out.size
    have hy9 := HW9.out.size
    have hx9 := HX9.out.size
    have hv9 := HY9.out.size
    have HTY := Lib.hid (show ∀ w', Below w9.heap.size w9 w' → GL (Value.int .i64) w' vt (flatW P) from fun w' h => (hvt.keep h).gl)
    clear hvt hbl HB8 HW8 hz8 hy8 HX8 hx8
    obtain ⟨to, tc, hvs, -, -⟩ := (HTY.out _ (Below.refl _ _)).slice
    rw [flatW_length] at hvs
    subst hvs
    go_wp2_with fail
    refine (i_WarpFar _ _ L L (x1 : Int) _ (HA4.out _ HW9.out) (HA4.out _ HW9.out)).mono ?_; rintro z wa ⟨⟨r2, b, rfl, hr2, hcr, hb⟩, hbl⟩
    rw [HFS.out] at hcr hb
    subst hb
    obtain rfl : r2 = ls2 := cn32_raw hcr HLS.out.notNaN
    have HBa := Lib.hid (HB9.out.trans (hbl.mono hz9))
    have HWa := Lib.hid (HW9.out.trans (hbl.mono hy9))
    have HXa := Lib.hid (HX9.out.trans (hbl.mono hx9))
    have HYa := Lib.hid (HY9.out.trans (hbl.mono hv9))
    have HZa := Lib.hid (hbl : Below w9.heap.size w9 wa)
    have hza := HBa.out.size
    clear hcr hbl HB9 HW9 HX9 HY9 hz9 hy9 hx9 hv9
    have oS : FloatKind.f32.format.order r2 0 = some .eq := by have := HLS.out.order ev_zero; rw [cmpI, if_neg (by omega), if_pos rfl] at this; exact this
    go_wp2_with fail
    refine (l_b10Ints _ _ _ _ (HWY.out _ HXa.out) (HTY.out _ HZa.out)).mono ?_; rintro z wb ⟨rfl, nb, rfl⟩
    have hNN : nn * nn ≤ 10 * 10 := Nat.mul_le_mul hn2 hn2
    have hNN1 : 1 * 1 ≤ nn * nn := Nat.mul_le_mul hn1 hn1
    have hmul : (nn : Int) * (nn : Int) = ((nn * nn : Nat) : Int) := by rw [Int.natCast_mul]
    obtain ⟨NN, hN⟩ : ∃ NN, NN = nn * nn := ⟨_, rfl⟩
    rw [← hN] at hNN hNN1 hmul HCL HCE
    rw [← hN]
    clear hN
    obtain ⟨av1, cc1, hv1, -, -, hget1⟩ := (HCO.out _ HYa.out).get HCL.out
    obtain ⟨bb, oo, rc, hao1, hbl1, hcc, hrc, hcrc⟩ := hget1 (NN - 1) (by omega)
    obtain rfl : co = some ⟨bb, oo, none⟩ := by injection hv1 with e1; rw [e1]; exact hao1
    rw [HCE.out] at hcrc
    obtain rfl : rc = r := cn32_raw hcrc HLE.out.notNaN
    have hwNN : IntKind.i64.wrap (NN : Int) = (NN : Int) := by rw [IntKind.wrap_i64]; omega
    have hz1 : (NN : Int) - 1 = ((NN - 1 : Nat) : Int) := by omega
    have hw1 : IntKind.i64.wrap ((NN : Int) - 1) = ((NN - 1 : Nat) : Int) := by rw [IntKind.wrap_i64]; omega
    have hPL := HWI.out.pos
    have hPF := HWI.out.few
    obtain ⟨PL, hPLe⟩ : ∃ PL, PL = P.length := ⟨_, rfl⟩
    rw [← hPLe] at hPL hPF
    have HPL := Lib.hid hPLe
    rw [← hPLe]
    clear hPLe hv1 hget1 hao1 hcrc
    have hcc' : (wa.drewN nb).cell? ⟨bb, oo + (NN - 1), none⟩ = some (.float .f32 rc) := hcc
    generalize hn1e : NN - 1 = n1 at *
    have hzi : (n1 : Int) < (NN : Int) := by omega
    have hz0 : 0 ≤ (n1 : Int) := by omega
    have hzn : ((n1 : Int)).toNat = n1 := by omega
    have hw2 : IntKind.i64.wrap ((2 * PL : Nat) : Int) = ((2 * PL : Nat) : Int) := by rw [IntKind.wrap_i64]; omega
    have hpl2 : ¬ (((2 * PL : Nat) : Int) < 2) := by omega
    go_wp2_with fail
    refine (s_SameNumber rc rc hrc hrc _).mono ?_; rintro z wf ⟨rfl, hd⟩
    rw [show same (cn .f32 rc) (cn .f32 rc) = true by simp [same]]
    have HBf := Lib.hid ((below_drewN HBa.out nb).trans (hd.below _))
    have HWf := Lib.hid ((below_drewN HWa.out nb).trans (hd.below _))
    have HXf := Lib.hid ((below_drewN HXa.out nb).trans (hd.below _))
    have hzf := HBf.out.size
    have hyf := HWf.out.size
    have hxf := HXf.out.size
    clear hd HBa HWa HXa HYa HZa hcc hcc' hza oS
    go_wp2_with fail
    go_loopw [129, 19] (fun i s wr => ∃ j : Nat, j ≤ nn ∧ i = .int .i64 (j : Int) ∧ (∃ g, s = .float .f64 g ∧ Hid (Ew g (sumD X Y j))) ∧ Below wf.heap.size wf wr) (fun i _ _ => nn - (intOf i).toNat)
    case atStart => exact ⟨0, Nat.zero_le _, rfl, ⟨0, rfl, Lib.hid ew_zero⟩, Below.refl _ _⟩
    case round =>
      obtain ⟨j, hj, rfl, ⟨g, rfl, HG⟩, hb⟩ := hrel
      have hzr := hb.size
      by_cases hlt : j < nn
      · have hji : (j : Int) < (nn : Int) := by omega
        have hj0 : 0 ≤ (j : Int) := by omega
        have hjn : ((j : Int)).toNat = j := by omega
        obtain ⟨av1, cc1, hv1, -, -, hget1⟩ := (HA4.out wr (HWf.out.trans (hb.mono hyf))).get HLL.out
        obtain ⟨b1, o1, ra, hao1, hbl1, hc1, hr1, hcr1⟩ := hget1 j hlt
        obtain rfl : ao = some ⟨b1, o1, none⟩ := by injection hv1 with q1; rw [q1]; exact hao1
        obtain ⟨av2, cc2, hv2, -, -, hget2⟩ := (HM4.out wr (HWf.out.trans (hb.mono hyf))).get HML.out
        obtain ⟨b2, o2, rb, hao2, hbl2, hc2, hr2', hcr2⟩ := hget2 j hlt
        obtain rfl : bo = some ⟨b2, o2, none⟩ := by injection hv2 with q1; rw [q1]; exact hao2
        obtain ⟨hEa, hXb⟩ := HXE.out j hlt
        obtain ⟨hEb, hYb⟩ := HYE.out j hlt
        obtain rfl : ra = L.getD j 0 := cn32_raw hcr1 hEa.notNaN
        obtain rfl : rb = M.getD j 0 := cn32_raw hcr2 hEb.notNaN
        have RC1 := fun w => run_wdx (P := Try.prog) w 27 32 (L.getD j 0) (by kernel_rfl) (by kernel_rfl) hEa.notNaN
        have RC2 := fun w => run_wdx (P := Try.prog) w 27 32 (M.getD j 0) (by kernel_rfl) (by kernel_rfl) hEb.notNaN
        have hwa := hEa.wide (by omega)
        have hwb := hEb.wide (by omega)
        have HGC := Lib.hid (fun w => l_b10GapW _ _ _ _ hwa hwb (by omega) w)
        have hgp := hwa.gap hwb (by omega)
        have hsb := sumD_bound (n := nn) HSD.out j (by omega)
        have hdj := HSD.out j hlt
        have hsum := HG.out.add hgp (by have : ((X j - Y j).natAbs : Int) = dI X Y j j := rfl; omega)
        have HGS := Lib.hid (show Ew _ (sumD X Y (j + 1)) from hsum)
        have RA := fun t w => run_arx64 (P := Try.prog) .add g (gapF (wd (L.getD j 0)) (wd (M.getD j 0))) _ (by rw [HG.out.cn, hgp.cn]) hsum.notNaN t w
        generalize gapF (wd (L.getD j 0)) (wd (M.getD j 0)) = gp at *
        generalize ar .add .f64 g gp = g2 at *
        clear hwa hwb hgp hsum hao1 hao2 hv1 hv2 hget1 hget2 hcr1 hcr2 hEa hEb
        generalize wd (L.getD j 0) = wla at *
        generalize wd (M.getD j 0) = wmb at *
        generalize L.getD j 0 = la at *
        generalize M.getD j 0 = mb at *
        go_wp2_with fail
        go_quiet ((go_at_call 17; first | exact quiet_dr (HGC.out _) | exact quiet_dr2 (HGC.out _)))
        go_wp2_with fail
        exact ⟨⟨j + 1, by omega, by go_num, ⟨g2, rfl, HGS⟩, below_drewN hb _⟩, by simp [intOf]; omega⟩
      · obtain rfl : j = nn := by omega
        have hji : ¬ ((j : Int) < (j : Int)) := by omega
        obtain ⟨wg, hwg⟩ : ∃ wg, wg = wr := ⟨_, rfl⟩
        subst hwg
        have HBg := Lib.hid (HBf.out.trans (hb.mono hzf))
        have HWg := Lib.hid (HWf.out.trans (hb.mono hyf))
        have HXg := Lib.hid (HXf.out.trans (hb.mono hxf))
        have hzg := HBg.out.size
        have hyg := HWg.out.size
        have hxg := HXg.out.size
        clear hb HBf HWf HXf hzf hyf hxf hzr
        go_wp2_with fail
        have HST := Lib.hid HG.out
        clear HG
        go_loopw [22, 21] (fun i s wr => ∃ k : Nat, k ≤ PL ∧ i = .int .i64 (2 * (k : Int)) ∧ (∃ h, s = .float .f64 h ∧ Hid (Ew h (preS X Y P k))) ∧ Below wg.heap.size wg wr) (fun i _ _ => 2 * PL - (intOf i).toNat)
        case atStart => exact ⟨0, Nat.zero_le _, rfl, ⟨0, rfl, Lib.hid ew_zero⟩, Below.refl _ _⟩
        case round =>
          obtain ⟨k, hk, rfl, ⟨h, rfl, HH⟩, hb⟩ := hrel
          have hzr := hb.size
          by_cases hlt2 : k < PL
          · have hkP : k < P.length := by have := HPL.out; omega
            obtain ⟨hp, hq, hf⟩ := HWI.out.each k hkP
            obtain ⟨hcp, hcq⟩ := HWC.out wr (HXg.out.trans (hb.mono hxg)) k hkP
            have hpre := preS_bound HWI.out (fun i k hi hk => HPD.out i k hi hk) k (by omega)
            have HPS := Lib.hid (show preS X Y P (k + 1) = preS X Y P k + dI X Y (P.getD k (0, 0)).1 (P.getD k (0, 0)).2 from rfl)
            have hdj := HPD.out _ _ hp hq
            obtain ⟨hEa, hXb⟩ := HXE.out _ hp
            obtain ⟨hEb, hYb⟩ := HYE.out _ hq
            have HSTE := Lib.hid (fun (h0 : 0 < k) => show (P.getD (k - 1) (0, 0)).1 ≤ (P.getD k (0, 0)).1 ∧ (P.getD k (0, 0)).1 ≤ (P.getD (k - 1) (0, 0)).1 + 1 ∧ (P.getD (k - 1) (0, 0)).2 ≤ (P.getD k (0, 0)).2 ∧ (P.getD k (0, 0)).2 ≤ (P.getD (k - 1) (0, 0)).2 + 1 ∧ (P.getD (k - 1) (0, 0)).1 + (P.getD (k - 1) (0, 0)).2 < (P.getD k (0, 0)).1 + (P.getD k (0, 0)).2 from by
              have := HWI.out.steps (k - 1) (by omega)
              rw [show k - 1 + 1 = k by omega] at this
              exact this)
            have hf1 : ((P.getD k (0, 0)).1 : Int) - ((P.getD k (0, 0)).2 : Int) ≤ (x1 : Int) ∧ ((P.getD k (0, 0)).2 : Int) - ((P.getD k (0, 0)).1 : Int) ≤ (x1 : Int) := by unfold farI at hf; split at hf <;> omega
            obtain ⟨hf2, hf3⟩ := hf1
            have HC0 := Lib.hid (fun (h0 : 0 < k) => HWC.out wr (HXg.out.trans (hb.mono hxg)) (k - 1) (by omega))
            generalize (P.getD k (0, 0)).1 = pn at *
            generalize (P.getD k (0, 0)).2 = qn at *
            generalize (P.getD (k - 1) (0, 0)).1 = pm at *
            generalize (P.getD (k - 1) (0, 0)).2 = qm at *
            obtain ⟨av1, cc1, hv1, -, -, hget1⟩ := (HA4.out wr (HWg.out.trans (hb.mono hyg))).get HLL.out
            obtain ⟨b1, o1, ra, hao1, hbl1, hc1, hr1, hcr1⟩ := hget1 pn hp
            obtain rfl : ao = some ⟨b1, o1, none⟩ := by injection hv1 with q1; rw [q1]; exact hao1
            obtain ⟨av2, cc2, hv2, -, -, hget2⟩ := (HM4.out wr (HWg.out.trans (hb.mono hyg))).get HML.out
            obtain ⟨b2, o2, rb, hao2, hbl2, hc2, hr2', hcr2⟩ := hget2 qn hq
            obtain rfl : bo = some ⟨b2, o2, none⟩ := by injection hv2 with q1; rw [q1]; exact hao2
            obtain rfl : ra = L.getD pn 0 := cn32_raw hcr1 hEa.notNaN
            obtain rfl : rb = M.getD qn 0 := cn32_raw hcr2 hEb.notNaN
            have RC1 := fun w => run_wdx (P := Try.prog) w 27 32 (L.getD pn 0) (by kernel_rfl) (by kernel_rfl) hEa.notNaN
            have RC2 := fun w => run_wdx (P := Try.prog) w 27 32 (M.getD qn 0) (by kernel_rfl) (by kernel_rfl) hEb.notNaN
            have hwa := hEa.wide (by omega)
            have hwb := hEb.wide (by omega)
            have HGC := Lib.hid (fun w => l_b10GapW _ _ _ _ hwa hwb (by omega) w)
            have hgp := hwa.gap hwb (by omega)
            have hsum := HH.out.add hgp (by have : ((X pn - Y qn).natAbs : Int) = dI X Y pn qn := rfl; omega)
            have HGS := Lib.hid (show Ew _ (preS X Y P (k + 1)) by rw [HPS.out]; exact hsum)
            have RA := fun t w => run_arx64 (P := Try.prog) .add h (gapF (wd (L.getD pn 0)) (wd (M.getD qn 0))) _ (by rw [HH.out.cn, hgp.cn]) hsum.notNaN t w
            generalize gapF (wd (L.getD pn 0)) (wd (M.getD qn 0)) = gp at *
            generalize ar .add .f64 h gp = g2 at *
            clear hwa hwb hgp hsum hao1 hao2 hv1 hv2 hget1 hget2 hcr1 hcr2 hEa hEb hpre hdj HPS hf
            generalize wd (L.getD pn 0) = wla at *
            generalize wd (M.getD qn 0) = wmb at *
            generalize L.getD pn 0 = la at *
            generalize M.getD qn 0 = mb at *
            obtain ⟨ti, hti⟩ : ∃ ti : Int, ti = 2 * (k : Int) := ⟨_, rfl⟩
            obtain ⟨t0, ht0⟩ : ∃ t0 : Nat, t0 = 2 * k := ⟨_, rfl⟩
            rw [← ht0] at hcp hcq
            obtain ⟨pi, hpi⟩ : ∃ pi : Int, pi = (pn : Int) := ⟨_, rfl⟩
            obtain ⟨qi, hqi⟩ : ∃ qi : Int, qi = (qn : Int) := ⟨_, rfl⟩
            rw [← hpi] at hcp hf2 hf3
            rw [← hqi] at hcq hf2 hf3
            rw [← hti]
            have i1 : 0 ≤ ti := by omega
            have i2 : ti < ((2 * PL : Nat) : Int) := by omega
            have i3 : ti.toNat = t0 := by omega
            have i4 : IntKind.i64.wrap (ti + 1) = ti + 1 := by rw [IntKind.wrap_i64]; omega
            have i5 : ti + 1 < ((2 * PL : Nat) : Int) := by omega
            have i6 : (ti + 1).toNat = t0 + 1 := by omega
            have i7 : 0 ≤ ti + 1 := by omega
            have j1 : 0 ≤ pi := by omega
            have j2 : pi < (j : Int) := by omega
            have j3 : pi.toNat = pn := by omega
            have k1 : 0 ≤ qi := by omega
            have k2 : qi < (j : Int) := by omega
            have k3 : qi.toNat = qn := by omega
            have i8 : IntKind.i64.wrap (ti + 2) = ti + 2 := by rw [IntKind.wrap_i64]; omega
            have j4 : IntKind.i64.wrap (pi - qi) = pi - qi := by rw [IntKind.wrap_i64]; omega
            have j5 : IntKind.i64.wrap (qi - pi) = qi - pi := by rw [IntKind.wrap_i64]; omega
            have HTI := Lib.hid hti
            rcases Nat.eq_zero_or_pos k with hk0 | hk0
            · have i9 : ¬ (0 < ti) := by omega
              clear hti ht0 hpi hqi hk0 HSTE HC0
              go_wp2_with fail
              go_quiet ((go_at_call 17; first | exact quiet_dr (HGC.out _) | exact quiet_dr2 (HGC.out _)))
              go_wp2_with fail
              exact ⟨⟨k + 1, by omega, by (congr 1; have := HTI.out; omega), ⟨g2, rfl, HGS⟩, below_drewN hb _⟩, by simp [intOf]; have := HTI.out; omega⟩
            · have i9 : 0 < ti := by omega
              obtain ⟨s1, s2, s3, s4, s5⟩ := HSTE.out hk0
              obtain ⟨c1, c2⟩ := HC0.out hk0
              obtain ⟨t1, ht1⟩ : ∃ t1 : Nat, t1 = 2 * (k - 1) := ⟨_, rfl⟩
              rw [← ht1] at c1 c2
              obtain ⟨pmi, hpmi⟩ : ∃ pmi : Int, pmi = (pm : Int) := ⟨_, rfl⟩
              obtain ⟨qmi, hqmi⟩ : ∃ qmi : Int, qmi = (qm : Int) := ⟨_, rfl⟩
              rw [← hpmi] at c1
              rw [← hqmi] at c2
              have m1 : IntKind.i64.wrap (ti - 2) = ti - 2 := by rw [IntKind.wrap_i64]; omega
              have m2 : IntKind.i64.wrap (ti - 1) = ti - 1 := by rw [IntKind.wrap_i64]; omega
              have m3 : 0 ≤ ti - 2 := by omega
              have m4 : ti - 2 < ((2 * PL : Nat) : Int) := by omega
              have m5 : (ti - 2).toNat = t1 := by omega
              have m6 : 0 ≤ ti - 1 := by omega
              have m7 : ti - 1 < ((2 * PL : Nat) : Int) := by omega
              have m8 : (ti - 1).toNat = t1 + 1 := by omega
              have n1 : ¬ (pi < pmi) := by omega
              have n2 : ¬ (pmi + 1 < pi) := by omega
              have n3 : ¬ (qi < qmi) := by omega
              have n4 : ¬ (qmi + 1 < qi) := by omega
              have n5 : IntKind.i64.wrap (pmi + 1) = pmi + 1 := by rw [IntKind.wrap_i64]; omega
              have n6 : IntKind.i64.wrap (qmi + 1) = qmi + 1 := by rw [IntKind.wrap_i64]; omega
              have hne : pi = pmi → ¬ qi = qmi := by omega
              clear hti ht0 hpi hqi hpmi hqmi ht1 HSTE HC0 s1 s2 s3 s4 s5
              by_cases he : pi = pmi
              · have hne2 := hne he
                clear hne
                obtain rfl : pmi = pi := he.symm
                clear he
                go_wp2_with fail
                go_quiet ((go_at_call 17; first | exact quiet_dr (HGC.out _) | exact quiet_dr2 (HGC.out _)))
                go_wp2_with fail
                exact ⟨⟨k + 1, by omega, by (congr 1; have := HTI.out; omega), ⟨g2, rfl, HGS⟩, below_drewN hb _⟩, by simp [intOf]; have := HTI.out; omega⟩
              · clear hne
                go_wp2_with fail
                go_quiet ((go_at_call 17; first | exact quiet_dr (HGC.out _) | exact quiet_dr2 (HGC.out _)))
                go_wp2_with fail
                exact ⟨⟨k + 1, by omega, by (congr 1; have := HTI.out; omega), ⟨g2, rfl, HGS⟩, below_drewN hb _⟩, by simp [intOf]; have := HTI.out; omega⟩
          · obtain rfl : k = PL := by omega
            have hkP : k = P.length := HPL.out
            have HH2 := Lib.hid (show Ew h zz by have h1 := HH.out; have h2 := HWI.out.cost; rw [← hkP] at h2; rw [h2] at h1; exact h1)
            obtain ⟨e1, e2⟩ := HWC.out wr (HXg.out.trans (hb.mono hxg)) 0 (by omega)
            obtain ⟨e3, e4⟩ := HWC.out wr (HXg.out.trans (hb.mono hxg)) (k - 1) (by omega)
            rw [HWI.out.first] at e1 e2
            have hlst := HWI.out.last
            rw [← hkP] at hlst
            rw [hlst] at e3 e4
            obtain ⟨NL, hNL⟩ : ∃ NL, NL = 2 * k := ⟨_, rfl⟩
            rw [show 2 * (k - 1) = NL - 2 by omega] at e3
            rw [show 2 * (k - 1) + 1 = NL - 1 by omega] at e4
            have e1' : wr.cell? ⟨gw, 0, none⟩ = some (.int .i64 0) := e1
            have e2' : wr.cell? ⟨gw, 1, none⟩ = some (.int .i64 0) := e2
            have n1 : IntKind.i64.wrap ((NL : Int) - 2) = ((NL - 2 : Nat) : Int) := by rw [IntKind.wrap_i64]; omega
            have n2 : IntKind.i64.wrap ((NL : Int) - 1) = ((NL - 1 : Nat) : Int) := by rw [IntKind.wrap_i64]; omega
            have n3 : IntKind.i64.wrap ((j : Int) - 1) = ((j - 1 : Nat) : Int) := by rw [IntKind.wrap_i64]; omega
            have hsum := sumD_bound (n := j) HSD.out j (Nat.le_refl _)
            obtain ⟨yn, hyn⟩ : ∃ yn : Nat, sumD X Y j = (yn : Int) := ⟨(sumD X Y j).toNat, by omega⟩
            have HGY := Lib.hid (show Ew g (yn : Int) by rw [← hyn]; exact HST.out)
            obtain ⟨zn, hzn'⟩ : ∃ zn : Nat, zz = (zn : Int) := ⟨zz.toNat, by omega⟩
            have hEr := HLE.out
            have hwr := hEr.wide (by omega)
            have RCf := fun w => run_wdx (P := Try.prog) w 27 32 rc (by kernel_rfl) (by kernel_rfl) hEr.notNaN
            have HGC := Lib.hid (fun w => l_b10GapW _ _ _ _ HH2.out hwr (by omega) w)
            have hgp := HH2.out.gap hwr (by omega)
            rw [Int.sub_self] at hgp
            have hone : Ew 4607182418800017408 8 := ew_of (by decide +kernel)
            have hc1 := hone.add HH2.out (by omega)
            have RA1 := fun t w => run_arx64 (P := Try.prog) .add 4607182418800017408 h _ (by rw [hone.cn, HH2.out.cn]) hc1.notNaN t w
            have hless := ew_less (g := gapF h (wd rc)) (c := ar .add .f64 4607182418800017408 h) (n := zn) hgp (by rw [← hzn', Int.add_comm]; exact hc1) (by omega)
            have hkM : cn .f64 kM = kM := by decide +kernel
            have RA2 := fun t w => run_arx64 (P := Try.prog) .mul kM (ar .add .f64 4607182418800017408 h) _ (by rw [hkM, hc1.cn]) hless.2 t w
            have hmore := ew_more hwr HGY.out (by omega) (by omega)
            have RA3 := fun t w => run_arx64 (P := Try.prog) .add g kM _ (by rw [HGY.out.cn, hkM]) hmore.2 t w
            have o1 : (FloatKind.f64.format.order (gapF h (wd rc)) (ar .mul .f64 kM (ar .add .f64 4607182418800017408 h)) == some .lt) = true := hless.1
            have o2 : (FloatKind.f64.format.order (wd rc) (ar .add .f64 g kM) == some .lt) = true := hmore.1
            generalize ar .mul .f64 kM (ar .add .f64 4607182418800017408 h) = v2 at *
            generalize ar .add .f64 4607182418800017408 h = v1 at *
            generalize ar .add .f64 g kM = v3 at *
            generalize gapF h (wd rc) = gp at *
            generalize wd rc = wr1 at *
            have hkMe : kM = 4562254508917369340 := rfl
            rw [hkMe] at RA2 RA3
            clear hkMe hkM hmore hless hc1 hone hgp hwr hEr hyn hzn' hsum hlst e1 e2 hkP
            have n4 : (NL : Int) = 2 * (k : Int) := by omega
            rw [← n4, ← hNL]
            have hnl2 : 2 ≤ NL := by omega
            have hnl3 : NL ≤ 100 := by omega
            have HNL := Lib.hid hNL
            clear n4 hNL
            go_wp2_with fail
            refine (HGC.out _).mono ?_; rintro z w20 ⟨rfl, hd⟩
            have HBz := Lib.hid ((HBg.out.trans (hb.mono hzg)).trans (hd.below _))
            go_wp2_with fail
            go_ret
            exact ⟨rfl, HBz.out⟩
set_option maxRecDepth 100000 in
theorem FnWarped_lifted (os : Os) (started : os.Started) (H : Type) (enc : TypeId × Value → H) :
    ReturnsInHanded {} Try.checked os 7 .any (Rows.fnWarpedSpec.pre6 enc Try.prog Try.f7 Rows.fnWarpedRow.domain false) (Rows.fnWarpedSpec.post enc Try.prog Try.f7 false true false false) := by
  refine returnsInHanded_of_change (C := Try.checked) own started (by kernel_rfl) Try.func7
    (ChangeSpec.witness6 (enc := enc) (C := Try.checked) false ⟨#[], #[.slice none 0 0, .slice none 0 0], []⟩ 8 (by kernel_rfl) (by kernel_rfl) (by kernel_rfl) (by kernel_rfl)) ?_
  intro W base args ds gs before hval0 hW hcnd _
  have hval : ∀ (j : Nat) t v, Try.f7.params[j]? = some t → args[j]? = some v → Value.okWide Try.prog W .any base t v := hval0
  have hW' := hW
  obtain ⟨p, q, hA0, hV, rfl, hfz, hnd⟩ := hW
  have hA : DataW.TrodAll enc Try.prog W 0 (fun _ => true) true Try.f7.params.toList args.toList ds p := hA0
  rw [Try.params7] at hA hval
  obtain ⟨v0, vs0, d0, ds0, p0, q0, hargs, rfl, rfl, h0, r0⟩ := trodAll_cons hA
  obtain ⟨v1, vs1, d1, ds1, p1, q1, rfl, rfl, rfl, h1, r1⟩ := trodAll_cons r0
  obtain ⟨rfl, rfl, rfl⟩ := trodAll_nil r1
  obtain rfl : args = #[v0, v1] := by cases args; simp_all
  obtain ⟨rfl, rfl⟩ := trodVars_none hV
  have k0 := h0
  have lt0 : ∀ x ∈ p0, x.block < W.heap.size := by obtain ⟨m, hm⟩ := k0; exact DataW.trod_lt m _ _ _ hm
  have k1 := h1
  have lt1 : ∀ x ∈ p1, x.block < W.heap.size := by obtain ⟨m, hm⟩ := k1; exact DataW.trod_lt m _ _ _ hm
  obtain ⟨b0, ln0, cp0, rfl⟩ := okWide_slice Try.underlying22 (hval 0 22 v0 rfl rfl)
  obtain ⟨c0, hc0⟩ : ∃ cs, GL (Value.int .u8) W (.slice b0 ln0 cp0) cs ∧ allU8 cs := by obtain ⟨fuel, hfu⟩ := h0; exact open_u8s Try.underlying22 Try.underlying5 (by kernel_rfl) hfu
  obtain ⟨b1, ln1, cp1, rfl⟩ := okWide_slice Try.underlying22 (hval 1 22 v1 rfl rfl)
  obtain ⟨c1, hc1⟩ : ∃ cs, GL (Value.int .u8) W (.slice b1 ln1 cp1) cs ∧ allU8 cs := by obtain ⟨fuel, hfu⟩ := h1; exact open_u8s Try.underlying22 Try.underlying5 (by kernel_rfl) hfu
  clear hA0 hval0
  refine (FnWarped_walk (w := W) _ c0 hc0.1 hc0.2 _ c1 hc1.1 hc1.2).mono fun e W' ⟨he, bel⟩ => ?_
  subst he
  exact ⟨_, rfl, _, _, _, [], _, [], hW', trodAll_mk1 (shut_bool Try.underlying4 _), (trodAll_cons_mk (Below.trod laidOut (by kernel_rfl) (of_decide_eq_true (by kernel_rfl)) k0 bel lt0) (trodAll_cons_mk (Below.trod laidOut (by kernel_rfl) (of_decide_eq_true (by kernel_rfl)) k1 bel lt1) trodAll_mk0)), rfl, bel.frame _, fun h => by cases h⟩

theorem fnWarped_holds : Rows.FnWarpedSaid :=
  OpenClaim.holds_of_wide 7 Try.f7 rfl rfl rfl rfl rfl rfl rfl ⟨rfl, rfl, rfl, rfl, rfl⟩ rfl rfl rfl rfl rfl (by kernel_rfl) Try.func7 (by kernel_rfl)
    (of_decide_eq_true (by kernel_rfl)) (by unfold Func.isWrapper; first | (rw [if_pos (by decide +kernel)]; kernel_rfl) | (rw [if_neg (by decide +kernel)]; exact ⟨rfl, rfl⟩))
    (fun os started H enc _ => FnWarped_lifted os started H enc)
#print axioms fnWarped_holds

end Go.Proofs.Ytnhenklopigfnaa
