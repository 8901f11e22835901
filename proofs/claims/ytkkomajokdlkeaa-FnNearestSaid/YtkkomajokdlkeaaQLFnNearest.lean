/- THE LAW FnNearest: a series of a list is nearest to itself, normed ones have the mean 0 and the width 1, nearly, and workers change nothing; for all arguments. No condition. -/
import Derived.Lib.QuietBelow
import Derived.Test.YtkkomajokdlkeaaQ18
import Derived.Test.YtkkomajokdlkeaaQ27
import Derived.Test.YtkkomajokdlkeaaQ32
import Derived.Test.YtkkomajokdlkeaaQ39
namespace Go.Proofs.Ytkkomajokdlkeaa
set_option linter.unusedSimpArgs false
set_option linter.unusedVariables false
set_option maxRecDepth 100000
set_option maxHeartbeats 4000000
open Go.ChangeShapes Go.WideShapes Go.ChangeAt Go.RowKit
set_option linter.unusedSimpArgs false
set_option linter.unusedVariables false
attribute [local go_sem] run_store_float run_store_complex alloc_drewN setCell_drewN

set_option maxRecDepth 100000 in
theorem FnNearest_walk {w : World} (u : Value) (cs : List Int) (hu : GL (Value.int .u8) w u cs) (hcs : allU8 cs) (v : Value) (ds : List Int) (hv : GL (Value.int .u8) w v ds) (hds : allU8 ds) :
    Calls Try.prog 5 #[u, v] w fun z w' => z = .returned (.bool true) ∧ Below w.heap.size w w' := by
  have HU := Lib.hid hu
  have HV := Lib.hid hv
  have HCS := Lib.hid hcs
  have HDS := Lib.hid hds
  clear hu hv hcs hds
  go_enter Try.func5, Try.ntmps5
  go_wp2_with fail
  refine (l_b10Long u v cs ds _ HU.out HV.out).mono ?_; rintro z w1 ⟨rfl, hd⟩
  have HB1 := Lib.hid (hd.below w.heap.size)
  clear hd
  cases hbig : (decide (1048576 < cs.length) || decide (1048576 < ds.length)) with
  | true =>
    go_wp2_with fail
    go_ret
    exact ⟨rfl, HB1.out⟩
  | false =>
    have hcl : cs.length ≤ 1048576 := by
      simp only [Bool.or_eq_false_iff, decide_eq_false_iff_not] at hbig; omega
    clear hbig
    go_wp2_with fail
    refine (l_b10AtV v ds 0 8 (by omega) (by omega) (by omega) _ (HV.out.keep HB1.out) HDS.out).mono ?_; rintro z w2 ⟨rfl, hd⟩
    have HB2 := Lib.hid (HB1.out.trans ((hd.below w1.heap.size).mono HB1.out.size))
    clear hd HB1
    have hx0 := bAt_lt ds 0 (n := 8) (by omega)
    generalize bAt ds 0 8 = x0 at *
    obtain ⟨nn, hn⟩ : ∃ nn, nn = 2 + x0 := ⟨_, rfl⟩
    have t1 : (2 : Int) + (x0 : Int) = (nn : Int) := by omega
    have t2 : IntKind.i64.wrap (nn : Int) = (nn : Int) := by rw [IntKind.wrap_i64]; omega
    have hn1 : 2 ≤ nn := by omega
    have hn2 : nn ≤ 9 := by omega
    clear hn
    go_wp2_with fail
    refine (s_B10List u cs nn (by omega) _ (HU.out.keep HB2.out) HCS.out).mono ?_; rintro z w3 ⟨⟨va, L, rfl, ho, hl, hq⟩, hb⟩
    have HB3 := Lib.hid (HB2.out.trans (hb.mono HB2.out.size))
    have HA := Lib.hid (show ∀ w', Below w3.heap.size w3 w' → SB w' va L from fun w' h => (ho.keep h).sb)
    have HLL := Lib.hid hl
    have HQ := Lib.hid hq
    have hz3 := HB3.out.size
    obtain ⟨ao, c, hva, -⟩ := ho.sb.sl.slice
    rw [hl] at hva
    subst hva
    clear ho hl hq hb HB2
    go_wp2_with fail
    refine (s_B10List v ds nn (by omega) _ (HV.out.keep HB3.out) HDS.out).mono ?_; rintro z w4 ⟨⟨vb, M, rfl, ho, hl, hq⟩, hb⟩
    have HB4 := Lib.hid (HB3.out.trans (hb.mono hz3))
    have HA4 := Lib.hid (show ∀ w', Below w4.heap.size w4 w' → SB w' (.slice ao nn c) L from fun w' h => HA.out w' (hb.trans (h.mono hb.size)))
    have HM4 := Lib.hid (show ∀ w', Below w4.heap.size w4 w' → SB w' vb M from fun w' h => (ho.keep h).sb)
    have HML := Lib.hid hl
    have HR := Lib.hid hq
    have hz4 := HB4.out.size
    obtain ⟨bo, d, hvb, -⟩ := ho.sb.sl.slice
    rw [hl] at hvb
    subst hvb
    clear ho hl hq hb HB3 HA
    have HU4 := Lib.hid (show ∀ w', Below w4.heap.size w4 w' → GL (Value.int .u8) w' u cs from fun w' h => HU.out.keep (HB4.out.trans (h.mono hz4)))
    go_wp2_with (at_builtin; refine Hid.out ?_)
    refine Lib.hid ?_
    refine wpList_gappG (inj := Value.int .u8) oneU8N (fun _ => rfl) w4.heap.size (.slice (some ⟨w4.heap.size, 0, none⟩) 0 0) [] rfl (GO.lit (Value.int .u8) 5 w4.heap.size w4 [] (Nat.le_refl _) (by simp)) cs u rfl (HU4.out _ (Below.alloc (Below.refl _ _) (Nat.le_refl _) _)) (by simp; omega) (by simp) ?_; intro v5 w5 hown5 hg5
    have HO5 := Lib.hid hown5
    have hb5 : Below w4.heap.size w4 w5 := below_of_grown (Below.alloc (Below.refl w4.heap.size w4) (Nat.le_refl _) _) hg5 (by simp) (GO.lit (Value.int .u8) 5 w4.heap.size w4 [] (Nat.le_refl _) (by simp)).own_ge
    have hz5 := hb5.size
    clear hown5 hg5
    go_wp2_with (at_builtin; refine Hid.out ?_)
    refine Lib.hid ?_
    refine wpList_gappG (inj := Value.int .u8) oneU8N (fun _ => rfl) w4.heap.size v5 ([] ++ cs) rfl (GO.alloc HO5.out _) [7] _ rfl (GL.blockN (Value.int .u8) 5 w5 [7] (by simp)) (by simp; omega) (by simp; omega) ?_; intro v6 w6 hown6 hg6
    have HO6 := Lib.hid hown6
    have hb6 : Below w4.heap.size w4 w6 := below_of_grown (Below.alloc hb5 hz5 _) hg6 (by simp; omega) HO5.out.own_ge
    have hz6 := hb6.size
    clear hown6 hg6
    go_wp2_with fail
    have HB6 := Lib.hid (HB4.out.trans (hb6.mono hz4))
    have hz6' := HB6.out.size
    have hu8 : allU8 ([] ++ cs ++ [7]) := by
      intro x hx
      simp only [List.nil_append, List.mem_append, List.mem_singleton] at hx
      rcases hx with hx | rfl
      · exact HCS.out x hx
      · decide
    refine (s_B10List v6 ([] ++ cs ++ [7]) nn (by omega) _ HO6.out.gl hu8).mono ?_; rintro z w7 ⟨⟨vc, K, rfl, ho, hl, hq⟩, hb⟩
    have HB7 := Lib.hid (HB6.out.trans (hb.mono hz6'))
    have hb7 := hb6.trans (hb.mono hz6)
    have HA7 := Lib.hid (HA4.out _ hb7)
    have HM7 := Lib.hid (HM4.out _ hb7)
    have HK7 := Lib.hid ho.sb
    obtain ⟨co, e7, hvc, -⟩ := ho.sb.sl.slice
    rw [hl] at hvc
    subst hvc
    have HKL := Lib.hid hl
    have HT := Lib.hid hq
    have hz7 := HB7.out.size
    obtain ⟨css, hcss⟩ : ∃ css, css = [L, M, K] := ⟨_, rfl⟩
    have HSS := Lib.hid (show SS (w7.alloc (.cells #[.slice ao nn c, .slice bo nn d, .slice co nn e7] 26)) (.slice (some ⟨w7.heap.size, 0, none⟩) 3 3) css from ⟨[.slice ao nn c, .slice bo nn d, .slice co nn e7], GL.blockN id 26 w7 [.slice ao nn c, .slice bo nn d, .slice co nn e7] (by simp), by rw [hcss]; rfl, fun i h1 h2 => by
      have hb8 : Below w7.heap.size w7 (w7.alloc (.cells #[.slice ao nn c, .slice bo nn d, .slice co nn e7] 26)) := Below.alloc (Below.refl _ _) (Nat.le_refl _) _
      subst hcss
      match i, h1, h2 with
      | 0, _, _ => exact HA7.out.keep hb8
      | 1, _, _ => exact HM7.out.keep hb8
      | 2, _, _ => exact HK7.out.keep hb8⟩)
    have HB8 := Lib.hid (Below.alloc HB7.out hz7 (.cells #[.slice ao nn c, .slice bo nn d, .slice co nn e7] 26))
    obtain ⟨XL, hXL⟩ := sm_of HQ.out HLL.out
    obtain ⟨XM, hXM⟩ := sm_of HR.out HML.out
    obtain ⟨XK, hXK⟩ := sm_of HT.out HKL.out
    have h3 : Sm3 nn css (fun k => if k = 0 then XL else if k = 1 then XM else XK) := by
      subst hcss
      refine ⟨rfl, fun k hk => ?_⟩
      match k, hk with
      | 0, _ => exact hXL
      | 1, _ => exact hXM
      | 2, _ => exact hXK
    have HQ3 := Lib.hid (show ∀ k, k < 3 → ∀ c ∈ rowL css k, isQ c from by
      subst hcss
      intro k hk
      match k, hk with
      | 0, _ => exact HQ.out
      | 1, _ => exact HR.out
      | 2, _ => exact HT.out)
    have H3 := Lib.hid h3
    clear hXL hXM hXK h3 HQ HR HT HA4 HM4 HU4 HB4 HB6 hb5 hb6 hb7 hb ho hl hq hu8 HO5 HO6 HA7 HM7 HK7 HLL HML HKL
    generalize (fun k => if k = 0 then XL else if k = 1 then XM else XK) = X3 at *
    clear hcss
    go_wp2_with fail
    refine (l_b10AtV v ds 1 3 (by omega) (by omega) (by omega) _ (HV.out.keep HB8.out) HDS.out).mono ?_; rintro z w9 ⟨rfl, hd⟩
    have HB9 := Lib.hid (HB8.out.trans ((hd.below _).mono HB8.out.size))
    have HS9 := Lib.hid (show ∀ w', Below w9.heap.size w9 w' → SS w' (.slice (some ⟨w7.heap.size, 0, none⟩) 3 3) css from fun w' h => HSS.out.keep ((hd.below _).trans (h.mono (hd.below (w7.alloc (.cells #[.slice ao nn c, .slice bo nn d, .slice co nn e7] 26)).heap.size).size)))
    have HC9 := Lib.hid (show ∀ i, i < 3 → ∃ y, ∀ w', Below w9.heap.size w9 w' → w'.cell? ⟨w7.heap.size, i, none⟩ = some y ∧ SB w' y (rowL css i) from by
      intro i hi
      obtain ⟨aq, cq, e0, -, -, hget⟩ := SS.get (HS9.out w9 (Below.refl _ _)) H3.out.len
      obtain ⟨b, off, y, e1, hbl, hc, hs⟩ := hget i hi
      simp only [Value.slice.injEq] at e0
      obtain ⟨rfl, -, -⟩ := e0
      simp only [Option.some.injEq, Addr.mk.injEq, and_true] at e1
      obtain ⟨rfl, rfl⟩ := e1
      rw [Nat.zero_add] at hc
      exact ⟨y, fun w' h => ⟨(h.cell (p := ⟨w7.heap.size, i, none⟩) hbl).trans hc, hs.keep h⟩⟩)
    have hz9 := HB9.out.size
    have hp := bAt_lt ds 1 (n := 3) (by omega)
    generalize bAt ds 1 3 = p at *
    clear hd HSS HB8 HB7
    -- what the functions tell
    obtain ⟨j, hjp, hns, hq0, hfq⟩ := H3.out.near (by omega) hn2 hp
    obtain ⟨f, hf1, hf2, hf3⟩ := H3.out.warp (by omega) hn2 hp (window := 4) (by omega) (by omega)
    have HNS := Lib.hid hns
    have HQ0 := Lib.hid hq0
    have HFQ := Lib.hid hfq
    have HF1 := Lib.hid hf1
    have HF3 := Lib.hid hf3
    clear hns hq0 hfq hf1 hf3
    obtain ⟨yp, hyp⟩ := HC9.out p hp
    have HYP := Lib.hid hyp
    obtain ⟨yj, hyj⟩ := HC9.out j (by omega)
    have HYJ := Lib.hid hyj
    obtain ⟨y0, hy0⟩ := HC9.out 0 (by omega)
    have HY0 := Lib.hid hy0
    obtain ⟨y1, hy1⟩ := HC9.out 1 (by omega)
    have HY1 := Lib.hid hy1
    clear hyp hyj hy0 hy1 HC9
    have p0 : (0 : Int) ≤ (p : Int) := by omega
    have p1 : (p : Int) < 3 := by omega
    have p2 : ((p : Int)).toNat = p := by omega
    have j0 : (0 : Int) ≤ (j : Int) := by omega
    have j1 : (j : Int) < 3 := by omega
    have j2 : ((j : Int)).toNat = j := by omega
    have hc9 := (HYP.out w9 (Below.refl _ _)).1
    go_wp2_with fail
    refine (i_NearestShape _ _ css (rowL css p) _ (HS9.out _ (Below.refl _ _)) (HYP.out w9 (Below.refl _ _)).2).mono ?_; rintro z w10 ⟨⟨jn, r, bb, rfl, hr, hjn, hcr, hbb⟩, hbl⟩
    rw [HNS.out] at hjn hcr hbb
    obtain rfl : r = farL (rowL css j) (rowL css p) := cn32_raw hcr HQ0.out.notNaN
    obtain rfl : jn = (j : Int) := hjn
    obtain rfl : bb = true := hbb
    have HB10 := Lib.hid (HB9.out.trans (hbl.mono hz9))
    have HW10 := Lib.hid hbl
    have hz10 := HB10.out.size
    have hx10 := HW10.out.size
    clear hbl hcr HB9 hc9
    have hq8 := bAt_lt ds 2 (n := 8) (by omega)
    have HBT := Lib.hid (fun d os => Calls.regrown_of (d := d) (os := os) (w := w10) ((l_b10AtV v ds 2 8 (by omega) (by omega) (by omega) _ (HV.out.keep (HB10.out.trans ((below_regrown w10 d os).mono hz10))) HDS.out).mono fun _ _ ⟨e, hd⟩ => ⟨e, hd.below _⟩))
    generalize bAt ds 2 8 = qw at *
    obtain ⟨wk, hwk⟩ : ∃ wk, wk = 1 + qw := ⟨_, rfl⟩
    have k1 : (1 : Int) + (qw : Int) = (wk : Int) := by omega
    have k2 : IntKind.i64.wrap (wk : Int) = (wk : Int) := by rw [IntKind.wrap_i64]; omega
    have hwp : wpOk (rowL css 0) (rowL css p) 4 = true := by
      unfold wpOk
      rw [(H3.out.row 0 (by omega)).series (by omega) (by omega), (H3.out.row p hp).series (by omega) (by omega)]; rfl
    have hin : inB (wk : Int) 1 8 = true := by
      show (decide _ && decide _) = true
      rw [decide_eq_true (by omega), decide_eq_true (by omega)]; rfl
    have hlen := H3.out.len
    have hlk := H3.out.listOk (by omega) (by omega)
    have HNW := Lib.hid (fun d os => Calls.regrown_of (d := d) (os := os) (w := w10) (i_NearestWarpedV _ _ css (rowL css p) 4 (wk : Int) f _ (HS9.out _ (HW10.out.trans ((below_regrown w10 d os).mono hx10))) (HYP.out _ (HW10.out.trans ((below_regrown w10 d os).mono hx10))).2 hlk (by omega) (by omega) hwp hin HF1.out HF3.out.notNaN))
    clear hwp hin hwk hlk
    have q0 := (HYP.out w10 HW10.out).1
    have hcr := fun d os => cell_regrown q0 d os
    have cB := HBT.out
    have cW := HNW.out
    clear HBT HNW
    go_wp2_with fail
    refine wp_region_quiet_below (by kernel_rfl) (by kernel_rfl) ?_
    repeat (quiet_step (first | exact cB _ _ | exact cW _ _))
    refine wpQuiet_nil ?_
    intro w11 hw'
    obtain ⟨⟨dd, osq⟩, hw''⟩ := hw'
    have hbz := below_regrown w10 dd osq
    rw [← hw''] at hbz
    clear hw'' cB cW hcr q0
    have HB11 := Lib.hid (HB10.out.trans (hbz.mono hz10))
    have HW11 := Lib.hid (HW10.out.trans (hbz.mono hx10))
    have hz11 := HB11.out.size
    have hx11 := HW11.out.size
    clear hbz HB10 HW10 hz10 hx10
    obtain ⟨F01, hF01, F01a, F01b, -⟩ := (H3.out.row 0 (by omega)).far (H3.out.row 1 (by omega)) hn2
    have hfa : farQ (rowL css 0) (rowL css 1) = (farL (rowL css 0) (rowL css 1), true) := by
      rw [farQ_two ((H3.out.row 0 (by omega)).two (H3.out.row 1 (by omega)) (by omega) (by omega)), numB_yes (hF01.fin (by grind) F01b)]
    have hfb : farQ (rowL css 1) (rowL css 0) = (farL (rowL css 0) (rowL css 1), true) := by
      have e := far_back (cs := rowL css 1) (ds := rowL css 0) (by rw [(H3.out.row 1 (by omega)).len, (H3.out.row 0 (by omega)).len])
      rw [farQ_two ((H3.out.row 1 (by omega)).two (H3.out.row 0 (by omega)) (by omega) (by omega)), e, numB_yes (hF01.fin (by grind) F01b)]
    have hlt01 : farL (rowL css 0) (rowL css 1) < 4294967296 := farL_lt _ _
    have cA := fun d os => Calls.regrown_of (d := d) (os := os) (w := w11) (i_FarV _ _ _ _ _ _ (HY0.out _ (HW11.out.trans ((below_regrown w11 d os).mono hx11))).2 (HY1.out _ (HW11.out.trans ((below_regrown w11 d os).mono hx11))).2 hfa hF01.notNaN)
    have r0 := (HY0.out w11 HW11.out).1
    have r1 := (HY1.out w11 HW11.out).1
    have hcr0 := fun d os => cell_regrown r0 d os
    have hcr1 := fun d os => cell_regrown r1 d os
    go_wp2_with fail
    refine wp_region_quiet_below (by kernel_rfl) (by kernel_rfl) ?_
    repeat (quiet_step (first | exact cA _ _))
    refine wpQuiet_nil ?_
    intro w12 hw'
    obtain ⟨⟨dd, osq⟩, hw''⟩ := hw'
    have hbz := below_regrown w11 dd osq
    rw [← hw''] at hbz
    clear hw'' cA hcr0 hcr1 r0 r1
    have HB12 := Lib.hid (HB11.out.trans (hbz.mono hz11))
    have HW12 := Lib.hid (HW11.out.trans (hbz.mono hx11))
    have hz12 := HB12.out.size
    have hx12 := HW12.out.size
    clear hbz HB11 HW11 hz11 hx11
    have cA := fun d os => Calls.regrown_of (d := d) (os := os) (w := w12) (i_FarV _ _ _ _ _ _ (HY1.out _ (HW12.out.trans ((below_regrown w12 d os).mono hx12))).2 (HY0.out _ (HW12.out.trans ((below_regrown w12 d os).mono hx12))).2 hfb hF01.notNaN)
    have r0 := (HY0.out w12 HW12.out).1
    have r1 := (HY1.out w12 HW12.out).1
    have hcr0 := fun d os => cell_regrown r0 d os
    have hcr1 := fun d os => cell_regrown r1 d os
    go_wp2_with fail
    refine wp_region_quiet_below (by kernel_rfl) (by kernel_rfl) ?_
    repeat (quiet_step (first | exact cA _ _))
    refine wpQuiet_nil ?_
    intro w13 hw'
    obtain ⟨⟨dd, osq⟩, hw''⟩ := hw'
    have hbz := below_regrown w12 dd osq
    rw [← hw''] at hbz
    clear hw'' cA hcr0 hcr1 r0 r1
    have HB13 := Lib.hid (HB12.out.trans (hbz.mono hz12))
    have HW13 := Lib.hid (HW12.out.trans (hbz.mono hx12))
    have hz13 := HB13.out.size
    have hx13 := HW13.out.size
    have HSM := Lib.hid (fun w => s_SameNumber _ _ hlt01 hlt01 (w := w))
    have hsm : same (cn .f32 (farL (rowL css 0) (rowL css 1))) (cn .f32 (farL (rowL css 0) (rowL css 1))) = true := beq_self_eq_true _
    clear hbz HB12 HW12 hz12 hx12 hfa hfb hF01 F01a F01b
    generalize farL (rowL css 0) (rowL css 1) = cf at *
    have o1 : FloatKind.f32.format.order (farL (rowL css j) (rowL css p)) 0 = some .eq := by
      show S.order _ _ = _
      rw [HQ0.out.order zero_qv, if_neg (by decide), if_pos rfl]
    have e2 : css.length - 1 = 2 := by omega
    have hf3 := HF3.out
    rw [e2] at hf3 hf2
    have HLE := Lib.hid (hf3.order ev_zero)
    have o2 : FloatKind.f32.format.order (f (nwI f 2)) 0 = some .eq := by
      show S.order _ _ = _
      rw [HLE.out, cmpI, if_neg (by omega), if_pos rfl]
    obtain ⟨nw, hnw⟩ : ∃ nw, nw = nwI f 2 := ⟨_, rfl⟩
    rw [← hnw] at o2 hf2
    clear hf3
    have i1 : ¬ ((j : Int) > (p : Int)) := by omega
    have i2 : ¬ ((nw : Int) > (p : Int)) := by omega
    have i3 : ¬ ((nw : Int) < 0) := by omega
    have i4 : ¬ ((j : Int) < 0) := by omega
    clear HF1 HF3 HLE
    rw [← hnw]
    generalize f nw = cw at *
    clear hnw f
    generalize farL (rowL css j) (rowL css p) = cj at *
    go_wp2_with fail
    refine (HSM.out _).mono ?_; rintro z w14 ⟨rfl, hd⟩
    rw [hsm]
    have HB14 := Lib.hid (HB13.out.trans ((hd.below w13.heap.size).mono hz13))
    have HW14 := Lib.hid (HW13.out.trans ((hd.below w13.heap.size).mono hx13))
    have hz14 := HB14.out.size
    have hx14 := HW14.out.size
    clear hd HSM hsm HB13 HW13 hz13 hx13 i1 i2 i3 i4 o2
    have cA := fun d os => Calls.regrown_of (d := d) (os := os) (w := w14) (s_FarV _ _ _ _ _ _ (HYJ.out _ (HW14.out.trans ((below_regrown w14 d os).mono hx14))).2 (HYP.out _ (HW14.out.trans ((below_regrown w14 d os).mono hx14))).2 HFQ.out HQ0.out.notNaN)
    have r0 := (HYJ.out w14 HW14.out).1
    have r1 := (HYP.out w14 HW14.out).1
    have hcr0 := fun d os => cell_regrown r0 d os
    have hcr1 := fun d os => cell_regrown r1 d os
    go_wp2_with fail
    refine wp_region_quiet_below (by kernel_rfl) (by kernel_rfl) ?_
    repeat (quiet_step (first | exact cA _ _))
    refine wpQuiet_nil ?_
    intro w15 hw'
    obtain ⟨⟨dd, osq⟩, hw''⟩ := hw'
    have hbz := below_regrown w14 dd osq
    rw [← hw''] at hbz
    clear hw'' cA hcr0 hcr1 r0 r1
    have HB15 := Lib.hid (HB14.out.trans (hbz.mono hz14))
    have HW15 := Lib.hid (HW14.out.trans (hbz.mono hx14))
    have hz15 := HB15.out.size
    have hx15 := HW15.out.size
    have r1 := (HYP.out w15 HW15.out).1
    clear hbz HB14 HW14 hz14 hx14
    go_wp2_with fail
    refine (s_NormShape _ (rowL css p) _ (HYP.out w15 HW15.out).2).mono ?_; rintro z w16 ⟨⟨vn, bn, rfl, -, hbn⟩, hbl⟩
    have HB16 := Lib.hid (HB15.out.trans (hbl.mono hz15))
    have HW16 := Lib.hid (HW15.out.trans (hbl.mono hx15))
    have hz16 := HB16.out.size
    have hx16 := HW16.out.size
    have r2 := (HYP.out w16 HW16.out).1
    clear hbl HB15 HW15 hz15 hx15 r1
    go_wp2_with fail
    refine (i_NormShape _ (rowL css p) _ (HYP.out w16 HW16.out).2).mono ?_; rintro z w17 ⟨⟨vm, bm, rfl, hom, hbm⟩, hbl⟩
    obtain rfl : bn = bm := by rw [hbn, hbm]
    have HB17 := Lib.hid (HB16.out.trans (hbl.mono hz16))
    have hz17 := HB17.out.size
    have HOM := Lib.hid (show ∀ w', Below w17.heap.size w17 w' → SB w' vm (normQ (rowL css p)).1 from fun w' h => (hom.keep h).sb)
    obtain ⟨mo, mc, hvm, -⟩ := hom.sb.sl.slice
    subst hvm
    clear hbl HB16 HW16 hz16 hx16 r2 hom hbn
    cases hno : (normQ (rowL css p)).2 with
    | false =>
      rw [hno] at hbm
      subst hbm
      go_wp2_with fail
      go_ret
      exact ⟨rfl, HB17.out⟩
    | true =>
      rw [hno] at hbm
      subst hbm
      have hab : above (normRoot (rowL css p)) = true := by
        cases h : above (normRoot (rowL css p))
        · rw [normQ, h, Bool.and_false] at hno; cases hno
        · rfl
      have hrl := (H3.out.row p hp).len
      have hN : (normQ (rowL css p)).1 = normL (rowL css p) nn := by
        have hse := (H3.out.row p hp).series (by omega) (by omega)
        rw [normQ, hse, hab] at hno ⊢
        have h2 : allFin (normL (rowL css p) (rowL css p).length) = true := hno
        show (if allFin (normL (rowL css p) (rowL css p).length) then _ else _) = _
        rw [h2, hrl]; rfl
      obtain ⟨Xr, hX1, hX2, hX3, hX4, hX5⟩ := norm_all (HQ3.out p hp) (by omega) (by omega) hab
      rw [hrl] at hX1 hX2 hX3 hX4 hX5
      have HN := Lib.hid hN
      have HX1 := Lib.hid hX1
      rw [hN] at HOM
      have hml : (normQ (rowL css p)).1.length = nn := by rw [hN, normL_length]
      rw [hml]
      have hNL := normL_length (rowL css p) nn
      generalize normL (rowL css p) nn = N at *
      clear hno hab hN hml HN hX1
      have n9 := cast_le9 hn2
      have hsz := rs_size (f := Xr) (n := nn) (fun i hi => (HX1.out i hi).2)
      have hmo := fun (k : Nat) (hk : k ≤ nn) => rs_mono (f := fun i => Xr i * Xr i) (n := nn) (fun i _ => sqr_nonneg _) hk
      have hnz := rs_nonneg (f := fun i => Xr i * Xr i) (n := nn) (fun i _ => sqr_nonneg _)
      have HSZ := Lib.hid hsz
      have HMO := Lib.hid hmo
      have HNZ := Lib.hid hnz
      have HE := Lib.hid (And.intro hX2 (And.intro hX3 (And.intro hX4 (And.intro hX5 n9))))
      clear hsz hmo hnz hX2 hX3 hX4 hX5 n9
      go_wp2_with fail
      go_loopw [181, 24, 25] (fun i s q wr => ∃ k : Nat, k ≤ nn ∧ i = .int .i64 (k : Int) ∧ (∃ g, s = .float .f64 g ∧ Hid (∃ x, QV D g x ∧ Mn (k : Rat) (rs Xr k) x)) ∧ (∃ h, q = .float .f64 h ∧ Hid (∃ y, QV D h y ∧ Mn (k : Rat) (rs (fun i => Xr i * Xr i) k) y)) ∧ Below w17.heap.size w17 wr) (fun i _ _ _ => nn - (intOf i).toNat)
      case atStart => exact ⟨0, Nat.zero_le _, rfl, ⟨0, rfl, Lib.hid ⟨0, zeroD_qv, mn_zero⟩⟩, ⟨0, rfl, Lib.hid ⟨0, zeroD_qv, mn_zero⟩⟩, Below.refl _ _⟩
      case round =>
        obtain ⟨k, hk, rfl, ⟨g, rfl, HG⟩, ⟨h, rfl, HH⟩, hb⟩ := hrel
        have hzr := hb.size
        by_cases hlt : k < nn
        · have hji : (k : Int) < (nn : Int) := by omega
          have hj0 : 0 ≤ (k : Int) := by omega
          have hjn : ((k : Int)).toNat = k := by omega
          obtain ⟨av1, cc1, hv1, -, -, hget1⟩ := (HOM.out wr hb).get hNL
          obtain ⟨b1, o1, ra, hao1, hbl1, hc1, hr1, hcr1⟩ := hget1 k hlt
          obtain rfl : mo = some ⟨b1, o1, none⟩ := by injection hv1 with q1; rw [q1]; exact hao1
          obtain ⟨hXq, hXa, hXb⟩ := HX1.out k hlt
          obtain rfl : ra = N.getD k 0 := cn32_raw hcr1 hXq.notNaN
          have hk9 := cast_le9 (show k ≤ 9 by omega)
          have RC1 := fun w => run_wdx (P := Try.prog) w 33 45 (N.getD k 0) (by kernel_rfl) (by kernel_rfl) hXq.notNaN
          obtain ⟨⟨wx, hwx⟩, px, hpx⟩ := sqw_qv hXq hXa hXb
          obtain ⟨x, hx, hxm⟩ := HG.out
          obtain ⟨y, hy, hym⟩ := HH.out
          obtain ⟨x', hx', hxm'⟩ := sumD_step hx hXq hXa hXb (by have := (HSZ.out k hk).1; grind) (by have := (HSZ.out k hk).2; grind) hk9.1 hk9.2 hxm
          obtain ⟨y', hy', hym'⟩ := sqD_step hy hXq hXa hXb (HNZ.out k hk) (by have := HMO.out k hk; have := HE.out; grind) hk9.1 hk9.2 hym
          have RA1 := fun t w => run_arx64 (P := Try.prog) .add g (wd (N.getD k 0)) _ (by rw [hx.cnD, hwx.cnD]) hx'.notNaN t w
          have RM := fun t w => run_arx64 (P := Try.prog) .mul (wd (N.getD k 0)) (wd (N.getD k 0)) _ (by rw [hwx.cnD]) hpx.notNaN t w
          have RA2 := fun t w => run_arx64 (P := Try.prog) .add h (ar .mul .f64 (wd (N.getD k 0)) (wd (N.getD k 0))) _ (by rw [hy.cnD, hpx.cnD]) hy'.notNaN t w
          have HGN := Lib.hid (⟨x', hx', by rw [cast_succ]; exact hxm'⟩ : ∃ x, QV D (ar .add .f64 g (wd (N.getD k 0))) x ∧ Mn ((k + 1 : Nat) : Rat) (rs Xr (k + 1)) x)
          have HHN := Lib.hid (⟨y', hy', by rw [cast_succ]; exact hym'⟩ : ∃ x, QV D (ar .add .f64 h (ar .mul .f64 (wd (N.getD k 0)) (wd (N.getD k 0)))) x ∧ Mn ((k + 1 : Nat) : Rat) (rs (fun i => Xr i * Xr i) (k + 1)) x)
          generalize ar .add .f64 h (ar .mul .f64 (wd (N.getD k 0)) (wd (N.getD k 0))) = h2 at *
          generalize ar .mul .f64 (wd (N.getD k 0)) (wd (N.getD k 0)) = pq at *
          generalize ar .add .f64 g (wd (N.getD k 0)) = g2 at *
          clear hwx hpx hx hxm hy hym hx' hxm' hy' hym' hao1 hv1 hget1 hcr1 hXq hXa hXb HG HH hk9
          generalize wd (N.getD k 0) = wla at *
          generalize N.getD k 0 = la at *
          go_wp2_with fail
          go_region
          go_wp2_with fail
          exact ⟨⟨k + 1, by omega, by go_num, ⟨g2, rfl, HGN⟩, ⟨h2, rfl, HHN⟩, below_drewN hb _⟩, by simp [intOf]; omega⟩
        · obtain rfl : k = nn := by omega
          have hji : ¬ ((k : Int) < (k : Int)) := by omega
          obtain ⟨x, hx, hxm⟩ := HG.out
          obtain ⟨y, hy, hym⟩ := HH.out
          obtain ⟨e1, e2, e3, e4, e5, e6⟩ := HE.out
          obtain ⟨m1, m2⟩ := hxm
          obtain ⟨m3, m4⟩ := hym
          have hf := f64_qv (n := k) (by omega)
          obtain ⟨l1, l2, l3⟩ := gap_hundredth hx zeroD_qv hn1 hn2 (by grind) (by grind)
          obtain ⟨l4, l5, -⟩ := gap_hundredth hy hf hn1 hn2 (by grind) (by grind)
          have HG1 := Lib.hid (fun w => l_b10Gap g 0 w)
          have HG2 := Lib.hid (fun w => l_b10Gap h (floatOfInt .f64 (k : Int)) w)
          rw [hx.cnD, show cn .f64 0 = 0 from zeroD_qv.cnD] at HG1
          rw [hy.cnD, hf.cnD] at HG2
          have o1 : FloatKind.f64.format.order (gapF g 0) (ar .mul .f64 kC (floatOfInt .f64 (k : Int))) = some .lt := eq_of_beq l1
          have o2 : FloatKind.f64.format.order (gapF h (floatOfInt .f64 (k : Int))) (ar .mul .f64 kC (floatOfInt .f64 (k : Int))) = some .lt := eq_of_beq l4
          have RM : ∀ t w, (binOp .mul t (.float .f64 4576918229304087675) (.float .f64 (floatOfInt .f64 (k : Int)))).run Try.prog w = _ := fun t w => run_arx64 (P := Try.prog) .mul kC (floatOfInt .f64 (k : Int)) _ (by rw [hf.cnD, kC_qv.choose_spec.1.cnD]) l3 t w
          obtain ⟨wz, hwz⟩ : ∃ wz, wz = wr := ⟨_, rfl⟩
          subst hwz
          have HBz := Lib.hid (HB17.out.trans (hb.mono hz17))
          have hzz := HBz.out.size
          clear hb hzr hx hy m1 m2 m3 m4 e1 e2 e3 e4 e5 e6 hf l1 l3 l4 HG HH HE HSZ HMO HNZ
          generalize ar .mul .f64 kC (floatOfInt .f64 (k : Int)) = zc at *
          go_wp2_with fail
          refine (HG1.out _).mono ?_; rintro z w18 ⟨⟨r, rfl, hcr⟩, hd⟩
          obtain rfl : r = gapF g 0 := cn64_raw hcr l2
          have HB18 := Lib.hid (HBz.out.trans ((hd.below wz.heap.size).mono hzz))
          have hz18 := HB18.out.size
          clear hcr hd HBz hzz
          go_wp2_with fail
          refine (HG2.out _).mono ?_; rintro z w19 ⟨⟨r, rfl, hcr⟩, hd⟩
          obtain rfl : r = gapF h (floatOfInt .f64 (k : Int)) := cn64_raw hcr l5
          have HB19 := Lib.hid (HB18.out.trans ((hd.below w18.heap.size).mono hz18))
          clear hcr hd HB18 hz18
          go_wp2_with fail
          go_ret
          exact ⟨rfl, HB19.out⟩
set_option maxRecDepth 100000 in
theorem FnNearest_lifted (os : Os) (started : os.Started) (H : Type) (enc : TypeId × Value → H) :
    ReturnsInHanded {} Try.checked os 5 .any (Rows.fnNearestSpec.pre6 enc Try.prog Try.f5 Rows.fnNearestRow.domain false) (Rows.fnNearestSpec.post enc Try.prog Try.f5 false true false false) := by
  refine returnsInHanded_of_change (C := Try.checked) own started (by kernel_rfl) Try.func5
    (ChangeSpec.witness6 (enc := enc) (C := Try.checked) false ⟨#[], #[.slice none 0 0, .slice none 0 0], []⟩ 8 (by kernel_rfl) (by kernel_rfl) (by kernel_rfl) (by kernel_rfl)) ?_
  intro W base args ds gs before hval0 hW hcnd _
  have hval : ∀ (j : Nat) t v, Try.f5.params[j]? = some t → args[j]? = some v → Value.okWide Try.prog W .any base t v := hval0
  have hW' := hW
  obtain ⟨p, q, hA0, hV, rfl, hfz, hnd⟩ := hW
  have hA : DataW.TrodAll enc Try.prog W 0 (fun _ => true) true Try.f5.params.toList args.toList ds p := hA0
  rw [Try.params5] at hA hval
  obtain ⟨v0, vs0, d0, ds0, p0, q0, hargs, rfl, rfl, h0, r0⟩ := trodAll_cons hA
  obtain ⟨v1, vs1, d1, ds1, p1, q1, rfl, rfl, rfl, h1, r1⟩ := trodAll_cons r0
  obtain ⟨rfl, rfl, rfl⟩ := trodAll_nil r1
  obtain rfl : args = #[v0, v1] := by cases args; simp_all
  obtain ⟨rfl, rfl⟩ := trodVars_none hV
  have k0 := h0
  have lt0 : ∀ x ∈ p0, x.block < W.heap.size := by obtain ⟨m, hm⟩ := k0; exact DataW.trod_lt m _ _ _ hm
  have k1 := h1
  have lt1 : ∀ x ∈ p1, x.block < W.heap.size := by obtain ⟨m, hm⟩ := k1; exact DataW.trod_lt m _ _ _ hm
  obtain ⟨b0, ln0, cp0, rfl⟩ := okWide_slice Try.underlying22 (hval 0 22 v0 rfl rfl)
  obtain ⟨c0, hc0⟩ : ∃ cs, GL (Value.int .u8) W (.slice b0 ln0 cp0) cs ∧ allU8 cs := by obtain ⟨fuel, hfu⟩ := h0; exact open_u8s Try.underlying22 Try.underlying5 (by kernel_rfl) hfu
  obtain ⟨b1, ln1, cp1, rfl⟩ := okWide_slice Try.underlying22 (hval 1 22 v1 rfl rfl)
  obtain ⟨c1, hc1⟩ : ∃ cs, GL (Value.int .u8) W (.slice b1 ln1 cp1) cs ∧ allU8 cs := by obtain ⟨fuel, hfu⟩ := h1; exact open_u8s Try.underlying22 Try.underlying5 (by kernel_rfl) hfu
  clear hA0 hval0
  refine (FnNearest_walk (w := W) _ c0 hc0.1 hc0.2 _ c1 hc1.1 hc1.2).mono fun e W' ⟨he, bel⟩ => ?_
  subst he
  exact ⟨_, rfl, _, _, _, [], _, [], hW', trodAll_mk1 (shut_bool Try.underlying4 _), (trodAll_cons_mk (Below.trod laidOut (by kernel_rfl) (of_decide_eq_true (by kernel_rfl)) k0 bel lt0) (trodAll_cons_mk (Below.trod laidOut (by kernel_rfl) (of_decide_eq_true (by kernel_rfl)) k1 bel lt1) trodAll_mk0)), rfl, bel.frame _, fun h => by cases h⟩

theorem fnNearest_holds : Rows.FnNearestSaid :=
  OpenClaim.holds_of_wide 5 Try.f5 rfl rfl rfl rfl rfl rfl rfl ⟨rfl, rfl, rfl, rfl, rfl⟩ rfl rfl rfl rfl rfl (by kernel_rfl) Try.func5 (by kernel_rfl)
    (of_decide_eq_true (by kernel_rfl)) (by unfold Func.isWrapper; first | (rw [if_pos (by decide +kernel)]; kernel_rfl) | (rw [if_neg (by decide +kernel)]; exact ⟨rfl, rfl⟩))
    (fun os started H enc _ => FnNearest_lifted os started H enc)
#print axioms fnNearest_holds

end Go.Proofs.Ytkkomajokdlkeaa
