/- THE LAW FnDrift. (Under way.) -/
import Derived.Test.YtnhenklopigfnaaLawKit
import Derived.Test.YtnhenklopigfnaaK151
import Derived.Test.YtnhenklopigfnaaSd9
import Derived.Test.YtnhenklopigfnaaK81
import Derived.Test.YtnhenklopigfnaaK40
import Derived.Test.YtnhenklopigfnaaK14
namespace Go.Proofs.Ytnhenklopigfnaa
set_option linter.unusedSimpArgs false
set_option linter.unusedVariables false
set_option maxRecDepth 100000
set_option maxHeartbeats 4000000
open Go.ChangeShapes Go.WideShapes Go.ChangeAt Go.RowKit
attribute [local go_sem] run_store_float run_store_complex alloc_drewN setCell_drewN
/-- The opposites. -/
def oppL (L : List Nat) (n : Nat) : List Nat := (List.range n).map fun i => Op.negFloat .f32 (L.getD i 0)

theorem oneF32D : OneC Try.prog 25 27 (.float .f32 0) 4 := oneC_of Try.underlying25 (by kernel_rfl) rfl (by decide)
set_option maxRecDepth 100000 in
theorem FnDrift_walk {w : World} (u : Value) (cs : List Int) (hu : GL (Value.int .u8) w u cs) (hcs : allU8 cs) (v : Value) (ds : List Int) (hv : GL (Value.int .u8) w v ds) (hds : allU8 ds) :
    Calls Try.prog 3 #[u, v] w fun z w' => z = .returned (.bool true) ∧ Below w.heap.size w w' := by
  have HU := Lib.hid hu
  have HV := Lib.hid hv
  have HCS := Lib.hid hcs
  have HDS := Lib.hid hds
  clear hu hv hcs hds
  go_enter Try.func3, Try.ntmps3
  go_wp2_with fail
  refine (l_b10Long u v cs ds _ HU.out HV.out).mono ?_; rintro z w1 ⟨rfl, hd⟩
  have HB1 := Lib.hid (hd.below w.heap.size)
  clear hd
  cases hbig : (decide (1048576 < cs.length) || decide (1048576 < ds.length)) with
  | true =>
    go_wp2_with fail
    go_ret
    exact ⟨rfl, HB1.out⟩
  | false =>
    clear hbig
    go_wp2_with fail
    refine (l_b10AtX v ds 0 14 (by omega) (by omega) (by omega) _ (HV.out.keep HB1.out) HDS.out).mono ?_; rintro z w2 ⟨⟨x0, hx0, rfl⟩, hd⟩
    have HB2 := Lib.hid (HB1.out.trans ((hd.below w1.heap.size).mono HB1.out.size))
    clear hd HB1
    obtain ⟨nn, hn⟩ : ∃ nn, nn = 1 + x0 := ⟨_, rfl⟩
    have t1 : (1 : Int) + (x0 : Int) = (nn : Int) := by omega
    have t2 : IntKind.i64.wrap (nn : Int) = (nn : Int) := by rw [IntKind.wrap_i64]; omega
    have hn1 : 1 ≤ nn := by omega
    have hn2 : nn ≤ 14 := by omega
    clear hn
    go_wp2_with fail
    refine (s_B10List u cs nn (by omega) _ (HU.out.keep HB2.out) HCS.out).mono ?_; rintro z w3 ⟨⟨va, L, rfl, ho, hl, hq⟩, hb⟩
    have HB3 := Lib.hid (HB2.out.trans (hb.mono HB2.out.size))
    have HA := Lib.hid (show ∀ w', Below w3.heap.size w3 w' → OW 27 w2.heap.size w' va L from fun w' h => ho.keep h)
    have HLL := Lib.hid hl
    have HQ := Lib.hid (isQ_list hq)
    obtain ⟨ao, c, rfl, -⟩ := ho.sb.sl.slice
    have hz3 := HB3.out.size
    clear ho hl hq hb HB2
    simp only [HLL.out]
    go_wp2_with fail
    refine (l_b10AtX v ds 1 9 (by omega) (by omega) (by omega) _ (HV.out.keep HB3.out) HDS.out).mono ?_; rintro z w4 ⟨⟨x1, hx1, rfl⟩, hd⟩
    have HB4 := Lib.hid (HB3.out.trans ((hd.below w3.heap.size).mono HB3.out.size))
    have HW4 := Lib.hid (hd.below w3.heap.size)
    clear hd HB3
    have t3 : IntKind.i64.wrap ((x1 : Int) - 4) = (x1 : Int) - 4 := by rw [IntKind.wrap_i64]; omega
    go_wp2_with (first | (refine wpList_ar .f32 _ _ rfl rfl rfl ?_; intro r n hr hlt) | (refine wpList_fc .f32 _ _ rfl rfl rfl ?_) | (refine wpList_fc_g rfl .f32 _ _ rfl rfl rfl ?_) | (refine wpList_ar_g rfl .f32 _ _ rfl rfl rfl ?_; intro r n hr hlt))
    obtain ⟨m, n1⟩ : ∃ m, m = r := ⟨_, rfl⟩
    subst n1
    obtain ⟨hme, hmb⟩ := q4_ev (x := (x1 : Int) - 4) (by omega) (by omega)
    obtain ⟨hrm, -⟩ := raw_of (show cn .f32 m = q4 ((x1 : Int) - 4) from hr) hme.fin
    have HME := Lib.hid (show Ev m (2 * ((x1 : Int) - 4)) by rw [hrm]; exact hme)
    have HMB := Lib.hid (show Bd m 2 by rw [hrm]; exact hmb)
    have HB5 := Lib.hid (below_drewN HB4.out n)
    have HW5 := Lib.hid (below_drewN HW4.out n)
    clear hr hlt hme hmb hrm HB4 HW4
    generalize World.drewN w4 n = w5 at *
    refine (l_b10AtX v ds 2 9 (by omega) (by omega) (by omega) _ (HV.out.keep HB5.out) HDS.out).mono ?_; rintro z w6 ⟨⟨x2, hx2, rfl⟩, hd⟩
    have HB6 := Lib.hid (HB5.out.trans ((hd.below w5.heap.size).mono HB5.out.size))
    have HW6 := Lib.hid (HW5.out.trans ((hd.below w5.heap.size).mono HW5.out.size))
    clear hd HB5 HW5
    go_wp2_with (first | (refine wpList_ar .f32 _ _ rfl rfl rfl ?_; intro rk nk hrk hltk))
    obtain ⟨hke, hkl⟩ := e8v_ev hx2
    obtain ⟨hrm, -⟩ := raw_of (show cn .f32 rk = e8v (x2 : Int) from hrk) hke.fin
    have HKE := Lib.hid (show Ev rk (x2 : Int) by rw [hrm]; exact hke)
    have HKL := Lib.hid (show least rk = true by rw [hrm]; exact hkl)
    have HB7 := Lib.hid (below_drewN HB6.out nk)
    have HW7 := Lib.hid (below_drewN HW6.out nk)
    clear hrk hltk hke hkl hrm HB6 HW6
    generalize World.drewN w6 nk = w7 at *
    refine (l_b10AtX v ds 3 17 (by omega) (by omega) (by omega) _ (HV.out.keep HB7.out) HDS.out).mono ?_; rintro z w8 ⟨⟨x3, hx3, rfl⟩, hd⟩
    have HB8 := Lib.hid (HB7.out.trans ((hd.below w7.heap.size).mono HB7.out.size))
    have HW8 := Lib.hid (HW7.out.trans ((hd.below w7.heap.size).mono HW7.out.size))
    clear hd HB7 HW7
    go_wp2_with (first | (refine wpList_ar .f32 _ _ rfl rfl rfl ?_; intro rb nb hrb hltb))
    obtain ⟨hbe, hbl⟩ := h2v_ev hx3
    obtain ⟨hrm, -⟩ := raw_of (show cn .f32 rb = h2v (x3 : Int) from hrb) hbe.fin
    have HBR := Lib.hid hrm
    have HBE := Lib.hid (show Ev rb (4 * (x3 : Int)) by rw [hrm]; exact hbe)
    have HBL := Lib.hid (show least rb = true by rw [hrm]; exact hbl)
    have HB9 := Lib.hid (below_drewN HB8.out nb)
    have HW9 := Lib.hid (below_drewN HW8.out nb)
    clear hrb hltb hbe hbl hrm HB8 HW8
    generalize World.drewN w8 nb = w9 at *
    have HDU := Lib.hid (fun (down : Bool) => show driftQ down L (cn .f32 m) (cn .f32 rk) = (dL down m rk L L.length, true) from by
      obtain ⟨X, hX, hc⟩ := HQ.out
      rw [HME.out.cn, HKE.out.cn]
      exact drift_full down (fun i => by have := hX i; omega) (by omega) (by omega) HME.out HKE.out HKL.out (fun i hi => (hc i hi).1) (by rw [HLL.out]; exact hn1) (by rw [HLL.out]; omega))
    have HSB := Lib.hid (fun w' (h : Below w3.heap.size w3 w') => (HA.out w' h).sb)
    have hu1 := i_DriftUp (.slice ao L.length c) L m rk w9 (HSB.out _ HW9.out)
    rw [HDU.out] at hu1
    simp only [HLL.out] at hu1
    refine hu1.mono ?_; rintro z w10 ⟨hlb, hb⟩
    obtain ⟨vu, bu, rfl, hou, rfl⟩ := hlb
    obtain ⟨auo, auc, rfl, -⟩ := hou.sb.sl.slice
    have HB10 := Lib.hid (HB9.out.trans (hb.mono HB9.out.size))
    have HW10 := Lib.hid (HW9.out.trans (hb.mono HW9.out.size))
    have HUP := Lib.hid (fun w' (h : Below w10.heap.size w10 w') => hou.keep h)
    clear hb hou hu1 HB9 HW9
    go_wp2_with fail
    have hu1 := i_DriftDown (.slice ao L.length c) L m rk w10 (HSB.out _ HW10.out)
    rw [HDU.out] at hu1
    simp only [HLL.out] at hu1
    refine hu1.mono ?_; rintro z w11 ⟨hlb, hb⟩
    obtain ⟨vd, bd, rfl, hod, rfl⟩ := hlb
    obtain ⟨ado, adc, rfl, -⟩ := hod.sb.sl.slice
    have HB11 := Lib.hid (HB10.out.trans (hb.mono HB10.out.size))
    have HW11 := Lib.hid (HW10.out.trans (hb.mono HW10.out.size))
    have HUP2 := Lib.hid (fun w' (h : Below w11.heap.size w11 w') => HUP.out w' (hb.trans (h.mono hb.size)))
    have HDN := Lib.hid (fun w' (h : Below w11.heap.size w11 w') => hod.keep h)
    clear hb hod hu1 HB10 HW10 HUP
    have HO0 := Lib.hid (show GO (Value.float .f32) 27 w11.heap.size (w11.alloc (.cells #[] 27)) (.slice (some ⟨w11.heap.size, 0, none⟩) 0 0) (oppL L 0) from GO.empty _ _ rfl (Nat.le_refl _))
    have HB12 := Lib.hid (HB11.out.alloc HB11.out.size (.cells #[] 27))
    have HW12 := Lib.hid (show Below w11.heap.size w11 (w11.alloc (.cells #[] 27)) from (Below.refl _ _).alloc (Nat.le_refl _) _)
    have hz11 := HB11.out.size
    have hz3b := HW11.out.size
    go_wp2_with fail
    go_loopw [69, 14] (fun i o wr => ∃ j : Nat, j ≤ nn ∧ i = .int .i64 (j : Int) ∧ Hid (GO (Value.float .f32) 27 w11.heap.size wr o (oppL L j)) ∧ Hid (Below w11.heap.size w11 wr)) (fun i _ _ => nn - (intOf i).toNat)
    case atStart => exact ⟨0, Nat.zero_le _, rfl, HO0, HW12⟩
    case round =>
      clear HO0 HB12 HW12
      obtain ⟨j, hj, rfl, HO, HW⟩ := hrel
      have hzr := HW.out.size
      by_cases hlt : j < nn
      · have hji : (j : Int) < (nn : Int) := by omega
        obtain ⟨X, hX, hXc⟩ := HQ.out
        obtain ⟨ao', c', hvv, -, -, hget⟩ := (HSB.out wr (HW11.out.trans (HW.out.mono HW11.out.size))).get HLL.out
        obtain ⟨b, off, r, hao, hbl, hc, hr32, hcr⟩ := hget j hlt
        obtain rfl : ao = some ⟨b, off, none⟩ := by injection hvv with e1; rw [e1]; exact hao
        obtain ⟨hrr, -⟩ := raw_of hcr (hXc j (by rw [HLL.out]; exact hlt)).1.fin
        have HRR := Lib.hid hrr
        have RN := fun w => run_ng (P := Try.prog) r w
        have HOS := Lib.hid (show oppL L (j + 1) = oppL L j ++ [Op.negFloat .f32 (L.getD j 0)] by simp [oppL, List.range_succ])
        have HOL := Lib.hid (show (oppL L j).length = j by simp [oppL])
        clear hvv hao hget hrr hcr hX hXc X
        go_wp2_with (at_builtin; refine wpList_gapp (inj := Value.float .f32) oneF32D (fun _ => rfl) w11.heap.size _ (oppL L j) rfl (GO.alloc HO.out _) [Op.negFloat .f32 r] _ 1 rfl rfl (by intro i u hu; cases i with | zero => (simp only [List.getElem?_cons_zero, Option.some.injEq] at hu; subst hu; simp) | succ i => simp at hu) (by have := HOL.out; simp only [List.length_cons, List.length_nil]; omega) (by simp; omega) ?_; intro v2 w13 hown hg; have HO2 := Lib.hid hown; have HW2 := Lib.hid (show Below w11.heap.size w11 w13 from (HW.out.alloc HW.out.size _).grown hg (by simp; omega) HO.out.own_ge); clear hown hg)
        refine ⟨⟨j + 1, by omega, by go_num, ?_, HW2⟩, by simp [intOf]; omega⟩
        show Hid (GO _ _ _ _ _ _)
        rw [HOS.out, ← HRR.out]
        exact HO2
      · obtain rfl : j = nn := by omega
        have hji : ¬ ((j : Int) < (j : Int)) := by omega
        have RN := fun w => run_ng (P := Try.prog) m w
        have HOL := Lib.hid (show (oppL L j).length = j by simp [oppL])
        have HOG := Lib.hid (show ∀ i, i < j → (oppL L j).getD i 0 = Op.negFloat .f32 (L.getD i 0) from fun i hi => by simp [oppL, hi])
        have HOE := Lib.hid (show ∀ c ∈ oppL L j, c < 4294967296 ∧ cn .f32 c = c from fun c hc => by
          obtain ⟨X, hX, hXc⟩ := HQ.out
          obtain ⟨i, hi, rfl⟩ := List.mem_map.1 hc
          have h := (hXc i (by rw [HLL.out]; exact List.mem_range.1 hi)).1.neg
          exact ⟨h.1, h.cn⟩)
        have HOW := Lib.hid (show OW 27 w11.heap.size wr _ (oppL L j) from by
          have h : OW 27 w11.heap.size wr _ ((oppL L j).map (cn .f32)) := ⟨oppL L j, HO.out, rfl, fun c hc => (HOE.out c hc).1⟩
          rw [List.map_congr_left (g := id) fun c hc => (HOE.out c hc).2, List.map_id] at h
          exact h)
        obtain ⟨aoo, aoc, rfl, -⟩ := HOW.out.sb.sl.slice
        have HDT := Lib.hid (show driftQ true (oppL L j) (cn .f32 (Op.negFloat .f32 m)) (cn .f32 rk) = (dL true (Op.negFloat .f32 m) rk (oppL L j) (oppL L j).length, true) from by
          obtain ⟨X, hX, hXc⟩ := HQ.out
          rw [HME.out.neg.cn, HKE.out.cn]
          refine drift_full true (M := -(2 * ((x1 : Int) - 4))) (K := (x2 : Int)) (X := fun i => -(X i)) (fun i => by have := hX i; show (-(X i)).natAbs ≤ 100; omega) (by omega) (by omega) HME.out.neg HKE.out HKL.out (fun i hi => ?_) (by rw [HOL.out]; exact hn1) (by rw [HOL.out]; omega)
          rw [HOL.out] at hi
          rw [HOG.out i hi]
          exact (hXc i (by rw [HLL.out]; exact hi)).1.neg)
        have HBr := Lib.hid (HB11.out.trans (HW.out.mono HB11.out.size))
        go_wp2_with fail
        have hu1 := i_DriftDown (.slice aoo (oppL L j).length aoc) (oppL L j) (Op.negFloat .f32 m) rk wr HOW.out.sb
        rw [HDT.out] at hu1
        refine hu1.mono ?_; rintro z w12 ⟨hlb, hb⟩
        obtain ⟨vt, bt, rfl, hot, rfl⟩ := hlb
        obtain ⟨ato, atc, rfl, -⟩ := hot.sb.sl.slice
        have HB12 := Lib.hid (HBr.out.trans (hb.mono HBr.out.size))
        have HW12 := Lib.hid (HW.out.trans (hb.mono HW.out.size))
        have HTN := Lib.hid (fun w' (h : Below w12.heap.size w12 w') => hot.keep h)
        clear hb hot hu1 HBr
        obtain ⟨X, hX, hXc⟩ := HQ.out
        obtain ⟨U, hU⟩ : ∃ U : Nat → Int, U = fun i => iAt false (2 * ((x1 : Int) - 4)) (x2 : Int) X (i + 1) := ⟨_, rfl⟩
        obtain ⟨D, hD⟩ : ∃ D : Nat → Int, D = fun i => iAt true (2 * ((x1 : Int) - 4)) (x2 : Int) X (i + 1) := ⟨_, rfl⟩
        have hXb : ∀ i, (X i).natAbs ≤ 100 := fun i => by have := hX i; omega
        have HEU := Lib.hid (show ∀ i, i < j → Ev ((dL false m rk L j).getD i 0) (U i) ∧ 0 ≤ U i from fun i hi => by
          rw [show (dL false m rk L j).getD i 0 = dAt false m rk L (i + 1) by simp [dL, hi], hU]
          exact ⟨dAt_ev false hXb (by omega) (by omega) HME.out HKE.out (fun i hi => (hXc i hi).1) (i + 1) (by rw [HLL.out]; omega) (by omega), (iAt_bound false hXb (by omega) (by omega) _).1⟩)
        have HED := Lib.hid (show ∀ i, i < j → Ev ((dL true m rk L j).getD i 0) (D i) ∧ 0 ≤ D i from fun i hi => by
          rw [show (dL true m rk L j).getD i 0 = dAt true m rk L (i + 1) by simp [dL, hi], hD]
          exact ⟨dAt_ev true hXb (by omega) (by omega) HME.out HKE.out (fun i hi => (hXc i hi).1) (i + 1) (by rw [HLL.out]; omega) (by omega), (iAt_bound true hXb (by omega) (by omega) _).1⟩)
        have HET := Lib.hid (show ∀ i, i < j → Ev ((dL true (Op.negFloat .f32 m) rk (oppL L j) (oppL L j).length).getD i 0) (U i) from fun i hi => by
          have hl : (dL true (Op.negFloat .f32 m) rk (oppL L j) (oppL L j).length).getD i 0 = dAt true (Op.negFloat .f32 m) rk (oppL L j) (i + 1) := by
            rw [HOL.out]; simp [dL, hi]
          rw [hl, hU]
          show Ev _ (iAt false (2 * ((x1 : Int) - 4)) (x2 : Int) X (i + 1))
          rw [← iAt_turn]
          exact dAt_ev true (fun i => by have := hX i; show (-(X i)).natAbs ≤ 100; omega) (by omega) (by omega) HME.out.neg HKE.out (fun i hi => by
            rw [HOL.out] at hi
            rw [HOG.out i hi]
            exact (hXc i (by rw [HLL.out]; exact hi)).1.neg) (i + 1) (by rw [HOL.out]; omega) (by omega))
        have HDA := Lib.hid (show daQ L (cn .f32 m) (cn .f32 rk) (cn .f32 rb) = (dFind (daFar L (cn .f32 m) (cn .f32 rk) (cn .f32 rb)) L.length, true) from daQ_yes (by rw [HDU.out false, HDU.out true, HBE.out.cn, HBL.out]; rfl))
        obtain ⟨P, hP⟩ : ∃ P, P = daFar L (cn .f32 m) (cn .f32 rk) (cn .f32 rb) := ⟨_, rfl⟩
        have HPQ := Lib.hid (show ∀ i, i < j → P i = (fc .gtr .f32 ((dL false m rk L j).getD i 0) rb || fc .gtr .f32 ((dL true m rk L j).getD i 0) rb) from fun i hi => by
          rw [hP, daFar, HDU.out false, HDU.out true, HBE.out.cn]
          simp only [HLL.out])
        rw [← hP] at HDA
        clear hP hU hD hX hXb hXc X
        go_wp2_with fail
        have hu1 := i_DriftAt (.slice ao L.length c) L m rk rb w12 (HSB.out _ (HW11.out.trans (HW12.out.mono hz3b)))
        rw [HDA.out] at hu1
        simp only [HLL.out] at hu1
        refine hu1.mono ?_; rintro z w13 ⟨rfl, hb⟩
        have hz12 := HW12.out.size
        have HB13 := Lib.hid (HB12.out.trans (hb.mono HB12.out.size))
        have HW13 := Lib.hid (HW12.out.trans (hb.mono hz12))
        have HT13 := Lib.hid hb
        clear hb hu1 HB12
        have e1 : (dL false m rk L j).length = j := dL_length ..
        have e2 : (dL true m rk L j).length = j := dL_length ..
        have e3 : (dL true (Op.negFloat .f32 m) rk (oppL L j) (oppL L j).length).length = j := by rw [dL_length, HOL.out]
        have hwj : IntKind.i64.wrap (j : Int) = (j : Int) := by rw [IntKind.wrap_i64]; omega
        have hz13 := HB13.out.size
        have hz13b := HW13.out.size
        have hz13c := HT13.out.size
        go_wp2_with fail
        go_loopw [131, 20] (fun i f wr => ∃ k : Nat, k ≤ j ∧ i = .int .i64 (k : Int) ∧ f = .int .i64 (dFind P k) ∧ Hid (Below w13.heap.size w13 wr)) (fun i _ _ => j - (intOf i).toNat)
        case atStart => exact ⟨0, Nat.zero_le _, rfl, by first | rfl | (rw [show dFind P 0 = -1 from rfl]), Lib.hid (Below.refl _ _)⟩
        case round =>
          obtain ⟨k, hk, rfl, rfl, HWL⟩ := hrel
          have hzl := HWL.out.size
          have hfb := dFind_bound P k
          by_cases hlt2 : k < j
          · have hki : (k : Int) < (j : Int) := by omega
            have hk0 : 0 ≤ (k : Int) := by omega
            have hkn : ((k : Int)).toNat = k := by omega
            obtain ⟨av1, cc1, hv1, -, -, hget1⟩ := (HUP2.out wr (HW13.out.trans (HWL.out.mono hz13b))).sb.get e1
            obtain ⟨b1, o1, ua, hao1, hbl1, hc1, hr1, hcr1⟩ := hget1 k hlt2
            obtain rfl : auo = some ⟨b1, o1, none⟩ := by injection hv1 with q1; rw [q1]; exact hao1
            obtain ⟨av2, cc2, hv2, -, -, hget2⟩ := (HDN.out wr (HW13.out.trans (HWL.out.mono hz13b))).sb.get e2
            obtain ⟨b2, o2, da, hao2, hbl2, hc2, hr2, hcr2⟩ := hget2 k hlt2
            obtain rfl : ado = some ⟨b2, o2, none⟩ := by injection hv2 with q1; rw [q1]; exact hao2
            obtain ⟨av3, cc3, hv3, -, -, hget3⟩ := (HTN.out wr (HT13.out.trans (HWL.out.mono hz13c))).sb.get e3
            obtain ⟨b3, o3, ta, hao3, hbl3, hc3, hr3, hcr3⟩ := hget3 k hlt2
            obtain rfl : ato = some ⟨b3, o3, none⟩ := by injection hv3 with q1; rw [q1]; exact hao3
            obtain ⟨hEu, hU0⟩ := HEU.out k hlt2
            obtain ⟨hEd, hD0⟩ := HED.out k hlt2
            have hEt := HET.out k hlt2
            have hPk := HPQ.out k hlt2
            obtain ⟨q1, -⟩ := raw_of hcr1 hEu.fin
            obtain ⟨q2, -⟩ := raw_of hcr2 hEd.fin
            obtain ⟨q3, -⟩ := raw_of hcr3 hEt.fin
            rw [← q1] at hEu hPk
            rw [← q2] at hEd hPk
            rw [← q3] at hEt
            have o1' : (FloatKind.f32.format.order ua 0 == some .lt) = false := (hEu.lss ev_zero).trans (decide_eq_false (by omega))
            have o2' : (FloatKind.f32.format.order da 0 == some .lt) = false := (hEd.lss ev_zero).trans (decide_eq_false (by omega))
            have RC1 := fun w => run_wdx (P := Try.prog) w 27 32 ua (by kernel_rfl) (by kernel_rfl) hEu.notNaN
            have RC2 := fun w => run_wdx (P := Try.prog) w 27 32 ta (by kernel_rfl) (by kernel_rfl) hEt.notNaN
            have HGC := Lib.hid (fun w => (l_b10GapEv2 ua ta (U k) hEu hEt w))
            have hgo2 : FloatKind.f64.format.order (gapF (wd ua) (wd ta)) 4562254508917369340 = some .lt := gap_small hEu hEt
            have HSU := Lib.hid (dFind_succ P k)
            clear hao1 hao2 hao3 hv1 hv2 hv3 hget1 hget2 hget3 hcr1 hcr2 hcr3 hr1 hr2 hr3 q1 q2 q3 hEu hEd hEt
            have HSB2 := Lib.hid (show decide (dFind P k < 0) = decide (dFind P k < 0) from rfl)
            have oU : (FloatKind.f32.format.order ua rb == some .gt) = fc .gtr .f32 ua rb := rfl
            have oD : (FloatKind.f32.format.order da rb == some .gt) = fc .gtr .f32 da rb := rfl
            generalize fc .gtr .f32 ua rb = pu at *
            generalize fc .gtr .f32 da rb = pd at *
            go_wp2_with fail
            go_quiet ((go_at_call 17; first | exact quiet_dr (HGC.out _) | exact quiet_dr2 (HGC.out _)))
            generalize hf1 : dFind P (k + 1) = f1 at *
            have HF1 := Lib.hid hf1
            clear hf1
            generalize P k = pk at *
            have HPK := Lib.hid hPk
            clear hPk
            generalize dFind P k = f0 at *
            by_cases hf0 : f0 < 0
            · cases pu <;> cases pd
              all_goals
                go_wp2_with fail
                refine ⟨⟨k + 1, by omega, by go_num, ?_, Lib.hid (below_drewN HWL.out _)⟩, by simp [intOf]; omega⟩
                rw [HF1.out, HSU.out, HPK.out, decide_eq_true hf0]
                rfl
            · go_wp2_with fail
              refine ⟨⟨k + 1, by omega, by go_num, ?_, Lib.hid (below_drewN HWL.out _)⟩, by simp [intOf]; omega⟩
              rw [HF1.out, HSU.out, decide_eq_false hf0]
              rfl
          · obtain rfl : k = j := by omega
            clear hlt2 e1 e2 e3
            obtain ⟨wo, hwo⟩ : ∃ wo, wo = wr := ⟨_, rfl⟩
            subst hwo
            have HB14 := Lib.hid (HB13.out.trans (HWL.out.mono hz13))
            have HW14 := Lib.hid (HW11.out.trans ((HW13.out.trans (HWL.out.mono hz13b)).mono hz3b))
            have hz14 := HB14.out.size
            have hz14b := HW14.out.size
            have HS0 := Lib.hid (show GO (Value.float .f32) 27 wo.heap.size (wo.alloc (.cells #[] 27)) (.slice (some ⟨wo.heap.size, 0, none⟩) 0 0) (List.replicate 0 m) from GO.empty _ _ rfl (Nat.le_refl _))
            have HS1 := Lib.hid (show Below wo.heap.size wo (wo.alloc (.cells #[] 27)) from (Below.refl _ _).alloc (Nat.le_refl _) _)
            have HMC := Lib.hid (show m < 4294967296 from HME.out.1)
            generalize dFind P k = f0 at *
            go_wp2_with fail
            go_loopw [23, 22] (fun i o ws => ∃ q : Nat, q ≤ k ∧ i = .int .i64 (q : Int) ∧ Hid (GO (Value.float .f32) 27 wo.heap.size ws o (List.replicate q m)) ∧ Hid (Below wo.heap.size wo ws)) (fun i _ _ => k - (intOf i).toNat)
            case atStart => exact ⟨0, Nat.zero_le _, rfl, HS0, HS1⟩
            case round =>
              clear HS0 HS1
              obtain ⟨q, hq, rfl, HO3, HW3⟩ := hrel
              have hzs := HW3.out.size
              by_cases hlt3 : q < k
              · have hqi : (q : Int) < (k : Int) := by omega
                have HRS := Lib.hid (show List.replicate (q + 1) m = List.replicate q m ++ [m] from List.replicate_succ')
                have HRL := Lib.hid (show (List.replicate q m).length = q from List.length_replicate)
                go_wp2_with (at_builtin; refine wpList_gapp (inj := Value.float .f32) oneF32D (fun _ => rfl) wo.heap.size _ (List.replicate q m) rfl (GO.alloc HO3.out _) [m] _ 1 rfl rfl (by intro i u hu; cases i with | zero => (simp only [List.getElem?_cons_zero, Option.some.injEq] at hu; subst hu; simp) | succ i => simp at hu) (by have := HRL.out; simp only [List.length_cons, List.length_nil]; omega) (by simp; omega) ?_; intro v2 w14 hown hg; have HO4 := Lib.hid hown; have HW4 := Lib.hid (show Below wo.heap.size wo w14 from (HW3.out.alloc HW3.out.size _).grown hg (by simp; omega) HO3.out.own_ge); clear hown hg)
                refine ⟨⟨q + 1, by omega, by go_num, ?_, HW4⟩, by simp [intOf]; omega⟩
                show Hid (GO _ _ _ _ _ _)
                rw [HRS.out]
                exact HO4
              · obtain rfl : q = k := by omega
                have hqi : ¬ ((q : Int) < (q : Int)) := by omega
                have HRL := Lib.hid (show (List.replicate q m).length = q from List.length_replicate)
                have HST := Lib.hid (show OW 27 wo.heap.size wr u22 (List.replicate q m) from by
                  have h : OW 27 wo.heap.size wr u22 ((List.replicate q m).map (cn .f32)) := ⟨List.replicate q m, HO3.out, rfl, fun c hc => by rw [List.eq_of_mem_replicate hc]; exact HMC.out⟩
                  rw [List.map_replicate, HME.out.cn] at h
                  exact h)
                obtain ⟨aso, asc, hs22, -⟩ := HST.out.sb.sl.slice
                rw [HRL.out] at hs22
                subst hs22
                have HSD := Lib.hid (show ∀ i, i < (List.replicate q m).length → (List.replicate q m).getD i 0 = m from fun i hi => by
                  rw [HRL.out] at hi
                  rw [List.getD_eq_getElem?_getD, List.getElem?_replicate, if_pos hi]; rfl)
                have HSS := Lib.hid (show series (List.replicate q m) = true from by
                  unfold series allFin
                  rw [HRL.out, decide_eq_true hn1, decide_eq_true (by omega)]
                  rw [List.all_eq_true.2 fun c hc => by rw [List.eq_of_mem_replicate hc]; exact HME.out.fin]
                  rfl)
                have HSK := Lib.hid (show scOk m (List.replicate q m) from scOk_of HMB.out (fun i hi => by rw [HSD.out i hi]; exact HMB.out) (by rw [HRL.out]; omega))
                have HSN := Lib.hid (show scL m 0 (List.replicate q m) (List.replicate q m).length = [] from sc_steady_none HME.out HSD.out (by omega) rfl _ (Nat.le_refl _))
                have HLS := Lib.hid (show series L = true from by
                  obtain ⟨X, hX, hXc⟩ := HQ.out
                  unfold series allFin
                  rw [HLL.out, decide_eq_true hn1, decide_eq_true (by omega)]
                  rw [List.all_eq_true.2 fun c hc => by
                    obtain ⟨i, hi, rfl⟩ := List.getElem_of_mem hc
                    have h := (hXc i hi).1.fin
                    rwa [List.getD_eq_getElem?_getD, List.getElem?_eq_getElem hi] at h]
                  rfl)
                have HLK := Lib.hid (show scOk m L from by
                  obtain ⟨X, hX, hXc⟩ := HQ.out
                  exact scOk_of HMB.out (fun i hi => (hXc i hi).2) (by rw [HLL.out]; omega))
                have hzo := HW3.out.size
                have HBa := Lib.hid (HB14.out.trans (HW3.out.mono hz14))
                have HWa := Lib.hid (HW14.out.trans (HW3.out.mono hz14b))
                have hza := HBa.out.size
                have hzb := HWa.out.size
                go_wp2_with fail
                have hu1 := i_SmoothChart (.slice aso q asc) (List.replicate q m) m 0 wr HST.out.sb HSS.out HME.out.fin (by decide) (by rw [HRL.out]; omega) HSK.out
                rw [HSN.out] at hu1
                refine hu1.mono ?_; rintro z w15 ⟨⟨uch, rfl, hch⟩, hb⟩
                obtain ⟨cho, chc, rfl, -⟩ := hch.slice
                have HB15 := Lib.hid (HBa.out.trans (hb.mono hza))
                have HW15 := Lib.hid (HWa.out.trans (hb.mono hzb))
                have hzc := HB15.out.size
                have hzd := HW15.out.size
                clear hb hch hu1 HBa HWa
                obtain ⟨hwe, hwl⟩ := wdv_ev hx3
                go_wp2_with (first | (refine wpList_ar .f32 _ _ rfl rfl rfl ?_; intro rw_ nw hrw hltw))
                obtain ⟨hrm, -⟩ := raw_of (show cn .f32 rw_ = wdv (x3 : Int) from by rw [hrw, HBE.out.cn, HBR.out]; rfl) hwe.fin
                subst hrm
                have HWF := Lib.hid hwl
                have HWV := Lib.hid hwe
                clear hrw hltw hwl hwe
                have HB16 := Lib.hid (below_drewN HB15.out nw)
                have HW16 := Lib.hid (below_drewN HW15.out nw)
                clear HB15 HW15
                generalize World.drewN w15 nw = w16 at *
                have hze := HB16.out.size
                have hzf := HW16.out.size
                have hu1 := i_SmoothChart (.slice ao L.length c) L m (wdv (x3 : Int)) w16 (HSB.out _ HW16.out) HLS.out HME.out.fin HWF.out (by rw [HLL.out]; omega) HLK.out
                simp only [HLL.out] at hu1
                refine hu1.mono ?_; rintro z w17 ⟨⟨uto, rfl, hto⟩, hb⟩
                obtain ⟨too, toc, rfl, -⟩ := hto.slice
                have HTO := Lib.hid hto
                have HB17 := Lib.hid (HB16.out.trans (hb.mono hze))
                have HW17 := Lib.hid (HW16.out.trans (hb.mono hzf))
                have hz17 := hb.size
                have hzg := HB17.out.size
                have hzh := HW17.out.size
                clear hb hto hu1 HB16 HW16
                go_wp2_with (first | (refine wpList_ar .f32 _ _ rfl rfl rfl ?_; intro rx nx hrw hltw))
                obtain ⟨hrm, -⟩ := raw_of (show cn .f32 rx = wdv (x3 : Int) from by rw [hrw, HBE.out.cn, HBR.out]; rfl) HWV.out.fin
                subst hrm
                clear hrw hltw
                have HB18 := Lib.hid (below_drewN HB17.out nx)
                have HW18 := Lib.hid (below_drewN HW17.out nx)
                have HT18 := Lib.hid (HTO.out.drewN nx)
                clear HB17 HW17 HTO
                generalize World.drewN w17 nx = w18 at *
                have hzi := HB18.out.size
                have hzj := HW18.out.size
                have hu1 := s_SmoothChart (.slice ao L.length c) L m (wdv (x3 : Int)) w18 (HSB.out _ HW18.out) HLS.out HME.out.fin HWF.out (by rw [HLL.out]; omega) HLK.out
                simp only [HLL.out] at hu1
                refine hu1.mono ?_; rintro z w19 ⟨⟨uwa, rfl, hwa⟩, hb⟩
                obtain ⟨wao, wac, rfl, -⟩ := hwa.slice
                have HWA := Lib.hid hwa
                have HT19 := Lib.hid (HT18.out.keep hb)
                have HB19 := Lib.hid (HB18.out.trans (hb.mono hzi))
                clear hb hwa hu1 HB18 HW18 HT18
                go_wp2_with fail
                refine (l_b10Ints _ _ _ _ HT19.out.gl HWA.out.gl).mono ?_; rintro z w20 ⟨rfl, n20, rfl⟩
                go_wp2_with fail
                go_ret
                exact ⟨rfl, below_drewN HB19.out _⟩
set_option maxRecDepth 100000 in
theorem FnDrift_lifted (os : Os) (started : os.Started) (H : Type) (enc : TypeId × Value → H) :
    ReturnsInHanded {} Try.checked os 3 .any (Rows.fnDriftSpec.pre6 enc Try.prog Try.f3 Rows.fnDriftRow.domain false) (Rows.fnDriftSpec.post enc Try.prog Try.f3 false true false false) := by
  refine returnsInHanded_of_change (C := Try.checked) own started (by kernel_rfl) Try.func3
    (ChangeSpec.witness6 (enc := enc) (C := Try.checked) false ⟨#[], #[.slice none 0 0, .slice none 0 0], []⟩ 8 (by kernel_rfl) (by kernel_rfl) (by kernel_rfl) (by kernel_rfl)) ?_
  intro W base args ds gs before hval0 hW hcnd _
  have hval : ∀ (j : Nat) t v, Try.f3.params[j]? = some t → args[j]? = some v → Value.okWide Try.prog W .any base t v := hval0
  have hW' := hW
  obtain ⟨p, q, hA0, hV, rfl, hfz, hnd⟩ := hW
  have hA : DataW.TrodAll enc Try.prog W 0 (fun _ => true) true Try.f3.params.toList args.toList ds p := hA0
  rw [Try.params3] at hA hval
  obtain ⟨v0, vs0, d0, ds0, p0, q0, hargs, rfl, rfl, h0, r0⟩ := trodAll_cons hA
  obtain ⟨v1, vs1, d1, ds1, p1, q1, rfl, rfl, rfl, h1, r1⟩ := trodAll_cons r0
  obtain ⟨rfl, rfl, rfl⟩ := trodAll_nil r1
  obtain rfl : args = #[v0, v1] := by cases args; simp_all
  obtain ⟨rfl, rfl⟩ := trodVars_none hV
  have k0 := h0
  have lt0 : ∀ x ∈ p0, x.block < W.heap.size := by obtain ⟨m, hm⟩ := k0; exact DataW.trod_lt m _ _ _ hm
  have k1 := h1
  have lt1 : ∀ x ∈ p1, x.block < W.heap.size := by obtain ⟨m, hm⟩ := k1; exact DataW.trod_lt m _ _ _ hm
  obtain ⟨b0, ln0, cp0, rfl⟩ := okWide_slice Try.underlying22 (hval 0 22 v0 rfl rfl)
  obtain ⟨c0, hc0⟩ : ∃ cs, GL (Value.int .u8) W (.slice b0 ln0 cp0) cs ∧ allU8 cs := by obtain ⟨fuel, hfu⟩ := h0; exact open_u8s Try.underlying22 Try.underlying5 (by kernel_rfl) hfu
  obtain ⟨b1, ln1, cp1, rfl⟩ := okWide_slice Try.underlying22 (hval 1 22 v1 rfl rfl)
  obtain ⟨c1, hc1⟩ : ∃ cs, GL (Value.int .u8) W (.slice b1 ln1 cp1) cs ∧ allU8 cs := by obtain ⟨fuel, hfu⟩ := h1; exact open_u8s Try.underlying22 Try.underlying5 (by kernel_rfl) hfu
  clear hA0 hval0
  refine (FnDrift_walk (w := W) _ c0 hc0.1 hc0.2 _ c1 hc1.1 hc1.2).mono fun e W' ⟨he, bel⟩ => ?_
  subst he
  exact ⟨_, rfl, _, _, _, [], _, [], hW', trodAll_mk1 (shut_bool Try.underlying4 _), (trodAll_cons_mk (Below.trod laidOut (by kernel_rfl) (of_decide_eq_true (by kernel_rfl)) k0 bel lt0) (trodAll_cons_mk (Below.trod laidOut (by kernel_rfl) (of_decide_eq_true (by kernel_rfl)) k1 bel lt1) trodAll_mk0)), rfl, bel.frame _, fun h => by cases h⟩

theorem fnDrift_holds : Rows.FnDriftSaid :=
  OpenClaim.holds_of_wide 3 Try.f3 rfl rfl rfl rfl rfl rfl rfl ⟨rfl, rfl, rfl, rfl, rfl⟩ rfl rfl rfl rfl rfl (by kernel_rfl) Try.func3 (by kernel_rfl)
    (of_decide_eq_true (by kernel_rfl)) (by unfold Func.isWrapper; first | (rw [if_pos (by decide +kernel)]; kernel_rfl) | (rw [if_neg (by decide +kernel)]; exact ⟨rfl, rfl⟩))
    (fun os started H enc _ => FnDrift_lifted os started H enc)

end Go.Proofs.Ytnhenklopigfnaa
