/- THE LAW FnMeasures: roots are no less than sizes, and these no less than means, shares lie from 0 to 2, and guesses without misses are first. No condition. -/
import Derived.Deep.QuietTactic
import Derived.Deep.Cut
import Derived.Deep.CutRange
import Derived.Test.YtkkomajokdlkeaaQ4
import Derived.Test.YtkkomajokdlkeaaQ9
import Derived.Test.YtkkomajokdlkeaaQ33
import Derived.Test.YtkkomajokdlkeaaQ43
namespace Go.Proofs.Ytkkomajokdlkeaa
set_option linter.unusedSimpArgs false
set_option linter.unusedVariables false
set_option maxRecDepth 100000
set_option maxHeartbeats 4000000
set_option linter.unusedSimpArgs false
set_option linter.unusedVariables false
open Go.ChangeShapes Go.WideShapes Go.ChangeAt Go.RowKit
attribute [local go_sem] run_store_float run_store_complex alloc_drewN setCell_drewN
theorem nb_raw {r c : Nat} {b : Bool} (h1 : cn .f32 r = (numB c).1) (h2 : b = (numB c).2) (hf : fin c = true) : r = c ∧ b = true := by
  rw [numB_fin hf] at h1 h2
  exact ⟨(raw_of h1 hf).1, h2⟩
theorem ss_lit2 {w : World} {T : TypeId} {a b : Value} {xa xb : List Nat} (ha : SB w a xa) (hb : SB w b xb) : SS (w.alloc (.cells #[a, b] T)) (.slice (some ⟨w.heap.size, 0, none⟩) 2 2) [xa, xb] := by
  have hb8 : Below w.heap.size w (w.alloc (.cells #[a, b] T)) := Below.alloc (Below.refl _ _) (Nat.le_refl _) _
  exact ⟨[a, b], GL.blockN id T w [a, b] (by simp), rfl, fun i h1 h2 => by
    match i, h1, h2 with
    | 0, _, _ => exact ha.keep hb8
    | 1, _, _ => exact hb.keep hb8⟩
theorem ss_lit3 {w : World} {T : TypeId} {a b c : Value} {xa xb xc : List Nat} (ha : SB w a xa) (hb : SB w b xb) (hc : SB w c xc) : SS (w.alloc (.cells #[a, b, c] T)) (.slice (some ⟨w.heap.size, 0, none⟩) 3 3) [xa, xb, xc] := by
  have hb8 : Below w.heap.size w (w.alloc (.cells #[a, b, c] T)) := Below.alloc (Below.refl _ _) (Nat.le_refl _) _
  exact ⟨[a, b, c], GL.blockN id T w [a, b, c] (by simp), rfl, fun i h1 h2 => by
    match i, h1, h2 with
    | 0, _, _ => exact ha.keep hb8
    | 1, _, _ => exact hb.keep hb8
    | 2, _, _ => exact hc.keep hb8⟩
theorem given_fin {cs : List Nat} (h : allFin cs = true) : given cs = (cs, true) := by unfold given; rw [h]; rfl
theorem below_a {w w' : World} {o : Obj} (h : Below (w.alloc o).heap.size (w.alloc o) w') : Below w.heap.size w w' := ((Below.refl _ _).alloc (Nat.le_refl _) _).trans (h.mono (by rw [World.size_alloc]; omega))
theorem below_aa {w w' : World} {o o' : Obj} (h : Below ((w.alloc o).alloc o').heap.size ((w.alloc o).alloc o') w') : Below w.heap.size w w' := below_a (below_a h)
theorem blL_get {F : Nat → Nat} {n k : Nat} (h : k < n) : (blL F n).getD k 0 = F k := by simp [blL, List.getD_eq_getElem?_getD, h]
theorem sb_at {w : World} {ao : Option Addr} {n c : Nat} {cs : List Nat} (h : SB w (.slice ao n c) cs) (hn : cs.length = n) : ∀ i, i < n → ∃ b off r, ao = some ⟨b, off, none⟩ ∧ b < w.heap.size ∧ w.cell? ⟨b, off + i, none⟩ = some (.float .f32 r) ∧ r < 4294967296 ∧ cn .f32 r = cs.getD i 0 := by
  obtain ⟨ao', c', hv, -, -, hg⟩ := h.get hn
  simp only [Value.slice.injEq] at hv
  obtain ⟨rfl, -, rfl⟩ := hv
  exact hg
theorem y_undef : (match (some undef : Option Value) with | some (.bool b) => some b | _ => none) = none := rfl
theorem y_undef2 (b : Bool) : (undef = Value.bool b) = False := eq_false (fun h => by injection h)
attribute [local go_sem] y_undef y_undef2

set_option maxRecDepth 100000 in
set_option maxHeartbeats 20000000 in
theorem FnMeasures_walk {w : World} (u : Value) (cs : List Int) (hu : GL (Value.int .u8) w u cs) (hcs : allU8 cs) (v : Value) (ds : List Int) (hv : GL (Value.int .u8) w v ds) (hds : allU8 ds) :
    Calls Try.prog 6 #[u, v] w fun z w' => z = .returned (.bool true) ∧ Below w.heap.size w w' := by
  have HU := Lib.hid hu
  have HV := Lib.hid hv
  have HCS := Lib.hid hcs
  have HDS := Lib.hid hds
  clear hu hv hcs hds
  go_enter Try.func6, Try.ntmps6
  go_wp2_with fail
  refine (l_r8Long _ _ cs ds _ HU.out HV.out).mono ?_; rintro z w1 ⟨rfl, d1, rfl⟩
  cases hlong : (decide (48 < cs.length) || decide (48 < ds.length))
  case true =>
    go_wp2_with fail
    go_ret
    exact ⟨rfl, below_drewN (Below.refl _ _) _⟩
  case false =>
  clear hlong
  go_wp2_with fail
  refine (l_r8At v ds 40 12 (by omega) (by omega) (by omega) _ (GL.drewN HV.out d1) HDS.out).mono ?_; rintro z w2 ⟨⟨x, hx, rfl⟩, d2, rfl⟩
  obtain ⟨n, hn⟩ : ∃ n : Nat, n = x + 1 := ⟨_, rfl⟩
  have hn1 : 1 ≤ n := by omega
  have hn12 : n ≤ 12 := by omega
  have hw1 : IntKind.i64.wrap (1 + (x : Int)) = (n : Int) := by rw [IntKind.wrap_i64]; omega
  clear hn hx
  go_wp2_with fail
  refine (s_R8Series u cs n (by omega) _ (GL.drewN HU.out (d1 + d2)) HCS.out).mono ?_; rintro z w3 ⟨⟨lv, L, rfl, ho1, hl1, hq1⟩, hb3⟩
  have HB3 := Lib.hid (show Below w.heap.size w w3 from (below_drewN (Below.refl _ _) (d1 + d2)).trans (hb3.mono (by simp)))
  have HO1 := Lib.hid (show ∀ W, Below w3.heap.size w3 W → SB W lv L from fun W h => (ho1.keep h).sb)
  clear ho1 hb3
  go_wp2_with fail
  refine (s_R8Series v ds n (by omega) _ (HV.out.keep HB3.out) HDS.out).mono ?_; rintro z w4 ⟨⟨gv, G, rfl, ho2, hl2, hq2⟩, hb4⟩
  have HB4 := Lib.hid (HB3.out.trans (hb4.mono HB3.out.size))
  have HL := Lib.hid (show ∀ W, Below w4.heap.size w4 W → SB W lv L from fun W h => HO1.out W (hb4.trans (h.mono hb4.size)))
  have HG := Lib.hid (show ∀ W, Below w4.heap.size w4 W → SB W gv G from fun W h => (ho2.keep h).sb)
  clear ho2 hb4 HO1
  obtain ⟨X, hX, hX2⟩ := isH_fun hq1 (by omega)
  obtain ⟨Y, hY, hY2⟩ := isH_fun hq2 (by omega)
  have HZ := Lib.hid (show Hz n L G X Y from ⟨hn1, hn12, hl1, hl2, by rw [← hl1]; exact hX2, by rw [← hl2]; exact hY2, hX, hY⟩)
  have HA := Lib.hid HZ.out.fmA
  have HFB := Lib.hid HZ.out.fmB
  have HLL := Lib.hid hl1
  have HGL := Lib.hid hl2
  clear hq1 hq2 hX hX2 hY hY2 hl1 hl2
  have HW4 := Lib.hid (Below.refl w4.heap.size w4)
  go_wp2_with fail
  have hcc := i_MeanMiss lv gv L G w4 (HL.out _ HW4.out) (HG.out _ HW4.out) (HZ.out.ms (wide (by decide) HZ.out.evMean)) (fun k hk W => i_MeanMiss1 _ _ _ W)
  rw [HLL.out] at hcc
  refine hcc.mono ?_; rintro z w5 ⟨⟨rM, b0, rfl, hr0, hcr, hb0⟩, dM, rfl⟩
  obtain ⟨h1, rfl⟩ := nb_raw (c := wM L G n) hcr hb0 HA.out.fM
  have HM := Lib.hid h1
  have HW5 := Lib.hid (below_drewN HW4.out dM)
  clear hcr hb0 hr0 h1 hcc
  go_wp2_with fail
  have hcc := i_SizeMiss lv gv L G _ (HL.out _ HW5.out) (HG.out _ HW5.out) (HZ.out.ms (wide (by decide) HZ.out.evSize)) (fun k hk W => i_SizeMiss1 _ _ _ (HZ.out.dw_no (by rw [HLL.out] at hk; exact hk)).1 (HZ.out.dw_no (by rw [HLL.out] at hk; exact hk)).2 W)
  rw [HLL.out] at hcc
  refine hcc.mono ?_; rintro z w5 ⟨⟨rZ, b0, rfl, hr0, hcr, hb0⟩, dZ, rfl⟩
  obtain ⟨h1, rfl⟩ := nb_raw (c := wZ L G n) hcr hb0 HA.out.fZ
  have HZ1 := Lib.hid h1
  have HW6 := Lib.hid (below_drewN HW4.out (dM + dZ))
  clear hcr hb0 hr0 h1 hcc HW5
  go_wp2_with fail
  have hcc := i_RootMiss lv gv L G (w4.drewN (dM + dZ)) (HL.out _ HW6.out) (HG.out _ HW6.out)
  rw [HA.out.fR.1] at hcc
  refine hcc.mono ?_; rintro z w5 ⟨⟨rR, b0, rfl, hr0, hcr, hb0⟩, dR, rfl⟩
  obtain rfl : b0 = true := hb0
  have HR := Lib.hid (cn32_rawT hcr HA.out.fR.2)
  have HW7 := Lib.hid (below_drewN HW4.out (dM + dZ + dR))
  clear hcr hr0 hcc HW6
  go_wp2_with fail
  have hcc := i_ShareMiss lv gv L G (w4.drewN (dM + dZ + dR)) (HL.out _ HW7.out) (HG.out _ HW7.out) HZ.out.msSh (fun k hk W => by
    rw [HLL.out] at hk
    obtain ⟨⟨q1, q2, q3, q4, q5, q6⟩, -⟩ := HZ.out.shOk hk
    have x1 := HZ.out.c k hk
    have y1 := HZ.out.d k hk
    have bx := HZ.out.x k
    have by1 := HZ.out.y k
    have ex := h2_ev (x := X k) (by omega) (by omega)
    have ey := h2_ev (x := Y k) (by omega) (by omega)
    rw [← x1] at ex
    rw [← y1] at ey
    exact i_ShareMiss1 _ _ _ (HZ.out.dw_no hk).1 (HZ.out.dw_no hk).2 ex.notNaN ex.1 ey.notNaN ey.1 q1 q2 q3 q4 q5 q6 W)
  rw [HLL.out] at hcc
  refine hcc.mono ?_; rintro z w5 ⟨⟨rH, b0, rfl, hr0, hcr, hb0⟩, dH, rfl⟩
  obtain ⟨h1, rfl⟩ := nb_raw (c := wH L G n) hcr hb0 HA.out.fH
  have HH := Lib.hid h1
  have HW8 := Lib.hid (below_drewN HW4.out (dM + dZ + dR + dH))
  clear hcr hb0 hr0 h1 hcc HW7
  go_wp2_with fail
  have hcc := i_QuantileMiss lv gv L G (w4.drewN (dM + dZ + dR + dH)) (HL.out _ HW8.out) (HG.out _ HW8.out) 1056964608 (by decide +kernel) (by decide +kernel) (HZ.out.ms (wide (by decide) HZ.out.evHalf)) (fun k hk pb W hc => by
    rw [HLL.out] at hk
    obtain ⟨e, b1, b2⟩ := HZ.out.dw hk
    have hq := (h2_qm b1 b2).2.2.2.1
    rw [← e] at hq
    exact i_QuantileMiss1 _ _ _ pb _ (HZ.out.dw_no hk).1 (by decide +kernel) hq.n1 (by decide +kernel) hq.n3 W hc)
  rw [HLL.out] at hcc
  refine hcc.mono ?_; rintro z w9 ⟨⟨rA, b0, rfl, hr0, hcr, hb0⟩, hbl⟩
  obtain ⟨h1, rfl⟩ := nb_raw (c := wQ 1056964608 L G n) hcr hb0 HA.out.fA
  have HQA := Lib.hid h1
  have HW9 := Lib.hid (HW8.out.trans (hbl.mono HW8.out.size))
  clear hcr hb0 hr0 h1 hcc hbl HW8
  go_wp2_with fail
  have hcc := i_QuantileMiss lv gv L G (w9) (HL.out _ HW9.out) (HG.out _ HW9.out) 1061158912 (by decide +kernel) (by decide +kernel) (HZ.out.ms (wide (by decide) HZ.out.evHigh)) (fun k hk pb W hc => by
    rw [HLL.out] at hk
    obtain ⟨e, b1, b2⟩ := HZ.out.dw hk
    have hq := (h2_qm b1 b2).2.2.2.2.1
    rw [← e] at hq
    exact i_QuantileMiss1 _ _ _ pb _ (HZ.out.dw_no hk).1 (by decide +kernel) hq.n1 (by decide +kernel) hq.n3 W hc)
  rw [HLL.out] at hcc
  refine hcc.mono ?_; rintro z w10 ⟨⟨rB, b0, rfl, hr0, hcr, hb0⟩, hbl⟩
  obtain ⟨h1, rfl⟩ := nb_raw (c := wQ 1061158912 L G n) hcr hb0 HA.out.fB
  have HQB := Lib.hid h1
  have HW10 := Lib.hid (HW9.out.trans (hbl.mono HW9.out.size))
  clear hcr hb0 hr0 h1 hcc hbl HW9
  go_wp2_with fail
  have hcc := i_QuantileMiss lv gv L G (w10) (HL.out _ HW10.out) (HG.out _ HW10.out) 1048576000 (by decide +kernel) (by decide +kernel) (HZ.out.ms (wide (by decide) HZ.out.evLow)) (fun k hk pb W hc => by
    rw [HLL.out] at hk
    obtain ⟨e, b1, b2⟩ := HZ.out.dw hk
    have hq := (h2_qm b1 b2).2.2.2.2.2
    rw [← e] at hq
    exact i_QuantileMiss1 _ _ _ pb _ (HZ.out.dw_no hk).1 (by decide +kernel) hq.n1 (by decide +kernel) hq.n3 W hc)
  rw [HLL.out] at hcc
  refine hcc.mono ?_; rintro z w11 ⟨⟨rC, b0, rfl, hr0, hcr, hb0⟩, hbl⟩
  obtain ⟨h1, rfl⟩ := nb_raw (c := wQ 1048576000 L G n) hcr hb0 HA.out.fC
  have HQC := Lib.hid h1
  have HW11 := Lib.hid (HW10.out.trans (hbl.mono HW10.out.size))
  clear hcr hb0 hr0 h1 hcc hbl HW10
  go_wp2_with fail
  refine (i_CoverOfSame lv L w11 (HL.out _ HW11.out) HZ.out.self.two).mono ?_; rintro z w12 ⟨rfl, dV, rfl⟩
  obtain ⟨la, lc, hlv, -⟩ := (HL.out _ (Below.refl _ _)).sl.slice
  obtain ⟨ga, gc, hgv, -⟩ := (HG.out _ (Below.refl _ _)).sl.slice
  rw [HLL.out] at hlv
  rw [HGL.out] at hgv
  subst hlv
  subst hgv
  have i1 : ((n : Int)).toNat = n := by omega
  go_wp2_with fail
  obtain ⟨l, hrk, hl3, hrk2⟩ := HFB.out.rk
  have HB13 := Lib.hid (below_drewN (HW11.out.alloc HW11.out.size (.cells #[.slice ga n gc, .slice la n lc, .slice ga n gc] 26)) dV)
  have hcc := i_RanksMiss _ (.slice la n lc) [G, L, G] L _ ((ss_lit3 (w := w11) (T := 26) (HG.out _ HW11.out) (HL.out _ HW11.out) (HG.out _ HW11.out)).drewN dV) (HL.out _ HB13.out)
  rw [hrk] at hcc
  have HCC := Lib.hid hcc
  have HL3 := Lib.hid hl3
  have HR2 := Lib.hid hrk2
  clear hcc hrk hl3 hrk2
  refine HCC.out.mono ?_; rintro z w13 ⟨⟨ov, b0, rfl, ho, hb0⟩, hb13⟩
  obtain rfl : b0 = true := hb0
  have HW13 := Lib.hid (HB13.out.trans (hb13.mono HB13.out.size))
  have HO := Lib.hid ho.gl
  obtain ⟨oo, oc, hov, -⟩ := HO.out.slice
  rw [HL3.out] at hov
  subst hov
  clear HCC ho hb13 HB13 HW11
  have HFA := HA.out
  obtain ⟨fM, fZ, fH, fA, fB, fC, fR, z0, g1, a1, t1, zw, rw', a2, t2, h0, h2, z2, g3, t3, bc, g4, t4, g5, t5⟩ := HA.out
  rw [← HM.out] at g1 t1
  rw [← HZ1.out] at fZ z0 a1 t1 zw t2 z2 g3 t3 g4 t4 g5 t5
  rw [← HR.out] at rw' a2 t2
  rw [← HH.out] at h0 h2
  rw [← HQA.out] at g3 t3
  rw [← HQB.out] at bc g4 t4 fB
  rw [← HQC.out] at bc g4 t4 fC
  have SFZ := Lib.hid fZ
  have SZ2 := Lib.hid z2
  have SG5 := Lib.hid g5
  have ST5 := Lib.hid t5
  have RC1 := fun w => run_wdxT (P := Try.prog) w 33 45 rZ (by kernel_rfl) (by kernel_rfl) (fin_notNaN fZ)
  have rn : (S.read rR).isNaN = false := by rw [HR.out]; exact fR.2
  have RC2 := fun w => run_wdxT (P := Try.prog) w 33 45 rR (by kernel_rfl) (by kernel_rfl) rn
  have RA1 := fun t w => run_arx64T (P := Try.prog) .add (wd rZ) 4562254508917369340 (ar .add .f64 (wd rZ) kM6) (by rw [cn_of_not (k := .f64) zw, show cn .f64 4562254508917369340 = kM6 by decide +kernel]) a1 t w
  have RA2 := fun t w => run_arx64T (P := Try.prog) .add (wd rR) 4562254508917369340 (ar .add .f64 (wd rR) kM6) (by rw [cn_of_not (k := .f64) rw', show cn .f64 4562254508917369340 = kM6 by decide +kernel]) a2 t w
  have RQ := fun t w => run_arxT (P := Try.prog) .quo rZ 1073741824 (w2 rZ) (by rw [cn_of_not (k := .f32) (fin_notNaN fZ), show cn .f32 1073741824 = 1073741824 by decide +kernel]; rfl) (fin_notNaN z2) t w
  have RA3 := fun t w => run_arxT (P := Try.prog) .add rB rC (addF rB rC) (by rw [cn_of_not (k := .f32) (fin_notNaN fB), cn_of_not (k := .f32) (fin_notNaN fC)]; rfl) bc t w
  have HG1 := Lib.hid (fun W => l_r8Gap rM 0 g1.ha g1.hb g1.h1 g1.h2 g1.h3 g1.h4 W)
  have HG3 := Lib.hid (fun W => l_r8Gap rA (w2 rZ) g3.ha g3.hb g3.h1 g3.h2 g3.h3 g3.h4 W)
  have HG4 := Lib.hid (fun W => l_r8Gap (addF rB rC) rZ g4.ha g4.hb g4.h1 g4.h2 g4.h3 g4.h4 W)
  have q0 : (FloatKind.f32.format.order rZ 0 == some .lt) = false := z0
  have q1 : (FloatKind.f64.format.order (r8G rM 0) (ar .add .f64 (wd rZ) kM6) == some .gt) = false := t1
  have q2 : (FloatKind.f64.format.order (wd rZ) (ar .add .f64 (wd rR) kM6) == some .gt) = false := t2
  have q3 : (FloatKind.f32.format.order rH 0 == some .lt) = false := h0
  have q4 : (FloatKind.f32.format.order rH 1073746018 == some .gt) = false := h2
  have q5 : (FloatKind.f64.format.order (r8G rA (w2 rZ)) 4562254508917369340 == some .gt) = false := t3
  have q6 : (FloatKind.f64.format.order (r8G (addF rB rC) rZ) 4562254508917369340 == some .gt) = false := t4
  have q7 : FloatKind.f32.format.order 1065353216 1065353216 = some .eq := by decide +kernel
  clear fM fZ fH fA fB fC fR z0 g1 a1 t1 zw rw' a2 t2 h0 h2 z2 g3 t3 bc g4 t4 g5 t5 HFA rn
  generalize r8G rM 0 = e1 at *
  generalize r8G rA (w2 rZ) = e3 at *
  generalize r8G (addF rB rC) rZ = e4 at *
  generalize ar .add .f64 (wd rZ) kM6 = s1 at *
  generalize ar .add .f64 (wd rR) kM6 = s2 at *
  generalize addF rB rC = s3 at *
  generalize hz2 : w2 rZ = s4 at *
  have HS4 := Lib.hid hz2
  clear hz2
  generalize hdz : wd rZ = dz at *
  generalize wd rR = dr at *
  clear hdz
  have HOC : Hid ((FloatKind.f32.format.order rR 0 == some .gt) = true → ∃ b1 f1, oo = some ⟨b1, f1, none⟩ ∧ w13.cell? ⟨b1, f1, none⟩ = some (.int .i64 1) ∧ w13.cell? ⟨b1, f1 + 1, none⟩ = some (.int .i64 0) ∧ w13.cell? ⟨b1, f1 + 2, none⟩ = some (.int .i64 2)) := Lib.hid (by
    intro hpos
    have hl := HR2.out (by rw [← HR.out]; exact hpos)
    subst hl
    obtain ⟨oo2, oc2, e1', -, hget⟩ := HO.out
    simp only [Value.slice.injEq] at e1'
    obtain ⟨rfl, -, rfl⟩ := e1'
    obtain ⟨b1, f1, rfl, hbl1, hc0⟩ := hget 0 (by simp)
    obtain ⟨b2, f2, e2', -, hc1⟩ := hget 1 (by simp)
    obtain ⟨b3, f3, e3', -, hc2⟩ := hget 2 (by simp)
    simp only [Option.some.injEq, Addr.mk.injEq, and_true] at e2' e3'
    obtain ⟨rfl, rfl⟩ := e2'
    obtain ⟨rfl, rfl⟩ := e3'
    exact ⟨_, _, rfl, hc0, hc1, hc2⟩)
  go_upto_region 15 with fail
  go_cut [215] from 108 to 215 (fun t W => t = .bool false ∧ ∃ m, W = w13.drewN m)
  case first =>
    as_aux_lemma =>
      cases hpos : (FloatKind.f32.format.order rR 0 == some .gt)
      case' true =>
        obtain ⟨b1, f1, rfl, hc0, hc1, hc2⟩ := HOC.out hpos
      all_goals
        clear HOC HR2 HO HU HV HCS HDS HB3 HB4 HZ HA HFB HLL HGL HW4 HM HZ1 HR HH HQA HQB HQC HL HG HW13 SFZ SZ2 SG5 ST5 HS4 hn1 hn12 hw1 i1 HL3
        go_wp2_with fail
        refine (HG1.out _).mono ?_; rintro z wa ⟨rfl, na, rfl⟩
        go_wp2_with fail
        refine (HG3.out _).mono ?_; rintro z wa ⟨rfl, nb, rfl⟩
        go_wp2_with fail
        refine (HG4.out _).mono ?_; rintro z wa ⟨rfl, nc, rfl⟩
        go_wp2_with fail
        all_goals
          go_meet
          exact ⟨rfl, _, by first | rfl | simp only [World.drewN_drewN]⟩
  case rest =>
    obtain ⟨rfl, dm, rfl⟩ := hcut
    clear q0 q1 q2 q3 q4 q5 q6 q7 HG1 HG3 HG4 RC1 RC2 RA1 RA2 RA3 HOC HO HR2 HL3
    go_wp2_with fail
    have HP := Lib.hid (SB.drewN (SB.lit w13 past4 33 (0, 0) (by decide) (by decide) rfl rfl) dm)
    have HB14 := Lib.hid (below_drewN (HW13.out.alloc HW13.out.size (.cells #[.float .f32 0, .float .f32 1073741824, .float .f32 0, .float .f32 1073741824] 33)) dm)
    have hcc := i_ScaledMiss _ (.slice la n lc) (.slice ga n gc) L G _ HP.out (HL.out _ HB14.out) (HG.out _ HB14.out) (HZ.out.ms (wide (by decide) HZ.out.evSize)) (fun k hk W => i_SizeMiss1 _ _ _ (HZ.out.dw_no (by rw [HLL.out] at hk; exact hk)).1 (HZ.out.dw_no (by rw [HLL.out] at hk; exact hk)).2 W) (sz := wZ L G n) (by rw [HLL.out]; exact numB_fin HA.out.fZ) (cn_of_not (k := .f32) (fin_notNaN HA.out.fZ))
    have e2 : divF (wZ L G n) 1073741824 = s4 := by rw [← HZ1.out]; exact HS4.out
    rw [e2] at hcc
    refine hcc.mono ?_; rintro z w14 ⟨⟨rS, b0, rfl, hr0, hcr, hb0⟩, hbl⟩
    obtain ⟨h1, rfl⟩ := nb_raw (c := s4) hcr hb0 SZ2.out
    subst h1
    have HW14 := Lib.hid (HB14.out.trans (hbl.mono HB14.out.size))
    clear hcr hb0 hr0 hcc hbl HB14 HP e2
    go_wp2_with fail
    have hs := SB.lit w14 [1065353216, 1077936128] 33 (0, 0) (by decide) (by decide) rfl rfl
    rw [show ([1065353216, 1077936128] : List Nat).map (cn .f32) = [1065353216, 1077936128] by decide +kernel] at hs
    have HB15 := Lib.hid (HW14.out.alloc HW14.out.size (.cells #[.float .f32 1065353216, .float .f32 1077936128] 33))
    have hcc := i_WeightsByMiss _ [1065353216, 1077936128] _ hs (by decide) (by decide) (by decide +kernel)
    rw [show shL (([1065353216, 1077936128] : List Nat).map fun x => divF 1065353216 x) = wmW from rfl, given_fin wm_fin] at hcc
    refine hcc.mono ?_; rintro z w15 ⟨⟨wv, b0, rfl, ho, hb0⟩, hbl⟩
    obtain rfl : b0 = true := hb0
    have HW15 := Lib.hid (HB15.out.trans (hbl.mono HB15.out.size))
    have HWV := Lib.hid (show ∀ W, Below w15.heap.size w15 W → SB W wv wmW from fun W h => (ho.keep h).sb)
    clear ho hbl hcc hs HB15
    go_wp2_with fail
    have hs : SB ((w15.alloc (.cells #[.slice la n lc, .slice ga n gc] 26)).alloc (.cells #[.float .f32 1056964608, .float .f32 1056964608] 33)) (.slice (some ⟨w15.heap.size + 1, 0, none⟩) 2 2) wHalf := by
      have h := SB.lit (w15.alloc (.cells #[.slice la n lc, .slice ga n gc] 26)) [1056964608, 1056964608] 33 (0, 0) (by decide) (by decide) rfl (n := w15.heap.size + 1) (by simp)
      rw [show ([1056964608, 1056964608] : List Nat).map (cn .f32) = wHalf by decide +kernel] at h
      exact h
    have hB1 := HW15.out.alloc HW15.out.size (.cells #[.slice la n lc, .slice ga n gc] 26)
    have HB16 := Lib.hid (hB1.alloc hB1.size (.cells #[.float .f32 1056964608, .float .f32 1056964608] 33))
    have hss := (ss_lit2 (w := w15) (T := 26) (HL.out _ HW15.out) (HG.out _ HW15.out)).keep ((Below.refl _ _).alloc (Nat.le_refl _) (.cells #[.float .f32 1056964608, .float .f32 1056964608] 33))
    have hcc := i_BlendOf _ _ [L, G] wHalf _ hss hs HFB.out.ways rfl (by decide +kernel)
    rw [show (headL [L, G]).length = n from HLL.out, show wHalf.length = 2 from rfl, given_fin HFB.out.bf] at hcc
    refine hcc.mono ?_; rintro z w16 ⟨⟨bv, b0, rfl, ho, hb0⟩, hbl⟩
    obtain rfl : b0 = true := hb0
    have HW16 := Lib.hid (HB16.out.trans (hbl.mono HB16.out.size))
    have HBV := Lib.hid (show ∀ W, Below w16.heap.size w16 W → SB W bv (blL (fun i => dotL wHalf (numsAt [L, G] i) 2) n) from fun W h => (ho.keep h).sb)
    have HX16 := Lib.hid (below_aa hbl)
    clear ho hbl hcc hs hss hB1 HB16
    go_wp2_with fail
    have HB17 := Lib.hid (HW16.out.alloc HW16.out.size (.cells #[.slice la n lc, .slice ga n gc] 26))
    have hcc := i_MiddleBlend _ [L, G] _ (ss_lit2 (w := w16) (T := 26) (HL.out _ HW16.out) (HG.out _ HW16.out)) HFB.out.ways (by rw [show (headL [L, G]).length = n from HLL.out]; exact HFB.out.md)
    rw [show (headL [L, G]).length = n from HLL.out, given_fin HFB.out.mf] at hcc
    refine hcc.mono ?_; rintro z w17 ⟨⟨mv, b0, rfl, ho, hb0⟩, hbl⟩
    obtain rfl : b0 = true := hb0
    have HW17 := Lib.hid (HB17.out.trans (hbl.mono HB17.out.size))
    have HMV := Lib.hid (show ∀ W, Below w17.heap.size w17 W → SB W mv (blL (fun i => medV (sort19 (numsAt [L, G] i))) n) from fun W h => (ho.keep h).sb)
    have HX17 := Lib.hid (below_a hbl)
    clear ho hbl hcc HB17
    go_wp2_with fail
    have HB18 := Lib.hid (HW17.out.alloc HW17.out.size (.cells #[.slice la n lc, .slice ga n gc] 26))
    have hcc := i_LearnWeights _ (.slice la n lc) [L, G] L 1040187392 _ (ss_lit2 (w := w17) (T := 26) (HL.out _ HW17.out) (HG.out _ HW17.out)) (HL.out _ HB18.out) HZ.out.lwOk
    obtain ⟨l0, l1, hlw, fl0, fl1, nls, gls, tls, nw0, nw1, nws, tw⟩ := HFB.out.lw
    rw [HLL.out, hlw, given_fin (allFin_two fl0 fl1)] at hcc
    refine hcc.mono ?_; rintro z w18 ⟨⟨ev, b0, rfl, ho, hb0⟩, hbl⟩
    obtain rfl : b0 = true := hb0
    have HW18 := Lib.hid (HB18.out.trans (hbl.mono HB18.out.size))
    have HEV := Lib.hid ho.sb
    have HX18 := Lib.hid (below_a hbl)
    clear ho hbl hcc HB18 hlw
    obtain ⟨bo, bc, hbv, -⟩ := (HBV.out _ (Below.refl _ _)).sl.slice
    rw [show (blL (fun i => dotL wHalf (numsAt [L, G] i) 2) n).length = n by simp [blL]] at hbv
    subst hbv
    obtain ⟨mo, mc, hmv, -⟩ := (HMV.out _ (Below.refl _ _)).sl.slice
    rw [show (blL (fun i => medV (sort19 (numsAt [L, G] i))) n).length = n by simp [blL]] at hmv
    subst hmv
    have HWX := Lib.hid (HWV.out w18 (HX16.out.trans ((HX17.out.trans (HX18.out.mono HX17.out.size)).mono HX16.out.size)))
    obtain ⟨wo, wc, rfl, -, -, hgw⟩ := HWX.out.get wm_two
    obtain ⟨wb, wf, x0, rfl, -, hcw, -, hxw⟩ := hgw 0 (by omega)
    have fw : fin (wmW.getD 0 0) = true := fin_getD194 wm_fin 0
    obtain ⟨h1, -⟩ := raw_of hxw fw
    rw [show wmW.getD 0 0 = wm0 from rfl] at h1
    subst h1
    obtain ⟨eo, ec, rfl, -, -, hge⟩ := HEV.out.get (show ([l0, l1] : List Nat).length = 2 from rfl)
    obtain ⟨eb, ef, y0, rfl, -, hce0, -, hye0⟩ := hge 0 (by omega)
    obtain ⟨eb1, ef1, y1, ee, -, hce1, -, hye1⟩ := hge 1 (by omega)
    obtain ⟨rfl, rfl⟩ : eb1 = eb ∧ ef1 = ef := by simp only [Option.some.injEq, Addr.mk.injEq] at ee; exact ⟨ee.1.symm, ee.2.1.symm⟩
    obtain ⟨h1, -⟩ := raw_of hye0 fl0
    rw [show ([l0, l1] : List Nat).getD 0 0 = l0 from rfl] at h1
    subst h1
    obtain ⟨h1, -⟩ := raw_of hye1 fl1
    rw [show ([y0, l1] : List Nat).getD 1 0 = l1 from rfl] at h1
    subst h1
    have hce0' : w18.cell? ⟨eb1, ef1, none⟩ = some (.float .f32 y0) := hce0
    have hce1' : w18.cell? ⟨eb1, ef1 + 1, none⟩ = some (.float .f32 y1) := hce1
    have hcw' : w18.cell? ⟨wb, wf, none⟩ = some (.float .f32 wm0) := hcw
    have RA3 := fun t w => run_arxT (P := Try.prog) .add y0 y1 (addF y0 y1) (by rw [cn_of_not (k := .f32) (fin_notNaN fl0), cn_of_not (k := .f32) (fin_notNaN fl1)]; rfl) nls t w
    have RC1 := fun w => run_wdxT (P := Try.prog) w 33 45 y0 (by kernel_rfl) (by kernel_rfl) (fin_notNaN fl0)
    have RC2 := fun w => run_wdxT (P := Try.prog) w 33 45 y1 (by kernel_rfl) (by kernel_rfl) (fin_notNaN fl1)
    have RA1 := fun t w => run_arx64T (P := Try.prog) .sub (wd y1) 4562254508917369340 (ar .sub .f64 (wd y1) kM6) (by rw [cn_of_not (k := .f64) nw1, show cn .f64 4562254508917369340 = kM6 by decide +kernel]) nws t w
    have g5 := SG5.out
    have HG5 := Lib.hid (fun W => l_r8Gap rS rS g5.ha g5.hb g5.h1 g5.h2 g5.h3 g5.h4 W)
    have HG6 := Lib.hid (fun W => l_r8Gap wm0 1061158912 wm_gap.1.ha wm_gap.1.hb wm_gap.1.h1 wm_gap.1.h2 wm_gap.1.h3 wm_gap.1.h4 W)
    have HG7 := Lib.hid (fun W => l_r8Gap (addF y0 y1) 1065353216 gls.ha gls.hb gls.h1 gls.h2 gls.h3 gls.h4 W)
    have q5 : (FloatKind.f64.format.order (r8G rS rS) 4562254508917369340 == some .gt) = false := ST5.out
    have q6 : (FloatKind.f64.format.order (r8G wm0 1061158912) 4562254508917369340 == some .gt) = false := wm_gap.2
    have q7 : (FloatKind.f64.format.order (r8G (addF y0 y1) 1065353216) 4562254508917369340 == some .gt) = false := tls
    have q8 : (FloatKind.f64.format.order (wd y0) (ar .sub .f64 (wd y1) kM6) == some .lt) = false := tw
    clear fw hxw hcw hgw hge hce0 hce1 hye0 hye1 ee fl0 fl1 nls gls tls nw0 nw1 nws tw g5
    generalize r8G rS rS = e5 at *
    generalize r8G wm0 1061158912 = e6 at *
    generalize r8G (addF y0 y1) 1065353216 = e7 at *
    generalize addF y0 y1 = s6 at *
    generalize ar .sub .f64 (wd y1) kM6 = s7 at *
    generalize wd y0 = dy0 at *
    generalize wd y1 = dy1 at *
    generalize wm0 = wm at *
    have HW18' := Lib.hid (HX17.out.trans (HX18.out.mono HX17.out.size))
    go_upto_region 23 with fail
    go_cut [328] from 252 to 328 (fun t W => t = .bool false ∧ ∃ m, W = w18.drewN m)
    case first =>
      as_aux_lemma =>
        clear HU HV HCS HDS HB3 HB4 HZ HA HFB HLL HGL HW4 HM HZ1 HR HH HQA HQB HQC HL HG HW13 SFZ SZ2 SG5 ST5 HS4 hn1 hn12 hw1 i1 HW14 HW15 HW16 HW17 HW18 HW18' HX16 HX17 HX18 HWV HBV HMV HWX HEV
        go_quiet ((go_at_call 47; first | with_reducible exact quiet_dr (HG5.out _) | with_reducible exact quiet_dr2 (HG5.out _) | with_reducible exact quiet_dr (HG6.out _) | with_reducible exact quiet_dr2 (HG6.out _) | with_reducible exact quiet_dr (HG7.out _) | with_reducible exact quiet_dr2 (HG7.out _)))
        go_wp2_with fail
        all_goals
          go_meet
          exact ⟨rfl, _, by first | rfl | simp only [World.drewN_drewN]⟩
    case rest =>
      obtain ⟨rfl, dn, rfl⟩ := hcut
      clear q5 q6 q7 q8 HG5 HG6 HG7 RC1 RC2 RA1 RA3 hce0' hce1' hcw' RQ
      have HSB := Lib.hid (show SB w18 (.slice bo n bc) (blL (fun i => dotL wHalf (numsAt [L, G] i) 2) n) from HBV.out _ HW18'.out)
      have HSM := Lib.hid (show SB w18 (.slice mo n mc) (blL (fun i => medV (sort19 (numsAt [L, G] i))) n) from HMV.out _ HX18.out)
      have HSL := Lib.hid (show SB w18 (.slice la n lc) L from HL.out _ HW18.out)
      have HSG := Lib.hid (show SB w18 (.slice ga n gc) G from HG.out _ HW18.out)
      have HS1 := Lib.hid (sb_at HSB.out (by simp [blL]))
      have HS2 := Lib.hid (sb_at HSM.out (by simp [blL]))
      have HS3 := Lib.hid (sb_at HSL.out HLL.out)
      have HS4 := Lib.hid (sb_at HSG.out HGL.out)
      have HBW := Lib.hid (HB4.out.trans (HW18.out.mono HB4.out.size))
      clear HSB HSM HSL HSG HBV HMV HL HG HWX HEV HX16 HX17 HX18 HW18 HW18' HW17 HW16 HW15 HW14 HWV
      go_wp2_with fail
      go_loopw [37] (fun i wr => ∃ k : Nat, k ≤ n ∧ i = .int .i64 (k : Int) ∧ ∃ m, wr = w18.drewN m) (fun i _ => n - (intOf i).toNat)
      case atStart => exact ⟨0, Nat.zero_le _, rfl, _, rfl⟩
      case round =>
        obtain ⟨k, hk, rfl, dk, rfl⟩ := hrel
        by_cases hlt : k < n
        · have hji : (k : Int) < (n : Int) := by omega
          have hj0 : 0 ≤ (k : Int) := by omega
          have hjn : ((k : Int)).toNat = k := by omega
          obtain ⟨b1, f1, x1, rfl, -, hx1, -, hc1⟩ := HS1.out k hlt
          obtain ⟨b2, f2, x2, rfl, -, hx2, -, hc2⟩ := HS2.out k hlt
          obtain ⟨b3, f3, x3, rfl, -, hx3, -, hc3⟩ := HS3.out k hlt
          obtain ⟨b4, f4, x4, rfl, -, hx4, -, hc4⟩ := HS4.out k hlt
          have fn := (HFB.out.md k hlt).1
          have fb := fin_getD194 HFB.out.bf k
          have fm := fin_getD194 HFB.out.mf k
          have fl : fin (L.getD k 0) = true := fin_getD194 fn 0
          have fg : fin (G.getD k 0) = true := fin_getD194 fn 1
          obtain ⟨e1, -⟩ := raw_of hc1 fb
          obtain ⟨e2, -⟩ := raw_of hc2 fm
          obtain ⟨e3, -⟩ := raw_of hc3 fl
          obtain ⟨e4, -⟩ := raw_of hc4 fg
          rw [blL_get hlt] at e1 e2
          have g1 := HFB.out.g1 k hlt
          have t1 := HFB.out.t1 k hlt
          have g2 := HFB.out.g2 k hlt
          have t2 := HFB.out.t2 k hlt
          have s1 := HFB.out.s k hlt
          have q1 := HFB.out.q k hlt
          rw [← e1] at g1 t1 g2 t2
          rw [← e2] at g1 t1
          rw [← e3] at g2 t2 s1 q1 fl
          rw [← e4] at g2 t2 s1 q1 fg
          have RA := fun t w => run_arxT (P := Try.prog) .add x3 x4 (addF x3 x4) (by rw [cn_of_not (k := .f32) (fin_notNaN fl), cn_of_not (k := .f32) (fin_notNaN fg)]; rfl) s1 t w
          have RQ := fun t w => run_arxT (P := Try.prog) .quo (addF x3 x4) 1073741824 (w2 (addF x3 x4)) (by rw [cn_of_not (k := .f32) s1, show cn .f32 1073741824 = 1073741824 by decide +kernel]; rfl) q1 t w
          have HG1 := Lib.hid (fun W => l_r8Gap x1 x2 g1.ha g1.hb g1.h1 g1.h2 g1.h3 g1.h4 W)
          have HG2 := Lib.hid (fun W => l_r8Gap x1 (w2 (addF x3 x4)) g2.ha g2.hb g2.h1 g2.h2 g2.h3 g2.h4 W)
          have o1 : (FloatKind.f64.format.order (r8G x1 x2) 4562254508917369340 == some .gt) = false := t1
          have o2 : (FloatKind.f64.format.order (r8G x1 (w2 (addF x3 x4))) 4562254508917369340 == some .gt) = false := t2
          clear e1 e2 e3 e4 hc1 hc2 hc3 hc4 fn fb fm fl fg g1 t1 g2 t2 s1 q1
          generalize r8G x1 x2 = p1 at *
          generalize r8G x1 (w2 (addF x3 x4)) = p2 at *
          generalize w2 (addF x3 x4) = p3 at *
          generalize addF x3 x4 = p4 at *
          clear HU HV HCS HDS HB3 HB4 HZ HA HFB HLL HGL HW4 HM HZ1 HR HH HQA HQB HQC HW13 SFZ SZ2 SG5 ST5 HS1 HS2 HS3 HS4 hn1 hw1 i1
          go_wp2_with fail
          go_quiet ((go_at_call 47; first | with_reducible exact quiet_dr (HG1.out _) | with_reducible exact quiet_dr2 (HG1.out _) | with_reducible exact quiet_dr (HG2.out _) | with_reducible exact quiet_dr2 (HG2.out _)))
          go_wp2_with fail
          exact ⟨⟨k + 1, by omega, by go_num, _, rfl⟩, by simp [intOf]; omega⟩
        · have hji : ¬ ((k : Int) < (n : Int)) := by omega
          go_wp2_with fail
          go_ret
          exact ⟨rfl, by first | exact below_drewN HBW.out _ | (simp only [World.drewN_drewN]; exact below_drewN HBW.out _)⟩
set_option maxRecDepth 100000 in
theorem FnMeasures_lifted (os : Os) (started : os.Started) (H : Type) (enc : TypeId × Value → H) :
    ReturnsInHanded {} Try.checked os 6 .any (Rows.fnMeasuresSpec.pre6 enc Try.prog Try.f6 Rows.fnMeasuresRow.domain false) (Rows.fnMeasuresSpec.post enc Try.prog Try.f6 false true false false) := by
  refine returnsInHanded_of_change (C := Try.checked) own started (by kernel_rfl) Try.func6
    (ChangeSpec.witness6 (enc := enc) (C := Try.checked) false ⟨#[], #[.slice none 0 0, .slice none 0 0], []⟩ 8 (by kernel_rfl) (by kernel_rfl) (by kernel_rfl) (by kernel_rfl)) ?_
  intro W base args ds gs before hval0 hW hcnd _
  have hval : ∀ (j : Nat) t v, Try.f6.params[j]? = some t → args[j]? = some v → Value.okWide Try.prog W .any base t v := hval0
  have hW' := hW
  obtain ⟨p, q, hA0, hV, rfl, hfz, hnd⟩ := hW
  have hA : DataW.TrodAll enc Try.prog W 0 (fun _ => true) true Try.f6.params.toList args.toList ds p := hA0
  rw [Try.params6] at hA hval
  obtain ⟨v0, vs0, d0, ds0, p0, q0, hargs, rfl, rfl, h0, r0⟩ := trodAll_cons hA
  obtain ⟨v1, vs1, d1, ds1, p1, q1, rfl, rfl, rfl, h1, r1⟩ := trodAll_cons r0
  obtain ⟨rfl, rfl, rfl⟩ := trodAll_nil r1
  obtain rfl : args = #[v0, v1] := by cases args; simp_all
  obtain ⟨rfl, rfl⟩ := trodVars_none hV
  have k0 := h0
  have lt0 : ∀ x ∈ p0, x.block < W.heap.size := by obtain ⟨m, hm⟩ := k0; exact DataW.trod_lt m _ _ _ hm
  have k1 := h1
  have lt1 : ∀ x ∈ p1, x.block < W.heap.size := by obtain ⟨m, hm⟩ := k1; exact DataW.trod_lt m _ _ _ hm
  obtain ⟨b0, ln0, cp0, rfl⟩ := okWide_slice Try.underlying22 (hval 0 22 v0 rfl rfl)
  obtain ⟨c0, hc0⟩ : ∃ cs, GL (Value.int .u8) W (.slice b0 ln0 cp0) cs ∧ allU8 cs := by obtain ⟨fuel, hfu⟩ := h0; exact open_u8s Try.underlying22 Try.underlying5 (by kernel_rfl) hfu
  obtain ⟨b1, ln1, cp1, rfl⟩ := okWide_slice Try.underlying22 (hval 1 22 v1 rfl rfl)
  obtain ⟨c1, hc1⟩ : ∃ cs, GL (Value.int .u8) W (.slice b1 ln1 cp1) cs ∧ allU8 cs := by obtain ⟨fuel, hfu⟩ := h1; exact open_u8s Try.underlying22 Try.underlying5 (by kernel_rfl) hfu
  clear hA0 hval0
  refine (FnMeasures_walk (w := W) _ c0 hc0.1 hc0.2 _ c1 hc1.1 hc1.2).mono fun e W' ⟨he, bel⟩ => ?_
  subst he
  exact ⟨_, rfl, _, _, _, [], _, [], hW', trodAll_mk1 (shut_bool Try.underlying4 _), (trodAll_cons_mk (Below.trod laidOut (by kernel_rfl) (of_decide_eq_true (by kernel_rfl)) k0 bel lt0) (trodAll_cons_mk (Below.trod laidOut (by kernel_rfl) (of_decide_eq_true (by kernel_rfl)) k1 bel lt1) trodAll_mk0)), rfl, bel.frame _, fun h => by cases h⟩

theorem fnMeasures_holds : Rows.FnMeasuresSaid :=
  OpenClaim.holds_of_wide 6 Try.f6 rfl rfl rfl rfl rfl rfl rfl ⟨rfl, rfl, rfl, rfl, rfl⟩ rfl rfl rfl rfl rfl (by kernel_rfl) Try.func6 (by kernel_rfl)
    (of_decide_eq_true (by kernel_rfl)) (by unfold Func.isWrapper; first | (rw [if_pos (by decide +kernel)]; kernel_rfl) | (rw [if_neg (by decide +kernel)]; exact ⟨rfl, rfl⟩))
    (fun os started H enc _ => FnMeasures_lifted os started H enc)

end Go.Proofs.Ytkkomajokdlkeaa
