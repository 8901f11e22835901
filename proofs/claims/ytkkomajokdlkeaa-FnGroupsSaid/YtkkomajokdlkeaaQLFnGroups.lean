/- THE LAW FnGroups: each series belongs to its nearest center, trees join all by steps that do not become shorter, and signs are nearer than series; for all arguments. No condition. -/
import Derived.Lib.QuietBelow
import Derived.Test.YtkkomajokdlkeaaQ12
import Derived.Test.YtkkomajokdlkeaaQ22
import Derived.Test.YtkkomajokdlkeaaQ23
import Derived.Test.YtkkomajokdlkeaaQ27
import Derived.Test.YtkkomajokdlkeaaQ29
import Derived.Test.YtkkomajokdlkeaaQ31
import Derived.Test.YtkkomajokdlkeaaQ32
import Derived.Test.YtkkomajokdlkeaaQ38
import Derived.Test.YtkkomajokdlkeaaQ39
namespace Go.Proofs.Ytkkomajokdlkeaa
set_option linter.unusedSimpArgs false
set_option linter.unusedVariables false
set_option maxRecDepth 100000
set_option maxHeartbeats 4000000
open Go.ChangeShapes Go.WideShapes Go.ChangeAt Go.RowKit
set_option linter.unusedSimpArgs false
set_option linter.unusedVariables false
attribute [local go_sem] run_store_float run_store_complex alloc_drewN setCell_drewN
theorem wf_u8 {x : Nat} (h : x < 256) : (Lit.int .u8 (x : Int)).wf = true := by
  have h2 : IntKind.u8.min = 0 := by decide
  have h3 : IntKind.u8.max = 255 := by decide
  simp only [Lit.wf, Bool.and_eq_true, decide_eq_true_eq, h2, h3]
  omega

theorem s_FarVD (u v : Value) (cs ds : List Nat) (c : Nat) (w : World) (hu : SB w u cs) (hv : SB w v ds) (hq : farQ cs ds = (c, true)) (hc : (S.read c).isNaN = false) :
    Calls Try.prog 14 #[u, v] w fun e w' => e = .returned (.tuple #[.float .f32 c, .bool true]) ∧ Dr w w' := by
  refine (s_FarOfShapes u v cs ds w hu hv).mono ?_
  rintro e w' ⟨⟨r, b, rfl, hr, hcr, hb⟩, hbl⟩
  rw [hq] at hcr hb
  obtain rfl : r = c := cn32_raw hcr hc
  subst hb
  exact ⟨rfl, hbl⟩

theorem cntL_wf (L : List Nat) (n : Nat) : allWf (cntL L cuL n) := by
  intro x hx
  obtain ⟨i, hi, rfl⟩ := List.getElem_of_mem hx
  have := cnt_le cuL (L.getD i 0) cuL.length
  have h2 : IntKind.i64.min = -9223372036854775808 := by decide
  have h3 : IntKind.i64.max = 9223372036854775807 := by decide
  have h5 : cuL.length = 5 := rfl
  simp only [cntL, List.getElem_map, List.getElem_range]
  simp only [Lit.wf, Bool.and_eq_true, decide_eq_true_eq, h2, h3]
  omega

theorem grp_wf {N C L : Nat} {css cts : List (List Nat)} (h : Sml N L css) (hc : Cen C L cts) (hC : 1 ≤ C) (h1 : 1 ≤ L) (hL : L ≤ 9) (hCN : C ≤ N) (hN : N ≤ 6) : allWf (grp css cts) := by
  intro x hx
  obtain ⟨i, hi, rfl⟩ := List.getElem_of_mem hx
  obtain ⟨j, hj, hgj, -⟩ := grp_all h hc hC h1 hL (i := i) (by rw [grp_length, h.len] at hi; exact hi)
  rw [List.getD_eq_getElem?_getD, List.getElem?_eq_getElem hi] at hgj
  have e : (grp css cts)[i] = (j : Int) := hgj
  rw [e]
  have h2 : IntKind.i64.min = -9223372036854775808 := by decide
  have h3 : IntKind.i64.max = 9223372036854775807 := by decide
  simp only [Lit.wf, Bool.and_eq_true, decide_eq_true_eq, h2, h3]
  omega

set_option maxRecDepth 100000 in
set_option maxHeartbeats 60000000 in
theorem FnGroups_walk {w : World} (u : Value) (cs : List Int) (hu : GL (Value.int .u8) w u cs) (hcs : allU8 cs) (v : Value) (ds : List Int) (hv : GL (Value.int .u8) w v ds) (hds : allU8 ds) :
    Calls Try.prog 3 #[u, v] w fun z w' => z = .returned (.bool true) ∧ Below w.heap.size w w' := by
  have HU := Lib.hid hu
  have HV := Lib.hid hv
  have HCS := Lib.hid hcs
  have HDS := Lib.hid hds
  clear hu hv hcs hds
  go_enter Try.func3, Try.ntmps3
  go_wp2_with fail
  refine (l_b10Long u v cs ds _ HU.out HV.out).mono ?_; rintro z w1 ⟨rfl, hd⟩
  have HB1 := Lib.hid (hd.below w.heap.size)
  clear hd
  cases hbig : (decide (1048576 < cs.length) || decide (1048576 < ds.length)) with
  | true =>
    go_wp2_with fail
    go_ret
    exact ⟨rfl, HB1.out⟩
  | false =>
    clear hbig
    go_wp2_with fail
    refine (l_b10AtV v ds 0 6 (by omega) (by omega) (by omega) _ (HV.out.keep HB1.out) HDS.out).mono ?_; rintro z w2 ⟨rfl, hd⟩
    have HB2 := Lib.hid (HB1.out.trans ((hd.below w1.heap.size).mono HB1.out.size))
    have hz2 := HB2.out.size
    clear hd HB1
    have hx0 := bAt_lt ds 0 (n := 6) (by omega)
    obtain ⟨x0, hx0'⟩ : ∃ x0, x0 = bAt ds 0 6 := ⟨_, rfl⟩
    rw [← hx0'] at hx0 ⊢
    clear hx0'
    obtain ⟨nn, hn⟩ : ∃ nn, nn = 1 + x0 := ⟨_, rfl⟩
    have t1 : (1 : Int) + (x0 : Int) = (nn : Int) := by omega
    have t2 : IntKind.i64.wrap (nn : Int) = (nn : Int) := by rw [IntKind.wrap_i64]; omega
    have hn1 : 1 ≤ nn := by omega
    have hn2 : nn ≤ 6 := by omega
    clear hn
    have hx1 := bAt_lt ds 1 (n := 5) (by omega)
    obtain ⟨x1, hx1'⟩ : ∃ x1, x1 = bAt ds 1 5 := ⟨_, rfl⟩
    rw [← hx1'] at hx1
    obtain ⟨M, hM⟩ : ∃ M, M = 2 + x1 := ⟨_, rfl⟩
    have s1 : (2 : Int) + (x1 : Int) = (M : Int) := by omega
    have s2 : IntKind.i64.wrap (M : Int) = (M : Int) := by rw [IntKind.wrap_i64]; omega
    have hM1 : 2 ≤ M := by omega
    have hM2 : M ≤ 6 := by omega
    have HX1 := Lib.hid hx1'
    clear hM hx1'
    go_wp2_with fail
    go_loopw [7, 6] (fun kv p wr => ∃ (k : Nat) (css : List (List Nat)), k ≤ M ∧ kv = .int .i64 (k : Int) ∧ Hid (SD 26 33 w.heap.size wr.heap.size wr p css) ∧ Hid (css.length = k ∧ ∀ j, j < k → (rowL css j).length = nn ∧ ∀ c ∈ rowL css j, isQ c) ∧ Below w.heap.size w wr) (fun kv _ _ => M - (intOf kv).toNat)
    case atStart => exact ⟨0, [], Nat.zero_le _, rfl, SD.empty _ rfl hz2, Lib.hid ⟨rfl, fun j h => by omega⟩, Below.alloc HB2.out hz2 _⟩
    case round =>
      obtain ⟨k, css, hk, rfl, HP, HC, hb⟩ := hrel
      have hz := hb.size
      obtain ⟨wa, hwa⟩ : ∃ wa, wa = wr := ⟨_, rfl⟩
      subst hwa
      go_wp2_with fail
      refine (l_b10AtV v ds 1 5 (by omega) (by omega) (by omega) _ (HV.out.keep hb) HDS.out).mono ?_; rintro z w3 ⟨rfl, hd⟩
      rw [← HX1.out]
      have hb3 : Below w.heap.size w w3 := hb.trans ((hd.below wa.heap.size).mono hz)
      have HP3 := Lib.hid (HP.out.keep (hd.below wa.heap.size)).now
      have hz3 := hb3.size
      clear hd HP hb hz
      by_cases hlt : k < M
      · have hki : (k : Int) < (M : Int) := by omega
        have hk1 : IntKind.i64.wrap ((k : Int) + 1) = (k : Int) + 1 := by rw [IntKind.wrap_i64]; omega
        have hk3 : IntKind.i64.wrap (3 * (k : Int)) = 3 * (k : Int) := by rw [IntKind.wrap_i64]; omega
        go_wp2_with fail
        go_loopw [9, 8] (fun iv p wr => ∃ (i : Nat) (xs : List Int), i ≤ 12 ∧ iv = .int .i64 (i : Int) ∧ Hid (GO (Value.int .u8) 5 w3.heap.size wr p xs) ∧ Hid (allU8 xs ∧ xs.length = i) ∧ Below w3.heap.size w3 wr) (fun iv _ _ => 12 - (intOf iv).toNat)
        case atStart => exact ⟨0, [], Nat.zero_le _, rfl, GO.lit (Value.int .u8) 5 w3.heap.size w3 [] (Nat.le_refl _) (by simp), Lib.hid ⟨(fun x hx => by cases hx), rfl⟩, Below.alloc (Below.refl _ _) (Nat.le_refl _) _⟩
        case round =>
          obtain ⟨i, xs, hi, rfl, HG, HX, hbi⟩ := hrel
          have hzi := hbi.size
          obtain ⟨wb, hwb⟩ : ∃ wb, wb = wr := ⟨_, rfl⟩
          subst hwb
          by_cases hlti : i < 12
          · have hii : (i : Int) < 12 := by omega
            have hi1 : IntKind.i64.wrap ((i : Int) + 1) = (i : Int) + 1 := by rw [IntKind.wrap_i64]; omega
            have hi3 : IntKind.i64.wrap (3 * (k : Int) + (i : Int)) = ((3 * k + i : Nat) : Int) := by rw [IntKind.wrap_i64]; omega
            go_wp2_with fail
            refine (l_b10AtV u cs (3 * k + i) 256 (by omega) (by omega) (by omega) _ (HU.out.keep (hb3.trans (hbi.mono hz3))) HCS.out).mono ?_; rintro z w4 ⟨rfl, hd⟩
            have hx := bAt_lt cs (3 * k + i) (n := 256) (by omega)
            obtain ⟨x, hx'⟩ : ∃ x, x = bAt cs (3 * k + i) 256 := ⟨_, rfl⟩
            rw [← hx'] at hx ⊢
            clear hx'
            have hb4 : Below w3.heap.size w3 w4 := hbi.trans ((hd.below wb.heap.size).mono hzi)
            have HG4 := Lib.hid (HG.out.keep (hd.below wb.heap.size))
            have hz4 := hb4.size
            have hxw : IntKind.u8.wrap (x : Int) = (x : Int) := by simp [IntKind.wrap, IntKind.bits, IntKind.signed]; omega
            clear hd HG hbi hzi
            have hxl := HX.out.2
            go_wp2_with (at_builtin; refine Hid.out ?_)
            refine Lib.hid ?_
            refine wpList_gapp (inj := Value.int .u8) oneU8N (fun _ => rfl) w3.heap.size _ xs rfl (GO.alloc HG4.out _) [(x : Int)] _ 1 rfl rfl (by intro i u hu; rcases i with _ | i <;> simp at hu; subst hu; simp) (by simp; omega) (by simp; omega) ?_
            intro p5 w5 hown5 hg5
            have HG5 := Lib.hid hown5
            have hb5 : Below w3.heap.size w3 w5 := below_of_grown (Below.alloc hb4 hz4 _) hg5 (by simp; omega) HG4.out.own_ge
            have HX5 := Lib.hid (show allU8 (xs ++ [(x : Int)]) ∧ (xs ++ [(x : Int)]).length = i + 1 from ⟨fun y hy => by
              rcases List.mem_append.1 hy with hy | hy
              · exact HX.out.1 y hy
              · rw [List.mem_singleton.1 hy]
                exact wf_u8 hx, by rw [List.length_append, hxl]; rfl⟩)
            clear hown5 hg5 HG4
            go_wp2_with fail
            exact ⟨⟨i + 1, _, by omega, by go_num, HG5, HX5, hb5⟩, by simp [intOf]; omega⟩
          · obtain rfl : i = 12 := by omega
            have hii : ¬ (((12 : Nat) : Int) < 12) := by omega
            go_wp2_with fail
            refine (s_B10List _ xs nn (by omega) _ HG.out.gl HX.out.1).mono ?_; rintro z w6 ⟨⟨vc, K, rfl, ho, hl, hq⟩, hb6⟩
            obtain ⟨co, e7, hvc, -⟩ := ho.sb.sl.slice
            rw [hl] at hvc
            subst hvc
            have hzb := hb6.size
            have hb36 : Below w3.heap.size w3 w6 := hbi.trans (hb6.mono hzi)
            have HP6 := Lib.hid (HP3.out.keep hb36)
            have HO := Lib.hid (ho.down hzi)
            have hcl : css.length < 1099511627776 := by have := HC.out.1; omega
            have hb66 : Below w.heap.size w w6 := hb3.trans (hb36.mono hz3)
            have hz66 := hb66.size
            clear ho HG hb6 hbi HP3
            go_wp2_with (at_builtin; refine Hid.out ?_)
            refine Lib.hid ?_
            refine wpList_sdapp oneRowsS (by decide) w.heap.size w3.heap.size _ css rfl (SD.alloc HP6.out _) hz3 (.slice co nn e7) K (OW.alloc HO.out _) _ rfl (by simp) hcl (by simp; omega) ?_
            intro p7 w7 ho7 hg7
            have HP7 := Lib.hid ho7
            have hb7 : Below w.heap.size w w7 := below_of_grown (Below.alloc hb66 hz66 _) hg7 (by simp; omega) HP6.out.own_ge
            have HC7 := Lib.hid (show (css ++ [K]).length = k + 1 ∧ ∀ j, j < k + 1 → (rowL (css ++ [K]) j).length = nn ∧ ∀ c ∈ rowL (css ++ [K]) j, isQ c from by
              obtain ⟨c1, c2⟩ := HC.out
              refine ⟨by rw [List.length_append, c1]; rfl, fun j hj => ?_⟩
              by_cases hjk : j < k
              · have e : rowL (css ++ [K]) j = rowL css j := by
                  rw [rowL, rowL, List.getD_eq_getElem?_getD, List.getElem?_append_left (by omega), ← List.getD_eq_getElem?_getD]
                rw [e]; exact c2 j hjk
              · have : j = k := by omega
                subst this
                have e : rowL (css ++ [K]) j = K := by
                  rw [rowL, List.getD_eq_getElem?_getD, List.getElem?_append_right (by omega), c1, Nat.sub_self]; rfl
                rw [e]; exact ⟨hl, hq⟩)
            clear ho7 hg7 HP6
            go_wp2_with fail
            exact ⟨⟨k + 1, _, by omega, by go_num, HP7, HC7, hb7⟩, by simp [intOf]; omega⟩
      · obtain rfl : k = M := by omega
        have hki : ¬ ((k : Int) < (k : Int)) := by omega
        obtain ⟨po, pc, hp6, -⟩ := HP3.out.so.ss.slice
        have hcl := HC.out.1
        rw [hcl] at hp6
        subst hp6
        have HS3 := Lib.hid (show ∀ w', Below w3.heap.size w3 w' → SS w' (.slice po k pc) css from fun w' h => HP3.out.so.ss.keep h)
        have HSM := Lib.hid (show Sml k nn css from ⟨hcl, fun j hj => sm_of (HC.out.2 j hj).2 (HC.out.2 j hj).1⟩)
        have HQC := Lib.hid (fun j (hj : j < k) => (HC.out.2 j hj).2)
        have HNL := Lib.hid (fun j (hj : j < k) => (HC.out.2 j hj).1)
        clear HP3 HC hcl
        have hx2 := bAt_lt ds 2 (n := k) (by omega)
        obtain ⟨x2, hx2'⟩ : ∃ x2, x2 = bAt ds 2 k := ⟨_, rfl⟩
        rw [← hx2'] at hx2
        have HX2 := Lib.hid hx2'
        clear hx2'
        obtain ⟨C, hC⟩ : ∃ C, C = 1 + x2 := ⟨_, rfl⟩
        have c1 : (1 : Int) + (x2 : Int) = (C : Int) := by omega
        have c2 : IntKind.i64.wrap (C : Int) = (C : Int) := by rw [IntKind.wrap_i64]; omega
        have hC1 : 1 ≤ C := by omega
        have hC2 : C ≤ k := by omega
        clear hC
        go_wp2_with fail
        refine (l_b10AtV v ds 2 k (by omega) (by omega) (by omega) _ (HV.out.keep hb3) HDS.out).mono ?_; rintro z w4 ⟨rfl, hd⟩
        rw [← HX2.out]
        have hb4 : Below w.heap.size w w4 := hb3.trans ((hd.below w3.heap.size).mono hz3)
        have HW4 := Lib.hid (hd.below w3.heap.size)
        have hz4 := hb4.size
        have hy4 := HW4.out.size
        clear hd
        have hx3 := bAt_lt ds 3 (n := 6) (by omega)
        obtain ⟨x3, hx3'⟩ : ∃ x3, x3 = bAt ds 3 6 := ⟨_, rfl⟩
        rw [← hx3'] at hx3
        have HX3 := Lib.hid hx3'
        clear hx3'
        obtain ⟨cts, hce, hcen⟩ := ce_all HSM.out (C := C) (R := x3) (by omega) hM2 hn1 (by omega) hC1 hC2 (by omega)
        have HCE := Lib.hid hce
        have HCN := Lib.hid hcen
        clear hce hcen
        go_wp2_with fail
        refine (l_b10AtV v ds 3 6 (by omega) (by omega) (by omega) _ (HV.out.keep hb4) HDS.out).mono ?_; rintro z w5 ⟨rfl, hd⟩
        rw [← HX3.out]
        have hb5 : Below w.heap.size w w5 := hb4.trans ((hd.below w4.heap.size).mono hz4)
        have HW5 := Lib.hid (HW4.out.trans ((hd.below w4.heap.size).mono hy4))
        have hz5 := hb5.size
        have hy5 := HW5.out.size
        clear hd
        go_wp2_with fail
        refine (i_CentersOf _ css (C : Int) (x3 : Int) _ (HS3.out _ HW5.out)).mono ?_; rintro z w6 ⟨⟨vc, vg, bb, rfl, hsd, hgo, hbb⟩, hbl⟩
        rw [HCE.out] at hsd hgo hbb
        subst hbb
        have hb6 : Below w.heap.size w w6 := hb5.trans (hbl.mono hz5)
        have HW6 := Lib.hid (HW5.out.trans (hbl.mono hy5))
        have hz6 := hb6.size
        have hy6 := HW6.out.size
        have HCT := Lib.hid (show ∀ w', Below w6.heap.size w6 w' → SS w' vc cts from fun w' h => hsd.so.ss.keep h)
        have HGR := Lib.hid (show ∀ w', Below w6.heap.size w6 w' → GL (Value.int .i64) w' vg (grp css cts) from fun w' h => (hgo.keep h).gl)
        clear hsd hgo hbl
        go_wp2_with fail
        refine (l_b10AtV v ds 3 6 (by omega) (by omega) (by omega) _ (HV.out.keep hb6) HDS.out).mono ?_; rintro z w7 ⟨rfl, hd⟩
        rw [← HX3.out]
        have hb7 : Below w.heap.size w w7 := hb6.trans ((hd.below w6.heap.size).mono hz6)
        have HW7 := Lib.hid (HW6.out.trans ((hd.below w6.heap.size).mono hy6))
        have HV7 := Lib.hid (hd.below w6.heap.size)
        have hz7 := hb7.size
        have hy7 := HW7.out.size
        have hv7 := HV7.out.size
        clear hd
        go_wp2_with fail
        refine (s_CentersOf _ css (C : Int) (x3 : Int) _ (HS3.out _ HW7.out)).mono ?_; rintro z w8 ⟨⟨vt, vh, bb, rfl, hsd, hgo, hbb⟩, hbl⟩
        rw [HCE.out] at hsd hgo hbb
        subst hbb
        have hb8 : Below w.heap.size w w8 := hb7.trans (hbl.mono hz7)
        have HW8 := Lib.hid (HW7.out.trans (hbl.mono hy7))
        have HV8 := Lib.hid (HV7.out.trans (hbl.mono hv7))
        have hz8 := hb8.size
        have hy8 := HW8.out.size
        have hv8 := HV8.out.size
        have HTT := Lib.hid (show ∀ w', Below w8.heap.size w8 w' → SS w' vt cts from fun w' h => hsd.so.ss.keep h)
        have HHR := Lib.hid (show ∀ w', Below w8.heap.size w8 w' → GL (Value.int .i64) w' vh (grp css cts) from fun w' h => (hgo.keep h).gl)
        clear hsd hgo hbl
        obtain ⟨cto, ctc, hvc, -⟩ := (HCT.out _ (Below.refl _ _)).slice
        rw [HCN.out.len] at hvc
        subst hvc
        obtain ⟨tto, ttc, hvt, -⟩ := (HTT.out _ (Below.refl _ _)).slice
        rw [HCN.out.len] at hvt
        subst hvt
        obtain ⟨gro, grc, hvg, -⟩ := (HGR.out _ (Below.refl _ _)).slice
        rw [grp_length, HSM.out.len] at hvg
        subst hvg
        obtain ⟨hro, hrc, hvh, -⟩ := (HHR.out _ (Below.refl _ _)).slice
        rw [grp_length, HSM.out.len] at hvh
        subst hvh
        go_wp2_with fail
        refine (l_b10Ints _ _ (grp css cts) _ (HGR.out _ HV8.out) (HHR.out _ (Below.refl _ _))).mono ?_; rintro z wf ⟨rfl, hd⟩
        have hb9 : Below w.heap.size w wf := hb8.trans ((hd.below w8.heap.size).mono hz8)
        have HW9 := Lib.hid (HW8.out.trans ((hd.below w8.heap.size).mono hy8))
        have HV9 := Lib.hid (HV8.out.trans ((hd.below w8.heap.size).mono hv8))
        have hz9 := hb9.size
        have hy9 := HW9.out.size
        have HCR := Lib.hid (show ∀ c, c < C → ∃ b o y, cto = some ⟨b, o, none⟩ ∧ wf.cell? ⟨b, o + c, none⟩ = some y ∧ SB wf y (rowL cts c) from fun c hc => by
          obtain ⟨a1, a2, a3, -, -, hget⟩ := (HCT.out wf HV9.out).get HCN.out.len
          obtain ⟨b, o, y, e1, -, e2, e3⟩ := hget c hc
          injection a3 with a3
          exact ⟨b, o, y, by rw [a3]; exact e1, e2, e3⟩)
        have HTR := Lib.hid (show ∀ c, c < C → ∃ b o y, tto = some ⟨b, o, none⟩ ∧ wf.cell? ⟨b, o + c, none⟩ = some y ∧ SB wf y (rowL cts c) from fun c hc => by
          obtain ⟨a1, a2, a3, -, -, hget⟩ := (HTT.out wf (hd.below w8.heap.size)).get HCN.out.len
          obtain ⟨b, o, y, e1, -, e2, e3⟩ := hget c hc
          injection a3 with a3
          exact ⟨b, o, y, by rw [a3]; exact e1, e2, e3⟩)
        have HLR := Lib.hid (show ∀ i, i < k → ∃ b o y, po = some ⟨b, o, none⟩ ∧ wf.cell? ⟨b, o + i, none⟩ = some y ∧ SB wf y (rowL css i) from fun c hc => by
          obtain ⟨a1, a2, a3, -, -, hget⟩ := (HS3.out wf HW9.out).get HSM.out.len
          obtain ⟨b, o, y, e1, -, e2, e3⟩ := hget c hc
          injection a3 with a3
          exact ⟨b, o, y, by rw [a3]; exact e1, e2, e3⟩)
        have HGC := Lib.hid (show ∀ i, i < k → ∃ b o, gro = some ⟨b, o, none⟩ ∧ wf.cell? ⟨b, o + i, none⟩ = some (.int .i64 ((grp css cts).getD i 0)) from fun i hi => by
          obtain ⟨a1, a2, a3, -, hget⟩ := HGR.out wf HV9.out
          injection a3 with a3
          have hil : i < (grp css cts).length := by rw [grp_length, HSM.out.len]; exact hi
          obtain ⟨b, o, e1, -, e2⟩ := hget i hil
          exact ⟨b, o, by rw [a3]; exact e1, by rw [e2, List.getD_eq_getElem?_getD, List.getElem?_eq_getElem hil]; rfl⟩)
        clear hd hb8 hz8 HW8 hy8 HV8 hv8 HTT HHR
        go_wp2_with fail
        go_loopw [131] (fun cv wr => ∃ c : Nat, c ≤ C ∧ cv = .int .i64 (c : Int) ∧ ∃ d, wr = wf.drewN d) (fun cv _ => C - (intOf cv).toNat)
        case atStart => exact ⟨0, Nat.zero_le _, rfl, 0, rfl⟩
        case round =>
          obtain ⟨c, hc, rfl, d, rfl⟩ := hrel
          by_cases hltc : c < C
          · have hci : (c : Int) < (C : Int) := by omega
            have hc0 : 0 ≤ (c : Int) := by omega
            have hcn : ((c : Int)).toNat = c := by omega
            obtain ⟨b1, o1, y1, rfl, hy1, hs1⟩ := HCR.out c hltc
            obtain ⟨b2, o2, y2, rfl, hy2, hs2⟩ := HTR.out c hltc
            have HQF := Lib.hid (fun n => l_b10List y1 y2 (rowL cts c) (wf.drewN n) (hs1.drewN n) (hs2.drewN n))
            clear hs1 hs2
            go_wp2_with fail
            go_quiet ((go_at_call 13; first | exact quiet_dr (HQF.out _) | exact quiet_dr2 (HQF.out _)))
            go_wp2_with fail
            exact ⟨⟨c + 1, by omega, by go_num, _, rfl⟩, by simp [intOf]; omega⟩
          · obtain rfl : c = C := by omega
            have hci : ¬ ((c : Int) < (c : Int)) := by omega
            clear HTR
            go_wp2_with fail
            go_loopw [147] (fun iv wr => ∃ i : Nat, i ≤ k ∧ iv = .int .i64 (i : Int) ∧ ∃ d, wr = wf.drewN d) (fun iv _ => k - (intOf iv).toNat)
            case atStart => exact ⟨0, Nat.zero_le _, rfl, _, rfl⟩
            case round =>
              obtain ⟨i, hi, rfl, d, rfl⟩ := hrel
              by_cases hlti : i < k
              · have hii : (i : Int) < (k : Int) := by omega
                have hi0 : 0 ≤ (i : Int) := by omega
                have hin : ((i : Int)).toNat = i := by omega
                obtain ⟨j, hj, hgj, hfar, hleast⟩ := grp_all HSM.out HCN.out hC1 hn1 (by omega) hlti
                have hj0 : ¬ (j : Int) < 0 := by omega
                have hj1 : ¬ (j : Int) ≥ (c : Int) := by omega
                have hj2 : (j : Int) < (c : Int) := by omega
                have hj3 : 0 ≤ (j : Int) := by omega
                have hjn : ((j : Int)).toNat = j := by omega
                have HFAR := Lib.hid hfar
                have HLEAST := Lib.hid hleast
                obtain ⟨b1, o1, y1, rfl, hy1, hs1⟩ := HCR.out j hj
                obtain ⟨b2, o2, y2, rfl, hy2, hs2⟩ := HLR.out i hlti
                obtain ⟨b3, o3, rfl, hg3⟩ := HGC.out i hlti
                rw [hgj] at hg3
                have HQF := Lib.hid (fun n => s_FarVD y2 y1 (rowL css i) (rowL cts j) _ (wf.drewN n) (hs2.drewN n) (hs1.drewN n) (hfar j hj).1 (hfar j hj).2)
                have HS2 := Lib.hid hs2
                clear hs1 hs2 hfar hleast hgj
                go_wp2_with fail
                go_quiet ((go_at_call 14; first | exact quiet_dr (HQF.out _) | exact quiet_dr2 (HQF.out _)))
                go_wp2_with fail
                go_loopw [180] (fun cv wr => ∃ q : Nat, q ≤ c ∧ cv = .int .i64 (q : Int) ∧ ∃ d, wr = wf.drewN d) (fun cv _ => c - (intOf cv).toNat)
                case atStart => exact ⟨0, Nat.zero_le _, rfl, _, rfl⟩
                case round =>
                  obtain ⟨q, hq, rfl, d, rfl⟩ := hrel
                  by_cases hltq : q < c
                  · have hqi : (q : Int) < (c : Int) := by omega
                    have hq0 : 0 ≤ (q : Int) := by omega
                    have hqn : ((q : Int)).toNat = q := by omega
                    obtain ⟨b4, o4, y4, e4, hy4, hs4⟩ := HCR.out q hltq
                    simp only [Option.some.injEq, Addr.mk.injEq, and_true] at e4
                    obtain ⟨rfl, rfl⟩ := e4
                    have HQ4 := Lib.hid (fun n => s_FarVD y2 y4 (rowL css i) (rowL cts q) _ (wf.drewN n) (HS2.out.drewN n) (hs4.drewN n) (HFAR.out q hltq).1 (HFAR.out q hltq).2)
                    have ho : (FloatKind.f32.format.order (farL (rowL css i) (rowL cts q)) (farL (rowL css i) (rowL cts j)) == some .lt) = false := HLEAST.out q hltq
                    clear hs4
                    go_wp2_with fail
                    go_quiet ((go_at_call 14; first | exact quiet_dr (HQ4.out _) | exact quiet_dr2 (HQ4.out _)))
                    go_wp2_with fail
                    exact ⟨⟨q + 1, by omega, by go_num, _, rfl⟩, by simp [intOf]; omega⟩
                  · obtain rfl : q = c := by omega
                    have hqi : ¬ ((q : Int) < (q : Int)) := by omega
                    go_wp2_with fail
                    exact ⟨⟨i + 1, by omega, by go_num, _, rfl⟩, by simp [intOf]; omega⟩
              · obtain rfl : i = k := by omega
                have hii : ¬ ((i : Int) < (i : Int)) := by omega
                go_wp2_with fail
                obtain ⟨wg, hwg⟩ : ∃ wg, wg = wf.drewN d := ⟨_, rfl⟩
                rw [← hwg]
                have hfg : Below wf.heap.size wf wg := by rw [hwg]; exact below_drewN (Below.refl _ _) _
                have hbg : Below w.heap.size w wg := hb9.trans (hfg.mono hz9)
                have HWg := Lib.hid (HW9.out.trans (hfg.mono hy9))
                have HVg := Lib.hid (HV9.out.trans (hfg.mono HV9.out.size))
                have hzg := hbg.size
                have hyg := HWg.out.size
                have hvg := HVg.out.size
                clear hwg hfg HCR HLR HGC HW9 HV9 hb9 hz9 hy9
                have HTH := Lib.hid (HSM.out.th hM1 hM2 hn1 (by omega))
                obtain ⟨DD, hDD⟩ : ∃ DD : Nat → Nat → Nat, DD = fun i k => farL (rowL css i) (rowL css k) := ⟨_, rfl⟩
                rw [← hDD] at HTH
                have HDD := Lib.hid hDD
                clear hDD
                refine (i_TreeOfShapes _ css i DD _ (HS3.out _ HWg.out) HTH.out).mono ?_; rintro z w10 ⟨⟨vp, vf, rfl, hp, hf⟩, hbl⟩
                have hb10 : Below w.heap.size w w10 := hbg.trans (hbl.mono hzg)
                have HW10 := Lib.hid (HWg.out.trans (hbl.mono hyg))
                have HV10 := Lib.hid (HVg.out.trans (hbl.mono hvg))
                have hz10 := hb10.size
                have hy10 := HW10.out.size
                have hv10 := HV10.out.size
                obtain ⟨mm, hmm⟩ : ∃ mm, mm = i - 1 := ⟨_, rfl⟩
                have hfl := (tr_fars DD i (i - 1)).1
                rw [← hmm] at hp hf hfl
                have HMM := Lib.hid hmm
                have hm1 : 1 ≤ mm := by omega
                have hm5 : mm ≤ 5 := by omega
                clear hmm
                have HP10 := Lib.hid (show ∀ w', Below w10.heap.size w10 w' → GL (Value.int .i64) w' vp (trN DD i mm).2.1 from fun w' h => (hp.keep h).gl)
                have HF10 := Lib.hid (show ∀ w', Below w10.heap.size w10 w' → SB w' vf (trN DD i mm).2.2 from fun w' h => (hf.keep h).sb)
                obtain ⟨fo, fc, hvf, -⟩ := hf.sb.sl.slice
                rw [hfl] at hvf
                subst hvf
                clear hfl hp hf hbl hbg hzg HWg HVg hyg hvg
                go_wp2_with fail
                refine (s_TreeOfShapes _ css i DD _ (HS3.out _ HW10.out) HTH.out).mono ?_; rintro z w11 ⟨⟨vq, vx, rfl, hp, hf⟩, hbl⟩
                rw [← HMM.out] at hp hf
                have hb11 : Below w.heap.size w w11 := hb10.trans (hbl.mono hz10)
                have HW11 := Lib.hid (HW10.out.trans (hbl.mono hy10))
                have HV11 := Lib.hid (HV10.out.trans (hbl.mono hv10))
                have HX11 := Lib.hid (hbl : Below w10.heap.size w10 w11)
                have hz11 := hb11.size
                have hy11 := HW11.out.size
                have hv11 := HV11.out.size
                have hx11 := HX11.out.size
                have HP11 := Lib.hid (show ∀ w', Below w11.heap.size w11 w' → GL (Value.int .i64) w' vq (trN DD i mm).2.1 from fun w' h => (hp.keep h).gl)
                have HF11 := Lib.hid (show ∀ w', Below w11.heap.size w11 w' → SB w' vx (trN DD i mm).2.2 from fun w' h => (hf.keep h).sb)
                clear hp hf hbl hb10 hz10 HW10 HV10 hy10 hv10
                have HWF := Lib.hid (grp_wf HSM.out HCN.out hC1 hn1 (by omega) hC2 hM2)
                obtain ⟨cw, hcw⟩ : ∃ cw, wcQ css (grp css cts) = (cw, true) := ⟨(wcQ css (grp css cts)).1, Prod.ext rfl (wc_all HSM.out (by omega) hM2 hn1 (by omega) (by rw [grp_length, HSM.out.len]) (fun q hq => by
                  obtain ⟨j, hj, hgj, -⟩ := grp_all HSM.out HCN.out hC1 hn1 (by omega) hq
                  rw [hgj]; omega))⟩
                have HCW := Lib.hid hcw
                clear hcw
                go_wp2_with fail
                refine (i_WidthOfCenters _ _ css (grp css cts) _ (HS3.out _ HW11.out) (HGR.out _ HV11.out) HWF.out).mono ?_; rintro z w12 ⟨⟨r1, b1, rfl, hr1, hcr1, hbb1⟩, hbl⟩
                rw [HCW.out] at hcr1 hbb1
                subst hbb1
                have hb12 : Below w.heap.size w w12 := hb11.trans (hbl.mono hz11)
                have HW12 := Lib.hid (HW11.out.trans (hbl.mono hy11))
                have HV12 := Lib.hid (HV11.out.trans (hbl.mono hv11))
                have HX12 := Lib.hid (HX11.out.trans (hbl.mono hx11))
                have HY12 := Lib.hid (hbl : Below w11.heap.size w11 w12)
                have hz12 := hb12.size
                have hy12 := HW12.out.size
                have hv12 := HV12.out.size
                have hx12 := HX12.out.size
                have hu12 := HY12.out.size
                clear hbl hb11 hz11 HW11 HV11 HX11 hy11 hv11 hx11
                go_wp2_with fail
                refine (s_WidthOfCentersB _ _ css (grp css cts) _ (HS3.out _ HW12.out) (HGR.out _ HV12.out) HWF.out).mono ?_; rintro z w13 ⟨⟨r2, b2, rfl, hr2, hcr2, hbb2⟩, hbl⟩
                rw [HCW.out] at hcr2 hbb2
                subst hbb2
                have hb13 : Below w.heap.size w w13 := hb12.trans (hbl.mono hz12)
                have HW13 := Lib.hid (HW12.out.trans (hbl.mono hy12))
                have HX13 := Lib.hid (HX12.out.trans (hbl.mono hx12))
                have HY13 := Lib.hid (HY12.out.trans (hbl.mono hu12))
                have hz13 := hb13.size
                have hy13 := HW13.out.size
                have hx13 := HX13.out.size
                have hu13 := HY13.out.size
                clear hbl hb12 hz12 HW12 HV12 HX12 HY12 hy12 hv12 hx12 hu12
                have hsub : IntKind.i64.wrap ((i : Int) - 1) = (mm : Int) := by have := HMM.out; rw [IntKind.wrap_i64]; omega
                have HSA := Lib.hid (show same (cn .f32 r1) (cn .f32 r2) = true from by rw [hcr1, hcr2]; exact beq_self_eq_true _)
                clear hcr1 hcr2
                go_wp2_with fail
                refine (l_b10Ints _ _ (trN DD i mm).2.1 _ (HP10.out _ HX13.out) (HP11.out _ HY13.out)).mono ?_; rintro z w14 ⟨rfl, hd⟩
                have hb14 : Below w.heap.size w w14 := hb13.trans ((hd.below w13.heap.size).mono hz13)
                have HW14 := Lib.hid (HW13.out.trans ((hd.below w13.heap.size).mono hy13))
                have HX14 := Lib.hid (HX13.out.trans ((hd.below w13.heap.size).mono hx13))
                have HY14 := Lib.hid (HY13.out.trans ((hd.below w13.heap.size).mono hu13))
                have hz14 := hb14.size
                have hy14 := HW14.out.size
                have hx14 := HX14.out.size
                clear hd hb13 hz13 HW13 HX13 HY13 hy13 hx13 hu13 HP10 HP11
                go_wp2_with fail
                refine (l_b10List _ _ (trN DD i mm).2.2 _ (HF10.out _ HX14.out) (HF11.out _ HY14.out)).mono ?_; rintro z w15 ⟨rfl, hd⟩
                have hb15 : Below w.heap.size w w15 := hb14.trans ((hd.below w14.heap.size).mono hz14)
                have HW15 := Lib.hid (HW14.out.trans ((hd.below w14.heap.size).mono hy14))
                have HX15 := Lib.hid (HX14.out.trans ((hd.below w14.heap.size).mono hx14))
                have hz15 := hb15.size
                have hy15 := HW15.out.size
                have hx15 := HX15.out.size
                clear hd hb14 hz14 HW14 HX14 HY14 hy14 hx14 HF11
                go_wp2_with fail
                refine (s_SameNumber r1 r2 hr1 hr2 _).mono ?_; rintro z wh ⟨rfl, hd⟩
                rw [HSA.out]
                have hb16 : Below w.heap.size w wh := hb15.trans ((hd.below w15.heap.size).mono hz15)
                have HW16 := Lib.hid (HW15.out.trans ((hd.below w15.heap.size).mono hy15))
                have HX16 := Lib.hid (HX15.out.trans ((hd.below w15.heap.size).mono hx15))
                have hz16 := hb16.size
                have hy16 := HW16.out.size
                clear hd hb15 hz15 HW15 HX15 hy15 hx15
                go_wp2_with fail
                obtain ⟨ho1, hc1', hv1, -, -, hfget⟩ := (HF10.out wh HX16.out).get (tr_fars DD i mm).1
                have HFG := Lib.hid hfget
                have HVV := Lib.hid (show ∀ q, q < mm → (trN DD i mm).2.2.getD q 0 = trV DD i q ∧ trV DD i q < 2139095040 from fun q hq => ⟨(tr_fars DD i mm).2 q hq, scN_small (HTH.out.lb q) HTH.out.fin⟩)
                have HMO := Lib.hid (show ∀ q, q + 1 < mm → trV DD i q ≤ trV DD i (q + 1) from fun q hq => tr_mono DD (by omega) (by have := HMM.out; omega))
                injection hv1 with hv1 hv2 hv3
                subst hv1
                subst hv3
                clear hfget hv2
                go_loopw [34] (fun iv wr => ∃ q : Nat, 1 ≤ q ∧ q ≤ mm ∧ iv = .int .i64 (q : Int) ∧ ∃ d, wr = wh.drewN d) (fun iv _ => mm - (intOf iv).toNat)
                case atStart => exact ⟨1, Nat.le_refl _, hm1, rfl, 0, rfl⟩
                case round =>
                  obtain ⟨q, hq1, hq2, rfl, d, rfl⟩ := hrel
                  by_cases hltq : q < mm
                  · have hqi : (q : Int) < (mm : Int) := by omega
                    have hq0 : 0 ≤ (q : Int) := by omega
                    have hqn : ((q : Int)).toNat = q := by omega
                    obtain ⟨p, hp⟩ : ∃ p, q = p + 1 := ⟨q - 1, by omega⟩
                    have hpw : IntKind.i64.wrap ((q : Int) - 1) = (p : Int) := by rw [IntKind.wrap_i64]; omega
                    have hp0 : 0 ≤ (p : Int) := by omega
                    have hpn : ((p : Int)).toNat = p := by omega
                    have hpi : (p : Int) < (mm : Int) := by omega
                    have hqw : IntKind.i64.wrap ((q : Int) + 1) = (q : Int) + 1 := by rw [IntKind.wrap_i64]; omega
                    obtain ⟨b1, o1, x1', e1, hbl1, hcx1, hrx1, hcc1⟩ := HFG.out q hltq
                    obtain ⟨b2, o2, x2', e2, hbl2, hcx2, hrx2, hcc2⟩ := HFG.out p (by omega)
                    rw [(HVV.out q hltq).1] at hcc1
                    rw [(HVV.out p (by omega)).1] at hcc2
                    obtain rfl : x1' = trV DD i q := cn32_raw hcc1 (small_notNaN (HVV.out q hltq).2)
                    obtain rfl : x2' = trV DD i p := cn32_raw hcc2 (small_notNaN (HVV.out p (by omega)).2)
                    have ho : (FloatKind.f32.format.order (trV DD i q) (trV DD i p) == some .lt) = false := by
                      rw [ord_small (HVV.out q hltq).2 (HVV.out p (by omega)).2]
                      have := HMO.out p (by omega)
                      rw [← hp] at this
                      rw [if_neg (by omega)]
                      split <;> rfl
                    have hpq := Lib.hid hp
                    subst e1
                    simp only [Option.some.injEq, Addr.mk.injEq, and_true] at e2
                    obtain ⟨rfl, rfl⟩ := e2
                    clear hcc1 hcc2 hp
                    go_wp2_with fail
                    go_region
                    go_wp2_with fail
                    exact ⟨⟨q + 1, by omega, by omega, by go_num, _, rfl⟩, by simp [intOf]; omega⟩
                  · obtain rfl : q = mm := by omega
                    have hqi : ¬ ((q : Int) < (q : Int)) := by omega
                    obtain ⟨wi, hwi⟩ : ∃ wi, wi = wh.drewN d := ⟨_, rfl⟩
                    rw [← hwi]
                    have hdi : Below wh.heap.size wh wi := by rw [hwi]; exact below_drewN (Below.refl _ _) _
                    have hbi : Below w.heap.size w wi := hb16.trans (hdi.mono hz16)
                    have HWi := Lib.hid (HW16.out.trans (hdi.mono hy16))
                    have hzi := hbi.size
                    have hyi := HWi.out.size
                    obtain ⟨bq, oq, y0, y1, hpo, hrows⟩ : ∃ b o y0 y1, po = some ⟨b, o, none⟩ ∧ ∀ w', Below wi.heap.size wi w' → (w'.cell? ⟨b, o, none⟩ = some y0 ∧ SB w' y0 (rowL css 0)) ∧ (w'.cell? ⟨b, o + 1, none⟩ = some y1 ∧ SB w' y1 (rowL css 1)) := by
                      obtain ⟨a1, a2, a3, -, -, hget⟩ := (HS3.out wi HWi.out).get HSM.out.len
                      injection a3 with a3
                      obtain ⟨b, o, y0, e1, g1, g2, g3⟩ := hget 0 (by omega)
                      obtain ⟨b', o', y1, e2, g4, g5, g6⟩ := hget 1 (by omega)
                      rw [e1] at e2
                      simp only [Option.some.injEq, Addr.mk.injEq, and_true] at e2
                      obtain ⟨rfl, rfl⟩ := e2
                      rw [Nat.add_zero] at g2
                      exact ⟨b, o, y0, y1, by rw [a3]; exact e1, fun w' h => ⟨⟨(h.cell (p := ⟨b, o, none⟩) g1).trans g2, g3.keep h⟩, (h.cell (p := ⟨b, o + 1, none⟩) g4).trans g5, g6.keep h⟩⟩
                    subst hpo
                    have HR := Lib.hid hrows
                    have r0 := (hrows wi (Below.refl _ _)).1.1
                    have r1' := (hrows wi (Below.refl _ _)).2.1
                    have ri1 : (0 : Int) < (i : Int) := by omega
                    have ri2 : (1 : Int) < (i : Int) := by omega
                    have r0a := fun o => (hrows (wi.alloc o) (Below.alloc (Below.refl _ _) (Nat.le_refl _) o)).1.1
                    have hqc := hbi
                    clear hwi hdi HFG HVV HMO hrows HF10 HX16 HW16 hb16 hz16 hy16
                    have hbc : Below w.heap.size w (wi.alloc (.cells #[.float .f32 3221225472, .float .f32 3212836864, .float .f32 0, .float .f32 1065353216, .float .f32 1073741824] 33)) := Below.alloc hbi hzi _
                    have HCU := Lib.hid (show SB (wi.alloc (.cells #[.float .f32 3221225472, .float .f32 3212836864, .float .f32 0, .float .f32 1065353216, .float .f32 1073741824] 33)) (.slice (some ⟨wi.heap.size, 0, none⟩) 5 5) cuL from by
                      have h := SB.lit wi cuL 33 (0, 0) (by decide) (by decide) (cells := (cuL.map (Value.float .f32)).toArray) rfl rfl
                      rw [show cuL.map (cn .f32) = cuL by decide +kernel] at h
                      exact h)
                    have hsg0 := signs_self (HQC.out 0 (by omega)) (HNL.out 0 (by omega)) hn1 (by omega)
                    have hsg1 := signs_self (HQC.out 1 (by omega)) (HNL.out 1 (by omega)) hn1 (by omega)
                    obtain ⟨Nv, Fv, hsf, hNq, hFq, hN0, hN1, hF0, hF1, hNF⟩ := near_far (HQC.out 0 (by omega)) (HQC.out 1 (by omega)) (HNL.out 0 (by omega)) (HNL.out 1 (by omega)) hn1 hn2
                    have hps := parts_self (HQC.out 0 (by omega)) (HNL.out 0 (by omega)) hn1 (by omega)
                    have hfq01 : farQ (rowL css 0) (rowL css 1) = (farL (rowL css 0) (rowL css 1), true) := by
                      have h5 := HTH.out.far 0 1 (by omega) (by omega)
                      have h6 := HTH.out.farL 0 1 (by omega) (by omega)
                      rw [h6]; exact h5
                    obtain ⟨hl1, hl2, hl3, hl4⟩ := wd_less hNq hFq hN0 hN1 hF0 hF1 hNF
                    obtain ⟨cN, hcN⟩ : ∃ cN, cN = rootF (sfAt cuL (cntL (rowL css 0) cuL nn) (cntL (rowL css 1) cuL nn) nn) := ⟨_, rfl⟩
                    obtain ⟨cF, hcF⟩ : ∃ cF, cF = farL (rowL css 0) (rowL css 1) := ⟨_, rfl⟩
                    rw [← hcN] at hsf hNq hl1 hl2
                    rw [← hcF] at hfq01 hFq hl1 hl3 hl4
                    have HSG0 := Lib.hid hsg0
                    have HSG1 := Lib.hid hsg1
                    have HSF := Lib.hid hsf
                    have HPS := Lib.hid hps
                    have HFQ01 := Lib.hid hfq01
                    have HNQ := Lib.hid hNq.notNaN
                    have HFQN := Lib.hid hFq.notNaN
                    have HWN := Lib.hid (fun (L : List Nat) => cntL_wf L nn)
                    clear hsg0 hsg1 hsf hps hfq01 hNq hFq hN0 hN1 hF0 hF1 hNF hcN hcF
                    have hba : Below wi.heap.size wi (wi.alloc (.cells #[.float .f32 3221225472, .float .f32 3212836864, .float .f32 0, .float .f32 1065353216, .float .f32 1073741824] 33)) := Below.alloc (Below.refl _ _) (Nat.le_refl _) _
                    go_wp2_with fail
                    refine (i_SignsOf _ _ (rowL css 0) (nn : Int) cuL _ (HR.out _ hba).1.2 HCU.out (by decide)).mono ?_; rintro z w17 ⟨⟨vx1, bx, rfl, hgo, hbb⟩, hbl⟩
                    rw [HSG0.out] at hgo hbb
                    subst hbb
                    have hb17 := hbc.trans (hbl.mono hbc.size)
                    have hi17 := hba.trans (hbl.mono hba.size)
                    have HCU17 := Lib.hid (HCU.out.keep hbl)
                    have HA17 := Lib.hid (show ∀ w', Below w17.heap.size w17 w' → GL (Value.int .i64) w' vx1 (cntL (rowL css 0) cuL nn) from fun w' h => (hgo.keep h).gl)
                    have q1 := (HR.out _ hi17).2.1
                    clear hgo hbl r0a
                    go_wp2_with fail
                    refine (i_SignsOf _ _ (rowL css 1) (nn : Int) cuL _ (HR.out _ hi17).2.2 HCU17.out (by decide)).mono ?_; rintro z w18 ⟨⟨vx2, bx, rfl, hgo, hbb⟩, hbl⟩
                    rw [HSG1.out] at hgo hbb
                    subst hbb
                    have hb18 := hb17.trans (hbl.mono hb17.size)
                    have hi18 := hi17.trans (hbl.mono hi17.size)
                    have HCU18 := Lib.hid (HCU17.out.keep hbl)
                    have HA18 := Lib.hid (HA17.out _ hbl)
                    have HE18 := Lib.hid (hgo.gl)
                    clear hgo hbl q1 HCU17 HA17
                    go_wp2_with fail
                    refine (i_SignFar _ _ _ (cntL (rowL css 0) cuL nn) (cntL (rowL css 1) cuL nn) cuL _ HA18.out HE18.out HCU18.out (HWN.out _) (HWN.out _) (by decide)).mono ?_; rintro z w19 ⟨⟨r3, b3, rfl, hr3, hcr3, hbb⟩, hbl⟩
                    rw [HSF.out] at hcr3 hbb
                    subst hbb
                    obtain rfl : r3 = cN := cn32_raw hcr3 HNQ.out
                    have hb19 := hb18.trans (hbl.mono hb18.size)
                    have hi19 := hi18.trans (hbl.mono hi18.size)
                    have hz19 := hb19.size
                    have hzi19 := hi19.size
                    clear hcr3 hbl HCU18 HA18 HE18
                    have cA := fun d os => Calls.regrown_of (d := d) (os := os) (w := w19) (s_FarV _ _ _ _ _ _ (HR.out _ (hi19.trans ((below_regrown w19 d os).mono hzi19))).1.2 (HR.out _ (hi19.trans ((below_regrown w19 d os).mono hzi19))).2.2 HFQ01.out HFQN.out)
                    have g0 := (HR.out _ hi19).1.1
                    have g1 := (HR.out _ hi19).2.1
                    have hcr0 := fun d os => cell_regrown g0 d os
                    have hcr1' := fun d os => cell_regrown g1 d os
                    clear r0 r1'
                    have ri3 : 0 < i := by omega
                    have ri4 : 1 < i := by omega
                    have ri5 : ¬ (i : Int) ≤ 0 := by omega
                    have ri6 : ¬ (i : Int) ≤ 1 := by omega
                    go_wp2_with fail
                    refine wp_region_quiet_below (by kernel_rfl) (by kernel_rfl) ?_
                    repeat (quiet_step (first | exact cA _ _))
                    first | refine wpQuiet_nil ?_ | (trace_state; sorry)
                    intro w20 hw'
                    obtain ⟨⟨dd, osq⟩, hw''⟩ := hw'
                    have hbz := below_regrown w19 dd osq
                    rw [← hw''] at hbz
                    clear hw'' cA hcr0 hcr1' g0 g1
                    have hb20 := hb19.trans (hbz.mono hz19)
                    have hi20 := hi19.trans (hbz.mono hzi19)
                    have g0 := (HR.out _ hi20).1.1
                    clear hbz
                    go_wp2_with fail
                    refine (i_PartMeans _ (rowL css 0) (nn : Int) _ (HR.out _ hi20).1.2.sl).mono ?_; rintro z w21 ⟨⟨vm, bm, rfl, hom, hbm⟩, hbl⟩
                    rw [HPS.out] at hom hbm
                    subst hbm
                    have hb21 := hb20.trans (hbl.mono hb20.size)
                    have hi21 := hi20.trans (hbl.mono hi20.size)
                    have HOM := Lib.hid hom.sb
                    have g1 := (HR.out _ hi21).1.1
                    clear hom hbl g0
                    have RC1 := fun w => run_wdx (P := Try.prog) w 33 45 r3 (by kernel_rfl) (by kernel_rfl) HNQ.out
                    have RC2 := fun w => run_wdx (P := Try.prog) w 33 45 cF (by kernel_rfl) (by kernel_rfl) HFQN.out
                    have ho1 : FloatKind.f64.format.order (wd r3) (ar .add .f64 (wd cF) 4562254508917369340) = some .lt := eq_of_beq hl1
                    have RA := fun t w => run_arx64 (P := Try.prog) .add (wd cF) 4562254508917369340 _ (by rw [cn_of_not (k := .f64) hl3, cn_of_not (k := .f64) (show (FloatKind.f64.format.read 4562254508917369340).isNaN = false by decide +kernel)]) hl4 t w
                    clear hl1 hl2 hl3 hl4
                    obtain ⟨z1, hz1'⟩ : ∃ z1, z1 = ar .add .f64 (wd cF) 4562254508917369340 := ⟨_, rfl⟩
                    obtain ⟨z2, hz2'⟩ : ∃ z2, z2 = wd r3 := ⟨_, rfl⟩
                    obtain ⟨z3, hz3'⟩ : ∃ z3, z3 = wd cF := ⟨_, rfl⟩
                    rw [← hz1'] at RA ho1
                    rw [← hz2'] at RC1 ho1
                    rw [← hz3'] at RC2 RA
                    clear hz1' hz2' hz3'
                    go_wp2_with fail
                    refine (l_b10List _ _ (rowL css 0) _ HOM.out (HR.out _ hi21).1.2).mono ?_; rintro z w22 ⟨rfl, hd⟩
                    have HB22 := Lib.hid (hb21.trans ((hd.below w21.heap.size).mono hb21.size))
                    clear hd
                    go_wp2_with fail
                    go_ret
                    exact ⟨rfl, HB22.out⟩
set_option maxRecDepth 100000 in
theorem FnGroups_lifted (os : Os) (started : os.Started) (H : Type) (enc : TypeId × Value → H) :
    ReturnsInHanded {} Try.checked os 3 .any (Rows.fnGroupsSpec.pre6 enc Try.prog Try.f3 Rows.fnGroupsRow.domain false) (Rows.fnGroupsSpec.post enc Try.prog Try.f3 false true false false) := by
  refine returnsInHanded_of_change (C := Try.checked) own started (by kernel_rfl) Try.func3
    (ChangeSpec.witness6 (enc := enc) (C := Try.checked) false ⟨#[], #[.slice none 0 0, .slice none 0 0], []⟩ 8 (by kernel_rfl) (by kernel_rfl) (by kernel_rfl) (by kernel_rfl)) ?_
  intro W base args ds gs before hval0 hW hcnd _
  have hval : ∀ (j : Nat) t v, Try.f3.params[j]? = some t → args[j]? = some v → Value.okWide Try.prog W .any base t v := hval0
  have hW' := hW
  obtain ⟨p, q, hA0, hV, rfl, hfz, hnd⟩ := hW
  have hA : DataW.TrodAll enc Try.prog W 0 (fun _ => true) true Try.f3.params.toList args.toList ds p := hA0
  rw [Try.params3] at hA hval
  obtain ⟨v0, vs0, d0, ds0, p0, q0, hargs, rfl, rfl, h0, r0⟩ := trodAll_cons hA
  obtain ⟨v1, vs1, d1, ds1, p1, q1, rfl, rfl, rfl, h1, r1⟩ := trodAll_cons r0
  obtain ⟨rfl, rfl, rfl⟩ := trodAll_nil r1
  obtain rfl : args = #[v0, v1] := by cases args; simp_all
  obtain ⟨rfl, rfl⟩ := trodVars_none hV
  have k0 := h0
  have lt0 : ∀ x ∈ p0, x.block < W.heap.size := by obtain ⟨m, hm⟩ := k0; exact DataW.trod_lt m _ _ _ hm
  have k1 := h1
  have lt1 : ∀ x ∈ p1, x.block < W.heap.size := by obtain ⟨m, hm⟩ := k1; exact DataW.trod_lt m _ _ _ hm
  obtain ⟨b0, ln0, cp0, rfl⟩ := okWide_slice Try.underlying22 (hval 0 22 v0 rfl rfl)
  obtain ⟨c0, hc0⟩ : ∃ cs, GL (Value.int .u8) W (.slice b0 ln0 cp0) cs ∧ allU8 cs := by obtain ⟨fuel, hfu⟩ := h0; exact open_u8s Try.underlying22 Try.underlying5 (by kernel_rfl) hfu
  obtain ⟨b1, ln1, cp1, rfl⟩ := okWide_slice Try.underlying22 (hval 1 22 v1 rfl rfl)
  obtain ⟨c1, hc1⟩ : ∃ cs, GL (Value.int .u8) W (.slice b1 ln1 cp1) cs ∧ allU8 cs := by obtain ⟨fuel, hfu⟩ := h1; exact open_u8s Try.underlying22 Try.underlying5 (by kernel_rfl) hfu
  clear hA0 hval0
  refine (FnGroups_walk (w := W) _ c0 hc0.1 hc0.2 _ c1 hc1.1 hc1.2).mono fun e W' ⟨he, bel⟩ => ?_
  subst he
  exact ⟨_, rfl, _, _, _, [], _, [], hW', trodAll_mk1 (shut_bool Try.underlying4 _), (trodAll_cons_mk (Below.trod laidOut (by kernel_rfl) (of_decide_eq_true (by kernel_rfl)) k0 bel lt0) (trodAll_cons_mk (Below.trod laidOut (by kernel_rfl) (of_decide_eq_true (by kernel_rfl)) k1 bel lt1) trodAll_mk0)), rfl, bel.frame _, fun h => by cases h⟩

theorem fnGroups_holds : Rows.FnGroupsSaid :=
  OpenClaim.holds_of_wide 3 Try.f3 rfl rfl rfl rfl rfl rfl rfl ⟨rfl, rfl, rfl, rfl, rfl⟩ rfl rfl rfl rfl rfl (by kernel_rfl) Try.func3 (by kernel_rfl)
    (of_decide_eq_true (by kernel_rfl)) (by unfold Func.isWrapper; first | (rw [if_pos (by decide +kernel)]; kernel_rfl) | (rw [if_neg (by decide +kernel)]; exact ⟨rfl, rfl⟩))
    (fun os started H enc _ => FnGroups_lifted os started H enc)
#print axioms fnGroups_holds

end Go.Proofs.Ytkkomajokdlkeaa
