/- Contracts: centers of groups, by the reference. -/
import Derived.Test.YtkkomajokdlkeaaQ30
namespace Go.Proofs.Ytkkomajokdlkeaa
set_option linter.unusedSimpArgs false
set_option linter.unusedVariables false
set_option maxRecDepth 100000
set_option maxHeartbeats 4000000
set_option linter.unusedSimpArgs false
set_option linter.unusedVariables false
open Go.RowKit
attribute [local go_sem] run_store_float run_store_complex alloc_drewN setCell_drewN

/-- What is left to do, as the reference asks it: the centers are finite. -/
theorem cenQ_no {css : List (List Nat)} {L r : Nat} {cts : List (List Nat)} (h : gOk css cts = false) : cenQ css L r cts = noC := by
  cases r <;> (rw [cenQ, h]; rfl)
theorem cenQ_end {css : List (List Nat)} {L : Nat} {cts : List (List Nat)} (h : gOk css cts = true) : cenQ css L 0 cts = (cts, grp css cts, true) := by rw [cenQ, h]; rfl
theorem cenQ_bad {css : List (List Nat)} {L r c : Nat} {cts : List (List Nat)} (h : gOk css cts = true) (hc : c < cts.length) (hf : allFin (cenN css (grp css cts) L (rowL cts c) c) = false) : cenQ css L (r + 1) cts = noC := by
  have : (newC css cts (grp css cts) L).all allFin = false := by
    cases e : (newC css cts (grp css cts) L).all allFin
    · rfl
    · have h1 := all_rows.1 e c (by rw [newC_length]; exact hc)
      rw [newC_row hc, hf] at h1; cases h1
  rw [cenQ, h, this]; rfl
theorem cenQ_next {css : List (List Nat)} {L r : Nat} {cts : List (List Nat)} (h : gOk css cts = true) (hf : ∀ c, c < cts.length → allFin (cenN css (grp css cts) L (rowL cts c) c) = true) : cenQ css L (r + 1) cts = cenQ css L r (newC css cts (grp css cts) L) := by
  have : (newC css cts (grp css cts) L).all allFin = true := all_rows.2 fun c hc => by rw [newC_length] at hc; rw [newC_row hc]; exact hf c hc
  rw [cenQ, h, this]; rfl
theorem ceQ_cen {css : List (List Nat)} {C R : Nat} (h : listOk css = true) (h1 : 1 ≤ C) (hC : C ≤ css.length) (hR : R ≤ 32) : ceQ css (C : Int) (R : Int) = cenQ css (headL css).length R (css.take C) := by
  rw [ceQ_yes h h1 hC hR, cenP, take_ok h h1 hC]; rfl
theorem grp_app {css cts : List (List Nat)} {k : Nat} (hk : k < css.length) : (grp css cts).take (k + 1) = (grp css cts).take k ++ [(nearL cts (rowL css k)).1] := grp_take hk

set_option maxRecDepth 100000 in
set_option maxHeartbeats 8000000 in
theorem s_CentersOf (v : Value) (css : List (List Nat)) (count rounds : Int) (w : World) (hv : SS w v css) :
    Calls Try.prog 11 #[v, .int .i64 count, .int .i64 rounds] w fun z w' => CE 26 33 2 w.heap.size w' z (ceQ css count rounds) ∧ Below w.heap.size w w' := by
  obtain ⟨ao, cap, rfl, hc1, hc2, hget⟩ := hv.get rfl
  have HV := Lib.hid hv
  have HG := Lib.hid hget
  clear hget hv
  cases hok : listOk css
  · have HOK := Lib.hid hok
    have HQ := Lib.hid (ceQ_no (css := css) (count := count) (rounds := rounds) (by rw [hok]; rfl))
    clear hok
    go_enter Try.func11, Try.ntmps11
    go_wp2_with fail
    refine (s_l07List _ css _ HV.out).mono ?_; rintro e w1 ⟨rfl, n1, rfl⟩; rw [HOK.out]
    go_wp2_with fail
    go_ret3
    exact ⟨CE.no _ _ _ _ _ HQ.out, by (repeat (first | with_reducible exact Below.refl _ _ | with_reducible assumption | with_reducible refine below_drewN ?_ _ | with_reducible refine Below.drew ?_ | with_reducible refine Below.alloc ?_ (by first | omega | (simp; omega) | (simp; done) | (simp at *; omega)) _ | with_reducible refine Below.setCell ?_ (by first | omega | (simp; omega) | (simp; done) | (simp at *; omega)) _ | refine Below.trans ?_ (Below.mono (by with_reducible assumption) (by first | omega | (simp; omega) | (simp; done) | (simp at *; omega)))))⟩
  · cases hin : inB count 1 (css.length : Int)
    · have HOK := Lib.hid hok
      have HI := Lib.hid hin
      have HQ := Lib.hid (ceQ_no (css := css) (count := count) (rounds := rounds) (by rw [hok, hin]; rfl))
      clear hok hin
      go_enter Try.func11, Try.ntmps11
      go_wp2_with fail
      refine (s_l07List _ css _ HV.out).mono ?_; rintro e w1 ⟨rfl, n1, rfl⟩; rw [HOK.out]
      go_wp2_with fail
      refine (s_l00In _ _ _ _).mono ?_; rintro e w2 ⟨rfl, n2, rfl⟩; rw [HI.out]
      go_wp2_with fail
      go_ret3
      exact ⟨CE.no _ _ _ _ _ HQ.out, by (repeat (first | with_reducible exact Below.refl _ _ | with_reducible assumption | with_reducible refine below_drewN ?_ _ | with_reducible refine Below.drew ?_ | with_reducible refine Below.alloc ?_ (by first | omega | (simp; omega) | (simp; done) | (simp at *; omega)) _ | with_reducible refine Below.setCell ?_ (by first | omega | (simp; omega) | (simp; done) | (simp at *; omega)) _ | refine Below.trans ?_ (Below.mono (by with_reducible assumption) (by first | omega | (simp; omega) | (simp; done) | (simp at *; omega)))))⟩
    · cases hin2 : inB rounds 0 32
      · have HOK := Lib.hid hok
        have HI := Lib.hid hin
        have HI2 := Lib.hid hin2
        have HQ := Lib.hid (ceQ_no (css := css) (count := count) (rounds := rounds) (by rw [hok, hin, hin2]; rfl))
        clear hok hin hin2
        go_enter Try.func11, Try.ntmps11
        go_wp2_with fail
        refine (s_l07List _ css _ HV.out).mono ?_; rintro e w1 ⟨rfl, n1, rfl⟩; rw [HOK.out]
        go_wp2_with fail
        refine (s_l00In _ _ _ _).mono ?_; rintro e w2 ⟨rfl, n2, rfl⟩; rw [HI.out]
        go_wp2_with fail
        refine (s_l00In _ _ _ _).mono ?_; rintro e w3 ⟨rfl, n3, rfl⟩; rw [HI2.out]
        go_wp2_with fail
        go_ret3
        exact ⟨CE.no _ _ _ _ _ HQ.out, by (repeat (first | with_reducible exact Below.refl _ _ | with_reducible assumption | with_reducible refine below_drewN ?_ _ | with_reducible refine Below.drew ?_ | with_reducible refine Below.alloc ?_ (by first | omega | (simp; omega) | (simp; done) | (simp at *; omega)) _ | with_reducible refine Below.setCell ?_ (by first | omega | (simp; omega) | (simp; done) | (simp at *; omega)) _ | refine Below.trans ?_ (Below.mono (by with_reducible assumption) (by first | omega | (simp; omega) | (simp; done) | (simp at *; omega)))))⟩
      · have hi1 := (inB_iff _ _ _).1 hin
        have hi2 := (inB_iff _ _ _).1 hin2
        have hl := listOk_len hok
        obtain ⟨C, rfl⟩ := Int.eq_ofNat_of_zero_le (show 0 ≤ count by omega)
        obtain ⟨R, rfl⟩ := Int.eq_ofNat_of_zero_le (show 0 ≤ rounds by omega)
        have hC1 : 1 ≤ C := by omega
        have hC2 : C ≤ css.length := by omega
        have hR2 : R ≤ 32 := by omega
        have hs0 := (series_iff.1 (listOk_row hok (k := 0) (by omega)).1).1
        obtain ⟨L, hL⟩ : ∃ L, L = (headL css).length := ⟨_, rfl⟩
        have hL1 : 1 ≤ L ∧ L ≤ 96 := by rw [hL, head_row]; exact hs0
        have HROW := Lib.hid (show ∀ k, k < css.length → series (rowL css k) = true ∧ (rowL css k).length = L from fun k hk => by rw [hL]; exact listOk_row hok hk)
        have HSHP := Lib.hid (show Shp L C (css.take C) by rw [hL]; exact Shp.take hok hC2)
        have HQ := Lib.hid (show ceQ css (C : Int) (R : Int) = cenQ css L R (css.take C) by rw [hL]; exact ceQ_cen hok hC1 hC2 hR2)
        have HOK := Lib.hid hok
        have HI := Lib.hid hin
        have HI2 := Lib.hid hin2
        clear hok hin hin2 hi1 hi2 hs0 hL
        obtain ⟨b0, off0, u0, rfl, hbl0, hc0, hsb0⟩ := HG.out 0 (by omega)
        obtain ⟨a0, cp0, rfl, -, -, -⟩ := hsb0.get (n := L) (HROW.out 0 (by omega)).2
        rw [Nat.add_zero] at hc0
        have h00 : (0 : Int) < (css.length : Int) := by omega
        clear hsb0
        go_enter Try.func11, Try.ntmps11
        go_wp2_with fail
        refine (s_l07List _ css _ HV.out).mono ?_; rintro e w1 ⟨rfl, n1, rfl⟩; rw [HOK.out]
        go_wp2_with fail
        refine (s_l00In _ _ _ _).mono ?_; rintro e w2 ⟨rfl, n2, rfl⟩; rw [HI.out]
        go_wp2_with fail
        refine (s_l00In _ _ _ _).mono ?_; rintro e w3 ⟨rfl, n3, rfl⟩; rw [HI2.out]
        go_wp2_with fail
        go_loopw [9, 10] (fun p i wr => ∃ k : Nat, k ≤ C ∧ i = .int .i64 (k : Int) ∧ Hid (SD 26 33 w.heap.size wr.heap.size wr p (css.take k)) ∧ Below w.heap.size w wr) (fun _ i _ => C - (intOf i).toNat)
        case atStart => exact ⟨0, Nat.zero_le _, rfl, (by show SD _ _ _ _ _ _ _; rw [List.take_zero]; first | exact SD.empty _ rfl (Nat.le_refl _) | exact SD.drewN (SD.empty _ rfl (Nat.le_refl _)) _), by (repeat (first | with_reducible exact Below.refl _ _ | with_reducible assumption | with_reducible refine below_drewN ?_ _ | with_reducible refine Below.drew ?_ | with_reducible refine Below.alloc ?_ (by first | omega | (simp; omega) | (simp; done) | (simp at *; omega)) _ | with_reducible refine Below.setCell ?_ (by first | omega | (simp; omega) | (simp; done) | (simp at *; omega)) _ | refine Below.trans ?_ (Below.mono (by with_reducible assumption) (by first | omega | (simp; omega) | (simp; done) | (simp at *; omega)))))⟩
        case round =>
          obtain ⟨k, hk, rfl, HP, hb⟩ := hrel
          have hz := hb.size
          by_cases hlt : k < C
          · obtain ⟨b, off, u, e1, hbl, hc, hs⟩ := HG.out k (by omega)
            simp only [Option.some.injEq, Addr.mk.injEq, and_true] at e1
            obtain ⟨rfl, rfl⟩ := e1
            have hkl : (k : Int) < (css.length : Int) := by omega
            have hkC : (k : Int) < (C : Int) := by omega
            have hc' := (hb.cell (p := ⟨b0, off0 + k, none⟩) hbl).trans hc
            have hc'' : (wr.alloc (Obj.cells #[] 33)).cell? ⟨b0, off0 + k, none⟩ = some u := (((Below.refl wr.heap.size wr).alloc (Nat.le_refl _) _).cell (p := ⟨b0, off0 + k, none⟩) (show b0 < wr.heap.size by omega)).trans hc'
            have HS := Lib.hid (show SB wr u (rowL css k) from SB.below hs hb (Nat.le_refl _))
            have HLEN := Lib.hid (show (css.take k).length < 1099511627776 by rw [List.length_take]; omega)
            clear hc hs
            go_wp2_with (first
              | (at_builtin; refine wpList_appAll f32s wr.heap.size (.slice (some ⟨wr.heap.size, 0, none⟩) 0 0) [] rfl (by first | exact OW.empty _ _ rfl (Nat.le_refl _) | exact OW.drewN (OW.empty _ _ rfl (Nat.le_refl _)) _) u (rowL css k) rfl (HS.out.keep ((Below.refl _ wr).alloc (Nat.le_refl _) _)) (by rw [(HROW.out k (by omega)).2]; omega) (by rw [(HROW.out k (by omega)).2]; simp; omega) (by simp) ?_; intro v4 w4 ho4 hg4; rw [List.nil_append] at ho4; obtain ⟨bo4, cc4, rfl, -⟩ := ho4.sb.sl.slice; have HO := Lib.hid ho4; have hb4 : Below wr.heap.size wr w4 := Below.grown ((Below.refl wr.heap.size wr).alloc (Nat.le_refl _) _) hg4 (by simp) (by intro g hg; simp [Value.ownBlock] at hg; omega); have hz4 := hb4.size; have HP2 := Lib.hid (HP.out.keep hb4); clear ho4 hg4 hc'')
              | (at_builtin; refine wpList_sdapp oneRowsS (by decide) w.heap.size wr.heap.size u9 _ rfl (SD.alloc HP2.out _) hz (Value.slice bo4 _ cc4) _ (OW.alloc HO.out _) _ rfl (by simp; done) HLEN.out (by simp; omega) ?_; intro v' w' ho' hg'; have HO' := Lib.hid ho'; clear ho'))
            refine ⟨⟨k + 1, by omega, by go_num, ?_, ?_⟩, by simp [intOf]; omega⟩
            · show SD _ _ _ _ _ _ _
              have h1 := HO'.out
              rw [show css.take (k + 1) = css.take k ++ [rowL css k] by rw [List.take_add_one, List.getElem?_eq_getElem (show k < css.length by omega), rowL_eq (by omega)]; rfl]
              exact h1
            · refine below_of_grown ?_ hg' (by simp; omega) HP2.out.own_ge
              (repeat (first | with_reducible exact Below.refl _ _ | with_reducible assumption | with_reducible refine below_drewN ?_ _ | with_reducible refine Below.drew ?_ | with_reducible refine Below.alloc ?_ (by first | omega | (simp; omega) | (simp; done) | (simp at *; omega)) _ | with_reducible refine Below.setCell ?_ (by first | omega | (simp; omega) | (simp; done) | (simp at *; omega)) _ | refine Below.trans ?_ (Below.mono (by with_reducible assumption) (by first | omega | (simp; omega) | (simp; done) | (simp at *; omega)))))
          · obtain rfl : C = k := by omega
            have hlc : (css.take C).length = C := HSHP.out.1
            obtain ⟨gc, capc, rfl, hgc1, hgc2, -⟩ := HP.out.so.at_ (by decide) (k := 0) (by omega)
            rw [hlc] at HP ⊢
            have hkC : ¬ ((C : Int) < (C : Int)) := by omega
            go_wp2_with fail
            clear hkC
            obtain ⟨hi, hhi⟩ : ∃ hi, hi = wr.heap.size := ⟨_, rfl⟩
            rw [← hhi] at HP
            have hhi2 : hi ≤ wr.heap.size := by omega
            clear hhi
            go_loopw [2] (fun r wx => ∃ k : Nat, k ≤ R ∧ r = .int .i64 (k : Int) ∧ (∃ cts : List (List Nat), Hid (Shp L C cts) ∧ Hid (ceQ css (C : Int) (R : Int) = cenQ css L k cts) ∧ Hid (SD 26 33 w.heap.size hi wx (.slice (some ⟨gc, 0, none⟩) C capc) cts)) ∧ Below w.heap.size w wx ∧ hi ≤ wx.heap.size) (fun r _ => (intOf r).toNat)
            case atStart => exact ⟨R, Nat.le_refl _, rfl, ⟨css.take C, HSHP.out, HQ.out, HP.out⟩, hb, hhi2⟩
            case round =>
              clear HSHP HQ HP hb
              obtain ⟨k, hk, rfl, ⟨cts, HSH, HQC, HSD⟩, hbx, hhx⟩ := hrel
              have hzx := hbx.size
              have hcl := HSH.out.1
              go_wp2_with fail
              go_loopw [11, 55] (fun g i wy => ∃ j : Nat, j ≤ css.length ∧ i = .int .i64 (j : Int) ∧ Hid (∀ i, i < j → (nearL cts (rowL css i)).2.2 = true) ∧ Hid (SD 26 33 w.heap.size hi wy (.slice (some ⟨gc, 0, none⟩) C capc) cts) ∧ Hid (GO (Value.int .i64) 2 w.heap.size wy g ((grp css cts).take j)) ∧ Below w.heap.size w wy ∧ hi ≤ wy.heap.size) (fun _ i _ => css.length - (intOf i).toNat)
              case atStart => exact ⟨0, Nat.zero_le _, rfl, (fun i hi => by omega), (by show SD _ _ _ _ _ _ _; first | exact HSD.out.alloc _ | exact (HSD.out.alloc _).drewN _), (by show GO _ _ _ _ _ _; rw [List.take_zero]; exact GO.empty _ _ rfl hzx), by (repeat (first | with_reducible exact Below.refl _ _ | with_reducible assumption | with_reducible refine below_drewN ?_ _ | with_reducible refine Below.drew ?_ | with_reducible refine Below.alloc ?_ (by first | omega | (simp; omega) | (simp; done) | (simp at *; omega)) _ | with_reducible refine Below.setCell ?_ (by first | omega | (simp; omega) | (simp; done) | (simp at *; omega)) _ | refine Below.trans ?_ (Below.mono (by with_reducible assumption) (by first | omega | (simp; omega) | (simp; done) | (simp at *; omega))))), by simp; omega⟩
              case round =>
                obtain ⟨j, hj, rfl, HNS, HSD2, HGO2, hby, hhy⟩ := hrel
                have hzy := hby.size
                by_cases hltj : j < css.length
                · obtain ⟨b, off, u, e1, hbl, hc, hs⟩ := HG.out j hltj
                  simp only [Option.some.injEq, Addr.mk.injEq, and_true] at e1
                  obtain ⟨rfl, rfl⟩ := e1
                  have hc' := (hby.cell (p := ⟨b0, off0 + j, none⟩) hbl).trans hc
                  have HS := Lib.hid (show SB wr u (rowL css j) from SB.below hs hby (Nat.le_refl _))
                  have HLN := Lib.hid (show ∀ k, k < cts.length → (rowL cts k).length = (rowL css j).length from fun k hk => by rw [HSH.out.2 k (by omega), (HROW.out j hltj).2])
                  have HLG := Lib.hid (show ((grp css cts).take j).length + [(nearL cts (rowL css j)).1].length < 1099511627776 by rw [List.length_take]; simp; omega)
                  clear hc hs hbl
                  cases hnn : (nearL cts (rowL css j)).2.2
                  · have HNN := Lib.hid hnn
                    have HQE := Lib.hid (HQC.out.trans (cenQ_no (gOk_no hltj hnn)))
                    clear hnn
                    go_wp2_with fail
                    refine (s_l07Nearest _ _ cts (rowL css j) _ HSD2.out.so.ss HS.out HLN.out).mono ?_; rintro e w6 ⟨⟨n6, r6, b6, rfl, hr6, hn6, hm6, hk6⟩, d6, rfl⟩
                    rw [HNN.out] at hk6
                    subst hk6
                    clear hn6 hm6
                    go_wp2_with fail
                    go_ret3
                    exact ⟨CE.no _ _ _ _ _ HQE.out, by (repeat (first | with_reducible exact Below.refl _ _ | with_reducible assumption | with_reducible refine below_drewN ?_ _ | with_reducible refine Below.drew ?_ | with_reducible refine Below.alloc ?_ (by first | omega | (simp; omega) | (simp; done) | (simp at *; omega)) _ | with_reducible refine Below.setCell ?_ (by first | omega | (simp; omega) | (simp; done) | (simp at *; omega)) _ | refine Below.trans ?_ (Below.mono (by with_reducible assumption) (by first | omega | (simp; omega) | (simp; done) | (simp at *; omega)))))⟩
                  · have HNN := Lib.hid hnn
                    clear hnn
                    go_wp2_with fail
                    refine (s_l07Nearest _ _ cts (rowL css j) _ HSD2.out.so.ss HS.out HLN.out).mono ?_; rintro e w6 ⟨⟨n6, r6, b6, rfl, hr6, hn6, hm6, hk6⟩, d6, rfl⟩
                    rw [HNN.out] at hk6
                    subst hk6 hn6
                    clear hm6
                    have HSD3 := Lib.hid (HSD2.out.drewN d6)
                    have HGO3 := Lib.hid (HGO2.out.drewN d6)
                    go_wp2_with (at_builtin; refine wpList_gapp oneI64G (fun _ => rfl) w.heap.size u11 ((grp css cts).take j) rfl (by first | exact GO.alloc HGO3.out _ | exact GO.drewN (GO.alloc HGO2.out _) _) [(nearL cts (rowL css j)).1] _ 1 rfl rfl (by intro i u hu; cases i with | zero => (simp only [List.getElem?_cons_zero, Option.some.injEq] at hu; subst hu; simp) | succ i => simp at hu) HLG.out (by simp; omega) ?_; intro v'' w'' ho'' hg''; have HO'' := Lib.hid ho''; have HSD4 := Lib.hid (SD.kept_go (SD.alloc HSD3.out _) (GO.alloc HGO3.out _) (by decide) (by decide) hg''); have hz'' := hg''.size; clear ho'')
                    (try simp only [World.size_alloc, World.heap_drewN] at hz'')
                    refine ⟨⟨j + 1, by omega, by go_num, ?_, HSD4.out, ?_, ?_, by omega⟩, by simp [intOf]; omega⟩
                    · intro i hi
                      rcases Nat.lt_or_ge i j with h | h
                      · exact HNS.out i h
                      · obtain rfl : i = j := by omega
                        exact HNN.out
                    · show GO _ _ _ _ _ _
                      rw [grp_take hltj]; exact HO''.out
                    · refine below_of_grown ?_ hg'' (by simp; omega) HGO2.out.own_ge
                      (repeat (first | with_reducible exact Below.refl _ _ | with_reducible assumption | with_reducible refine below_drewN ?_ _ | with_reducible refine Below.drew ?_ | with_reducible refine Below.alloc ?_ (by first | omega | (simp; omega) | (simp; done) | (simp at *; omega)) _ | with_reducible refine Below.setCell ?_ (by first | omega | (simp; omega) | (simp; done) | (simp at *; omega)) _ | refine Below.trans ?_ (Below.mono (by with_reducible assumption) (by first | omega | (simp; omega) | (simp; done) | (simp at *; omega)))))
                · obtain rfl : j = css.length := by omega
                  have hgo : gOk css cts = true := gOk_yes HNS.out
                  have HGO3 := Lib.hid (show GO (Value.int .i64) 2 w.heap.size wr u11 (grp css cts) by have h1 := HGO2.out; rw [List.take_of_length_le (by rw [grp_length]; exact Nat.le_refl _)] at h1; exact h1)
                  clear HGO2 HNS HSD
                  rcases Nat.eq_zero_or_pos k with hk0 | hk0
                  · subst hk0
                    have HQE := Lib.hid (show ceQ css (C : Int) (R : Int) = (cts, grp css cts, true) by rw [HQC.out]; exact cenQ_end hgo)
                    clear hgo
                    go_wp2_with fail
                    go_ret3
                    refine ⟨?_, by (repeat (first | with_reducible exact Below.refl _ _ | with_reducible assumption | with_reducible refine below_drewN ?_ _ | with_reducible refine Below.drew ?_ | with_reducible refine Below.alloc ?_ (by first | omega | (simp; omega) | (simp; done) | (simp at *; omega)) _ | with_reducible refine Below.setCell ?_ (by first | omega | (simp; omega) | (simp; done) | (simp at *; omega)) _ | refine Below.trans ?_ (Below.mono (by with_reducible assumption) (by first | omega | (simp; omega) | (simp; done) | (simp at *; omega)))))⟩
                    rw [HQE.out]
                    exact ⟨_, _, _, rfl, HSD2.out.now, HGO3.out, rfl⟩
                  · obtain ⟨k', rfl⟩ : ∃ k', k = k' + 1 := ⟨k - 1, by omega⟩
                    rw [show ((k' + 1 : Nat) : Int) = (k' : Int) + 1 from by omega]
                    have HQB := Lib.hid (fun (c : Nat) (hc : c < cts.length) hf => HQC.out.trans (cenQ_bad (r := k') (L := L) (c := c) hgo hc hf))
                    have HQN := Lib.hid (fun hf => HQC.out.trans (cenQ_next (r := k') (L := L) hgo hf))
                    have HSHN := Lib.hid (HSH.out.new (css := css) (gs := grp css cts))
                    obtain ⟨gr, hgr⟩ : ∃ gr, gr = grp css cts := ⟨_, rfl⟩
                    have hgrl : gr.length = css.length := by rw [hgr, grp_length]
                    rw [← hgr] at HGO3 HQB HQN HSHN
                    obtain ⟨gg, capg, rfl, hgg1, hgg2, -⟩ := HGO3.out.at_ (k := 0) (by omega)
                    rw [hgrl] at HGO3 ⊢
                    have e2 : (((k' : Nat) : Int) + 1 == 0) = false := by simp; omega
                    clear hgo HQC hgr
                    go_wp2_with fail
                    go_loopw [83] (fun i wy => ∃ c : Nat, c ≤ C ∧ i = .int .i64 (c : Int) ∧ Hid (∀ d, d < c → allFin (cenN css gr L (rowL cts d) d) = true) ∧ Hid (SD 26 33 w.heap.size hi wy (.slice (some ⟨gc, 0, none⟩) C capc) (mixL (newC css cts gr L) cts c)) ∧ Hid (GO (Value.int .i64) 2 w.heap.size wy (.slice (some ⟨gg, 0, none⟩) css.length capg) gr) ∧ Below w.heap.size w wy ∧ hi ≤ wy.heap.size) (fun i _ => C - (intOf i).toNat)
                    case atStart => exact ⟨0, Nat.zero_le _, rfl, (fun d hd => by omega), (by show SD _ _ _ _ _ _ _; rw [mixL_zero]; exact HSD2.out), HGO3.out, hby, hhy⟩
                    case round =>
                      obtain ⟨c, hc, rfl, HFD, HSD3, HGO4, hbz, hhz⟩ := hrel
                      have hzz := hbz.size
                      clear HSD2 HGO3
                      by_cases hltc : c < C
                      · have hc0' := (hbz.cell (p := ⟨b0, off0, none⟩) hbl0).trans hc0
                        go_wp2_with (refine wpList_make32 f32s L rfl rfl (by omega) ?_; intro w6 ho hg; have HSU := Lib.hid ho; clear ho)
                        obtain ⟨wo, hwo⟩ : ∃ wo, wo = wr := ⟨_, rfl⟩
                        subst hwo
                        have hbS : Below wo.heap.size wo w6 := (Below.refl _ _).grown hg (Nat.le_refl _) (by simp)
                        have hzS : wo.heap.size < w6.heap.size := (HSU.out.block _ rfl).2
                        clear hg hc0'
                        go_loopw [18, 93] (fun th i wy => ∃ j : Nat, j ≤ css.length ∧ i = .int .i64 (j : Int) ∧ (∃ q : Nat, th = .int .i64 (q : Int) ∧ q ≤ j ∧ Hid (q = cntTo gr (c : Int) j)) ∧ Hid (OW 33 wo.heap.size wy (.slice (some ⟨wo.heap.size, 0, none⟩) L L) (sumTo css gr (c : Int) L j)) ∧ Below wo.heap.size wo wy) (fun _ i _ => css.length - (intOf i).toNat)
                        case atStart => exact ⟨0, Nat.zero_le _, rfl, ⟨0, rfl, Nat.le_refl _, rfl⟩, HSU.out, hbS⟩
                        case round =>
                          obtain ⟨j, hj, rfl, ⟨q, rfl, hq, HCN⟩, HSM, hby⟩ := hrel
                          have hzy2 := hby.size
                          clear HSU hbS hzS
                          by_cases hltj : j < css.length
                          · obtain ⟨b, off, u, e1, hbl, hcu, hs⟩ := HG.out j hltj
                            simp only [Option.some.injEq, Addr.mk.injEq, and_true] at e1
                            obtain ⟨rfl, rfl⟩ := e1
                            have hs : SB w u (rowL css j) := hs
                            obtain ⟨au, cu, rfl, -, -, -⟩ := hs.get (n := L) (HROW.out j hltj).2
                            have HS := Lib.hid hs
                            have HCU := Lib.hid hcu
                            obtain ⟨g8, cap8, hv8, -, h82, h83, -, -⟩ := HGO4.out.at_ (k := j) (by omega)
                            simp only [Value.slice.injEq, Option.some.injEq, Addr.mk.injEq, and_true] at hv8
                            obtain ⟨rfl, -, -⟩ := hv8
                            have hcg := (hby.cell (p := ⟨gg, j, none⟩) h82).trans h83
                            obtain ⟨x, hx⟩ : ∃ x, x = gr[j]'(by omega) := ⟨_, rfl⟩
                            rw [← hx] at hcg
                            have hxd : gr.getD j 0 = x := by rw [hx]; simp [hgrl, hltj]
                            clear hcu hs hbl h82 h83 hx
                            by_cases hxc : x = (c : Int)
                            · subst hxc
                              have HSN := Lib.hid (sumTo_in (css := css) (L := L) hxd)
                              have HCN2 := Lib.hid (cntTo_in hxd)
                              clear hxd
                              have hsl : (sumTo css gr (c : Int) L j).length = L := sumTo_length ..
                              obtain ⟨S, hS⟩ : ∃ S, S = sumTo css gr (c : Int) L j := ⟨_, rfl⟩
                              rw [← hS] at HSM HSN hsl
                              clear hS
                              have hadl : (addL S (rowL css j)).length = S.length := addL_length ..
                              go_wp2_with fail
                              clear hcg
                              go_loopw [106] (fun i wy => ∃ m : Nat, m ≤ L ∧ i = .int .i64 (m : Int) ∧ Hid (OW 33 wo.heap.size wy (.slice (some ⟨wo.heap.size, 0, none⟩) L L) (mixL (addL S (rowL css j)) S m)) ∧ Below wo.heap.size wo wy) (fun i _ => L - (intOf i).toNat)
                              case atStart => exact ⟨0, Nat.zero_le _, rfl, (by show OW _ _ _ _ _; rw [mixL_zero]; exact HSM.out), hby⟩
                              case round =>
                                obtain ⟨m, hm, rfl, HSM2, hbm⟩ := hrel
                                have hzm := hbm.size
                                have hmx : (mixL (addL S (rowL css j)) S m).length = L := by rw [mixL_length hadl, hsl]
                                clear HSM
                                by_cases hltm : m < L
                                · have hbw : Below w.heap.size w wr := hbz.trans (hbm.mono hzz)
                                  have hc' := (hbw.cell (p := ⟨b0, off0 + j, none⟩) hbl0).trans HCU.out
                                  obtain ⟨au', cu', e5, -, -, hgu⟩ := (HS.out.below hbw (Nat.le_refl _)).get (n := L) (HROW.out j hltj).2
                                  obtain ⟨bu, ou, xu, e6, -, hcu, hxu, hcxu⟩ := hgu m hltm
                                  subst e6
                                  simp only [Value.slice.injEq, true_and] at e5
                                  obtain ⟨rfl, -⟩ := e5
                                  obtain ⟨a4, c4, hv4, -, -, hget4⟩ := HSM2.out.sb.get (n := L) hmx
                                  obtain ⟨b4, o4, x4, e4, -, hc4, hx4, hcx4⟩ := hget4 m hltm
                                  obtain ⟨g7, cap7, hv7, -, h72, ⟨u70, h73⟩, h74, h75⟩ := HSM2.out.at_ (k := m) (by omega)
                                  subst e4
                                  simp only [Value.slice.injEq, Option.some.injEq, Addr.mk.injEq, and_true] at hv4 hv7
                                  obtain ⟨⟨rfl, rfl⟩, -⟩ := hv4
                                  obtain ⟨rfl, -⟩ := hv7
                                  rw [mixL_get hadl (by omega)] at hcx4
                                  rw [Nat.zero_add] at hc4
                                  have HX := Lib.hid hcx4
                                  have HXU := Lib.hid hcxu
                                  have HST := Lib.hid h75
                                  obtain ⟨RS, NS, hS⟩ := run_ar_all Try.prog .add rfl
                                  have hS1 := fun t x y w => (hS t x y w).1
                                  have HSS := Lib.hid (fun t x y w => (hS t x y w).2)
                                  clear hS hcx4 hcxu h75 hget4 hgu h73 hbw
                                  go_wp2_with fail
                                  go_region
                                  generalize hq7 : RS x4 xu _ = r
                                  have hr : cn .f32 r = addF (S.getD m 0) ((rowL css j).getD m 0) := by rw [← hq7, (HSS.out 0 _ _ _).1, HX.out, HXU.out]; rfl
                                  have hlt1 : r < 4294967296 := by rw [← hq7]; exact (HSS.out 0 _ _ _).2
                                  have HR := Lib.hid hr
                                  clear hS1 hq7 hr
                                  go_wp2_with fail
                                  refine ⟨⟨m + 1, by omega, by go_num, ?_, ?_⟩, by simp [intOf]; omega⟩
                                  · show OW _ _ _ _ _
                                    have h1 := (HST.out r hlt1).1
                                    rw [mixL_set hadl (by omega) (show (addL S (rowL css j))[m]? = some (cn .f32 r) by rw [addL_get (s := S) (x := rowL css j) (k := m) (by omega), HR.out])] at h1
                                    exact h1
                                  · exact below_drewN (hbm.trans (show Below wo.heap.size wr (wr.setCell ⟨wo.heap.size, m, none⟩ (.float .f32 r)) from (Below.refl wo.heap.size wr).setCell (Nat.le_refl wo.heap.size) _)) _
                                · obtain rfl : m = L := by omega
                                  go_wp2_with fail
                                  refine ⟨⟨j + 1, by omega, by go_num, ⟨q + 1, by go_num, by omega, ?_⟩, ?_, hbm⟩, by simp [intOf]; omega⟩
                                  · show _ = _
                                    rw [HCN2.out, HCN.out]
                                  · show OW _ _ _ _ _
                                    have h1 := HSM2.out
                                    rw [mixL_all hadl (by omega)] at h1
                                    rw [HSN.out]; exact h1
                            · have HSN := Lib.hid (sumTo_out (css := css) (L := L) (show ¬ gr.getD j 0 = (c : Int) by rw [hxd]; exact hxc))
                              have HCN2 := Lib.hid (cntTo_out (show ¬ gr.getD j 0 = (c : Int) by rw [hxd]; exact hxc))
                              have e1 : (x == (c : Int)) = false := by simp; omega
                              have e2 : (x != (c : Int)) = true := by simp; omega
                              clear hxd
                              go_wp2_with fail
                              refine ⟨⟨j + 1, by omega, by go_num, ⟨q, rfl, by omega, ?_⟩, ?_, hby⟩, by simp [intOf]; omega⟩
                              · show _ = _
                                rw [HCN2.out]; exact HCN.out
                              · show OW _ _ _ _ _
                                rw [HSN.out]; exact HSM.out
                          · obtain rfl : j = css.length := by omega
                            have HSD4 := Lib.hid (HSD3.out.keep hby)
                            have HGO5 := Lib.hid (HGO4.out.keep hby)
                            have hbw : Below w.heap.size w wr := hbz.trans (hby.mono hzz)
                            have hcc : c < cts.length := by omega
                            have hXl : (mixL (newC css cts gr L) cts c).length = C := by rw [mixL_length (newC_length ..), hcl]
                            have hXc : rowL (mixL (newC css cts gr L) cts c) c = rowL cts c := mixL_row (newC_length ..) hcc
                            by_cases hq0 : q = 0
                            · subst hq0
                              have HSAME := Lib.hid (newC_same (css := css) (cts := cts) (L := L) hcc HCN.out.symm)
                              have HCE := Lib.hid (cenN_zero (css := css) (L := L) (old := rowL cts c) HCN.out.symm)
                              go_wp2_with fail
                              go_loopw [21] (fun i wy => i = .int .i64 0 ∧ Hid (SD 26 33 w.heap.size hi wy (.slice (some ⟨gc, 0, none⟩) C capc) (mixL (newC css cts gr L) cts c)) ∧ Hid (GO (Value.int .i64) 2 w.heap.size wy (.slice (some ⟨gg, 0, none⟩) css.length capg) gr) ∧ Below w.heap.size w wy ∧ hi ≤ wy.heap.size) (fun _ _ => 0)
                              case atStart => exact ⟨rfl, HSD4.out, HGO5.out, hbw, by omega⟩
                              case round =>
                                obtain ⟨rfl, HSD6, HGO6, hbv, hhv⟩ := hrel
                                clear HSD4 HGO5 hbw HSM
                                obtain ⟨ac, cc, e7, -, -, hgr7⟩ := HSD6.out.so.ss.get (n := C) (by first | exact hXl | (rw [List.length_set]; exact hXl))
                                obtain ⟨b7, o7, uc, e8, hb7, hc7, hs7⟩ := hgr7 c hltc
                                subst e8
                                simp only [Value.slice.injEq, Option.some.injEq, Addr.mk.injEq, and_true] at e7
                                obtain ⟨⟨rfl, rfl⟩, -⟩ := e7
                                rw [Nat.zero_add] at hc7
                                have HS7 := Lib.hid (show SB wr uc (rowL cts c) by have h1 := hs7; rw [show (mixL (newC css cts gr L) cts c).getD c [] = rowL cts c from hXc] at h1; exact h1)
                                have hL0 : (0 : Int) < (L : Int) := by omega
                                have hcC : (c : Int) < (C : Int) := by omega
                                clear hs7 hgr7
                                cases hf : allFin (rowL cts c)
                                · have HFF := Lib.hid hf
                                  have HQE := Lib.hid (HQB.out c hcc (by rw [HCE.out]; exact hf))
                                  clear hf
                                  go_wp2_with fail
                                  refine (s_l02Finite _ (rowL cts c) _ HS7.out.sl).mono ?_; rintro e w8 ⟨rfl, n8, rfl⟩; rw [HFF.out]
                                  go_wp2_with fail
                                  go_ret3
                                  exact ⟨CE.no _ _ _ _ _ HQE.out, by (repeat (first | with_reducible exact Below.refl _ _ | with_reducible assumption | with_reducible refine below_drewN ?_ _ | with_reducible refine Below.drew ?_ | with_reducible refine Below.alloc ?_ (by first | omega | (simp; omega) | (simp; done) | (simp at *; omega)) _ | with_reducible refine Below.setCell ?_ (by first | omega | (simp; omega) | (simp; done) | (simp at *; omega)) _ | refine Below.trans ?_ (Below.mono (by with_reducible assumption) (by first | omega | (simp; omega) | (simp; done) | (simp at *; omega)))))⟩
                                · have HFF := Lib.hid hf
                                  clear hf
                                  go_wp2_with fail
                                  refine (s_l02Finite _ (rowL cts c) _ HS7.out.sl).mono ?_; rintro e w8 ⟨rfl, n8, rfl⟩; rw [HFF.out]
                                  go_wp2_with fail
                                  refine ⟨⟨c + 1, by omega, by go_num, ?_, ?_, HGO6.out.drewN _, by (repeat (first | with_reducible exact Below.refl _ _ | with_reducible assumption | with_reducible refine below_drewN ?_ _ | with_reducible refine Below.drew ?_ | with_reducible refine Below.alloc ?_ (by first | omega | (simp; omega) | (simp; done) | (simp at *; omega)) _ | with_reducible refine Below.setCell ?_ (by first | omega | (simp; omega) | (simp; done) | (simp at *; omega)) _ | refine Below.trans ?_ (Below.mono (by with_reducible assumption) (by first | omega | (simp; omega) | (simp; done) | (simp at *; omega))))), hhv⟩, by simp [intOf]; omega⟩
                                  · intro d hd
                                    rcases Nat.lt_or_ge d c with h | h
                                    · exact HFD.out d h
                                    · obtain rfl : d = c := by omega
                                      rw [HCE.out]; exact HFF.out
                                  · show SD _ _ _ _ _ _ _
                                    have h1 := HSD6.out.drewN n8
                                    rw [HSAME.out]
                                    exact h1
                            · have hq2 : (0 : Int) < (q : Int) := by omega
                              have hsl : (sumTo css gr (c : Int) L css.length).length = L := sumTo_length ..
                              have hq3 : ¬ cntTo gr (c : Int) css.length = 0 := by rw [← HCN.out]; exact hq0
                              have HSET := Lib.hid (newC_set (css := css) (cts := cts) (L := L) (gs := gr) hcc hq3)
                              have HCE := Lib.hid (cenN_more (css := css) (L := L) (old := rowL cts c) hq3)
                              rw [← HCN.out] at HSET HCE
                              obtain ⟨S, hS⟩ : ∃ S, S = sumTo css gr (c : Int) L css.length := ⟨_, rfl⟩
                              rw [← hS] at HSM HSET HCE hsl
                              have hdl : (divL S (fI (q : Nat))).length = S.length := divL_length ..
                              have hol : (rowL cts c).length = L := HSH.out.2 c (by omega)
                              have hdo : (divL S (fI (q : Nat))).length = (rowL cts c).length := by omega
                              have hX0 : (mixL (newC css cts gr L) cts c).set c (rowL cts c) = mixL (newC css cts gr L) cts c := by rw [← hXc]; exact set_row (by omega)
                              clear hS hq3
                              go_wp2_with fail
                              go_loopw [21] (fun i wy => ∃ m : Nat, m ≤ L ∧ i = .int .i64 (m : Int) ∧ Hid (SD 26 33 w.heap.size hi wy (.slice (some ⟨gc, 0, none⟩) C capc) ((mixL (newC css cts gr L) cts c).set c (mixL (divL S (fI (q : Nat))) (rowL cts c) m))) ∧ Hid (OW 33 wo.heap.size wy (.slice (some ⟨wo.heap.size, 0, none⟩) L L) S) ∧ Hid (GO (Value.int .i64) 2 w.heap.size wy (.slice (some ⟨gg, 0, none⟩) css.length capg) gr) ∧ Below w.heap.size w wy ∧ hi ≤ wy.heap.size) (fun i _ => L - (intOf i).toNat)
                              case atStart => exact ⟨0, Nat.zero_le _, rfl, (by show SD _ _ _ _ _ _ _; rw [mixL_zero, hX0]; exact HSD4.out), HSM.out, HGO5.out, hbw, by omega⟩
                              case round =>
                                obtain ⟨m, hm, rfl, HSD6, HSM6, HGO6, hbv, hhv⟩ := hrel
                                clear HSD4 HGO5 hbw HSM hX0
                                by_cases hltm : m < L
                                · have hY : (mixL (divL S (fI (q : Nat))) (rowL cts c) m).length = L := by rw [mixL_length hdo, hol]
                                  obtain ⟨g7, cap7, gr7, capr7, hv7, h71, h72, h73, h74, h75, ⟨u70, h76⟩, h77, h78⟩ := HSD6.out.row_set (by decide) (c := c) (k := m) (by omega) (by omega)
                                  simp only [Value.slice.injEq, Option.some.injEq, Addr.mk.injEq, and_true] at hv7
                                  obtain ⟨rfl, -, -⟩ := hv7
                                  rw [hY] at h72
                                  obtain ⟨a4, c4, hv4, -, -, hget4⟩ := HSM6.out.sb.get (n := L) hsl
                                  obtain ⟨b4, o4, x4, e4, -, hc4, hx4, hcx4⟩ := hget4 m hltm
                                  subst e4
                                  simp only [Value.slice.injEq, Option.some.injEq, Addr.mk.injEq, and_true] at hv4
                                  obtain ⟨⟨rfl, rfl⟩, -⟩ := hv4
                                  rw [Nat.zero_add] at hc4
                                  have HX := Lib.hid hcx4
                                  have HST := Lib.hid h78
                                  have hmL : (m : Int) < (L : Int) := by omega
                                  have hcC : (c : Int) < (C : Int) := by omega
                                  obtain ⟨RS, NS, hS⟩ := run_ar_all Try.prog .quo rfl
                                  have hS1 := fun t x y w => (hS t x y w).1
                                  have HSS := Lib.hid (fun t x y w => (hS t x y w).2)
                                  clear hS hcx4 h78 hget4
                                  go_wp2_with fail
                                  go_region
                                  generalize hq7 : RS x4 _ _ = r
                                  have hr : cn .f32 r = divF (S.getD m 0) (fI (q : Nat)) := by rw [← hq7, (HSS.out 0 _ _ _).1, HX.out, show cn .f32 (floatOfInt .f32 (q : Int)) = fI (q : Nat) from cn_fI _]; rfl
                                  have hlt1 : r < 4294967296 := by rw [← hq7]; exact (HSS.out 0 _ _ _).2
                                  have HR := Lib.hid hr
                                  clear hS1 hq7 hr
                                  go_wp2_with fail
                                  have hg9 := (HST.out r hlt1).2
                                  refine ⟨⟨m + 1, by omega, by go_num, ?_, ?_, ?_, ?_, ?_⟩, by simp [intOf]; omega⟩
                                  · show SD _ _ _ _ _ _ _
                                    have h1 := (HST.out r hlt1).1
                                    rw [mixL_set hdo (by omega) (show (divL S (fI (q : Nat)))[m]? = some (cn .f32 r) by rw [divL_get (s := S) (d := fI (q : Nat)) (k := m) (by omega), HR.out])] at h1
                                    exact h1.drewN _
                                  · exact OW.drewN (HSM6.out.grown_keep hg9 (fun g hg => by injection hg with hg; omega)) _
                                  · exact GO.drewN (HSD6.out.go_kept ⟨_, _, rfl⟩ (by rw [List.length_set]; omega) h72 (by decide) hg9 HGO6.out) _
                                  · exact below_drewN (hbv.trans ((Below.refl w.heap.size wr).grown hg9 (by have := hbv.size; omega) (fun g hg => by injection hg with hg; omega))) _
                                  · have := hg9.size; simpa using Nat.le_trans hhv this
                                · have hml : L = m := by omega
                                  subst hml
                                  have hall : mixL (divL S (fI (q : Nat))) (rowL cts c) L = divL S (fI (q : Nat)) := mixL_all hdo (by omega)
                                  rw [hall] at HSD6
                                  have hmm : ¬ ((L : Int) < (L : Int)) := by omega
                                  obtain ⟨ac, cc, e7, -, -, hgr7⟩ := HSD6.out.so.ss.get (n := C) (by first | exact hXl | (rw [List.length_set]; exact hXl))
                                  obtain ⟨b7, o7, uc, e8, hb7, hc7, hs7⟩ := hgr7 c hltc
                                  subst e8
                                  simp only [Value.slice.injEq, Option.some.injEq, Addr.mk.injEq, and_true] at e7
                                  obtain ⟨⟨rfl, rfl⟩, -⟩ := e7
                                  rw [Nat.zero_add] at hc7
                                  have HS7 := Lib.hid (show SB wr uc (divL S (fI (q : Nat))) by have h1 := hs7; rw [show ((mixL (newC css cts gr L) cts c).set c (divL S (fI (q : Nat)))).getD c [] = divL S (fI (q : Nat)) by simp [show c < (mixL (newC css cts gr L) cts c).length by omega]] at h1; exact h1)
                                  have hL0 : (0 : Int) < (L : Int) := by omega
                                  have hcC : (c : Int) < (C : Int) := by omega
                                  clear hs7 hgr7
                                  cases hf : allFin (divL S (fI (q : Nat)))
                                  · have HFF := Lib.hid hf
                                    have HQE := Lib.hid (HQB.out c hcc (by rw [HCE.out]; exact hf))
                                    clear hf
                                    go_wp2_with fail
                                    refine (s_l02Finite _ (divL S (fI (q : Nat))) _ HS7.out.sl).mono ?_; rintro e w8 ⟨rfl, n8, rfl⟩; rw [HFF.out]
                                    go_wp2_with fail
                                    go_ret3
                                    exact ⟨CE.no _ _ _ _ _ HQE.out, by (repeat (first | with_reducible exact Below.refl _ _ | with_reducible assumption | with_reducible refine below_drewN ?_ _ | with_reducible refine Below.drew ?_ | with_reducible refine Below.alloc ?_ (by first | omega | (simp; omega) | (simp; done) | (simp at *; omega)) _ | with_reducible refine Below.setCell ?_ (by first | omega | (simp; omega) | (simp; done) | (simp at *; omega)) _ | refine Below.trans ?_ (Below.mono (by with_reducible assumption) (by first | omega | (simp; omega) | (simp; done) | (simp at *; omega)))))⟩
                                  · have HFF := Lib.hid hf
                                    clear hf
                                    go_wp2_with fail
                                    refine (s_l02Finite _ (divL S (fI (q : Nat))) _ HS7.out.sl).mono ?_; rintro e w8 ⟨rfl, n8, rfl⟩; rw [HFF.out]
                                    go_wp2_with fail
                                    refine ⟨⟨c + 1, by omega, by go_num, ?_, ?_, HGO6.out.drewN _, by (repeat (first | with_reducible exact Below.refl _ _ | with_reducible assumption | with_reducible refine below_drewN ?_ _ | with_reducible refine Below.drew ?_ | with_reducible refine Below.alloc ?_ (by first | omega | (simp; omega) | (simp; done) | (simp at *; omega)) _ | with_reducible refine Below.setCell ?_ (by first | omega | (simp; omega) | (simp; done) | (simp at *; omega)) _ | refine Below.trans ?_ (Below.mono (by with_reducible assumption) (by first | omega | (simp; omega) | (simp; done) | (simp at *; omega))))), hhv⟩, by simp [intOf]; omega⟩
                                    · intro d hd
                                      rcases Nat.lt_or_ge d c with h | h
                                      · exact HFD.out d h
                                      · obtain rfl : d = c := by omega
                                        rw [HCE.out]; exact HFF.out
                                    · show SD _ _ _ _ _ _ _
                                      have h1 := HSD6.out.drewN n8
                                      rw [← HSET.out]
                                      exact h1
                      · obtain rfl : c = C := by omega
                        go_wp2_with fail
                        refine ⟨⟨k', by omega, by go_num, ⟨newC css cts gr L, HSHN.out, HQN.out (fun d hd => HFD.out d (by omega)), ?_⟩, hbz, hhz⟩, by first | (simp [intOf]; done) | (simp [intOf]; omega)⟩
                        show SD _ _ _ _ _ _ _
                        have h1 := HSD3.out
                        rw [mixL_all (newC_length ..) (by omega)] at h1
                        exact h1

end Go.Proofs.Ytkkomajokdlkeaa
