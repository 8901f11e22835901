/- Contracts: centers of groups, by the program. -/
import Derived.Test.YtkkomajokdlkeaaQ30
namespace Go.Proofs.Ytkkomajokdlkeaa
set_option linter.unusedSimpArgs false
set_option linter.unusedVariables false
set_option maxRecDepth 100000
set_option maxHeartbeats 4000000
set_option linter.unusedSimpArgs false
set_option linter.unusedVariables false
open Go.RowKit
attribute [local go_sem] run_store_float run_store_complex alloc_drewN setCell_drewN


set_option maxRecDepth 100000 in
set_option maxHeartbeats 8000000 in
theorem i_CentersOf (v : Value) (css : List (List Nat)) (count rounds : Int) (w : World) (hv : SS w v css) :
    Calls Try.prog 10 #[v, .int .i64 count, .int .i64 rounds] w fun z w' => CE 26 33 2 w.heap.size w' z (ceQ css count rounds) ∧ Below w.heap.size w w' := by
  obtain ⟨ao, cap, rfl, hc1, hc2, hget⟩ := hv.get rfl
  have HV := Lib.hid hv
  have HG := Lib.hid hget
  clear hget hv
  cases hok : listOk css
  · have HOK := Lib.hid hok
    have HQ := Lib.hid (ceQ_no (css := css) (count := count) (rounds := rounds) (by rw [hok]; rfl))
    clear hok
    go_enter Try.func10, Try.ntmps10
    go_wp2_with fail
    refine (i_areShapes _ css _ HV.out).mono ?_; rintro e w1 ⟨rfl, hb1⟩; rw [HOK.out]
    go_wp2_with fail
    go_ret3
    exact ⟨CE.no _ _ _ _ _ HQ.out, by (repeat (first | with_reducible exact Below.refl _ _ | with_reducible assumption | with_reducible refine below_drewN ?_ _ | with_reducible refine Below.drew ?_ | with_reducible refine Below.alloc ?_ (by first | omega | (simp; omega) | (simp; done) | (simp at *; omega)) _ | with_reducible refine Below.setCell ?_ (by first | omega | (simp; omega) | (simp; done) | (simp at *; omega)) _ | refine Below.trans ?_ (Below.mono (by with_reducible assumption) (by first | omega | (simp; omega) | (simp; done) | (simp at *; omega)))))⟩
  · cases hin : inB count 1 (css.length : Int)
    · have HOK := Lib.hid hok
      have HI := Lib.hid hin
      have HQ := Lib.hid (ceQ_no (css := css) (count := count) (rounds := rounds) (by rw [hok, hin]; rfl))
      clear hok hin
      go_enter Try.func10, Try.ntmps10
      go_wp2_with fail
      refine (i_areShapes _ css _ HV.out).mono ?_; rintro e w1 ⟨rfl, hb1⟩; rw [HOK.out]
      go_wp2_with fail
      refine (i_within _ _ _ _).mono ?_; rintro e w2 ⟨rfl, n2, rfl⟩; rw [HI.out]
      go_wp2_with fail
      go_ret3
      exact ⟨CE.no _ _ _ _ _ HQ.out, by (repeat (first | with_reducible exact Below.refl _ _ | with_reducible assumption | with_reducible refine below_drewN ?_ _ | with_reducible refine Below.drew ?_ | with_reducible refine Below.alloc ?_ (by first | omega | (simp; omega) | (simp; done) | (simp at *; omega)) _ | with_reducible refine Below.setCell ?_ (by first | omega | (simp; omega) | (simp; done) | (simp at *; omega)) _ | refine Below.trans ?_ (Below.mono (by with_reducible assumption) (by first | omega | (simp; omega) | (simp; done) | (simp at *; omega)))))⟩
    · cases hin2 : inB rounds 0 32
      · have HOK := Lib.hid hok
        have HI := Lib.hid hin
        have HI2 := Lib.hid hin2
        have HQ := Lib.hid (ceQ_no (css := css) (count := count) (rounds := rounds) (by rw [hok, hin, hin2]; rfl))
        clear hok hin hin2
        go_enter Try.func10, Try.ntmps10
        go_wp2_with fail
        refine (i_areShapes _ css _ HV.out).mono ?_; rintro e w1 ⟨rfl, hb1⟩; rw [HOK.out]
        go_wp2_with fail
        refine (i_within _ _ _ _).mono ?_; rintro e w2 ⟨rfl, n2, rfl⟩; rw [HI.out]
        go_wp2_with fail
        refine (i_within _ _ _ _).mono ?_; rintro e w3 ⟨rfl, n3, rfl⟩; rw [HI2.out]
        go_wp2_with fail
        go_ret3
        exact ⟨CE.no _ _ _ _ _ HQ.out, by (repeat (first | with_reducible exact Below.refl _ _ | with_reducible assumption | with_reducible refine below_drewN ?_ _ | with_reducible refine Below.drew ?_ | with_reducible refine Below.alloc ?_ (by first | omega | (simp; omega) | (simp; done) | (simp at *; omega)) _ | with_reducible refine Below.setCell ?_ (by first | omega | (simp; omega) | (simp; done) | (simp at *; omega)) _ | refine Below.trans ?_ (Below.mono (by with_reducible assumption) (by first | omega | (simp; omega) | (simp; done) | (simp at *; omega)))))⟩
      · have hi1 := (inB_iff _ _ _).1 hin
        have hi2 := (inB_iff _ _ _).1 hin2
        have hl := listOk_len hok
        obtain ⟨C, rfl⟩ := Int.eq_ofNat_of_zero_le (show 0 ≤ count by omega)
        obtain ⟨R, rfl⟩ := Int.eq_ofNat_of_zero_le (show 0 ≤ rounds by omega)
        have hC1 : 1 ≤ C := by omega
        have hC2 : C ≤ css.length := by omega
        have hR2 : R ≤ 32 := by omega
        have hs0 := (series_iff.1 (listOk_row hok (k := 0) (by omega)).1).1
        obtain ⟨L, hL⟩ : ∃ L, L = (headL css).length := ⟨_, rfl⟩
        have hL1 : 1 ≤ L ∧ L ≤ 96 := by rw [hL, head_row]; exact hs0
        have HROW := Lib.hid (show ∀ k, k < css.length → series (rowL css k) = true ∧ (rowL css k).length = L from fun k hk => by rw [hL]; exact listOk_row hok hk)
        have HSHP := Lib.hid (show Shp L C (css.take C) by rw [hL]; exact Shp.take hok hC2)
        have HQ := Lib.hid (show ceQ css (C : Int) (R : Int) = cenP css L R (css.take C) by rw [hL]; exact ceQ_yes hok hC1 hC2 hR2)
        have HOK := Lib.hid hok
        have HI := Lib.hid hin
        have HI2 := Lib.hid hin2
        clear hok hin hin2 hi1 hi2 hs0 hL
        obtain ⟨b0, off0, u0, rfl, hbl0, hc0, hsb0⟩ := HG.out 0 (by omega)
        obtain ⟨a0, cp0, rfl, -, -, -⟩ := hsb0.get (n := L) (HROW.out 0 (by omega)).2
        rw [Nat.add_zero] at hc0
        have h00 : (0 : Int) < (css.length : Int) := by omega
        clear hsb0
        go_enter Try.func10, Try.ntmps10
        go_wp2_with fail
        refine (i_areShapes _ css _ HV.out).mono ?_; rintro e w1 ⟨rfl, hb1⟩; rw [HOK.out]
        have hz1 := hb1.size
        go_wp2_with fail
        refine (i_within _ _ _ _).mono ?_; rintro e w2 ⟨rfl, n2, rfl⟩; rw [HI.out]
        go_wp2_with fail
        refine (i_within _ _ _ _).mono ?_; rintro e w3 ⟨rfl, n3, rfl⟩; rw [HI2.out]
        go_wp2_with fail
        go_loopw [9, 47] (fun p i wr => ∃ k : Nat, k ≤ C ∧ i = .int .i64 (k : Int) ∧ Hid (SD 26 33 w.heap.size wr.heap.size wr p (css.take k)) ∧ Below w.heap.size w wr) (fun _ i _ => C - (intOf i).toNat)
        case atStart => exact ⟨0, Nat.zero_le _, rfl, (by show SD _ _ _ _ _ _ _; rw [List.take_zero]; first | exact SD.empty _ rfl hz1 | exact SD.drewN (SD.empty _ rfl hz1) _), by (repeat (first | with_reducible exact Below.refl _ _ | with_reducible assumption | with_reducible refine below_drewN ?_ _ | with_reducible refine Below.drew ?_ | with_reducible refine Below.alloc ?_ (by first | omega | (simp; omega) | (simp; done) | (simp at *; omega)) _ | with_reducible refine Below.setCell ?_ (by first | omega | (simp; omega) | (simp; done) | (simp at *; omega)) _ | refine Below.trans ?_ (Below.mono (by with_reducible assumption) (by first | omega | (simp; omega) | (simp; done) | (simp at *; omega)))))⟩
        case round =>
          obtain ⟨k, hk, rfl, HP, hb⟩ := hrel
          have hz := hb.size
          by_cases hlt : k < C
          · obtain ⟨b, off, u, e1, hbl, hc, hs⟩ := HG.out k (by omega)
            simp only [Option.some.injEq, Addr.mk.injEq, and_true] at e1
            obtain ⟨rfl, rfl⟩ := e1
            have hc' := (hb.cell (p := ⟨b0, off0 + k, none⟩) hbl).trans hc
            have HS := Lib.hid (show SB wr u (rowL css k) from SB.below hs hb (Nat.le_refl _))
            have HLEN := Lib.hid (show (css.take k).length < 1099511627776 by rw [List.length_take]; omega)
            have hrl := (HROW.out k (by omega)).2
            clear hc hs
            go_wp2_with fail
            refine (f_Clone _ (rowL css k) _ HS.out (by omega) (by omega)).mono ?_; rintro e w4 ⟨⟨u4, rfl, ho4⟩, hb4⟩
            obtain ⟨bo4, cc4, rfl, -⟩ := ho4.sb.sl.slice
            have hz4 := hb4.size
            have HO := Lib.hid ho4
            have HP2 := Lib.hid (HP.out.keep hb4)
            clear ho4 HP hrl
            go_wp2_with (at_builtin; refine wpList_sdapp oneRowsS (by decide) w.heap.size wr.heap.size u9 _ rfl (SD.alloc HP2.out _) hz (Value.slice bo4 _ cc4) _ (OW.alloc HO.out _) _ rfl (by simp; done) HLEN.out (by simp; omega) ?_; intro v' w' ho' hg'; have HO' := Lib.hid ho'; clear ho')
            refine ⟨⟨k + 1, by omega, by go_num, ?_, ?_⟩, by simp [intOf]; omega⟩
            · show SD _ _ _ _ _ _ _
              have h1 := HO'.out
              rw [show css.take (k + 1) = css.take k ++ [rowL css k] by rw [List.take_add_one, List.getElem?_eq_getElem (show k < css.length by omega), rowL_eq (by omega)]; rfl]
              exact h1
            · refine below_of_grown ?_ hg' (by simp; omega) HP2.out.own_ge
              (repeat (first | with_reducible exact Below.refl _ _ | with_reducible assumption | with_reducible refine below_drewN ?_ _ | with_reducible refine Below.drew ?_ | with_reducible refine Below.alloc ?_ (by first | omega | (simp; omega) | (simp; done) | (simp at *; omega)) _ | with_reducible refine Below.setCell ?_ (by first | omega | (simp; omega) | (simp; done) | (simp at *; omega)) _ | refine Below.trans ?_ (Below.mono (by with_reducible assumption) (by first | omega | (simp; omega) | (simp; done) | (simp at *; omega)))))
          · obtain rfl : C = k := by omega
            obtain ⟨gc, capc, rfl, hgc1, hgc2, -⟩ := HP.out.so.at_ (by decide) (k := 0) (by rw [HSHP.out.1]; omega)
            rw [HSHP.out.1] at HP ⊢
            go_wp2_with (refine wpList_gmake (inj := Value.int .i64) oneI64G 0 rfl css.length rfl rfl (by omega) ?_; intro w5 ho hg; have HGR := Lib.hid ho; clear ho)
            have hb5 := hb.grown hg hz (by simp)
            have HP5 := Lib.hid (HP.out.keep (by exact (Below.refl _ _).grown hg (Nat.le_refl _) (by simp)))
            have HGR5 := Lib.hid (GO.down HGR.out hz)
            clear HP HGR hg hb
            have hggz : wr.heap.size < w5.heap.size := (HGR5.out.block _ rfl).2
            obtain ⟨gg, hgg⟩ : ∃ gg, gg = wr.heap.size := ⟨_, rfl⟩
            rw [← hgg] at HGR5 hggz ⊢
            clear hgg
            go_loopw [62] (fun i wx => ∃ k : Nat, k ≤ R ∧ i = .int .i64 (k : Int) ∧ (∃ (cts : List (List Nat)) (gs : List Int), Hid (Shp L C cts) ∧ Hid (ceQ css (C : Int) (R : Int) = cenP css L (R - k) cts) ∧ Hid (SD 26 33 w.heap.size wx.heap.size wx (.slice (some ⟨gc, 0, none⟩) C capc) cts) ∧ gs.length = css.length ∧ Hid (GO (Value.int .i64) 2 w.heap.size wx (.slice (some ⟨gg, 0, none⟩) css.length css.length) gs)) ∧ Below w.heap.size w wx) (fun i _ => R + 1 - (intOf i).toNat)
            case atStart => exact ⟨0, Nat.zero_le _, rfl, ⟨css.take C, List.replicate css.length 0, HSHP.out, HQ.out, HP5.out.now, List.length_replicate, HGR5.out⟩, hb5⟩
            case round =>
              obtain ⟨k, hk, rfl, ⟨cts, gs, HSH, HQC, HSO, hgl, HGO⟩, hbx⟩ := hrel
              have hzx := hbx.size
              clear HP5 HGR5 hb5 HSHP HQ
              have hkR : (k : Int) < (R : Int) + 1 := by omega
              go_wp2_with fail
              go_loopw [67] (fun i wy => ∃ j : Nat, j ≤ css.length ∧ i = .int .i64 (j : Int) ∧ Hid (∀ i, i < j → (nsQ cts (rowL css i)).2.2 = true) ∧ Hid (SD 26 33 w.heap.size wy.heap.size wy (.slice (some ⟨gc, 0, none⟩) C capc) cts) ∧ Hid (GO (Value.int .i64) 2 w.heap.size wy (.slice (some ⟨gg, 0, none⟩) css.length css.length) (mixL (grp css cts) gs j)) ∧ Below w.heap.size w wy) (fun i _ => css.length - (intOf i).toNat)
              case atStart => exact ⟨0, Nat.zero_le _, rfl, (fun i hi => by omega), HSO.out, (by show GO _ _ _ _ _ _; rw [mixL_zero]; exact HGO.out), hbx⟩
              case round =>
                obtain ⟨j, hj, rfl, HNS, HSO2, HGO2, hby⟩ := hrel
                have hzy := hby.size
                have hgl2 : (mixL (grp css cts) gs j).length = css.length := by rw [mixL_length (by rw [grp_length, hgl]), hgl]
                by_cases hltj : j < css.length
                · obtain ⟨b, off, u, e1, hbl, hc, hs⟩ := HG.out j hltj
                  simp only [Option.some.injEq, Addr.mk.injEq, and_true] at e1
                  obtain ⟨rfl, rfl⟩ := e1
                  have hc' := (hby.cell (p := ⟨b0, off0 + j, none⟩) hbl).trans hc
                  have HS := Lib.hid (show SB wr u (rowL css j) from SB.below hs hby (Nat.le_refl _))
                  clear hc hs hbl
                  cases hnn : (nsQ cts (rowL css j)).2.2
                  · have HNN := Lib.hid hnn
                    have HQE := Lib.hid (HQC.out.trans (HSH.out.near_no hC1 hltj (HROW.out j hltj).1 (HROW.out j hltj).2 hnn))
                    clear hnn
                    go_wp2_with fail
                    refine (i_NearestShape _ _ cts (rowL css j) _ HSO2.out.so.ss HS.out).mono ?_; rintro e w6 ⟨⟨n6, r6, b6, rfl, hr6, hn6, hm6, hk6⟩, hb6⟩
                    rw [HNN.out] at hk6
                    subst hk6
                    clear hn6 hm6
                    go_wp2_with fail
                    go_ret3
                    exact ⟨CE.no _ _ _ _ _ HQE.out, by (repeat (first | with_reducible exact Below.refl _ _ | with_reducible assumption | with_reducible refine below_drewN ?_ _ | with_reducible refine Below.drew ?_ | with_reducible refine Below.alloc ?_ (by first | omega | (simp; omega) | (simp; done) | (simp at *; omega)) _ | with_reducible refine Below.setCell ?_ (by first | omega | (simp; omega) | (simp; done) | (simp at *; omega)) _ | refine Below.trans ?_ (Below.mono (by with_reducible assumption) (by first | omega | (simp; omega) | (simp; done) | (simp at *; omega)))))⟩
                  · have HNN := Lib.hid hnn
                    have HGS := Lib.hid (grp_set hgl hltj hnn)
                    clear hnn
                    go_wp2_with fail
                    refine (i_NearestShape _ _ cts (rowL css j) _ HSO2.out.so.ss HS.out).mono ?_; rintro e w6 ⟨⟨n6, r6, b6, rfl, hr6, hn6, hm6, hk6⟩, hb6⟩
                    rw [HNN.out] at hk6
                    subst hk6
                    have HN6 := Lib.hid hn6
                    clear hn6 hm6
                    have HSO3 := Lib.hid (HSO2.out.keep hb6)
                    have HGO3 := Lib.hid (HGO2.out.keep hb6)
                    have hby3 := hby.trans (hb6.mono hzy)
                    have hz6 := hby3.size
                    clear HSO2 HGO2 HS hb6
                    obtain ⟨g7, cap7, hv7, h71, h72, h73, h74, h75⟩ := HGO3.out.at_ (k := j) (by omega)
                    simp only [Value.slice.injEq, Option.some.injEq, Addr.mk.injEq, and_true] at hv7
                    obtain ⟨rfl, -, -⟩ := hv7
                    have h76 : ∃ u0, w6.cell? ⟨gg, j, none⟩ = some u0 := ⟨_, h73⟩
                    obtain ⟨u0', h77⟩ := h76
                    have HST := Lib.hid (h75 n6)
                    clear h73 h75
                    go_wp2_with fail
                    have hgr := HST.out.2
                    refine ⟨⟨j + 1, by omega, by go_num, ?_, ?_, ?_, ?_⟩, by simp [intOf]; omega⟩
                    · intro i hi
                      rcases Nat.lt_or_ge i j with h | h
                      · exact HNS.out i h
                      · obtain rfl : i = j := by omega
                        exact HNN.out
                    · exact (HSO3.out.kept_go HGO3.out (by decide) (by decide) hgr).now
                    · show GO _ _ _ _ _ _
                      have h1 := HST.out.1
                      rw [show (mixL (grp css cts) gs j).set j n6 = mixL (grp css cts) gs (j + 1) by rw [HN6.out, HGS.out]] at h1
                      exact h1
                    · exact hby3.trans (Below.setCell (Below.refl _ _) (by omega) _)
                · obtain rfl : j = css.length := by omega
                  obtain ⟨hlo, hgo⟩ := nears_ok HNS.out (by omega)
                  have HGO3 := Lib.hid (show GO (Value.int .i64) 2 w.heap.size wr (.slice (some ⟨gg, 0, none⟩) css.length css.length) (grp css cts) by have h1 := HGO2.out; rw [mixL_all (by rw [grp_length, hgl]) (by omega)] at h1; exact h1)
                  clear HGO2 hgl2 HNS
                  by_cases hkr : k = R
                  · subst hkr
                    have e : ((k : Int) == (k : Int)) = true := by simp
                    have HQE := Lib.hid (show ceQ css (C : Int) (k : Int) = (cts, grp css cts, true) by rw [HQC.out, Nat.sub_self]; exact cenP_end hlo hgo)
                    have HANY := Lib.hid (listOk_any hlo)
                    clear hlo hgo
                    go_wp2_with fail
                    refine (i_ContainsC _ cts _ HSO2.out.so.ss).mono ?_; rintro e w7 ⟨rfl, n7, rfl⟩; rw [HANY.out]
                    go_wp2_with fail
                    go_ret3
                    refine ⟨?_, by (repeat (first | with_reducible exact Below.refl _ _ | with_reducible assumption | with_reducible refine below_drewN ?_ _ | with_reducible refine Below.drew ?_ | with_reducible refine Below.alloc ?_ (by first | omega | (simp; omega) | (simp; done) | (simp at *; omega)) _ | with_reducible refine Below.setCell ?_ (by first | omega | (simp; omega) | (simp; done) | (simp at *; omega)) _ | refine Below.trans ?_ (Below.mono (by with_reducible assumption) (by first | omega | (simp; omega) | (simp; done) | (simp at *; omega)))))⟩
                    rw [HQE.out]
                    exact ⟨_, _, _, rfl, SD.drewN HSO2.out _, GO.drewN HGO3.out _, rfl⟩
                  · have e : ((k : Int) == (R : Int)) = false := by simp; omega
                    have HQE := Lib.hid (show ceQ css (C : Int) (R : Int) = cenP css L (R - (k + 1)) (newC css cts (grp css cts) L) by rw [HQC.out, show R - k = R - (k + 1) + 1 by omega]; exact cenP_next HSH.out hL1 ⟨hC1, by omega⟩ hlo hgo)
                    have HSHN := Lib.hid (HSH.out.new (css := css) (gs := grp css cts))
                    have hcl := HSH.out.1
                    obtain ⟨gr, hgr⟩ : ∃ gr, gr = grp css cts := ⟨_, rfl⟩
                    have hgrl : gr.length = css.length := by rw [hgr, grp_length]
                    rw [← hgr] at HGO3 HQE HSHN
                    clear hlo hgo HQC HSO HGO
                    go_wp2_with fail
                    go_loopw [91] (fun i wy => ∃ c : Nat, c ≤ C ∧ i = .int .i64 (c : Int) ∧ Hid (SD 26 33 w.heap.size wy.heap.size wy (.slice (some ⟨gc, 0, none⟩) C capc) (mixL (newC css cts gr L) cts c)) ∧ Hid (GO (Value.int .i64) 2 w.heap.size wy (.slice (some ⟨gg, 0, none⟩) css.length css.length) gr) ∧ Below w.heap.size w wy) (fun i _ => C - (intOf i).toNat)
                    case atStart => exact ⟨0, Nat.zero_le _, rfl, (by show SD _ _ _ _ _ _ _; rw [mixL_zero]; exact HSO2.out), HGO3.out, hby⟩
                    case round =>
                      obtain ⟨c, hc, rfl, HSO3, HGO4, hbz⟩ := hrel
                      have hzz := hbz.size
                      clear HSO2 HGO3
                      by_cases hltc : c < C
                      · have hc0' := (hbz.cell (p := ⟨b0, off0, none⟩) hbl0).trans hc0
                        go_wp2_with (refine wpList_make32 f32s L rfl rfl (by omega) ?_; intro w6 ho hg; have HSU := Lib.hid ho; clear ho)
                        obtain ⟨wo, hwo⟩ : ∃ wo, wo = wr := ⟨_, rfl⟩
                        subst hwo
                        have hbS : Below wo.heap.size wo w6 := (Below.refl _ _).grown hg (Nat.le_refl _) (by simp)
                        have hzS : wo.heap.size < w6.heap.size := (HSU.out.block _ rfl).2
                        clear hg hc0'
                        go_loopw [21, 101] (fun th i wy => ∃ j : Nat, j ≤ css.length ∧ i = .int .i64 (j : Int) ∧ (∃ q : Nat, th = .int .i64 (q : Int) ∧ q ≤ j ∧ Hid (q = cntTo gr (c : Int) j)) ∧ Hid (OW 33 wo.heap.size wy (.slice (some ⟨wo.heap.size, 0, none⟩) L L) (sumTo css gr (c : Int) L j)) ∧ Below wo.heap.size wo wy) (fun _ i _ => css.length - (intOf i).toNat)
                        case atStart => exact ⟨0, Nat.zero_le _, rfl, ⟨0, rfl, Nat.le_refl _, rfl⟩, HSU.out, hbS⟩
                        case round =>
                          obtain ⟨j, hj, rfl, ⟨q, rfl, hq, HCN⟩, HSM, hby⟩ := hrel
                          have hzy2 := hby.size
                          clear HSU hbS hzS
                          by_cases hltj : j < css.length
                          · obtain ⟨b, off, u, e1, hbl, hcu, hs⟩ := HG.out j hltj
                            simp only [Option.some.injEq, Addr.mk.injEq, and_true] at e1
                            obtain ⟨rfl, rfl⟩ := e1
                            have hbw : Below w.heap.size w wr := hbz.trans (hby.mono hzz)
                            have hc' := (hbw.cell (p := ⟨b0, off0 + j, none⟩) hbl).trans hcu
                            have hs : SB w u (rowL css j) := hs
                            obtain ⟨au, cu, rfl, -, -, -⟩ := hs.get (n := L) (HROW.out j hltj).2
                            have HS := Lib.hid hs
                            obtain ⟨g8, cap8, hv8, -, h82, h83, -, -⟩ := HGO4.out.at_ (k := j) (by omega)
                            simp only [Value.slice.injEq, Option.some.injEq, Addr.mk.injEq, and_true] at hv8
                            obtain ⟨rfl, -, -⟩ := hv8
                            have hcg := (hby.cell (p := ⟨gg, j, none⟩) h82).trans h83
                            obtain ⟨x, hx⟩ : ∃ x, x = gr[j]'(by omega) := ⟨_, rfl⟩
                            rw [← hx] at hcg
                            have hxd : gr.getD j 0 = x := by rw [hx]; simp [hgrl, hltj]
                            clear hcu hs hbl h82 h83 hx
                            by_cases hxc : x = (c : Int)
                            · subst hxc
                              have HSN := Lib.hid (sumTo_in (css := css) (L := L) hxd)
                              have HCN2 := Lib.hid (cntTo_in hxd)
                              clear hxd
                              have hsl : (sumTo css gr (c : Int) L j).length = L := sumTo_length ..
                              obtain ⟨S, hS⟩ : ∃ S, S = sumTo css gr (c : Int) L j := ⟨_, rfl⟩
                              rw [← hS] at HSM HSN hsl
                              clear hS
                              have hadl : (addL S (rowL css j)).length = S.length := addL_length ..
                              go_wp2_with fail
                              go_loopw [116] (fun i wy => ∃ m : Nat, m ≤ L ∧ i = .int .i64 (m : Int) ∧ Hid (OW 33 wo.heap.size wy (.slice (some ⟨wo.heap.size, 0, none⟩) L L) (mixL (addL S (rowL css j)) S m)) ∧ Below wo.heap.size wo wy) (fun i _ => L - (intOf i).toNat)
                              case atStart => exact ⟨0, Nat.zero_le _, rfl, (by show OW _ _ _ _ _; rw [mixL_zero]; exact HSM.out), hby⟩
                              case round =>
                                obtain ⟨m, hm, rfl, HSM2, hbm⟩ := hrel
                                have hzm := hbm.size
                                have hmx : (mixL (addL S (rowL css j)) S m).length = L := by rw [mixL_length hadl, hsl]
                                clear HSM hbw hc' hcg
                                by_cases hltm : m < L
                                · obtain ⟨au', cu', e5, -, -, hgu⟩ := (HS.out.below (hbz.trans (hbm.mono hzz)) (Nat.le_refl _)).get (n := L) (HROW.out j hltj).2
                                  obtain ⟨bu, ou, xu, e6, -, hcu, hxu, hcxu⟩ := hgu m hltm
                                  subst e6
                                  simp only [Value.slice.injEq, true_and] at e5
                                  obtain ⟨rfl, -⟩ := e5
                                  obtain ⟨a4, c4, hv4, -, -, hget4⟩ := HSM2.out.sb.get (n := L) hmx
                                  obtain ⟨b4, o4, x4, e4, -, hc4, hx4, hcx4⟩ := hget4 m hltm
                                  obtain ⟨g7, cap7, hv7, -, h72, ⟨u70, h73⟩, h74, h75⟩ := HSM2.out.at_ (k := m) (by omega)
                                  subst e4
                                  simp only [Value.slice.injEq, Option.some.injEq, Addr.mk.injEq, and_true] at hv4 hv7
                                  obtain ⟨⟨rfl, rfl⟩, -⟩ := hv4
                                  obtain ⟨rfl, -⟩ := hv7
                                  rw [mixL_get hadl (by omega)] at hcx4
                                  rw [Nat.zero_add] at hc4
                                  have HX := Lib.hid hcx4
                                  have HXU := Lib.hid hcxu
                                  have HST := Lib.hid h75
                                  clear hcx4 hcxu h75 hget4 hgu h73
                                  go_wp2_with (refine wpList_ar .f32 _ _ rfl rfl rfl ?_; intro r n hr hlt1)
                                  refine ⟨⟨m + 1, by omega, by go_num, ?_, ?_⟩, by simp [intOf]; omega⟩
                                  · show OW _ _ _ _ _
                                    have h1 := (HST.out r hlt1).1
                                    rw [mixL_set hadl (by omega) (show (addL S (rowL css j))[m]? = some (cn .f32 r) by rw [addL_get (s := S) (x := rowL css j) (k := m) (by omega), hr, HX.out, HXU.out]; rfl)] at h1
                                    exact h1
                                  · exact below_drewN (hbm.trans (show Below wo.heap.size wr (wr.setCell ⟨wo.heap.size, m, none⟩ (.float .f32 r)) from (Below.refl wo.heap.size wr).setCell (Nat.le_refl wo.heap.size) _)) _
                                · obtain rfl : m = L := by omega
                                  go_wp2_with fail
                                  refine ⟨⟨j + 1, by omega, by go_num, ⟨q + 1, by go_num, by omega, ?_⟩, ?_, hbm⟩, by simp [intOf]; omega⟩
                                  · show _ = _
                                    rw [HCN2.out, HCN.out]
                                  · show OW _ _ _ _ _
                                    have h1 := HSM2.out
                                    rw [mixL_all hadl (by omega)] at h1
                                    rw [HSN.out]; exact h1
                            · have HSN := Lib.hid (sumTo_out (css := css) (L := L) (show ¬ gr.getD j 0 = (c : Int) by rw [hxd]; exact hxc))
                              have HCN2 := Lib.hid (cntTo_out (show ¬ gr.getD j 0 = (c : Int) by rw [hxd]; exact hxc))
                              have e1 : (x == (c : Int)) = false := by simp; omega
                              have e2 : (x != (c : Int)) = true := by simp; omega
                              clear hxd
                              go_wp2_with fail
                              refine ⟨⟨j + 1, by omega, by go_num, ⟨q, rfl, by omega, ?_⟩, ?_, hby⟩, by simp [intOf]; omega⟩
                              · show _ = _
                                rw [HCN2.out]; exact HCN.out
                              · show OW _ _ _ _ _
                                rw [HSN.out]; exact HSM.out
                          · obtain rfl : j = css.length := by omega
                            have HSO4 := Lib.hid (HSO3.out.keep hby)
                            have HGO5 := Lib.hid (HGO4.out.keep hby)
                            have hbw : Below w.heap.size w wr := hbz.trans (hby.mono hzz)
                            by_cases hq0 : q = 0
                            · subst hq0
                              have HSAME := Lib.hid (newC_same (css := css) (cts := cts) (L := L) (show c < cts.length by omega) HCN.out.symm)
                              go_wp2_with fail
                              refine ⟨⟨c + 1, by omega, by go_num, ?_, HGO5.out, hbw⟩, by simp [intOf]; omega⟩
                              show SD _ _ _ _ _ _ _
                              rw [HSAME.out]; exact HSO4.out.now
                            · have hq1 : ((q : Int) == 0) = false := by simp; omega
                              have hsl : (sumTo css gr (c : Int) L css.length).length = L := sumTo_length ..
                              have HSET := Lib.hid (newC_set (css := css) (cts := cts) (L := L) (gs := gr) (show c < cts.length by omega) (by rw [← HCN.out]; exact hq0))
                              rw [← HCN.out] at HSET
                              obtain ⟨S, hS⟩ : ∃ S, S = sumTo css gr (c : Int) L css.length := ⟨_, rfl⟩
                              rw [← hS] at HSM HSET hsl
                              have hdl : (divL S (fI (q : Nat))).length = S.length := divL_length ..
                              clear hS
                              go_wp2_with fail
                              go_loopw [136] (fun i wy => ∃ m : Nat, m ≤ L ∧ i = .int .i64 (m : Int) ∧ Hid (OW 33 wo.heap.size wy (.slice (some ⟨wo.heap.size, 0, none⟩) L L) (mixL (divL S (fI (q : Nat))) S m)) ∧ Below wo.heap.size wo wy) (fun i _ => L - (intOf i).toNat)
                              case atStart => exact ⟨0, Nat.zero_le _, rfl, (by show OW _ _ _ _ _; rw [mixL_zero]; exact HSM.out), hby⟩
                              case round =>
                                obtain ⟨m, hm, rfl, HSM2, hbm⟩ := hrel
                                have hzm := hbm.size
                                have hmx : (mixL (divL S (fI (q : Nat))) S m).length = L := by rw [mixL_length hdl, hsl]
                                clear HSM hbw HSO4 HGO5
                                by_cases hltm : m < L
                                · obtain ⟨a4, c4, hv4, -, -, hget4⟩ := HSM2.out.sb.get (n := L) hmx
                                  obtain ⟨b4, o4, x4, e4, -, hc4, hx4, hcx4⟩ := hget4 m hltm
                                  obtain ⟨g7, cap7, hv7, -, h72, ⟨u70, h73⟩, h74, h75⟩ := HSM2.out.at_ (k := m) (by omega)
                                  subst e4
                                  simp only [Value.slice.injEq, Option.some.injEq, Addr.mk.injEq, and_true] at hv4 hv7
                                  obtain ⟨⟨rfl, rfl⟩, -⟩ := hv4
                                  obtain ⟨rfl, -⟩ := hv7
                                  rw [mixL_get hdl (by omega)] at hcx4
                                  rw [Nat.zero_add] at hc4
                                  have HX := Lib.hid hcx4
                                  have HST := Lib.hid h75
                                  clear hcx4 h75 hget4 h73
                                  go_wp2_with (refine wpList_ar .f32 _ _ rfl rfl rfl ?_; intro r n hr hlt1)
                                  refine ⟨⟨m + 1, by omega, by go_num, ?_, ?_⟩, by simp [intOf]; omega⟩
                                  · show OW _ _ _ _ _
                                    have h1 := (HST.out r hlt1).1
                                    rw [mixL_set hdl (by omega) (show (divL S (fI (q : Nat)))[m]? = some (cn .f32 r) by rw [divL_get (s := S) (d := fI (q : Nat)) (k := m) (by omega), hr, HX.out, show cn .f32 (floatOfInt .f32 (q : Int)) = fI (q : Nat) from cn_fI _]; rfl)] at h1
                                    exact h1
                                  · exact below_drewN (hbm.trans (show Below wo.heap.size wr (wr.setCell ⟨wo.heap.size, m, none⟩ (.float .f32 r)) from (Below.refl wo.heap.size wr).setCell (Nat.le_refl wo.heap.size) _)) _
                                · obtain rfl : m = L := by omega
                                  have HSO4 := Lib.hid (HSO3.out.keep hbm)
                                  have HGO5 := Lib.hid (HGO4.out.keep hbm)
                                  have hbw : Below w.heap.size w wr := hbz.trans (hbm.mono hzz)
                                  obtain ⟨g9, cap9, hv9, h91, h92, ⟨u90, h93⟩, h94, h95⟩ := HSO4.out.at_ (by decide) hzz (k := c) (by rw [mixL_length (newC_length ..)]; omega)
                                  simp only [Value.slice.injEq, Option.some.injEq, Addr.mk.injEq, and_true] at hv9
                                  obtain ⟨rfl, -, -⟩ := hv9
                                  have hdd := HSM2.out
                                  rw [mixL_all hdl (by omega)] at hdd
                                  have HST := Lib.hid (h95 _ _ hdd)
                                  clear hdd h95 HSM2
                                  go_wp2_with fail
                                  refine ⟨⟨c + 1, by omega, by go_num, ?_, ?_, ?_⟩, by simp [intOf]; omega⟩
                                  · show SD _ _ _ _ _ _ _
                                    have h1 := HST.out.1
                                    rw [HSET.out] at h1
                                    exact h1
                                  · exact GO.kept_so HSO4.out.so HGO5.out (by decide) HST.out.2
                                  · exact hbw.trans (Below.setCell (Below.refl _ _) (by omega) _)
                      · obtain rfl : c = C := by omega
                        have HSO4 := Lib.hid HSO3.out
                        go_wp2_with fail
                        refine ⟨⟨k + 1, by omega, by go_num, ⟨newC css cts gr L, gr, HSHN.out, HQE.out, ?_, hgrl, HGO4.out⟩, hbz⟩, by simp [intOf]; omega⟩
                        show SD _ _ _ _ _ _ _
                        have h1 := HSO3.out
                        rw [mixL_all (newC_length ..) (by omega)] at h1
                        exact h1

end Go.Proofs.Ytkkomajokdlkeaa
