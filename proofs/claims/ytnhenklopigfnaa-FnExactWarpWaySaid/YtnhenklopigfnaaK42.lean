/- Contracts: the nearest other part of each part, by the program. -/
import Derived.Test.YtnhenklopigfnaaK41
namespace Go.Proofs.Ytnhenklopigfnaa
set_option linter.unusedSimpArgs false
set_option linter.unusedVariables false
set_option maxRecDepth 100000
set_option maxHeartbeats 4000000
set_option linter.unusedSimpArgs false
set_option linter.unusedVariables false
open Go.RowKit
attribute [local go_sem] run_store_float run_store_complex alloc_drewN setCell_drewN


set_option maxRecDepth 100000 in
set_option maxHeartbeats 8000000 in
theorem i_ProfileOf (v : Value) (cs : List Nat) (long : Int) (w : World) (hv : SB w v cs) :
    Calls Try.prog 54 #[v, .int .i64 long] w fun z w' => PE 27 2 w.heap.size w' z (pfQ cs long) ∧ Below w.heap.size w w' := by
  obtain ⟨ao, c, rfl, hcap, hlen⟩ := hv.sl.slice2
  have HV := Lib.hid hv
  clear hv
  have hdiv : ((cs.length : Int)).tdiv 2 = ((cs.length / 2 : Nat) : Int) := by rw [Int.tdiv_eq_ediv_of_nonneg (by omega)]; omega
  cases hs : series cs
  · have HS := Lib.hid hs
    have HQ := Lib.hid (pfQ_no (cs := cs) (long := long) (by rw [hs]; rfl))
    clear hs hdiv
    go_enter Try.func54, Try.ntmps54
    go_wp2_with (go_at_call 72; refine (i_IsSeries _ cs _ HV.out.sl).mono ?_; rintro e w1 ⟨rfl, n1, rfl⟩; rw [HS.out])
    go_ret3
    exact ⟨PE.no _ _ _ _ HQ.out, by (repeat (first | with_reducible exact Below.refl _ _ | with_reducible assumption | with_reducible refine below_drewN ?_ _ | with_reducible refine Below.drew ?_ | with_reducible refine Below.alloc ?_ (by first | omega | (simp; omega) | (simp; done) | (simp at *; omega)) _ | with_reducible refine Below.setCell ?_ (by first | omega | (simp; omega) | (simp; done) | (simp at *; omega)) _ | refine Below.trans ?_ (Below.mono (by with_reducible assumption) (by first | omega | (simp; omega) | (simp; done) | (simp at *; omega)))))⟩
  · cases hin : inB long 2 ((cs.length / 2 : Nat) : Int)
    · have HS := Lib.hid hs
      have HI := Lib.hid (show inB long 2 ((cs.length : Int) / 2) = false from hin)
      have HQ := Lib.hid (pfQ_no (cs := cs) (long := long) (by rw [hs, hin]; rfl))
      clear hs hin
      go_enter Try.func54, Try.ntmps54
      go_wp2_with (first
        | (go_at_call 72; refine (i_IsSeries _ cs _ HV.out.sl).mono ?_; rintro e w1 ⟨rfl, n1, rfl⟩; rw [HS.out])
        | (go_at_call 113; refine (i_within _ _ _ _).mono ?_; rintro e w2 ⟨rfl, n2, rfl⟩; rw [HI.out]))
      go_ret3
      exact ⟨PE.no _ _ _ _ HQ.out, by (repeat (first | with_reducible exact Below.refl _ _ | with_reducible assumption | with_reducible refine below_drewN ?_ _ | with_reducible refine Below.drew ?_ | with_reducible refine Below.alloc ?_ (by first | omega | (simp; omega) | (simp; done) | (simp at *; omega)) _ | with_reducible refine Below.setCell ?_ (by first | omega | (simp; omega) | (simp; done) | (simp at *; omega)) _ | refine Below.trans ?_ (Below.mono (by with_reducible assumption) (by first | omega | (simp; omega) | (simp; done) | (simp at *; omega)))))⟩
    · have hin2 := (inB_iff _ _ _).1 hin
      obtain ⟨hl1, hl2⟩ := series_len hs
      obtain ⟨L, rfl⟩ := Int.eq_ofNat_of_zero_le (show 0 ≤ long by omega)
      obtain ⟨n, hn⟩ : ∃ n, n = cs.length + 1 - L := ⟨_, rfl⟩
      have hL1 : 2 ≤ L := by omega
      have hL2 : L + n = cs.length + 1 := by omega
      have hL3 : L + L ≤ cs.length := by omega
      have HQB := Lib.hid (fun h => pfQ_bad (cs := cs) (L := L) (by rw [← hn]; exact h))
      have HQY := Lib.hid (fun h => hn ▸ pfQ_yes (cs := cs) (L := L) (by rw [hs, hin]; rfl) (by rw [← hn]; exact h))
      have HS := Lib.hid hs
      have HI := Lib.hid (show inB (L : Int) 2 ((cs.length : Int) / 2) = true from hin)
      clear hs hin hin2 hn
      go_enter Try.func54, Try.ntmps54
      go_wp2_with (first
        | (go_at_call 72; refine (i_IsSeries _ cs _ HV.out.sl).mono ?_; rintro e w1 ⟨rfl, n1, rfl⟩; rw [HS.out])
        | (go_at_call 113; refine (i_within _ _ _ _).mono ?_; rintro e w2 ⟨rfl, n2, rfl⟩; rw [HI.out]))
      clear hdiv
      go_loopw [7, 8] (fun p i wr => ∃ k : Nat, k ≤ n ∧ i = .int .i64 (k : Int) ∧ Hid (pfOk cs L k = true) ∧ Hid (SO 25 27 w.heap.size wr p (pfL cs L k)) ∧ Below w.heap.size w wr) (fun _ i _ => n - (intOf i).toNat)
      case atStart => exact ⟨0, Nat.zero_le _, rfl, rfl, (by show SO _ _ _ _ _ _; first | exact SO.empty _ rfl (Nat.le_refl _) | exact SO.drewN (SO.empty _ rfl (Nat.le_refl _)) _), by (repeat (first | with_reducible exact Below.refl _ _ | with_reducible assumption | with_reducible refine below_drewN ?_ _ | with_reducible refine Below.drew ?_ | with_reducible refine Below.alloc ?_ (by first | omega | (simp; omega) | (simp; done) | (simp at *; omega)) _ | with_reducible refine Below.setCell ?_ (by first | omega | (simp; omega) | (simp; done) | (simp at *; omega)) _ | refine Below.trans ?_ (Below.mono (by with_reducible assumption) (by first | omega | (simp; omega) | (simp; done) | (simp at *; omega)))))⟩
      case round =>
        obtain ⟨k, hk, rfl, HOK, HP, hb⟩ := hrel
        have hz := hb.size
        by_cases hlt : k < n
        · have HSB := Lib.hid (SB.part (HV.out.keep hb) (L := L) (k := k) (by omega) (by omega) hcap)
          have HNQ := Lib.hid (normQ_raw (cutL_series HS.out (L := L) (i := k) (by omega) (by omega)))
          have HLEN := Lib.hid (show (pfL cs L k).length < 1099511627776 by rw [pfL_length]; omega)
          cases hr : (rawQ (cutL cs L k)).2
          · have HR := Lib.hid hr
            have HQ := Lib.hid (HQB.out (pfOk_no hlt hr))
            clear hr
            go_wp2_with (go_at_call 52; (refine (i_NormShape _ (cutL cs L k) _ HSB.out).mono ?_; rintro z w2 ⟨⟨v2, b2, rfl, ho, hb2⟩, hbl⟩; rw [HNQ.out, HR.out] at hb2; (try simp only at hb2); subst hb2; clear ho))
            go_ret3
            exact ⟨PE.no _ _ _ _ HQ.out, by (repeat (first | with_reducible exact Below.refl _ _ | with_reducible assumption | with_reducible refine below_drewN ?_ _ | with_reducible refine Below.drew ?_ | with_reducible refine Below.alloc ?_ (by first | omega | (simp; omega) | (simp; done) | (simp at *; omega)) _ | with_reducible refine Below.setCell ?_ (by first | omega | (simp; omega) | (simp; done) | (simp at *; omega)) _ | refine Below.trans ?_ (Below.mono (by with_reducible assumption) (by first | omega | (simp; omega) | (simp; done) | (simp at *; omega)))))⟩
          · have HR := Lib.hid hr
            have HOK2 := Lib.hid (show pfOk cs L (k + 1) = true by rw [pfOk_succ, HOK.out, hr]; rfl)
            clear hr
            go_wp2_with (first
              | (go_at_call 52; (refine (i_NormShape _ (cutL cs L k) _ HSB.out).mono ?_; rintro z w2 ⟨⟨v2, b2, rfl, ho, hb2⟩, hbl⟩; rw [HNQ.out, HR.out] at ho hb2; simp only [if_true] at ho hb2; subst hb2; obtain ⟨bo2, cc2, rfl, hq2⟩ := ho.sb.sl.slice; clear hq2; have hz2 := hbl.size; have HO := Lib.hid (OW.down ho hz); clear ho))
              | (at_builtin; refine wpList_sapp oneF32S (by decide) w.heap.size u7 _ rfl (SO.alloc (SO.keep HP.out hbl) _) (Value.slice bo2 _ cc2) _ (OW.alloc HO.out _) _ rfl (by simp; done) HLEN.out (by simp; omega) ?_; intro v' w' ho' hg'; have HO' := Lib.hid ho'; clear ho'))
            refine ⟨⟨k + 1, by omega, by go_num, HOK2.out, ?_, ?_⟩, by simp [intOf]; omega⟩
            · show SO _ _ _ _ _ _
              rw [pfL_succ]
              exact HO'.out
            · refine below_of_grown ?_ hg' (by simp; omega) HP.out.own_ge
              (repeat (first | with_reducible exact Below.refl _ _ | with_reducible assumption | with_reducible refine below_drewN ?_ _ | with_reducible refine Below.drew ?_ | with_reducible refine Below.alloc ?_ (by first | omega | (simp; omega) | (simp; done) | (simp at *; omega)) _ | with_reducible refine Below.setCell ?_ (by first | omega | (simp; omega) | (simp; done) | (simp at *; omega)) _ | refine Below.trans ?_ (Below.mono (by with_reducible assumption) (by first | omega | (simp; omega) | (simp; done) | (simp at *; omega)))))
        · obtain rfl : n = k := by omega
          have HQE := Lib.hid (HQY.out HOK.out)
          have HRL := Lib.hid (fun i (hi : i < n) => pfL_rowlen HOK.out hi (by omega))
          obtain ⟨ps, hps⟩ : ∃ ps, ps = pfL cs L n := ⟨_, rfl⟩
          have hpl : ps.length = n := by rw [hps, pfL_length]
          rw [← hps] at HP HQE HRL
          clear HQB HQY hps
          obtain ⟨po, pc, rfl, hpc1, hpc2, hpget⟩ := HP.out.ss.get hpl
          obtain ⟨bp, op, u0, rfl, hbp, -, -⟩ := hpget 0 (by omega)
          have HG := Lib.hid hpget
          clear hpget HP
          obtain ⟨wo, hwo⟩ : ∃ wo, wo = wr := ⟨_, rfl⟩
          subst hwo
          go_wp2_with fail
          go_loopw [11, 12, 60] (fun a b i wx => ∃ k : Nat, k ≤ n ∧ i = .int .i64 (k : Int) ∧ Hid (pfHas ps L n k = true) ∧ Hid (OW 27 wo.heap.size wx a (pfFars ps L n k)) ∧ Hid (GO (Value.int .i64) 2 wo.heap.size wx b (pfAts ps L n k)) ∧ Below wo.heap.size wo wx) (fun _ _ i _ => n - (intOf i).toNat)
          case atStart => exact ⟨0, Nat.zero_le _, rfl, rfl, (by show OW _ _ _ _ _; exact OW.alloc (OW.empty _ _ rfl (Nat.le_refl _)) _), (by show GO _ _ _ _ _ _; exact GO.empty _ _ (by simp) (by simp)), by (repeat (first | with_reducible exact Below.refl _ _ | with_reducible assumption | with_reducible refine below_drewN ?_ _ | with_reducible refine Below.drew ?_ | with_reducible refine Below.alloc ?_ (by first | omega | (simp; omega) | (simp; done) | (simp at *; omega)) _ | with_reducible refine Below.setCell ?_ (by first | omega | (simp; omega) | (simp; done) | (simp at *; omega)) _ | refine Below.trans ?_ (Below.mono (by with_reducible assumption) (by first | omega | (simp; omega) | (simp; done) | (simp at *; omega)))))⟩
          case round =>
            obtain ⟨k, hk, rfl, HH, HN, HA, hbx⟩ := hrel
            have hzx := hbx.size
            by_cases hlt2 : k < n
            · obtain ⟨b1, o1, r1, e1, hbl1, hc1, hs1⟩ := HG.out k hlt2
              simp only [Option.some.injEq, Addr.mk.injEq, and_true] at e1
              obtain ⟨rfl, rfl⟩ := e1
              have hc1' := (hbx.cell (p := ⟨bp, op + k, none⟩) hbl1).trans hc1
              have HS1 := Lib.hid (show SB wr r1 (rowL ps k) from SB.below hs1 hbx (Nat.le_refl _))
              have HLK := Lib.hid (HRL.out k hlt2)
              clear hc1 hs1
              obtain ⟨wy, hwy⟩ : ∃ wy, wy = wr := ⟨_, rfl⟩
              subst hwy
              go_wp2_with fail
              go_loopw [15, 16, 67] (fun bst lst i wz => ∃ j : Nat, j ≤ n ∧ i = .int .i64 (j : Int) ∧ (∃ q : Int, bst = .int .i64 q ∧ Hid (q = (pfNear ps L k j).1)) ∧ (∃ r, lst = .float .f32 r ∧ r < 4294967296 ∧ Hid (cn .f32 r = (pfNear ps L k j).2)) ∧ Below wy.heap.size wy wz) (fun _ _ i _ => n - (intOf i).toNat)
              case atStart => exact ⟨0, Nat.zero_le _, rfl, ⟨_, rfl, rfl⟩, ⟨_, rfl, by omega, cn0⟩, by (repeat (first | with_reducible exact Below.refl _ _ | with_reducible assumption | with_reducible refine below_drewN ?_ _ | with_reducible refine Below.drew ?_ | with_reducible refine Below.alloc ?_ (by first | omega | (simp; omega) | (simp; done) | (simp at *; omega)) _ | with_reducible refine Below.setCell ?_ (by first | omega | (simp; omega) | (simp; done) | (simp at *; omega)) _ | refine Below.trans ?_ (Below.mono (by with_reducible assumption) (by first | omega | (simp; omega) | (simp; done) | (simp at *; omega)))))⟩
              case round =>
                obtain ⟨j, hj, rfl, ⟨q, rfl, HB⟩, ⟨r, rfl, hr, HR⟩, hby⟩ := hrel
                have hzy := hby.size
                have hqr := pfNear_range ps L k j
                rw [← HB.out] at hqr
                by_cases hltj : j < n
                · obtain ⟨b2, o2, r2, e2, hbl2, hc2, hs2⟩ := HG.out j hltj
                  simp only [Option.some.injEq, Addr.mk.injEq, and_true] at e2
                  obtain ⟨rfl, rfl⟩ := e2
                  have hby2 : Below wo.heap.size wo wr := Below.trans hbx (Below.mono hby hzx)
                  have hc2' := (hby2.cell (p := ⟨bp, op + j, none⟩) hbl2).trans hc2
                  have HS2 := Lib.hid (show SB wr r2 (rowL ps j) from SB.below hs2 hby2 (Nat.le_refl _))
                  have HS1' := Lib.hid (SB.below HS1.out hby (Nat.le_refl _))
                  have HLJ := Lib.hid (show (rowL ps k).length = (rowL ps j).length by rw [HLK.out, HRL.out j hltj])
                  have HL96 := Lib.hid (show (rowL ps k).length ≤ 96 by rw [HLK.out]; omega)
                  have i1 : IntKind.i64.wrap ((k : Int) - (j : Int)) = (k : Int) - (j : Int) := by rw [IntKind.wrap_i64]; omega
                  have i2 : IntKind.i64.wrap ((j : Int) - (k : Int)) = (j : Int) - (k : Int) := by rw [IntKind.wrap_i64]; omega
                  clear hc2 hs2 hby2
                  cases hnb : nearB L k j
                  · have hmx : ¬ (max ((k : Int) - (j : Int)) ((j : Int) - (k : Int)) < (L : Int)) := by
                      simp only [nearB, Bool.and_eq_false_iff, decide_eq_false_iff_not] at hnb
                      omega
                    have HNB := Lib.hid hnb
                    clear hnb
                    rcases (show q = -1 ∨ 0 ≤ q by omega) with rfl | hq0
                    · have HT := Lib.hid (pfNear_take HNB.out (ps := ps) (by rw [← HB.out]; rfl))
                      go_wp2_with (go_at_call 103; (refine (i_farOf _ _ (rowL ps k) (rowL ps j) _ HS1'.out HS2.out HLJ.out HL96.out).mono ?_; rintro z w4 ⟨⟨rf, rfl, hf1, hf2⟩, hb4⟩; have HF := Lib.hid hf2; clear hf2))
                      refine ⟨⟨j + 1, by omega, by go_num, ⟨_, rfl, ?_⟩, ⟨_, rfl, hf1, ?_⟩, by (repeat (first | with_reducible exact Below.refl _ _ | with_reducible assumption | with_reducible refine below_drewN ?_ _ | with_reducible refine Below.drew ?_ | with_reducible refine Below.alloc ?_ (by first | omega | (simp; omega) | (simp; done) | (simp at *; omega)) _ | with_reducible refine Below.setCell ?_ (by first | omega | (simp; omega) | (simp; done) | (simp at *; omega)) _ | refine Below.trans ?_ (Below.mono (by with_reducible assumption) (by first | omega | (simp; omega) | (simp; done) | (simp at *; omega)))))⟩, by simp [intOf]; omega⟩
                      · show _ = _
                        rw [HT.out]
                      · show _ = _
                        rw [HT.out]; exact HF.out
                    · obtain ⟨m, rfl⟩ := Int.eq_ofNat_of_zero_le hq0
                      have hq1 : decide ((m : Int) < 0) = false := decide_eq_false (by omega)
                      cases hls : fc .lss .f32 (farL (rowL ps k) (rowL ps j)) (pfNear ps L k j).2
                      · have HLS := Lib.hid hls
                        have HT := Lib.hid (pfNear_leave HNB.out (ps := ps) (by rw [← HB.out, hq1, hls]; rfl))
                        clear hls hq1
                        go_wp2_with (first
                          | (go_at_call 103; (refine (i_farOf _ _ (rowL ps k) (rowL ps j) _ HS1'.out HS2.out HLJ.out HL96.out).mono ?_; rintro z w4 ⟨⟨rf, rfl, hf1, hf2⟩, hb4⟩; have HF := Lib.hid hf2; clear hf2))
                          | (refine wpList_fc_g rfl .f32 _ _ rfl rfl rfl ?_; rw [HF.out, HR.out, HLS.out]))
                        refine ⟨⟨j + 1, by omega, by go_num, ⟨_, rfl, ?_⟩, ⟨_, rfl, hr, ?_⟩, by (repeat (first | with_reducible exact Below.refl _ _ | with_reducible assumption | with_reducible refine below_drewN ?_ _ | with_reducible refine Below.drew ?_ | with_reducible refine Below.alloc ?_ (by first | omega | (simp; omega) | (simp; done) | (simp at *; omega)) _ | with_reducible refine Below.setCell ?_ (by first | omega | (simp; omega) | (simp; done) | (simp at *; omega)) _ | refine Below.trans ?_ (Below.mono (by with_reducible assumption) (by first | omega | (simp; omega) | (simp; done) | (simp at *; omega)))))⟩, by simp [intOf]; omega⟩
                        · show _ = _
                          rw [HT.out]; exact HB.out
                        · show _ = _
                          rw [HT.out]; exact HR.out
                      · have HLS := Lib.hid hls
                        have HT := Lib.hid (pfNear_take HNB.out (ps := ps) (by rw [hls, Bool.or_true]))
                        clear hls hq1
                        go_wp2_with (first
                          | (go_at_call 103; (refine (i_farOf _ _ (rowL ps k) (rowL ps j) _ HS1'.out HS2.out HLJ.out HL96.out).mono ?_; rintro z w4 ⟨⟨rf, rfl, hf1, hf2⟩, hb4⟩; have HF := Lib.hid hf2; clear hf2))
                          | (refine wpList_fc_g rfl .f32 _ _ rfl rfl rfl ?_; rw [HF.out, HR.out, HLS.out]))
                        refine ⟨⟨j + 1, by omega, by go_num, ⟨_, rfl, ?_⟩, ⟨_, rfl, hf1, ?_⟩, by (repeat (first | with_reducible exact Below.refl _ _ | with_reducible assumption | with_reducible refine below_drewN ?_ _ | with_reducible refine Below.drew ?_ | with_reducible refine Below.alloc ?_ (by first | omega | (simp; omega) | (simp; done) | (simp at *; omega)) _ | with_reducible refine Below.setCell ?_ (by first | omega | (simp; omega) | (simp; done) | (simp at *; omega)) _ | refine Below.trans ?_ (Below.mono (by with_reducible assumption) (by first | omega | (simp; omega) | (simp; done) | (simp at *; omega)))))⟩, by simp [intOf]; omega⟩
                        · show _ = _
                          rw [HT.out]
                        · show _ = _
                          rw [HT.out]; exact HF.out
                  · have hmx : max ((k : Int) - (j : Int)) ((j : Int) - (k : Int)) < (L : Int) := by
                      simp only [nearB, Bool.and_eq_true, decide_eq_true_eq] at hnb
                      omega
                    have HT := Lib.hid (pfNear_near (ps := ps) hnb)
                    clear hnb
                    go_wp2_with fail
                    refine ⟨⟨j + 1, by omega, by go_num, ⟨_, rfl, ?_⟩, ⟨_, rfl, hr, ?_⟩, by (repeat (first | with_reducible exact Below.refl _ _ | with_reducible assumption | with_reducible refine below_drewN ?_ _ | with_reducible refine Below.drew ?_ | with_reducible refine Below.alloc ?_ (by first | omega | (simp; omega) | (simp; done) | (simp at *; omega)) _ | with_reducible refine Below.setCell ?_ (by first | omega | (simp; omega) | (simp; done) | (simp at *; omega)) _ | refine Below.trans ?_ (Below.mono (by with_reducible assumption) (by first | omega | (simp; omega) | (simp; done) | (simp at *; omega)))))⟩, by simp [intOf]; omega⟩
                    · show _ = _
                      rw [HT.out]; exact HB.out
                    · show _ = _
                      rw [HT.out]; exact HR.out
                · obtain rfl : n = j := by omega
                  by_cases hq0 : q < 0
                  · have HQ := Lib.hid (HQE.out.trans (pfEnd_has (pfHas_no hlt2 (by rw [← HB.out]; exact hq0))))
                    go_wp2_with fail
                    go_ret3
                    exact ⟨PE.no _ _ _ _ HQ.out, by (repeat (first | with_reducible exact Below.refl _ _ | with_reducible assumption | with_reducible refine below_drewN ?_ _ | with_reducible refine Below.drew ?_ | with_reducible refine Below.alloc ?_ (by first | omega | (simp; omega) | (simp; done) | (simp at *; omega)) _ | with_reducible refine Below.setCell ?_ (by first | omega | (simp; omega) | (simp; done) | (simp at *; omega)) _ | refine Below.trans ?_ (Below.mono (by with_reducible assumption) (by first | omega | (simp; omega) | (simp; done) | (simp at *; omega)))))⟩
                  · have HH2 := Lib.hid (pfHas_succ HH.out (by rw [← HB.out]; omega))
                    have HN2 := Lib.hid (OW.keep HN.out hby)
                    have HA2 := Lib.hid (GO.keep HA.out hby)
                    have HLN := Lib.hid (show (pfFars ps L n k).length < 1099511627776 by rw [pfFars_length]; omega)
                    have HLA := Lib.hid (show (pfAts ps L n k).length + [q].length < 1099511627776 by rw [pfAts_length]; simp; omega)
                    go_wp2_with (first
                      | (at_builtin; (refine wpList_app1 f32s wo.heap.size u11 _ rfl (by first | exact OW.alloc HN2.out _ | exact OW.drewN (OW.alloc HN2.out _) _) _ r rfl (by simp; done) hr HLN.out (by simp; omega) ?_; intro v' w' ho' hg'; have HO' := Lib.hid ho'; have HA3 := Lib.hid (GO.kept (GO.alloc HA2.out _) hg' (GO.ne_ow HN2.out HA2.out (by decide))); have hz' := hg'.size; (try simp only [World.size_alloc, World.heap_drewN] at hz'); have hb' := Below.grown (Below.alloc (Below.trans hbx (Below.mono hby hzx)) (by omega) _) hg' (by simp; omega) HN.out.own_ge; clear ho'))
                      | (at_builtin; (refine wpList_gapp oneI64R (fun _ => rfl) wo.heap.size u12 (pfAts ps L n k) rfl (GO.alloc HA3.out _) [q] _ 1 rfl rfl (by intro i u hu; cases i with | zero => (simp only [List.getElem?_cons_zero, Option.some.injEq] at hu; subst hu; simp) | succ i => simp at hu) HLA.out (by simp; omega) ?_; intro v'' w'' ho'' hg''; have HO'' := Lib.hid ho''; have HN3 := Lib.hid (OW.kept (OW.alloc HO'.out _) hg'' (OW.ne_go HO'.out HA3.out (by decide))); clear ho'')))
                    refine ⟨⟨k + 1, by omega, by go_num, HH2.out, ?_, ?_, ?_⟩, by simp [intOf]; omega⟩
                    · show OW _ _ _ _ _
                      have h1 := HN3.out
                      rw [HR.out, ← pfFars_succ] at h1
                      exact h1
                    · show GO _ _ _ _ _ _
                      have h1 := HO''.out
                      rw [HB.out, ← pfAts_succ] at h1
                      exact h1
                    · exact Below.grown (Below.alloc hb' (by omega) _) hg'' (by simp; omega) HA.out.own_ge
            · obtain rfl : n = k := by omega
              cases hfin : allFin (pfFars ps L n n)
              · have HFN := Lib.hid hfin
                have HQ := Lib.hid (HQE.out.trans (pfEnd_fin hfin))
                clear hfin
                go_wp2_with (go_at_call 86; refine (i_areFinite _ _ _ HN.out.sb.sl).mono ?_; rintro e w5 ⟨rfl, n5, rfl⟩; rw [HFN.out])
                go_ret3
                exact ⟨PE.no _ _ _ _ HQ.out, by (repeat (first | with_reducible exact Below.refl _ _ | with_reducible assumption | with_reducible refine below_drewN ?_ _ | with_reducible refine Below.drew ?_ | with_reducible refine Below.alloc ?_ (by first | omega | (simp; omega) | (simp; done) | (simp at *; omega)) _ | with_reducible refine Below.setCell ?_ (by first | omega | (simp; omega) | (simp; done) | (simp at *; omega)) _ | refine Below.trans ?_ (Below.mono (by with_reducible assumption) (by first | omega | (simp; omega) | (simp; done) | (simp at *; omega)))))⟩
              · have HFN := Lib.hid hfin
                have HQ := Lib.hid (HQE.out.trans (pfEnd_yes HH.out hfin))
                clear hfin
                go_wp2_with (go_at_call 86; refine (i_areFinite _ _ _ HN.out.sb.sl).mono ?_; rintro e w5 ⟨rfl, n5, rfl⟩; rw [HFN.out])
                go_ret3
                refine ⟨?_, by (repeat (first | with_reducible exact Below.refl _ _ | with_reducible assumption | with_reducible refine below_drewN ?_ _ | with_reducible refine Below.drew ?_ | with_reducible refine Below.alloc ?_ (by first | omega | (simp; omega) | (simp; done) | (simp at *; omega)) _ | with_reducible refine Below.setCell ?_ (by first | omega | (simp; omega) | (simp; done) | (simp at *; omega)) _ | refine Below.trans ?_ (Below.mono (by with_reducible assumption) (by first | omega | (simp; omega) | (simp; done) | (simp at *; omega)))))⟩
                rw [HQ.out]
                exact ⟨_, _, _, rfl, OW.drewN (HN.out.down hz) _, GO.drewN (HA.out.down hz) _, rfl⟩

end Go.Proofs.Ytnhenklopigfnaa
