/- Contracts: all costs of warped ways, by the program. -/
import Derived.Test.YtkkomajokdlkeaaQ10
import Derived.Test.YtkkomajokdlkeaaQ25
namespace Go.Proofs.Ytkkomajokdlkeaa
set_option linter.unusedSimpArgs false
set_option linter.unusedVariables false
set_option maxRecDepth 100000
set_option maxHeartbeats 4000000
open Go.RowKit
attribute [local go_sem] run_store_float run_store_complex alloc_drewN setCell_drewN
theorem cn32_raw {r c : Nat} (h : cn .f32 r = c) (hc : (S.read c).isNaN = false) : r = c := by
  cases hr : (FloatKind.f32.format.read r).isNaN
  · rw [← h, cn_of_not hr]
  · rw [cn_of_nan hr] at h
    rw [← h] at hc
    have h2 : (S.read (qnan .f32)).isNaN = true := qnan_isNaN .f32
    rw [h2] at hc; cases hc
theorem szI_notNaN {x : Nat} (h : x < 4294967296) (hn : (S.read x).isNaN = false) : (S.read (szI x)).isNaN = false := by
  unfold szI
  rcases mx_or x (Op.negFloat .f32 x) with e | e | e
  · rw [e]; exact hn
  · rw [e]; exact negw_notNaN h hn
  · rw [e]; decide +kernel
theorem BK.grownW {w w' : World} {p : Nat} {vs : List Value} {r : Option Nat} (h : BK w p vs) (hg : w.grownBy w' r) (hr : r ≠ some p) : BK w' p vs := by
  have hb := hg.block p h.lt (fun e => hr e.symm)
  refine ⟨Nat.lt_of_lt_of_le h.lt hg.size, fun i hi => (World.cell?_of_block hb).trans (h.cells i hi), fun i => ?_⟩
  have h1 := h.fro i
  simp only [World.frozen?, hb] at h1 ⊢
  exact h1

theorem storeWS (p j : Nat) (a : Option Addr) (b c : Nat) : ∀ w, (Instr.storeAt 26 (.pointer (some ⟨p, j, none⟩)) (.slice a b c)).run Try.prog w = (store ⟨p, j, none⟩ (.slice a b c) .plain).run Try.prog w := by intro w; go_simp
theorem storeWA (p j : Nat) (a : Option Addr) (b c : Nat) (i : Int) : ∀ w, (Instr.storeAt 126 (.pointer (some ⟨p, j, none⟩)) (.agg [.slice a b c, .int .i64 i].toArray)).run Try.prog w = (storeCells ⟨p, j, none⟩ [.slice a b c, .int .i64 i] 0).run Try.prog w := by intro w; go_simp
theorem f32sW : F32s Try.prog 26 33 := f32s_of Try.underlying26 (by kernel_rfl)
set_option maxRecDepth 100000 in
theorem i_warped (u v : Value) (cs ds : List Nat) (window : Int) (w : World) (hu : SB w u cs) (hv : SB w v ds) (hc : allFin cs = true) (hd : allFin ds = true) (hc1 : 1 ≤ cs.length) (hc2 : cs.length ≤ 96) (hd1 : 1 ≤ ds.length) (hd2 : ds.length ≤ 96) :
    Calls Try.prog 148 #[u, v, .int .i64 window] w fun e w' => (∃ s, e = .returned (.agg #[s, .int .i64 ds.length]) ∧ OW 33 w.heap.size w' s (wpC szI geI cs ds window)) ∧ Below w.heap.size w w' := by
  obtain ⟨ao, c, rfl, -, -, hgu⟩ := hu.get rfl
  obtain ⟨bo, d, rfl, -, -, hgv⟩ := hv.get rfl
  have HGU := Lib.hid hgu
  have HGV := Lib.hid hgv
  have HFC := Lib.hid hc
  have HFD := Lib.hid hd
  clear hgu hgv hu hv hc hd
  go_enter Try.func148, Try.ntmps148
  go_wp2_with fail
  go_loopw [21] (fun i wr => ∃ (n : Nat) (s : Value), n ≤ cs.length ∧ i = .int .i64 (n : Int) ∧ Hid (BK wr (w.heap.size + 1) [s, .int .i64 ds.length]) ∧ Hid (BK wr w.heap.size [.slice none 0 0, .int .i64 0]) ∧ Hid (OW 33 (w.heap.size + 2) wr s (wList szI geI window cs ds (n * ds.length))) ∧ Below w.heap.size w wr) (fun i _ => cs.length - (intOf i).toNat)
  case atStart => exact ⟨0, _, Nat.zero_le _, rfl, Lib.hid (BK.newAtW _ _ _ (by simp)), Lib.hid (BK.alloc (BK.newAtW _ _ _ rfl) _), Lib.hid (by rw [Nat.zero_mul]; exact OW.nil ..), by (repeat (first | with_reducible exact Below.refl _ _ | with_reducible assumption | with_reducible refine below_drewN ?_ _ | with_reducible refine Below.drew ?_ | with_reducible refine Below.alloc ?_ (by first | omega | (simp; omega) | (simp; done) | (simp at *; omega)) _ | with_reducible refine Below.setCell ?_ (by first | omega | (simp; omega) | (simp; done) | (simp at *; omega)) _ | refine Below.trans ?_ (Below.mono (by with_reducible assumption) (by first | omega | (simp; omega) | (simp; done) | (simp at *; omega)))))⟩
  case round =>
    obtain ⟨n, s, hn, rfl, HB, HA, HO, hb⟩ := hrel
    have hz := hb.size
    by_cases hlt : n < cs.length
    · obtain ⟨b1, o1, x, rfl, hbl1, hcx, hx, hcx2⟩ := HGU.out n hlt
      have hc1' := (hb.cell (p := ⟨b1, o1 + n, none⟩) hbl1).trans hcx
      have HX := Lib.hid hcx2
      clear hcx hcx2
      have HO0 := Lib.hid (show OW 33 (w.heap.size + 2) wr s (wList szI geI window cs ds (n * ds.length + 0)) from HO.out)
      obtain ⟨wo, hwo⟩ : ∃ wo, wo = wr := ⟨_, rfl⟩
      subst hwo
      go_wp2_with fail
      go_loopw [28] (fun k wr => ∃ (m : Nat) (s : Value), m ≤ ds.length ∧ k = .int .i64 (m : Int) ∧ Hid (BK wr (w.heap.size + 1) [s, .int .i64 ds.length]) ∧ Hid (BK wr w.heap.size [.slice none 0 0, .int .i64 0]) ∧ Hid (OW 33 (w.heap.size + 2) wr s (wList szI geI window cs ds (n * ds.length + m))) ∧ Below w.heap.size w wr) (fun k _ => ds.length - (intOf k).toNat)
      case atStart => exact ⟨0, s, Nat.zero_le _, rfl, HB, HA, HO0, hb⟩
      case round =>
        clear HB HA HO HO0 hb hz hc1'
        obtain ⟨m, s, hm, rfl, HB, HA, HO, hb⟩ := hrel
        have hz := hb.size
        by_cases hlt2 : m < ds.length
        · obtain ⟨b2, o2, y, rfl, hbl2, hcy, hy, hcy2⟩ := HGV.out m hlt2
          have hc2' := (hb.cell (p := ⟨b2, o2 + m, none⟩) hbl2).trans hcy
          have HY := Lib.hid hcy2
          clear hcy hcy2
          obtain ⟨D, hD⟩ : ∃ D, D = subF (cs.getD n 0) (ds.getD m 0) := ⟨_, rfl⟩
          have HD := Lib.hid hD
          have HNN := Lib.hid (show (S.read D).isNaN = false by rw [hD]; exact subF_notNaN (fin_getD HFC.out n) (fin_getD HFD.out m))
          have HDL := Lib.hid (show D < 4294967296 by rw [hD]; exact ar_lt _ _ _)
          clear hD
          have hwn : IntKind.i64.wrap ((n : Int) + (m : Int)) = (n : Int) + (m : Int) := by rw [IntKind.wrap_i64]; omega
          have HWL := Lib.hid (wList_at (sz := szI) (ge := geI) (window := window) (cs := cs) (ds := ds) (i := n) (k := m) rfl hlt2)
          rw [← HD.out] at HWL
          have HLL := Lib.hid (wList_length szI geI window cs ds (n * ds.length + m))
          have hnm : n * ds.length ≤ 96 * 96 := Nat.mul_le_mul (by omega) hd2
          go_wp2_with (first | (refine wpList_ar .f32 _ _ rfl rfl rfl ?_; intro r nr hr hrlt; obtain rfl : r = D := cn32_raw (by rw [hr, HX.out, HY.out]; exact HD.out.symm) HNN.out; clear hr hrlt))
          refine (i_absoluteN r HNN.out HDL.out _).mono ?_; rintro z w1 ⟨rfl, hd1⟩
          have HB1 := Lib.hid ((BK.drewN HB.out nr).keep (hd1.below _))
          have HA1 := Lib.hid ((BK.drewN HA.out nr).keep (hd1.below _))
          have HO1 := Lib.hid ((OW.drewN HO.out nr).keep (hd1.below _))
          have hb1 : Below w.heap.size w w1 := (below_drewN hb nr).trans (hd1.below _)
          have hz1 := hb1.size
          have HQC := Lib.hid (cn_of_not (k := .f32) (szI_notNaN HDL.out HNN.out))
          have HQL := Lib.hid (show szI r < 4294967296 from (mx_lt HDL.out (negw_mod HDL.out).1))
          generalize szI r = q at *
          clear hd1 HB HA HO hb hz
          have hca := HB1.out.cells
          have hfb := HB1.out.fro
          have hlb := HB1.out.lt
          by_cases h0 : n + m = 0
          · have HCO := Lib.hid (show cn .f32 q = wCost geI window (wList szI geI window cs ds (n * ds.length + m)) ds.length n m q by rw [HQC.out]; unfold wCost; rw [if_pos h0])
            go_wp2_with (first
              | (at_builtin; refine wpList_app1 f32sW (w.heap.size + 2) _ _ rfl (OW.alloc HO1.out _) _ _ rfl (by simp; rfl) (by first | exact HQL.out | decide | assumption) (by rw [HLL.out]; omega) (by simp; omega) ?_; intro s3 w3 ho3 hg3; obtain ⟨so3, sc3, hs3, -⟩ := ho3.sb.sl.slice; subst hs3; have HO3 := Lib.hid ho3; have HB3 := Lib.hid (BK.grownW (BK.alloc HB1.out _) hg3 (fun e => by have := HO1.out.own_ge _ e; omega)); have HA3 := Lib.hid (BK.grownW (BK.alloc HA1.out _) hg3 (fun e => by have := HO1.out.own_ge _ e; omega)); have hb3 : Below w.heap.size w w3 := below_of_grown (by (repeat (first | with_reducible exact Below.refl _ _ | with_reducible assumption | with_reducible refine below_drewN ?_ _ | with_reducible refine Below.drew ?_ | with_reducible refine Below.alloc ?_ (by first | omega | (simp; omega) | (simp; done) | (simp at *; omega)) _ | with_reducible refine Below.setCell ?_ (by first | omega | (simp; omega) | (simp; done) | (simp at *; omega)) _ | refine Below.trans ?_ (Below.mono (by with_reducible assumption) (by first | omega | (simp; omega) | (simp; done) | (simp at *; omega)))))) hg3 (by simp; omega) (fun k hk => by have := HO1.out.own_ge k hk; omega); have hz3 := hb3.size; clear ho3 hg3)
              | (refine wpList_storeBK3 (storeWS _ _ _ _ _) rfl rfl rfl HB3.out (by simp) ?_; intro W5 hB5 hO5 hL5 hZ5 hG5))
            refine ⟨⟨m + 1, _, by omega, by go_num, Lib.hid hB5, Lib.hid (hO5 _ _ HA3.out (by omega)), ?_, hL5 _ _ hb3 (by omega)⟩, by simp [intOf]; omega⟩
            have hk3 := OW.kept HO3.out hG5 (by first | exact .inl rfl | (cases hob : Value.ownBlock _ with | none => exact .inl rfl | some g => exact .inr (fun e => by have := HO3.out.own_ge g hob; injection e with e; omega)))
            rw [HCO.out, List.length_append, List.length_singleton] at hk3
            show Hid (OW _ _ _ _ (wList szI geI window cs ds (n * ds.length + m + 1)))
            rw [HWL.out]
            exact Lib.hid hk3
          · obtain ⟨so, sc, hs, -⟩ := HO1.out.sb.sl.slice
            subst hs
            have hgt : ¬ ((n : Int) + (m : Int) ≤ 0) := by omega
            go_wp2_with fail
            refine (i_wbefore so sc _ ds.length n m w1 HO1.out.sb (by omega) hlt2 hd2 (by rw [HLL.out]; exact Nat.le_refl _)).mono ?_; rintro z w2 ⟨rfl, hb2⟩
            have HB2 := Lib.hid (HB1.out.keep hb2)
            have HA2 := Lib.hid (HA1.out.keep hb2)
            have HO2 := Lib.hid (HO1.out.keep hb2)
            have hbw2 : Below w.heap.size w w2 := (by (repeat (first | with_reducible exact Below.refl _ _ | with_reducible assumption | with_reducible refine below_drewN ?_ _ | with_reducible refine Below.drew ?_ | with_reducible refine Below.alloc ?_ (by first | omega | (simp; omega) | (simp; done) | (simp at *; omega)) _ | with_reducible refine Below.setCell ?_ (by first | omega | (simp; omega) | (simp; done) | (simp at *; omega)) _ | refine Below.trans ?_ (Below.mono (by with_reducible assumption) (by first | omega | (simp; omega) | (simp; done) | (simp at *; omega))))))
            have hz2 := hbw2.size
            clear hca hfb hlb hb2 hb1 HB1 HA1 HO1 hz1
            have hca := HB2.out.cells
            have hfb := HB2.out.fro
            have hlb := HB2.out.lt
            have HCN := Lib.hid (fun h => wCost_none (ge := geI) (window := window) (C := wList szI geI window cs ds (n * ds.length + m)) (wide := ds.length) (d := q) h0 h)
            have HCF := Lib.hid (fun b h => wCost_far (ge := geI) (window := window) (C := wList szI geI window cs ds (n * ds.length + m)) (wide := ds.length) (d := q) (b := b) h0 h)
            have HCE := Lib.hid (fun b h => wCost_near (ge := geI) (window := window) (C := wList szI geI window cs ds (n * ds.length + m)) (wide := ds.length) (d := q) (b := b) h0 h)
            have HPL := Lib.hid (fun b (h : wThree geI (wList szI geI window cs ds (n * ds.length + m)) ds.length n m 3 = some b) => wThree_place neg1_ge.1 h)
            have HSO := Lib.hid (fun b (h : wThree geI (wList szI geI window cs ds (n * ds.length + m)) ds.length n m 3 = some b) => (wThree_some h).2.1)
            generalize wThree geI (wList szI geI window cs ds (n * ds.length + m)) ds.length n m 3 = o at *
            cases o with
            | none =>
              have HCO := Lib.hid (show cn .f32 3212836864 = wCost geI window (wList szI geI window cs ds (n * ds.length + m)) ds.length n m q by rw [HCN.out rfl]; decide +kernel)
              go_wp2_with (first
                | (at_builtin; refine wpList_app1 f32sW (w.heap.size + 2) _ _ rfl (OW.alloc HO2.out _) _ _ rfl (by simp; rfl) (by first | exact HQL.out | decide | assumption) (by rw [HLL.out]; omega) (by simp; omega) ?_; intro s3 w3 ho3 hg3; obtain ⟨so3, sc3, hs3, -⟩ := ho3.sb.sl.slice; subst hs3; have HO3 := Lib.hid ho3; have HB3 := Lib.hid (BK.grownW (BK.alloc HB2.out _) hg3 (fun e => by have := HO2.out.own_ge _ e; omega)); have HA3 := Lib.hid (BK.grownW (BK.alloc HA2.out _) hg3 (fun e => by have := HO2.out.own_ge _ e; omega)); have hb3 : Below w.heap.size w w3 := below_of_grown (by (repeat (first | with_reducible exact Below.refl _ _ | with_reducible assumption | with_reducible refine below_drewN ?_ _ | with_reducible refine Below.drew ?_ | with_reducible refine Below.alloc ?_ (by first | omega | (simp; omega) | (simp; done) | (simp at *; omega)) _ | with_reducible refine Below.setCell ?_ (by first | omega | (simp; omega) | (simp; done) | (simp at *; omega)) _ | refine Below.trans ?_ (Below.mono (by with_reducible assumption) (by first | omega | (simp; omega) | (simp; done) | (simp at *; omega)))))) hg3 (by simp; omega) (fun k hk => by have := HO2.out.own_ge k hk; omega); have hz3 := hb3.size; clear ho3 hg3)
                | (refine wpList_storeBK3 (storeWS _ _ _ _ _) rfl rfl rfl HB3.out (by simp) ?_; intro W5 hB5 hO5 hL5 hZ5 hG5))
              refine ⟨⟨m + 1, _, by omega, by go_num, Lib.hid hB5, Lib.hid (hO5 _ _ HA3.out (by omega)), ?_, hL5 _ _ hb3 (by omega)⟩, by simp [intOf]; omega⟩
              have hk3 := OW.kept HO3.out hG5 (by first | exact .inl rfl | (cases hob : Value.ownBlock _ with | none => exact .inl rfl | some g => exact .inr (fun e => by have := HO3.out.own_ge g hob; injection e with e; omega)))
              rw [HCO.out, List.length_append, List.length_singleton] at hk3
              show Hid (OW _ _ _ _ (wList szI geI window cs ds (n * ds.length + m + 1)))
              rw [HWL.out]
              exact Lib.hid hk3
            | some b =>
              obtain ⟨hp0, hp1, hp2, hp3, hp4⟩ := HPL.out b rfl
              have HSV := Lib.hid (HSO.out b rfl)
              have EB1 : wbI (n : Int) (some b) = candI b.1 n := rfl
              have EB2 : wbK (m : Int) (some b) = candK b.1 m := rfl
              rw [EB1, EB2]
              generalize candI b.1 (n : Int) = bi at *
              generalize candK b.1 (m : Int) = bk at *
              clear HPL HSO EB1 EB2
              have hs1 : IntKind.i64.wrap ((n : Int) - (m : Int)) = (n : Int) - (m : Int) := by rw [IntKind.wrap_i64]; omega
              have hs2 : IntKind.i64.wrap ((m : Int) - (n : Int)) = (m : Int) - (n : Int) := by rw [IntKind.wrap_i64]; omega
              by_cases hfar : window < farI n m
              · have HCO := Lib.hid (show cn .f32 3212836864 = wCost geI window (wList szI geI window cs ds (n * ds.length + m)) ds.length n m q by rw [HCF.out b rfl hfar]; decide +kernel)
                have hfx : window < (if (n : Int) - (m : Int) < (m : Int) - (n : Int) then (m : Int) - (n : Int) else (n : Int) - (m : Int)) := by
                  unfold farI at hfar
                  split <;> split at hfar <;> omega
                clear hfar
                go_wp2_with (first
                  | (at_builtin; refine wpList_app1 f32sW (w.heap.size + 2) _ _ rfl (OW.alloc HO2.out _) _ _ rfl (by simp; rfl) (by first | exact HQL.out | decide | assumption) (by rw [HLL.out]; omega) (by simp; omega) ?_; intro s3 w3 ho3 hg3; obtain ⟨so3, sc3, hs3, -⟩ := ho3.sb.sl.slice; subst hs3; have HO3 := Lib.hid ho3; have HB3 := Lib.hid (BK.grownW (BK.alloc HB2.out _) hg3 (fun e => by have := HO2.out.own_ge _ e; omega)); have HA3 := Lib.hid (BK.grownW (BK.alloc HA2.out _) hg3 (fun e => by have := HO2.out.own_ge _ e; omega)); have hb3 : Below w.heap.size w w3 := below_of_grown (by (repeat (first | with_reducible exact Below.refl _ _ | with_reducible assumption | with_reducible refine below_drewN ?_ _ | with_reducible refine Below.drew ?_ | with_reducible refine Below.alloc ?_ (by first | omega | (simp; omega) | (simp; done) | (simp at *; omega)) _ | with_reducible refine Below.setCell ?_ (by first | omega | (simp; omega) | (simp; done) | (simp at *; omega)) _ | refine Below.trans ?_ (Below.mono (by with_reducible assumption) (by first | omega | (simp; omega) | (simp; done) | (simp at *; omega)))))) hg3 (by simp; omega) (fun k hk => by have := HO2.out.own_ge k hk; omega); have hz3 := hb3.size; clear ho3 hg3)
                  | (refine wpList_storeBK3 (storeWS _ _ _ _ _) rfl rfl rfl HB3.out (by simp) ?_; intro W5 hB5 hO5 hL5 hZ5 hG5))
                refine ⟨⟨m + 1, _, by omega, by go_num, Lib.hid hB5, Lib.hid (hO5 _ _ HA3.out (by omega)), ?_, hL5 _ _ hb3 (by omega)⟩, by simp [intOf]; omega⟩
                have hk3 := OW.kept HO3.out hG5 (by first | exact .inl rfl | (cases hob : Value.ownBlock _ with | none => exact .inl rfl | some g => exact .inr (fun e => by have := HO3.out.own_ge g hob; injection e with e; omega)))
                rw [HCO.out, List.length_append, List.length_singleton] at hk3
                show Hid (OW _ _ _ _ (wList szI geI window cs ds (n * ds.length + m + 1)))
                rw [HWL.out]
                exact Lib.hid hk3
              · have HCO := Lib.hid (HCE.out b rfl hfar)
                have hfy : (n : Int) - (m : Int) ≤ window ∧ (m : Int) - (n : Int) ≤ window := by unfold farI at hfar; split at hfar <;> omega
                obtain ⟨hfy1, hfy2⟩ := hfy
                clear hfar
                rcases Int.lt_or_le ((n : Int) - (m : Int)) ((m : Int) - (n : Int)) with hcmp | hcmp
                all_goals
                  go_wp2_with fail
                  refine (i_wat so sc _ ds.length bi bk w2 HO2.out.sb (by omega) (by omega) (by omega) (by omega) (by omega) (fun h4 h5 => by rw [HLL.out]; exact before_lt hlt2 bi bk hp2 hp3 (by omega) h4 h5)).mono ?_; rintro z w4 ⟨⟨rb, rfl, hrb, hrc⟩, hb4⟩
                  have HB4 := Lib.hid (HB2.out.keep hb4)
                  have HA4 := Lib.hid (HA2.out.keep hb4)
                  have HO4 := Lib.hid (HO2.out.keep hb4)
                  have hbw4 : Below w.heap.size w w4 := (by (repeat (first | with_reducible exact Below.refl _ _ | with_reducible assumption | with_reducible refine below_drewN ?_ _ | with_reducible refine Below.drew ?_ | with_reducible refine Below.alloc ?_ (by first | omega | (simp; omega) | (simp; done) | (simp at *; omega)) _ | with_reducible refine Below.setCell ?_ (by first | omega | (simp; omega) | (simp; done) | (simp at *; omega)) _ | refine Below.trans ?_ (Below.mono (by with_reducible assumption) (by first | omega | (simp; omega) | (simp; done) | (simp at *; omega))))))
                  have hz4 := hbw4.size
                  have HRC := Lib.hid hrc
                  clear hca hfb hlb hb4 hbw2 HB2 HA2 HO2 hz2 hrc
                  have hca := HB4.out.cells
                  have hfb := HB4.out.fro
                  have hlb := HB4.out.lt
                  go_wp2_with (first
                    | (refine wpList_ar .f32 _ _ rfl rfl rfl ?_; intro rs ns hrs hrsl; have HRS := Lib.hid (show cn .f32 rs = wCost geI window (wList szI geI window cs ds (n * ds.length + m)) ds.length n m q by rw [hrs, HRC.out, HQC.out, HCO.out, HSV.out]; rfl); clear hrs)
                    | (at_builtin; refine wpList_app1 f32sW (w.heap.size + 2) _ _ rfl (by first | exact OW.alloc HO4.out _ | exact OW.alloc (OW.drewN HO4.out _) _) _ _ rfl (by simp; rfl) (by first | exact HQL.out | exact hrsl | decide | assumption) (by rw [HLL.out]; omega) (by simp; omega) ?_; intro s3 w3 ho3 hg3; obtain ⟨so3, sc3, hs3, -⟩ := ho3.sb.sl.slice; subst hs3; have HO3 := Lib.hid ho3; have HB3 := Lib.hid (BK.grownW (by first | exact BK.alloc HB4.out _ | exact BK.alloc (BK.drewN HB4.out _) _) hg3 (fun e => by have := HO4.out.own_ge _ e; omega)); have HA3 := Lib.hid (BK.grownW (by first | exact BK.alloc HA4.out _ | exact BK.alloc (BK.drewN HA4.out _) _) hg3 (fun e => by have := HO4.out.own_ge _ e; omega)); have hb3 : Below w.heap.size w w3 := below_of_grown (by (repeat (first | with_reducible exact Below.refl _ _ | with_reducible assumption | with_reducible refine below_drewN ?_ _ | with_reducible refine Below.drew ?_ | with_reducible refine Below.alloc ?_ (by first | omega | (simp; omega) | (simp; done) | (simp at *; omega)) _ | with_reducible refine Below.setCell ?_ (by first | omega | (simp; omega) | (simp; done) | (simp at *; omega)) _ | refine Below.trans ?_ (Below.mono (by with_reducible assumption) (by first | omega | (simp; omega) | (simp; done) | (simp at *; omega)))))) hg3 (by simp; omega) (fun k hk => by have := HO4.out.own_ge k hk; omega); have hz3 := hb3.size; clear ho3 hg3)
                    | (refine wpList_storeBK3 (storeWS _ _ _ _ _) rfl rfl rfl HB3.out (by simp) ?_; intro W5 hB5 hO5 hL5 hZ5 hG5))
                  refine ⟨⟨m + 1, _, by omega, by go_num, Lib.hid hB5, Lib.hid (hO5 _ _ HA3.out (by omega)), ?_, hL5 _ _ hb3 (by omega)⟩, by simp [intOf]; omega⟩
                  have hk3 := OW.kept HO3.out hG5 (by first | exact .inl rfl | (cases hob : Value.ownBlock _ with | none => exact .inl rfl | some g => exact .inr (fun e => by have := HO3.out.own_ge g hob; injection e with e; omega)))
                  rw [HRS.out, List.length_append, List.length_singleton] at hk3
                  show Hid (OW _ _ _ _ (wList szI geI window cs ds (n * ds.length + m + 1)))
                  rw [HWL.out]
                  exact Lib.hid hk3
        · obtain rfl : m = ds.length := by omega
          go_wp2_with fail
          refine ⟨⟨n + 1, s, by omega, by go_num, HB, HA, ?_, hb⟩, by simp [intOf]; omega⟩
          show Hid (OW _ _ _ _ _)
          rw [Nat.add_mul, Nat.one_mul]
          exact HO
    · obtain rfl : n = cs.length := by omega
      obtain ⟨so, sc, hs, -⟩ := HO.out.sb.sl.slice
      subst hs
      have hca := HB.out.cells
      have hla := HA.out.lt
      have hlb := HB.out.lt
      have HS3 := Lib.hid HO.out
      go_wp2_with (first | (refine wpList_storeAgg (us := [.slice so (wList szI geI window cs ds (cs.length * ds.length)).length sc, .int .i64 ds.length]) (storeWA _ _ _ _ _ _) rfl rfl (by simp [Value.oneCell']) HA.out (by simp) ?_; intro W5 hB5 hO5 hL5 hZ5 hG5; simp [setsAt] at hB5; have hce := hB5.cells))
      (try simp only [Exit.inBlock, Exit.then])
      refine bodyPost_ret (by simp [results, Try.results148, go_sem, hce]; try rfl) rfl ⟨⟨_, rfl, ?_⟩, hL5 _ _ hb (by omega)⟩
      exact (OW.kept HO.out hG5 (by cases so with | none => exact .inl rfl | some g => exact .inr (fun e => by have := HO.out.own_ge _ rfl; injection e with e; omega))).down (by omega)

end Go.Proofs.Ytkkomajokdlkeaa
