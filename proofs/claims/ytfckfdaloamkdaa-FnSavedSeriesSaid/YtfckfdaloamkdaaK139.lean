/- Contracts: lists of what is saved marked and held. -/
import Derived.Test.YtfckfdaloamkdaaK138
import Derived.Test.YtfckfdaloamkdaaMt
import Derived.Lib.QuietBelow
namespace Go.Proofs.Ytfckfdaloamkdaa
set_option linter.unusedSimpArgs false
set_option linter.unusedVariables false
set_option maxRecDepth 100000
set_option maxHeartbeats 4000000
open Go.RowKit
attribute [local go_sem] run_store_float run_store_complex alloc_drewN setCell_drewN
/-- The marks of a list, and the number behind. -/
def mkS : List Sd → Int → List Sd
  | [], _ => []
  | x :: r, k => (markT k, k + 1, markL (k + 2) x.2.2.length) :: mkS r (k + 2 + x.2.2.length)
def mkE : List Sd → Int → Int
  | [], k => k
  | x :: r, k => mkE r (k + 2 + x.2.2.length)
theorem mkE_ge : ∀ (L : List Sd) (k : Int), k ≤ mkE L k
  | [], k => Int.le_refl _
  | x :: r, k => Int.le_trans (by omega) (mkE_ge r (k + 2 + x.2.2.length))
theorem mkS_length : ∀ (L : List Sd) (k : Int), (mkS L k).length = L.length
  | [], k => rfl
  | x :: r, k => by rw [mkS, List.length_cons, mkS_length r, List.length_cons]
theorem markT_size {k : Int} (h0 : 1 ≤ k) (h1 : k ≤ 2000000000000) : (markT k).size ≤ 9223372036854775807 := by
  rw [markT, tx_size, List.length_cons, Lib.decDigits_length]
  have := nDigits_le 18 k.natAbs (by show _ < 10000000000000000000; omega)
  omega

theorem l_markSavedS (lo hi : Nat) (v : Value) (L : List Sd) (k : Int) (w : World) (hv : RV 34 54 lo hi w v L) (h0 : 1 ≤ k) (h1 : mkE L k ≤ 1000000000000) (hn : L.length < 1000000) :
    Calls Try.prog 32 #[v, .int .i64 k] w fun e w' => e = .returned (.int .i64 (mkE L k)) ∧ RV 34 54 lo hi w' v (mkS L k) ∧ Wi lo hi w w' := by
  obtain ⟨ao, c, rfl, hc1, hc2⟩ := hv.slice
  have HV := Lib.hid hv
  have HS0 := Lib.hid (show mkS L k = ([] : List Sd) ++ mkS L k from rfl)
  have HN := Lib.hid (Nat.zero_add L.length)
  have HB1 := Lib.hid h1
  clear hv h1
  go_enter Try.func32, Try.ntmps32
  go_wp2_with fail
  go_loopw [1, 5] (fun q i wr => ∃ (A R : List Sd) (k' : Int), A.length + R.length = L.length ∧ i = .int .i64 (A.length : Int) ∧ q = .int .i64 k' ∧ 1 ≤ k' ∧ Hid (mkS L k = A ++ mkS R k') ∧ Hid (mkE L k = mkE R k') ∧ Hid (RV 34 54 lo hi wr (.slice ao L.length c) (A ++ R)) ∧ Wi lo hi w wr) (fun _ i _ => L.length - (intOf i).toNat)
  case atStart => exact ⟨[], L, k, HN.out, rfl, rfl, h0, HS0, Lib.hid rfl, HV, Wi.refl _ _ _⟩
  case round =>
    clear HS0 HV HN
    obtain ⟨A, R, k', hl, rfl, rfl, hk1, HS, HE, HV, hw⟩ := hrel
    cases R with
    | nil =>
      have hAL : A.length = L.length := by simpa using hl
      have hlt : ¬ ((A.length : Int) < (L.length : Int)) := by omega
      go_wp2_with fail
      go_ret
      refine ⟨ret_int HE.out.symm, ?_, hw⟩
      rw [HS.out]
      exact HV.out
    | cons x R =>
      have hl2 : A.length < L.length := by rw [← hl, List.length_cons]; omega
      have hlt : (A.length : Int) < (L.length : Int) := by omega
      have hE1 := HE.out
      rw [mkE] at hE1
      have hge := mkE_ge R (k' + 2 + x.2.2.length)
      have hB := HB1.out
      have hbd : k' + 2 + x.2.2.length ≤ 1000000000000 := by omega
      have HS2 := Lib.hid (show mkS L k = (A ++ [(markT k', k' + 1, markL (k' + 2) x.2.2.length)]) ++ mkS R (k' + 2 + x.2.2.length) by rw [HS.out, mkS, List.append_assoc]; rfl)
      have HE2 := Lib.hid hE1
      have HLL := Lib.hid (show (A ++ x :: R).length = L.length by rw [List.length_append]; exact hl)
      clear hE1 hge hB HS HE
      have hsz := hw.size
      have hka : IntKind.i64.wrap (k' + 1) = k' + 1 := by rw [IntKind.wrap_i64]; omega
      have hkb : IntKind.i64.wrap (k' + 2) = k' + 2 := by rw [IntKind.wrap_i64]; omega
      go_wp2_with fail
      refine (l_markText k' (by omega) (by omega) _).mono ?_; rintro e w1 ⟨rfl, hb⟩
      have HV1 := HV.out.keep hb
      have HW1 := Lib.hid (hw.trans (Wi.any hb))
      clear hw hb HV
      obtain ⟨g, cap, u, hvv, hg0, hg1, hgl, hfz, c0, -, -, -, -, fn, -, -⟩ := RV.turn (by decide) HV1
      have hao : ao = some ⟨g, 0, none⟩ := by injection hvv
      subst hao
      clear hvv
      have HV2 := fn (markT k') (markT_size (by omega) (by omega))
      obtain ⟨g2, cap2, u2, hvv, -, -, -, hfz2, -, c1, -, -, -, -, fd, -⟩ := RV.turn (by decide) HV2
      obtain rfl : g = g2 := by injection hvv with e1; injection e1 with e1; injection e1
      have HV3 := fd (k' + 1)
      obtain ⟨g3, cap3, u3, hvv3, -, -, -, hfz3, -, -, c2, hou, hub, -, -, fm⟩ := RV.turn (by decide) HV3
      obtain rfl : g = g3 := by injection hvv3 with e1; injection e1 with e1; injection e1
      have HFM := Lib.hid fm
      have HOU := Lib.hid hou
      have HUB := Lib.hid hub
      have HG1 := Lib.hid (show Wi lo hi w1 ((w1.setCell ⟨g, A.length * 3, none⟩ (.string (markT k'))).setCell ⟨g, A.length * 3 + 1, none⟩ (.int .i64 (k' + 1))) from
        (Wi.of_grown (grown_setCell w1 ⟨g, A.length * 3, none⟩ (.string (markT k'))) (by intro g' e; simp at e; omega)).trans (Wi.of_grown (grown_setCell _ ⟨g, A.length * 3 + 1, none⟩ (.int .i64 (k' + 1))) (by intro g' e; simp at e; omega)))
      clear fm hou hub fd fn HV1 HV2 HV3 hvv hvv3
      go_wp2_with fail
      rw [show k' + 1 + 1 = k' + 2 by omega]
      refine (l_markFloat32S lo u3 x.2.2 (k' + 2) _ HOU.out (by omega) (by omega) (by omega)).mono ?_; rintro e w2 ⟨rfl, ho, hgr⟩
      have HV4 := Lib.hid (HFM.out w2 _ ho hgr)
      have HW2 := Lib.hid ((HW1.out.trans HG1.out).trans (Wi.of_grown hgr (fun b hb => HUB.out b hb)))
      clear ho hgr hfz hfz2 hfz3 c0 c1 c2 HFM HOU HUB HG1 HW1
      go_wp2_with fail
      refine ⟨⟨A ++ [(markT k', k' + 1, markL (k' + 2) x.2.2.length)], R, k' + 2 + x.2.2.length, by rw [List.length_append, List.length_singleton]; rw [List.length_cons] at hl; omega, by rw [List.length_append, List.length_singleton]; go_num, rfl, by omega, HS2, HE2, ?_, HW2.out⟩, by simp [intOf]; omega⟩
      show Hid (RV _ _ _ _ _ _ _)
      rw [List.append_assoc]
      exact HV4

theorem l_heldSavedS (v : Value) (L : List Sd) (k : Int) (w : World) (hv : SVL w v (mkS L k)) (h0 : 1 ≤ k) (h1 : mkE L k ≤ 1000000000000) (hn : L.length < 1000000) :
    Calls Try.prog 33 #[v, .int .i64 k] w fun e w' => e = .returned (.int .i64 (mkE L k)) ∧ Below w.heap.size w w' := by
  obtain ⟨ao, c, rfl, hc1, hc2⟩ := hv.slice
  have hsl := mkS_length L k
  have HC := Lib.hid (hv.get rfl)
  rw [hsl] at hc1 HC ⊢
  have HS0 := Lib.hid (show mkS L k = mkS ([] : List Sd) k ++ mkS L k from rfl)
  have HN := Lib.hid (Nat.zero_add L.length)
  have HB1 := Lib.hid h1
  clear hv h1
  go_enter Try.func33, Try.ntmps33
  go_wp2_with fail
  go_loopw [1, 5] (fun q i wr => ∃ (A : List Sd) (R : List Sd) (k' : Int), A.length + R.length = L.length ∧ i = .int .i64 (A.length : Int) ∧ q = .int .i64 k' ∧ 1 ≤ k' ∧ Hid (mkS L k = A ++ mkS R k') ∧ Hid (mkE L k = mkE R k') ∧ Below w.heap.size w wr) (fun _ i _ => L.length - (intOf i).toNat)
  case atStart => exact ⟨[], L, k, HN.out, rfl, rfl, h0, HS0, Lib.hid rfl, Below.refl _ _⟩
  case round =>
    clear HS0 HN
    obtain ⟨A, R, k', hl, rfl, rfl, hk1, HS, HE, hbw⟩ := hrel
    cases R with
    | nil =>
      have hAL : A.length = L.length := by simpa using hl
      have hlt : ¬ ((A.length : Int) < (L.length : Int)) := by omega
      go_wp2_with fail
      go_ret
      exact ⟨ret_int HE.out.symm, hbw⟩
    | cons x R =>
      have hl2 : A.length < L.length := by rw [← hl, List.length_cons]; omega
      have hlt : (A.length : Int) < (L.length : Int) := by omega
      have hE1 := HE.out
      rw [mkE] at hE1
      have hge := mkE_ge R (k' + 2 + x.2.2.length)
      have hB := HB1.out
      have hbd : k' + 2 + x.2.2.length ≤ 1000000000000 := by omega
      have HS2 := Lib.hid (show mkS L k = (A ++ [(markT k', k' + 1, markL (k' + 2) x.2.2.length)]) ++ mkS R (k' + 2 + x.2.2.length) by rw [HS.out, mkS, List.append_assoc]; rfl)
      have HE2 := Lib.hid hE1
      have hgd : (mkS L k).getD A.length d0 = (markT k', k' + 1, markL (k' + 2) x.2.2.length) := by rw [HS.out, mkS, List.getD_eq_getElem?_getD, List.getElem?_append_right (Nat.le_refl _), Nat.sub_self]; rfl
      obtain ⟨b, off, u, rfl, hbl, g0, g1, g2, g3, g4⟩ := HC.out A.length (by omega)
      rw [hgd] at g0 g1 g3
      have q0 := (hbw.cell (p := ⟨b, off + A.length * 3, none⟩) hbl).trans g0
      have HQ1 := Lib.hid (fun w' (h : Below w.heap.size w w') => (h.cell (p := ⟨b, off + A.length * 3 + 1, none⟩) hbl).trans g1)
      have HQ2 := Lib.hid (fun w' (h : Below w.heap.size w w') => (h.cell (p := ⟨b, off + A.length * 3 + 2, none⟩) hbl).trans g2)
      have G3 := Lib.hid (fun w' (h : Below w.heap.size w w') => g3.sl.keep h)
      clear hE1 hge hB HS HE hgd g0 g1 g2 g3 g4
      have hsz := hbw.size
      have hka : IntKind.i64.wrap (k' + 1) = k' + 1 := by rw [IntKind.wrap_i64]; omega
      have hkb : IntKind.i64.wrap (k' + 2) = k' + 2 := by rw [IntKind.wrap_i64]; omega
      have cD := fun d os => Calls.regrown_of (d := d) (os := os) (w := wr) (l_markText k' (by omega) (by omega) _)
      have hcr := fun d os => cell_regrown q0 d os
      go_wp2_with fail
      refine wp_region_quiet_below (by kernel_rfl) (by kernel_rfl) ?_
      repeat (quiet_step (first | exact cD _ _))
      refine wpQuiet_nil ?_
      intro w3 hw'
      obtain ⟨⟨dd, osq⟩, hw''⟩ := hw'
      have hbz := below_regrown wr dd osq
      rw [← hw''] at hbz
      clear hw''
      have hb3 := hbw.trans (hbz.mono hsz)
      have q1 := HQ1.out _ hb3
      have q2 := HQ2.out _ hb3
      have G4 := Lib.hid (G3.out _ hb3)
      clear cD hcr hbz hbw
      go_wp2_with fail
      rw [show k' + 1 + 1 = k' + 2 by omega]
      refine (l_heldFloat32S u (k' + 2) x.2.2.length _ G4.out (by omega) (by omega) (by omega)).mono ?_; rintro e w4 ⟨rfl, hd⟩
      have hb4 := hb3.trans ((hd.below w3.heap.size).mono hb3.size)
      have hge2 : ¬ (k' + 2 + (x.2.2.length : Int)) < 0 := by omega
      clear hd q0 q1 q2 HQ1 HQ2 G3 G4
      go_wp2_with fail
      exact ⟨⟨A ++ [(markT k', k' + 1, markL (k' + 2) x.2.2.length)], R, k' + 2 + x.2.2.length, by rw [List.length_append, List.length_singleton]; rw [List.length_cons] at hl; omega, by rw [List.length_append, List.length_singleton]; go_num, rfl, by omega, HS2, HE2, hb4⟩, by simp [intOf]; omega⟩

end Go.Proofs.Ytfckfdaloamkdaa
